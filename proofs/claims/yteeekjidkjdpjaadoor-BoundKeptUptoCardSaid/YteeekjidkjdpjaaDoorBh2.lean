/-
  Own texts laid together, part 2: MuCallsP, MuBulk, MuRows, MuOwnT, MuReads, MuMisc, MuReads2, MuShape, MuSame, MuFlowP, MuGoes, MuNext, MuOk, MuBuild, MuDraw, MuRowFn, MuDrawT, MuDrawF, MuRes, MuRange, MuFnM, MuYield, MuRangeY.
  Conditions: as each part says.
-/
import Derived.Test.YteeekjidkjdpjaaDoorBh1
import Derived.Lib.SlicesCompact
import Derived.Deep.Draws
import Derived.Deep.AppendLies
import Derived.BigQuiet
import Derived.BigRegion
import Derived.Deep.RegionHeld3
import Derived.Deep.RegionLaw
import Derived.Laws.AppendOwnNone
import Derived.Maps.OwnSet
import Derived.WalkSpells
import Derived.RangeFuncNested
import Derived.RangeFuncBound
import Derived.RangeFuncCalls
import Derived.RangeFuncLeaves
import Derived.Shelf.Abstract
import Derived.Shelf.RegionOpen
import Derived.WalkKit
import Derived.OwnWalkIn
import Derived.TacticsInMore
import Derived.LoopNIn
import Derived.LoopIn
import Derived.RangeFuncBox
import Derived.RangeFuncWrites
import Derived.RangeFuncRecord
section
/-
  Plain laws on what a function calls: the sorted and compacted row of its calls is the filtered row of all functions.
  Conditions: none.
-/
namespace Mu
open Go

def isCall (n : Nat) (x : Ins) : Bool := x.op == 5 && (decide (0 ≤ x.f) && decide (x.f < n))
def rawIns (n : Nat) (l : List Ins) : List Int := (l.filter (isCall n)).map (·.f)
def raw (n : Nat) (bs : List Block) : List Int := bs.flatMap fun b => rawIns n b.ins

theorem rawIns_step {n j : Nat} {l : List Ins} {x : Ins} (h : l[j]? = some x) : rawIns n (l.take (j + 1)) = rawIns n (l.take j) ++ if isCall n x then [x.f] else [] := by
  unfold rawIns
  rw [List.take_add_one, h, Option.toList_some, List.filter_append, List.map_append]
  by_cases hc : isCall n x <;> simp [hc]
theorem raw_step {n k : Nat} {bs : List Block} {b : Block} (h : bs[k]? = some b) : raw n (bs.take (k + 1)) = raw n (bs.take k) ++ rawIns n b.ins := by
  unfold raw
  rw [List.take_add_one, h, Option.toList_some, List.flatMap_append]
  simp
theorem raw_take_le {n k : Nat} {bs : List Block} : (raw n (bs.take k)).length ≤ (raw n bs).length := by
  unfold raw
  conv => rhs; rw [← List.take_append_drop k bs, List.flatMap_append, List.length_append]
  omega
theorem rawIns_take_le {n k : Nat} {l : List Ins} : (rawIns n (l.take k)).length ≤ (rawIns n l).length := by
  unfold rawIns
  conv => rhs; rw [← List.take_append_drop k l, List.filter_append, List.map_append, List.length_append]
  omega

/-! ### the canonical answers -/
def hasIns (k : Nat) (l : List Ins) : Bool := l.any fun x => x.op == 5 && x.f == k
def hasCall (bs : List Block) (k : Nat) : Bool := bs.any fun b => hasIns k b.ins
def succ (p : Prog) (f : Nat) : List Nat :=
  match p.funcs[f]? with
  | none => []
  | some fn => (List.range p.funcs.length).filter (hasCall fn.blocks)
def ofN (l : List Nat) : List Int := l.map Int.ofNat
def callsC (p : Prog) (f : Int) : List Int := if 0 ≤ f ∧ f < p.funcs.length then ofN (succ p f.toNat) else []

theorem succ_lt (p : Prog) (k l : Nat) (h : l ∈ succ p k) : l < p.funcs.length := by
  unfold succ at h
  split at h
  · cases h
  · have := (List.mem_filter.1 h).1
    simpa using this
theorem succ_length (p : Prog) (k : Nat) : (succ p k).length ≤ p.funcs.length := by
  unfold succ
  split
  · simp
  · exact Nat.le_trans (List.length_filter_le _ _) (by simp)

theorem mem_raw {n : Nat} {bs : List Block} {z : Int} : z ∈ raw n bs ↔ 0 ≤ z ∧ z < n ∧ hasCall bs z.toNat = true := by
  simp only [raw, rawIns, List.mem_flatMap, List.mem_map, List.mem_filter, isCall, hasCall, hasIns, List.any_eq_true, Bool.and_eq_true, beq_iff_eq, decide_eq_true_eq]
  constructor
  · rintro ⟨b, hb, x, ⟨hx, h5, h0, hn⟩, rfl⟩
    exact ⟨h0, hn, b, hb, x, hx, h5, by omega⟩
  · rintro ⟨h0, hn, b, hb, x, hx, h5, hf⟩
    exact ⟨b, hb, x, ⟨hx, h5, by omega, by omega⟩, by omega⟩

/-! ### strictly rising rows are what they hold -/
theorem rising_ext : ∀ {l m : List Int}, l.Pairwise (· < ·) → m.Pairwise (· < ·) → (∀ z, z ∈ l ↔ z ∈ m) → l = m := by
  intro l
  induction l with
  | nil =>
    intro m _ _ h
    cases m with
    | nil => rfl
    | cons y m => exact absurd ((h y).2 (by simp)) (by simp)
  | cons x l ih =>
    intro m hl hm h
    cases m with
    | nil => exact absurd ((h x).1 (by simp)) (by simp)
    | cons y m =>
      rw [List.pairwise_cons] at hl hm
      have hxy : x = y := by
        have h1 := (h x).1 (by simp)
        have h2 := (h y).2 (by simp)
        rcases List.mem_cons.1 h1 with e | h1
        · exact e
        · rcases List.mem_cons.1 h2 with e | h2
          · exact e.symm
          · have := hl.1 y h2
            have := hm.1 x h1
            omega
      subst hxy
      congr 1
      apply ih hl.2 hm.2
      intro z
      constructor
      · intro hz
        rcases List.mem_cons.1 ((h z).1 (by simp [hz])) with e | h1
        · subst e; have := hl.1 _ hz; omega
        · exact h1
      · intro hz
        rcases List.mem_cons.1 ((h z).2 (by simp [hz])) with e | h1
        · subst e; have := hm.1 _ hz; omega
        · exact h1

theorem rising_ofN {n : Nat} (P : Nat → Bool) : (ofN ((List.range n).filter P)).Pairwise (· < ·) := by
  unfold ofN
  rw [List.pairwise_map]
  refine (List.Pairwise.filter _ List.pairwise_lt_range).imp ?_
  intro a b h
  exact Int.ofNat_lt.2 h

/-- compact, of a sorted row: strictly rising, of the same members -/
theorem compact_sorted {zs : List Int} (h : zs.Pairwise (· ≤ ·)) : (Lib.compact zs).Pairwise (· < ·) ∧ ∀ z, z ∈ Lib.compact zs ↔ z ∈ zs := by
  have hget : ∀ j, j < zs.length → zs.toArray[j]! = zs.getD j 0 := fun j hj => by simp [getElem!_pos, hj]
  have hle : ∀ i j, i ≤ j → j < zs.length → zs.getD i 0 ≤ zs.getD j 0 := fun i j hij hj => by
    rcases Nat.eq_or_lt_of_le hij with e | hlt
    · subst e; exact Int.le_refl _
    · have := List.pairwise_iff_getElem.1 h i j (by omega) hj hlt
      simpa [List.getD, show i < zs.length by omega, hj] using this
  have hkeep : ∀ j, j < zs.length → (Lib.keeps zs.toArray j = true ↔ j = 0 ∨ zs.getD (j - 1) 0 < zs.getD j 0) := by
    intro j hj
    unfold Lib.keeps
    rw [hget j hj, hget (j - 1) (by omega)]
    by_cases hz : j = 0
    · simp [hz]
    · have := hle (j - 1) j (by omega) hj
      simp only [hz, false_or, ne_eq, decide_eq_true_eq]
      omega
  constructor
  · unfold Lib.compact Lib.compactUpTo
    rw [List.pairwise_map]
    refine List.Pairwise.imp_of_mem ?_ (List.Pairwise.filter _ List.pairwise_lt_range)
    intro a b ha hb hab
    obtain ⟨ha1, _⟩ := List.mem_filter.1 ha
    obtain ⟨hb1, hb2⟩ := List.mem_filter.1 hb
    simp only [List.mem_range] at ha1 hb1
    rw [hget a ha1, hget b hb1]
    rcases (hkeep b hb1).1 hb2 with e | e
    · omega
    · have := hle a (b - 1) (by omega) (by omega)
      omega
  · intro z
    unfold Lib.compact Lib.compactUpTo
    rw [List.mem_map]
    constructor
    · rintro ⟨j, hj, rfl⟩
      obtain ⟨hj1, _⟩ := List.mem_filter.1 hj
      simp only [List.mem_range] at hj1
      rw [hget j hj1]
      simp [List.getD, hj1]
    · intro hz
      have key : ∀ j, j < zs.length → ∃ i, i ≤ j ∧ Lib.keeps zs.toArray i = true ∧ zs.getD i 0 = zs.getD j 0 := by
        intro j
        induction j with
        | zero => intro hj; exact ⟨0, Nat.le_refl _, (hkeep 0 hj).2 (.inl rfl), rfl⟩
        | succ j ih =>
          intro hj
          by_cases hlt : zs.getD j 0 < zs.getD (j + 1) 0
          · exact ⟨j + 1, Nat.le_refl _, (hkeep _ hj).2 (.inr (by simpa using hlt)), rfl⟩
          · obtain ⟨i, h1, h2, h3⟩ := ih (by omega)
            have := hle j (j + 1) (by omega) hj
            exact ⟨i, by omega, h2, by omega⟩
      obtain ⟨j, hj, rfl⟩ := List.getElem_of_mem hz
      obtain ⟨i, h1, h2, h3⟩ := key j hj
      refine ⟨i, List.mem_filter.2 ⟨by simp; omega, h2⟩, ?_⟩
      rw [hget i (by omega), h3]
      simp [List.getD, hj]

theorem sorted_mergeSort (zs : List Int) : (zs.mergeSort fun x y => decide (x ≤ y)).Pairwise (· ≤ ·) := by
  have := List.pairwise_mergeSort (le := fun x y : Int => decide (x ≤ y)) (fun a b c h1 h2 => by simp at *; omega) (fun a b => by simp; omega) zs
  exact this.imp (by simp)

theorem calls_eq {p : Prog} {f : Nat} {fn : Func} (h : p.funcs[f]? = some fn) : Lib.compact ((raw p.funcs.length fn.blocks).mergeSort fun x y => decide (x ≤ y)) = ofN (succ p f) := by
  obtain ⟨h1, h2⟩ := compact_sorted (sorted_mergeSort (raw p.funcs.length fn.blocks))
  unfold succ
  rw [h]
  refine rising_ext h1 (rising_ofN _) fun z => ?_
  rw [h2, List.mem_mergeSort, mem_raw]
  simp only [ofN, List.mem_map, List.mem_filter, List.mem_range]
  constructor
  · rintro ⟨h0, hn, hc⟩
    exact ⟨z.toNat, ⟨by omega, hc⟩, by simp; omega⟩
  · rintro ⟨k, ⟨hk, hc⟩, rfl⟩
    exact ⟨by simp, by simpa using hk, by simpa using hc⟩
end Mu
end
section
/-
  How much there may be of each part, by the whole's bulk; and what a world keeps of what was boxed.
  Conditions: none.
-/
namespace Mu
open Go Go.RowKit

theorem one_int (x : Int) : 1 ≤ tInt.bulk x := Nat.le_refl _
theorem one_ins (x : Ins) : 1 ≤ tIns.bulk x := by simp only [tIns, Ty.via]; omega
theorem one_block (x : Block) : 1 ≤ tBlock.bulk x := by simp only [tBlock, Ty.via]; omega
theorem one_func (x : Func) : 1 ≤ tFunc.bulk x := by simp only [tFunc, Ty.via]; omega

theorem bulk_prog (p : Prog) : tProg.bulk p = bulkL tInt.bulk p.threads + bulkL tFunc.bulk p.funcs + 4 := by
  simp only [tProg, Ty.via, Ty.cons, Ty.slice, tInt, Ty.int, Ty.none_]; omega
theorem bulk_func (p : Func) : tFunc.bulk p = p.name.size + bulkL tBlock.bulk p.blocks + 5 := by
  simp only [tFunc, Ty.via, Ty.cons, Ty.slice, tInt, Ty.int, Ty.none_, Ty.str]; omega
theorem bulk_block (p : Block) : tBlock.bulk p = p.name.size + bulkL tIns.bulk p.ins + 3 := by
  simp only [tBlock, Ty.via, Ty.cons, Ty.slice, Ty.none_, Ty.str]; omega
theorem bulk_ins (p : Ins) : tIns.bulk p = bulkL tInt.bulk p.args + 10 := by
  simp only [tIns, Ty.via, Ty.cons, Ty.slice, tInt, Ty.int, Ty.none_]; omega

theorem prog_funcs_le (p : Prog) : p.funcs.length ≤ tProg.bulk p := by
  have := bulkL_length one_func p.funcs
  rw [bulk_prog]; omega
theorem prog_threads_le (p : Prog) : p.threads.length ≤ tProg.bulk p := by
  have := bulkL_length one_int p.threads
  rw [bulk_prog]; omega
theorem prog_func_le {p : Prog} {fn : Func} (h : fn ∈ p.funcs) : tFunc.bulk fn ≤ tProg.bulk p := by
  have := bulkL_mem (f := tFunc.bulk) h
  rw [bulk_prog]; omega
theorem func_blocks_le (p : Func) : p.blocks.length ≤ tFunc.bulk p := by
  have := bulkL_length one_block p.blocks
  rw [bulk_func]; omega
theorem func_block_le {p : Func} {b : Block} (h : b ∈ p.blocks) : tBlock.bulk b ≤ tFunc.bulk p := by
  have := bulkL_mem (f := tBlock.bulk) h
  rw [bulk_func]; omega
theorem block_ins_le (p : Block) : p.ins.length ≤ tBlock.bulk p := by
  have := bulkL_length one_ins p.ins
  rw [bulk_block]; omega
theorem block_in_le {p : Block} {x : Ins} (h : x ∈ p.ins) : tIns.bulk x ≤ tBlock.bulk p := by
  have := bulkL_mem (f := tIns.bulk) h
  rw [bulk_block]; omega
theorem ins_args_le (p : Ins) : p.args.length ≤ tIns.bulk p := by
  have := bulkL_length one_int p.args
  rw [bulk_ins]; omega
theorem rawIns_le (n : Nat) (l : List Ins) : (rawIns n l).length ≤ l.length := by
  unfold rawIns
  rw [List.length_map]
  exact List.length_filter_le _ _
theorem raw_le_bulk (n : Nat) (bs : List Block) : (raw n bs).length ≤ bulkL tBlock.bulk bs := by
  induction bs with
  | nil => simp [raw, bulkL]
  | cons b bs ih =>
    have h1 := rawIns_le n b.ins
    have h2 := block_ins_le b
    simp only [raw, List.flatMap_cons, List.length_append, bulkL] at ih ⊢
    omega
theorem raw_le (n : Nat) (p : Func) : (raw n p.blocks).length ≤ tFunc.bulk p := by
  have := raw_le_bulk n p.blocks
  rw [bulk_func]; omega

theorem bdrew {B : Nat} {a w : World} (h : Below B a w) (n : Nat) : Below B a (w.drewN n) := ⟨h.os, h.tape, h.output, h.size, h.block⟩
theorem ret_bool {a b : Bool} (h : a = b) : Ending.returned (.bool a) = .returned (.bool b) := by rw [h]
theorem ret_int {k : IntKind} {a b : Int} (h : a = b) : Ending.returned (.int k a) = .returned (.int k b) := by rw [h]

/-- what stays readable behind a box -/
theorem boxed {w wr : World} {cs : List Value} {T : TypeId} (h : Below (w.heap.size + 1) (w.alloc (.cells cs.toArray T)) wr) :
    (∀ a : Addr, a.block < w.heap.size → wr.cell? a = w.cell? a) ∧ (∀ j v, cs[j]? = some v → wr.cell? ⟨w.heap.size, j, none⟩ = some v) ∧ w.heap.size < wr.heap.size ∧ Below w.heap.size w wr := by
  have h0 : Below w.heap.size w (w.alloc (.cells cs.toArray T)) := (Below.refl _ _).alloc (Nat.le_refl _) _
  have hb : Below w.heap.size w wr := h0.trans (h.mono (by omega))
  refine ⟨fun a ha => hb.cell ha, fun j v hv => ?_, ?_, hb⟩
  · rw [h.cell (p := ⟨w.heap.size, j, none⟩) (by show w.heap.size < _; omega)]
    have e := cell_of_row _ _ j _ _ _ (heap_alloc_new w (.cells cs.toArray T))
    rw [e]
    simpa using hv
  · have h1 : (w.alloc (.cells cs.toArray T)).heap.size = w.heap.size + 1 := by simp
    have := h.size
    omega
end Mu
end
section
/-
  Rows of rows of numbers, of the call's own.
  Conditions: none.
-/
namespace Mu
open Go Go.RowKit Go.Proofs

/-- a row of rows of ints, the call's own from 'base' on; the inner rows lie beside the outer one -/
def OwnS (w : World) (base : Nat) (v : Value) (ls : List (List Int)) : Prop :=
  ∃ cells, w.ownsRow base 27 1 v ls.length cells ∧ ∀ (i : Nat) (l : List Int), ls[i]? = some l → ∃ u, cells[i]? = some u ∧ tInt.slice.RS w (fun b => base ≤ b ∧ b < w.heap.size ∧ v.ownBlock ≠ some b) [u] l

theorem OwnS.nil (w : World) (base : Nat) : OwnS w base (.slice none 0 0) [] := ⟨[], World.ownsRow_nil _ _ _ _, by simp⟩

theorem ownsRow_keep {w w' : World} {base n size : Nat} {e : TypeId} {v : Value} {xs : List Value} (h : w.ownsRow base e size v n xs) (hk : ∀ g, v.ownBlock = some g → w'.heap[g]? = w.heap[g]?) : w'.ownsRow base e size v n xs := by
  obtain ⟨h1, h2⟩ := h
  refine ⟨h1, ?_⟩
  rcases h2 with h2 | ⟨g, cap, cur, rfl, hg, hh, r⟩
  · exact .inl h2
  · exact .inr ⟨g, cap, cur, rfl, hg, (hk g rfl).trans hh, r⟩

theorem OwnS.keep {w w' : World} {base : Nat} {v : Value} {ls : List (List Int)} (h : OwnS w base v ls) (hk : ∀ k, base ≤ k → k < w.heap.size → w'.heap[k]? = w.heap[k]?) (hs : w.heap.size ≤ w'.heap.size) : OwnS w' base v ls := by
  obtain ⟨cells, ho, hi⟩ := h
  refine ⟨cells, ownsRow_keep ho (fun g hg => hk g (ho.lt g hg).1 (ho.lt g hg).2), fun i l hl => ?_⟩
  obtain ⟨u, hu, hR⟩ := hi i l hl
  exact ⟨u, hu, Ty.keepS _ hR (fun k hk' => hk k hk'.1 hk'.2.1) (fun k hk' => ⟨hk'.1, by omega, hk'.2.2⟩)⟩
theorem OwnS.kept {w w' : World} {base : Nat} {v : Value} {ls : List (List Int)} (h : OwnS w base v ls) (hb : Below w.heap.size w w') : OwnS w' base v ls := h.keep (fun k _ hk => hb.block k hk) hb.size
theorem OwnS.setCell {w : World} {base : Nat} {v : Value} {ls : List (List Int)} (h : OwnS w base v ls) {a : Addr} (ha : a.block < base) (u : Value) : OwnS (w.setCell a u) base v ls :=
  h.keep (fun k hk _ => Below.heap_setCell _ _ _ _ (by omega)) (by simp [World.setCell])
theorem OwnS.drewN {w : World} {base : Nat} {v : Value} {ls : List (List Int)} (h : OwnS w base v ls) (n : Nat) : OwnS (w.drewN n) base v ls := h.keep (fun _ _ _ => rfl) (Nat.le_refl _)
theorem OwnS.lt {w : World} {base : Nat} {v : Value} {ls : List (List Int)} (h : OwnS w base v ls) : ∀ k, v.ownBlock = some k → base ≤ k ∧ k < w.heap.size := by
  obtain ⟨cells, ho, _⟩ := h
  exact ho.lt

/-- one row more: it lies in the own memory of a callee; then the append -/
theorem OwnS.snoc {w w1 w2 : World} {base g cap : Nat} {v u : Value} {ls : List (List Int)} {l : List Int} {cells : List Value} {n : Nat} (ho : w.ownsRow base 27 1 v ls.length cells)
    (hi : ∀ (i : Nat) (l : List Int), ls[i]? = some l → ∃ u, cells[i]? = some u ∧ tInt.slice.RS w (fun b => base ≤ b ∧ b < w.heap.size ∧ v.ownBlock ≠ some b) [u] l)
    (hb1 : Below w.heap.size w w1) (hu : OwnI w1 w.heap.size u l) (hw : ∀ x ∈ l, wfI .i64 x) (hbase : base ≤ w.heap.size)
    (ho2 : w2.ownsRow base 27 1 (.slice (some ⟨g, 0, none⟩) n cap) n (cells ++ [u])) (hn : n = ls.length + 1) (hgr : w1.grownBy w2 v.ownBlock) (hg : v.ownBlock = some g ∨ w1.heap.size ≤ g) :
    OwnS w2 base (.slice (some ⟨g, 0, none⟩) n cap) (ls ++ [l]) := by
  have hlen : cells.length = ls.length := by have := ho.1; omega
  refine ⟨cells ++ [u], by rw [List.length_append, List.length_singleton, ← hn]; exact ho2, fun i l' hl' => ?_⟩
  by_cases hlt : i < ls.length
  · rw [List.getElem?_append_left hlt] at hl'
    obtain ⟨u', hu', hR⟩ := hi i l' hl'
    refine ⟨u', by rw [List.getElem?_append_left (by omega)]; exact hu', Ty.keepS _ hR (fun k hk => ?_) (fun k hk => ?_)⟩
    · rw [hgr.block k (by have := hb1.size; omega) (fun e => hk.2.2 e.symm), hb1.block k hk.2.1]
    · refine ⟨hk.1, by have := hb1.size; have := hgr.size; omega, ?_⟩
      simp only [Value.ownBlock, ne_eq, Option.some.injEq]
      rintro rfl
      rcases hg with hg | hg
      · exact hk.2.2 hg
      · have := hb1.size; omega
  · have hil : i = ls.length := by
      have := (List.getElem?_eq_some_iff.1 hl').1
      simp at this
      omega
    subst hil
    rw [List.getElem?_append_right (Nat.le_refl _)] at hl'
    simp at hl'
    subst hl'
    refine ⟨u, by rw [List.getElem?_append_right (by omega)]; simp [hlen], Ty.keepS _ (own_intsS hu hw) (fun k hk => ?_) (fun k hk => ?_)⟩
    · have h1 := hu.lt k hk
      refine hgr.block k h1.2 (fun e => ?_)
      have := ho.lt k e.symm
      omega
    · have h1 := hu.lt k hk
      refine ⟨by omega, by have := hgr.size; omega, ?_⟩
      simp only [Value.ownBlock, ne_eq, Option.some.injEq]
      rintro rfl
      rcases hg with hg | hg
      · have := ho.lt _ hg; omega
      · omega

/-- .. read as data -/
theorem OwnS.read {w : World} {base : Nat} {v : Value} {ls : List (List Int)} (h : OwnS w base v ls) : tInt.slice.slice.RS w (fun b => base ≤ b ∧ b < w.heap.size) [v] ls := by
  obtain ⟨cells, ho, hi⟩ := h
  refine own_slice (T := tInt.slice) ho (fun i d hd => ?_) (fun g hg => ho.lt g hg)
  obtain ⟨u, hu, hR⟩ := hi i d hd
  have : ((cells.drop (i * tInt.slice.size)).take tInt.slice.size) = [u] := by
    show (cells.drop (i * 1)).take 1 = _
    obtain ⟨hi', he⟩ := List.getElem?_eq_some_iff.1 hu
    rw [Nat.mul_one, List.drop_eq_getElem_cons hi', he]
    simp
  rw [this]
  exact Ty.keepS _ hR (fun _ _ => rfl) (fun k hk => ⟨hk.1, hk.2.1⟩)
end Mu
end
section
/-
  Rows of the call's own whose elements are readings: grown by one, read as a slice.
  Conditions: none.
-/
namespace Mu
open Go Go.RowKit
variable {α : Type}

/-- a row of the call's own; its elements are readings among the blocks of S, which are not the row's own -/
def OwnT (T : Ty α) (e : TypeId) (w : World) (base : Nat) (v : Value) (ds : List α) (S : Nat → Prop) : Prop :=
  ∃ cells, w.ownsRow base e T.size v ds.length cells ∧ (∀ i d, ds[i]? = some d → T.RS w S ((cells.drop (i * T.size)).take T.size) d) ∧ ∀ k, S k → k < w.heap.size ∧ v.ownBlock ≠ some k

section
variable {T : Ty α} {e : TypeId} {w w' w2 X : World} {base : Nat} {v v' : Value} {ds : List α} {S S' : Nat → Prop}
theorem OwnT.nil (hS : ∀ k, S k → k < w.heap.size) : OwnT T e w base (.slice none 0 0) [] S := ⟨[], World.ownsRow_nil _ _ _ _, by simp, fun k hk => ⟨hS k hk, by simp [Value.ownBlock]⟩⟩
theorem OwnT.lt (h : OwnT T e w base v ds S) : ∀ k, v.ownBlock = some k → base ≤ k ∧ k < w.heap.size := by
  obtain ⟨_, ho, _⟩ := h
  exact World.ownsRow.lt ho
theorem OwnT.far (h : OwnT T e w base v ds S) : ∀ k, S k → k < w.heap.size ∧ v.ownBlock ≠ some k := by
  obtain ⟨_, _, _, hs⟩ := h
  exact hs
theorem OwnT.keep (h : OwnT T e w base v ds S) (hk : ∀ k, (S k ∨ v.ownBlock = some k) → w'.heap[k]? = w.heap[k]?) (hs : w.heap.size ≤ w'.heap.size) : OwnT T e w' base v ds S := by
  obtain ⟨cells, ho, hr, hf⟩ := h
  exact ⟨cells, ownsRow_keep ho (fun k h => hk k (.inr h)), fun i d hd => T.keepS (hr i d hd) (fun k h => hk k (.inl h)) (fun _ h => h), fun k h => ⟨Nat.lt_of_lt_of_le (hf k h).1 hs, (hf k h).2⟩⟩
theorem OwnT.below (h : OwnT T e w base v ds S) (hb : Below w.heap.size w w') : OwnT T e w' base v ds S :=
  h.keep (fun k hk => hb.block k (by rcases hk with hk | hk; exact (h.far k hk).1; exact (h.lt k hk).2)) hb.size
theorem OwnT.form (h : OwnT T e w base v ds S) : ∃ A c, v = .slice A ds.length c := by
  obtain ⟨cells, ho, _⟩ := h
  rcases ho.2 with ⟨rfl, h0⟩ | ⟨g, cap, cur, rfl, _⟩
  · rw [h0]; exact ⟨_, _, rfl⟩
  · exact ⟨_, _, rfl⟩
theorem OwnT.read (h : OwnT T e w base v ds S) : T.slice.RS w (fun k => S k ∨ v.ownBlock = some k) [v] ds := by
  obtain ⟨cells, ho, hr, _⟩ := h
  exact own_slice ho (fun i d hd => T.keepS (hr i d hd) (fun _ _ => rfl) (fun _ h => .inl h)) (fun g hg => .inr hg)
/-- one element more -/
theorem OwnT.snoc {cells cs : List Value} {d : α} {n : Nat} (ho : w.ownsRow base e T.size v ds.length cells) (hr : ∀ i d, ds[i]? = some d → T.RS w S ((cells.drop (i * T.size)).take T.size) d)
    (hS : ∀ k, S k → k < w.heap.size ∧ v.ownBlock ≠ some k) (hX : ∀ k, S k → X.heap[k]? = w.heap[k]?) (hs : w.heap.size ≤ X.heap.size) (hr' : T.RS X S' cs d) (hS' : ∀ k, S' k → k < X.heap.size ∧ v.ownBlock ≠ some k)
    (hn : n = ds.length + 1) (ho2 : w2.ownsRow base e T.size v' n (cells ++ cs)) (hg : X.grownBy w2 v.ownBlock) (hat : v'.ownBlock = v.ownBlock ∨ v'.ownBlock = some X.heap.size) :
    OwnT T e w2 base v' (ds ++ [d]) (fun k => S k ∨ S' k) := by
  have hsz := hg.size
  have hin : ∀ k, S k → w2.heap[k]? = w.heap[k]? := fun k hk => (hg.block k (by have := (hS k hk).1; omega) (fun e => (hS k hk).2 e.symm)).trans (hX k hk)
  have hin' : ∀ k, S' k → w2.heap[k]? = X.heap[k]? := fun k hk => hg.block k (hS' k hk).1 (fun e => (hS' k hk).2 e.symm)
  have hcl : cells.length = ds.length * T.size := ho.1
  have hcs : cs.length = T.size := T.len hr'
  refine ⟨cells ++ cs, by rw [List.length_append, List.length_singleton, ← hn]; exact ho2, fun i d' hd' => ?_, fun k hk => ?_⟩
  · by_cases hi : i < ds.length
    · rw [List.getElem?_append_left hi] at hd'
      rw [chunk_left hcl hi]
      exact T.keepS (hr i d' hd') hin (fun _ h => .inl h)
    · have hil : i = ds.length := by
        have := (List.getElem?_eq_some_iff.1 hd').1
        simp at this
        omega
      subst hil
      simp at hd'
      subst hd'
      rw [chunk_last hcl hcs]
      exact T.keepS hr' hin' (fun _ h => .inr h)
  · have hk2 : k < X.heap.size ∧ v.ownBlock ≠ some k := by
      rcases hk with hk | hk
      · exact ⟨by have := (hS k hk).1; omega, (hS k hk).2⟩
      · exact hS' k hk
    refine ⟨by omega, fun e => ?_⟩
    rcases hat with h | h
    · exact hk2.2 (h ▸ e)
    · rw [h] at e
      injection e with e
      omega
theorem OwnT.congr (h : OwnT T e w base v ds S) (hS : ∀ k, S k ↔ S' k) : OwnT T e w base v ds S' := by
  obtain ⟨cells, ho, hr, hf⟩ := h
  exact ⟨cells, ho, fun i d hd => T.keepS (hr i d hd) (fun _ _ => rfl) (fun k hk => (hS k).1 hk), fun k hk => hf k ((hS k).2 hk)⟩
theorem OwnT.base_le {base' : Nat} (h : OwnT T e w base v ds S) (hb : base' ≤ base) : OwnT T e w base' v ds S := by
  obtain ⟨cells, ⟨h1, h2⟩, r⟩ := h
  refine ⟨cells, ⟨h1, ?_⟩, r⟩
  rcases h2 with h2 | ⟨g, cap, cur, hv, hg, r⟩
  · exact .inl h2
  · exact .inr ⟨g, cap, cur, hv, by omega, r⟩
end
theorem src_one {w : World} {size m : Nat} {cs : Array Value} {t : TypeId} (hl : cs.size = m * size) : Src (w.alloc (.cells cs t)) size (some ⟨w.heap.size, 0, none⟩) m cs.toList := src_row (heap_alloc_new w _) hl
theorem src_two {w : World} {o : Obj} {size m : Nat} {cs : Array Value} {t : TypeId} (hl : cs.size = m * size) : Src ((w.alloc o).alloc (.cells cs t)) size (some ⟨w.heap.size + 1, 0, none⟩) m cs.toList := by
  have h := src_one (w := w.alloc o) (t := t) hl
  rwa [show (w.alloc o).heap.size = w.heap.size + 1 from by simp] at h
end Mu
end
section
/-
  What an instruction reads and writes: muntinref14.Has, in, Reads, Writes; shape.Reads, Writes.
  Conditions: an instruction's arguments are at most 2^21.
-/
namespace Mu
open Go Go.RowKit Go.Proofs

/-- which letters an instruction of an operation has -/
def hasS (op : Int) : List UInt8 :=
  if op = 0 then [100, 110] else if op = 1 then [100, 97, 98, 110] else if op = 2 then [100, 97] else if op = 3 then [100, 97] else if op = 4 then [97, 98] else if op = 5 then [100, 102, 120]
  else if op = 6 then [97] else if op = 7 then [] else if op = 8 then [108] else if op = 9 then [97, 108, 109] else if op = 10 then [97] else []
def readsC (x : Ins) : List Int := (if (hasS x.op).contains 97 then [x.a] else []) ++ (if (hasS x.op).contains 98 then [x.b] else []) ++ (if (hasS x.op).contains 120 then x.args else [])
/-- has a text a letter? -/
def hasC (s : ByteArray) (c : UInt8) : Bool := s.data.toList.contains c
def writesB (x : Ins) : Bool := (hasS x.op).contains 100

set_option maxHeartbeats 1000000 in
theorem ref_Has (op : Int) (w : World) (h0 : 0 ≤ op) (h1 : op ≤ 255) :
    Calls Tryd.prog 53 #[.int .u8 op] w fun e w' => e = .returned (.string ⟨(hasS op).toArray⟩) ∧ Below w.heap.size w w' := by
  have hc : op = 0 ∨ op = 1 ∨ op = 2 ∨ op = 3 ∨ op = 4 ∨ op = 5 ∨ op = 6 ∨ op = 7 ∨ op = 8 ∨ op = 9 ∨ op = 10 ∨ 11 ≤ op := by omega
  rcases hc with rfl | rfl | rfl | rfl | rfl | rfl | rfl | rfl | rfl | rfl | rfl | h
  case inr.inr.inr.inr.inr.inr.inr.inr.inr.inr.inr =>
    have hd : decide (11 ≤ op) = true := decide_eq_true h
    have hs : Hid (hasS op = []) := by
      unfold hasS
      show _ = _
      repeat rw [if_neg (by omega)]
    go_enter Tryd.func53, Tryd.ntmps53
    go_wp2_with fail
    go_ret
    exact ⟨by rw [hs.out]; rfl, (Below.refl _ _).alloc (Nat.le_refl _) _⟩
  all_goals
    go_enter Tryd.func53, Tryd.ntmps53
    go_wp2_with fail
    go_ret
    exact ⟨rfl, (Below.refl _ _).alloc (Nat.le_refl _) _⟩

set_option maxHeartbeats 1000000 in
theorem ref_in14 (s : ByteArray) (c : UInt8) (w : World) (hs : s.size ≤ 65536) :
    Calls Tryd.prog 54 #[.string s, .int .u8 c.toNat] w fun e w' => e = .returned (.bool (hasC s c)) ∧ w = w' := by
  go_enter Tryd.func54, Tryd.ntmps54
  go_wp2_with fail
  go_loop [5] (fun i => ∃ k : Nat, k ≤ s.size ∧ i = .int .i64 k ∧ Hid ((s.data.toList.take k).contains c = false)) (fun i => s.size - (RowKit.intOf i).toNat)
  case atStart => exact ⟨0, Nat.zero_le _, rfl, by simp [Hid]⟩
  case round =>
    obtain ⟨k, hk, rfl, hno⟩ := hrel
    by_cases hlt : k < s.size
    · have hts : Hid (s.data.toList.take (k + 1) = s.data.toList.take k ++ [s[k]]) := by
        show _ = _
        rw [List.take_succ_eq_append_getElem (by simpa using hlt)]
        rfl
      by_cases he : s[k] = c
      · have hfin : Hid (hasC s c = true) := by
          show s.data.toList.contains c = true
          rw [List.contains_iff_mem]
          have : s[k] ∈ s.data.toList := by
            have h1 : s.data.toList[k]? = some s[k] := by
              rw [List.getElem?_eq_getElem (by simpa using hlt)]
              rfl
            exact List.mem_of_getElem? h1
          rwa [he] at this
        have hb : ((s[k].toNat : Int) == (c.toNat : Int)) = true := by rw [he]; simp
        clear hts hno he
        go_wp2_with fail
        go_ret
        exact ⟨ret_bool hfin.out.symm, rfl⟩
      · have hb : ((s[k].toNat : Int) == (c.toNat : Int)) = false := by
          rw [beq_eq_false_iff_ne]
          intro h
          exact he (UInt8.toNat_inj.1 (by omega))
        have hno2 : Hid ((s.data.toList.take (k + 1)).contains c = false) := by
          show _ = _
          rw [hts.out]
          have := hno.out
          simp only [List.contains_eq_mem, decide_eq_false_iff_not, List.mem_append, List.mem_singleton, not_or] at this ⊢
          exact ⟨this, fun h => he h.symm⟩
        clear hts hno he
        go_wp2_with fail
        go_round
        case rel => exact ⟨k + 1, by omega, by go_num, hno2⟩
        case measure => simp [RowKit.intOf]; omega
    · obtain rfl : k = s.size := by omega
      have hfin : Hid (hasC s c = false) := by
        have := hno.out
        rw [List.take_of_length_le (by simp)] at this
        exact this
      clear hno
      go_wp2_with fail
      go_ret
      exact ⟨ret_bool hfin.out.symm, rfl⟩

theorem hasC_hasS (op : Int) (c : UInt8) : hasC ⟨(hasS op).toArray⟩ c = (hasS op).contains c := rfl
theorem hasS_len (op : Int) : (hasS op).length ≤ 4 := by
  unfold hasS
  repeat' split
  all_goals simp
theorem hasS_size (op : Int) : (⟨(hasS op).toArray⟩ : ByteArray).size ≤ 65536 := by
  have := hasS_len op
  show (hasS op).toArray.size ≤ _
  rw [List.size_toArray]
  omega
theorem ints_src {w : World} {S : Nat → Prop} {A : Option Addr} {n c : Nat} {k : IntKind} {ds : List Int} (h : (Ty.int k).slice.RS w S [.slice A n c] ds) (w' : World) (hk : ∀ q, S q → w'.heap[q]? = w.heap[q]?) : Src w' 1 A n (ds.map (Value.int k)) := by
  obtain ⟨hn, _, _⟩ := slice_len h
  refine ⟨by simp [hn], fun j u hu => ?_⟩
  rw [List.getElem?_map] at hu
  obtain ⟨d, hd, rfl⟩ := Option.map_eq_some_iff.1 hu
  obtain ⟨b, o, rfl, hS, hc, _⟩ := int_at h hd
  refine ⟨_, rfl, ?_⟩
  rw [Go.WideShapes.add_plain]
  exact (World.cell?_of_block (w := w) (a := ⟨b, o + j, none⟩) (hk b hS)).trans hc
theorem ints_one (k : IntKind) (ds : List Int) : ∀ u ∈ ds.map (Value.int k), u.oneCell' = true := by
  intro u hu
  obtain ⟨d, _, rfl⟩ := List.mem_map.1 hu
  rfl
/-- one number more on a row of the call's own -/
theorem own_snoc {w2 : World} {base n : Nat} {v : Value} {l : List Int} {x : Int} (h : w2.ownsRow base 3 1 v n (l.map (Value.int .i64) ++ [Value.int .i64 x])) (hn : n = l.length + 1) : OwnI w2 base v (l ++ [x]) :=
  .of h (by simp [hn]) (by simp)
end Mu
end
section
/-
  Odds and ends: a box, and what stays readable behind it; the form of rows of integers.
  Conditions: none.
-/
namespace Mu
open Go Go.RowKit Go.Proofs

/-- w' is what calls made of w0, in which cs were boxed -/
def Bx (w0 : World) (cs : List Value) (T : TypeId) (w' : World) : Prop := Below (w0.heap.size + 1) (w0.alloc (.cells cs.toArray T)) w'
section
variable {w0 w' w'' : World} {cs : List Value} {T : TypeId}
theorem Bx.refl : Bx w0 cs T (w0.alloc (.cells cs.toArray T)) := Below.refl _ _
theorem Bx.cell (h : Bx w0 cs T w') {j : Nat} {v : Value} (hv : cs[j]? = some v) : w'.cell? ⟨w0.heap.size, j, none⟩ = some v := (boxed h).2.1 j v hv
theorem Bx.far (h : Bx w0 cs T w') {a : Addr} (ha : a.block < w0.heap.size) : w'.cell? a = w0.cell? a := (boxed h).1 a ha
theorem Bx.lt (h : Bx w0 cs T w') : w0.heap.size < w'.heap.size := (boxed h).2.2.1
theorem Bx.below (h : Bx w0 cs T w') : Below w0.heap.size w0 w' := (boxed h).2.2.2
theorem Bx.call (h : Bx w0 cs T w') (hb : Below w'.heap.size w' w'') : Bx w0 cs T w'' := Below.trans h (hb.mono h.lt)
theorem Bx.alloc (h : Bx w0 cs T w') (o : Obj) : Bx w0 cs T (w'.alloc o) := Below.alloc h h.lt o
theorem Bx.drewN (h : Bx w0 cs T w') (n : Nat) : Bx w0 cs T (w'.drewN n) := bdrew h n
theorem Bx.drew (h : Bx w0 cs T w') : Bx w0 cs T w'.drew := ⟨h.os, h.tape, h.output, h.size, h.block⟩
theorem Bx.R {α : Type} {U : Ty α} {us : List Value} {d : α} (h : Bx w0 cs T w') (hR : U.R w0 w0.heap.size us d) : U.R w' w'.heap.size us d := Ty.below hR h.below h.below.size
end

theorem one_max : 1 ≤ maxLen := by decide

theorem grown_trans {a b c : World} {row : Option Nat} (h : a.grownBy b row) (k : b.grownBy c row) : a.grownBy c row :=
  ⟨k.os.trans h.os, k.tape.trans h.tape, k.output.trans h.output, Nat.le_trans h.size k.size, fun i hi hr => (k.block i (Nat.lt_of_lt_of_le hi h.size) hr).trans (h.block i hi hr)⟩

theorem own_form {w : World} {base : Nat} {v : Value} {l : List Int} (h : OwnI w base v l) : ∃ A c, v = .slice A l.length c := by
  rcases h.2 with ⟨rfl, h0⟩ | ⟨g, cap, cur, rfl, _⟩
  · rw [h0]; exact ⟨_, _, rfl⟩
  · exact ⟨_, _, rfl⟩

theorem slc_info : (Tryd.prog.info? 27).map (fun i => (i.zero, i.size, i.bytes)) = some (some (.slice none 0 0), 1, 24) := by kernel_rfl

theorem own_cell {w : World} {base g cap n : Nat} {l : List Int} {i : Nat} {z : Int} (h : OwnI w base (.slice (some ⟨g, 0, none⟩) n cap) l) (hz : l[i]? = some z) : w.cell? ⟨g, i, none⟩ = some (.int .i64 z) := by
  have hi := (List.getElem?_eq_some_iff.1 hz).1
  rcases h.2 with ⟨h0, _⟩ | ⟨g', cap', cur, e, _, hh, _, _, _, h4⟩
  · cases h0
  · cases e
    have h5 := h.cells (g := g) rfl i (.int .i64 z) (by simp [hz])
    have e1 : (⟨g, 0, none⟩ : Addr).add i = ⟨g, i, none⟩ := by
      unfold Addr.add
      by_cases hz : i = 0 <;> simp [hz]
    rwa [e1] at h5

theorem own_form' {w : World} {base : Nat} {v : Value} {l : List Int} (h : OwnI w base v l) (hp : 0 < l.length) : ∃ g c, v = .slice (some ⟨g, 0, none⟩) l.length c ∧ base ≤ g ∧ g < w.heap.size := by
  rcases h.2 with ⟨rfl, h0⟩ | ⟨g, cap, cur, rfl, hg, hh, _⟩
  · omega
  · exact ⟨g, cap, rfl, hg, (Array.getElem?_eq_some_iff.1 hh).1⟩
end Mu
end
section
/-
  muntinref14.Reads, Writes, walked.
  Conditions: an instruction's arguments are at most 2^21.
-/
namespace Mu
open Go Go.RowKit Go.Proofs

section
variable {w w' : World} {cs : List Value} {T : TypeId}
theorem bx_Has (op : Int) (h0 : 0 ≤ op) (h1 : op ≤ 255) (h : Bx w cs T w') :
    Calls Tryd.prog 53 #[.int .u8 op] w' fun e w'' => e = .returned (.string ⟨(hasS op).toArray⟩) ∧ Bx w cs T w'' :=
  (ref_Has op w' h0 h1).mono fun _ _ hp => ⟨hp.1, h.call hp.2⟩
theorem bx_in97 (op : Int) {b : Bool} (hb : (hasS op).contains 97 = b) (w' : World) :
    Calls Tryd.prog 54 #[.string ⟨(hasS op).toArray⟩, .int .u8 97] w' fun e w'' => e = .returned (.bool b) ∧ w' = w'' :=
  (ref_in14 ⟨(hasS op).toArray⟩ 97 w' (hasS_size op)).mono fun _ _ hp => ⟨by rw [hp.1, hasC_hasS, hb], hp.2⟩
theorem bx_in98 (op : Int) {b : Bool} (hb : (hasS op).contains 98 = b) (w' : World) :
    Calls Tryd.prog 54 #[.string ⟨(hasS op).toArray⟩, .int .u8 98] w' fun e w'' => e = .returned (.bool b) ∧ w' = w'' :=
  (ref_in14 ⟨(hasS op).toArray⟩ 98 w' (hasS_size op)).mono fun _ _ hp => ⟨by rw [hp.1, hasC_hasS, hb], hp.2⟩
theorem bx_in120 (op : Int) {b : Bool} (hb : (hasS op).contains 120 = b) (w' : World) :
    Calls Tryd.prog 54 #[.string ⟨(hasS op).toArray⟩, .int .u8 120] w' fun e w'' => e = .returned (.bool b) ∧ w' = w'' :=
  (ref_in14 ⟨(hasS op).toArray⟩ 120 w' (hasS_size op)).mono fun _ _ hp => ⟨by rw [hp.1, hasC_hasS, hb], hp.2⟩
theorem bx_in100 (op : Int) {b : Bool} (hb : (hasS op).contains 100 = b) (w' : World) :
    Calls Tryd.prog 54 #[.string ⟨(hasS op).toArray⟩, .int .u8 100] w' fun e w'' => e = .returned (.bool b) ∧ w' = w'' :=
  (ref_in14 ⟨(hasS op).toArray⟩ 100 w' (hasS_size op)).mono fun _ _ hp => ⟨by rw [hp.1, hasC_hasS, hb], hp.2⟩
end
theorem bx_grown {w w2 : World} {cs : List Value} {T : TypeId} {v : Value} {n sz : Nat} {e : TypeId} {xs : List Value} {o : World} (ho : Bx w cs T o) (hown : o.ownsRow (w.heap.size + 1) e sz v n xs) (hg : o.grownBy w2 v.ownBlock) : Bx w cs T w2 :=
  Below.grown (show Below (w.heap.size + 1) _ o from ho) hg (by have := ho.lt; omega) (fun q hq => (hown.lt q hq).1)

set_option maxRecDepth 100000 in
set_option maxHeartbeats 1000000 in
theorem ref_reads_000 (x : Ins) (w : World) (A : Option Addr) (c : Nat) (hI : InsCells w (fun k => k < w.heap.size) [.int .u8 x.op, .int .i64 x.d, .int .i64 x.a, .int .i64 x.b, .int .u32 x.n, .int .i64 x.f, .slice A x.args.length c, .int .i64 x.l1, .int .i64 x.l2] x A c) (_hl : x.args.length ≤ 2097152)
    (ha : (hasS x.op).contains 97 = false) (hb : (hasS x.op).contains 98 = false) (hx : (hasS x.op).contains 120 = false) :
    Calls Tryd.prog 34 #[.agg #[.int .u8 x.op, .int .i64 x.d, .int .i64 x.a, .int .i64 x.b, .int .u32 x.n, .int .i64 x.f, .slice A x.args.length c, .int .i64 x.l1, .int .i64 x.l2]] w fun e w' => ∃ v, e = .returned v ∧ OwnI w' w.heap.size v (readsC x) ∧ Below w.heap.size w w' := by
  obtain ⟨_, hop, _, _, _, _, _, _, _, hA⟩ := hI
  obtain ⟨h0, h255⟩ := wfI_u8 hop
  obtain ⟨i0, hi, hz0, hz1, hz2⟩ := info_parts int_info
  have HS := Lib.hid fun w' (h : Below w.heap.size w w') => ints_src hA w' h.block
  have H1 := Lib.hid (ints_one .i64 x.args)
  have HG : Hid (readsC x = []) := by
    show _ = _
    unfold readsC
    rw [ha, hb, hx]
    rfl
  have HA := Lib.hid ha
  have HB := Lib.hid hb
  have HX := Lib.hid hx
  clear hA ha hb hx
  obtain ⟨cs, hcs⟩ : ∃ cs : List Value, cs = [.int .u8 x.op, .int .i64 x.d, .int .i64 x.a, .int .i64 x.b, .int .u32 x.n, .int .i64 x.f, .slice A x.args.length c, .int .i64 x.l1, .int .i64 x.l2] := ⟨_, rfl⟩
  have q2 : ∀ w', Bx w cs 50 w' → w'.cell? ⟨w.heap.size, 2, none⟩ = some (.int .i64 x.a) := fun w' h => h.cell (by rw [hcs]; rfl)
  have q3 : ∀ w', Bx w cs 50 w' → w'.cell? ⟨w.heap.size, 3, none⟩ = some (.int .i64 x.b) := fun w' h => h.cell (by rw [hcs]; rfl)
  have q6 : ∀ w', Bx w cs 50 w' → w'.cell? ⟨w.heap.size, 6, none⟩ = some (.slice A x.args.length c) := fun w' h => h.cell (by rw [hcs]; rfl)
  have hstart : Hid (Bx w cs 50 (w.alloc (.cells #[.int .u8 x.op, .int .i64 x.d, .int .i64 x.a, .int .i64 x.b, .int .u32 x.n, .int .i64 x.f, .slice A x.args.length c, .int .i64 x.l1, .int .i64 x.l2] 50))) := by
    have h := Bx.refl (w0 := w) (cs := cs) (T := 50)
    rw [hcs] at h
    rw [hcs]
    exact h
  clear hcs
  go_enter Tryd.func34, Tryd.ntmps34
  go_wp2_with fail
  refine (bx_Has x.op h0 h255 hstart.out).mono ?_
  rintro e w1 ⟨rfl, hx1⟩
  have hown1 : Hid (w1.ownsRow (w.heap.size + 1) 3 1 (.slice none 0 0) 0 []) := World.ownsRow_nil _ _ _ _
  have hlt1 := hx1.lt
  clear hstart
  go_wp2_with fail
  refine (bx_in97 x.op HA.out w1).mono ?_
  rintro e w' ⟨rfl, rfl⟩
  go_wp2_with fail
  refine (bx_in98 x.op HB.out w1).mono ?_
  rintro e w' ⟨rfl, rfl⟩
  go_wp2_with fail
  refine (bx_in120 x.op HX.out w1).mono ?_
  rintro e w' ⟨rfl, rfl⟩
  go_wp2_with fail
  go_ret
  refine ⟨_, rfl, ?_, hx1.below⟩
  rw [HG.out]
  exact OwnI.base (OwnI.of hown1.out (by first | (simp; done) | (simp; omega)) (by simp)) (by omega)

set_option maxRecDepth 100000 in
set_option maxHeartbeats 1000000 in
theorem ref_reads_001 (x : Ins) (w : World) (A : Option Addr) (c : Nat) (hI : InsCells w (fun k => k < w.heap.size) [.int .u8 x.op, .int .i64 x.d, .int .i64 x.a, .int .i64 x.b, .int .u32 x.n, .int .i64 x.f, .slice A x.args.length c, .int .i64 x.l1, .int .i64 x.l2] x A c) (hl : x.args.length ≤ 2097152)
    (ha : (hasS x.op).contains 97 = false) (hb : (hasS x.op).contains 98 = false) (hx : (hasS x.op).contains 120 = true) :
    Calls Tryd.prog 34 #[.agg #[.int .u8 x.op, .int .i64 x.d, .int .i64 x.a, .int .i64 x.b, .int .u32 x.n, .int .i64 x.f, .slice A x.args.length c, .int .i64 x.l1, .int .i64 x.l2]] w fun e w' => ∃ v, e = .returned v ∧ OwnI w' w.heap.size v (readsC x) ∧ Below w.heap.size w w' := by
  obtain ⟨_, hop, _, _, _, _, _, _, _, hA⟩ := hI
  obtain ⟨h0, h255⟩ := wfI_u8 hop
  obtain ⟨i0, hi, hz0, hz1, hz2⟩ := info_parts int_info
  have HS := Lib.hid fun w' (h : Below w.heap.size w w') => ints_src hA w' h.block
  have H1 := Lib.hid (ints_one .i64 x.args)
  have HG : Hid (readsC x = x.args) := by
    show _ = _
    unfold readsC
    rw [ha, hb, hx]
    rfl
  have HA := Lib.hid ha
  have HB := Lib.hid hb
  have HX := Lib.hid hx
  clear hA ha hb hx
  obtain ⟨cs, hcs⟩ : ∃ cs : List Value, cs = [.int .u8 x.op, .int .i64 x.d, .int .i64 x.a, .int .i64 x.b, .int .u32 x.n, .int .i64 x.f, .slice A x.args.length c, .int .i64 x.l1, .int .i64 x.l2] := ⟨_, rfl⟩
  have q2 : ∀ w', Bx w cs 50 w' → w'.cell? ⟨w.heap.size, 2, none⟩ = some (.int .i64 x.a) := fun w' h => h.cell (by rw [hcs]; rfl)
  have q3 : ∀ w', Bx w cs 50 w' → w'.cell? ⟨w.heap.size, 3, none⟩ = some (.int .i64 x.b) := fun w' h => h.cell (by rw [hcs]; rfl)
  have q6 : ∀ w', Bx w cs 50 w' → w'.cell? ⟨w.heap.size, 6, none⟩ = some (.slice A x.args.length c) := fun w' h => h.cell (by rw [hcs]; rfl)
  have hstart : Hid (Bx w cs 50 (w.alloc (.cells #[.int .u8 x.op, .int .i64 x.d, .int .i64 x.a, .int .i64 x.b, .int .u32 x.n, .int .i64 x.f, .slice A x.args.length c, .int .i64 x.l1, .int .i64 x.l2] 50))) := by
    have h := Bx.refl (w0 := w) (cs := cs) (T := 50)
    rw [hcs] at h
    rw [hcs]
    exact h
  clear hcs
  go_enter Tryd.func34, Tryd.ntmps34
  go_wp2_with fail
  refine (bx_Has x.op h0 h255 hstart.out).mono ?_
  rintro e w1 ⟨rfl, hx1⟩
  have hown1 : Hid (w1.ownsRow (w.heap.size + 1) 3 1 (.slice none 0 0) 0 []) := World.ownsRow_nil _ _ _ _
  have hlt1 := hx1.lt
  clear hstart
  go_wp2_with fail
  refine (bx_in97 x.op HA.out w1).mono ?_
  rintro e w' ⟨rfl, rfl⟩
  go_wp2_with fail
  refine (bx_in98 x.op HB.out w1).mono ?_
  rintro e w' ⟨rfl, rfl⟩
  go_wp2_with fail
  refine (bx_in120 x.op HX.out w1).mono ?_
  rintro e w' ⟨rfl, rfl⟩
  go_wp2_with (at_builtin; refine list_more rfl (.tmp 24) (.tmp 26) _ rfl (w.heap.size + 1) 3 i0 _ 1 8 Tryd.underlying27 hi hz0 hz1 hz2 rfl (by decide) rfl hown1.out rfl (HS.out _ hx1.below) H1.out (by unfold maxLen; omega) (by omega) (by omega) ?_)
  intro v2 w2 ho2 hg2 _
  have hx2 : Bx w cs 50 w2 := bx_grown hx1 hown1.out hg2
  have hown2 := Lib.hid ho2
  have hlt2 := hx2.lt
  clear ho2 hg2
  go_wp2_with fail
  go_ret
  refine ⟨_, rfl, ?_, hx2.below⟩
  rw [HG.out]
  exact OwnI.base (OwnI.of hown2.out (by first | (simp; done) | (simp; omega)) (by simp)) (by omega)

set_option maxRecDepth 100000 in
set_option maxHeartbeats 1000000 in
theorem ref_reads_010 (x : Ins) (w : World) (A : Option Addr) (c : Nat) (hI : InsCells w (fun k => k < w.heap.size) [.int .u8 x.op, .int .i64 x.d, .int .i64 x.a, .int .i64 x.b, .int .u32 x.n, .int .i64 x.f, .slice A x.args.length c, .int .i64 x.l1, .int .i64 x.l2] x A c) (_hl : x.args.length ≤ 2097152)
    (ha : (hasS x.op).contains 97 = false) (hb : (hasS x.op).contains 98 = true) (hx : (hasS x.op).contains 120 = false) :
    Calls Tryd.prog 34 #[.agg #[.int .u8 x.op, .int .i64 x.d, .int .i64 x.a, .int .i64 x.b, .int .u32 x.n, .int .i64 x.f, .slice A x.args.length c, .int .i64 x.l1, .int .i64 x.l2]] w fun e w' => ∃ v, e = .returned v ∧ OwnI w' w.heap.size v (readsC x) ∧ Below w.heap.size w w' := by
  obtain ⟨_, hop, _, _, _, _, _, _, _, hA⟩ := hI
  obtain ⟨h0, h255⟩ := wfI_u8 hop
  obtain ⟨i0, hi, hz0, hz1, hz2⟩ := info_parts int_info
  have HS := Lib.hid fun w' (h : Below w.heap.size w w') => ints_src hA w' h.block
  have H1 := Lib.hid (ints_one .i64 x.args)
  have HG : Hid (readsC x = [x.b]) := by
    show _ = _
    unfold readsC
    rw [ha, hb, hx]
    rfl
  have HA := Lib.hid ha
  have HB := Lib.hid hb
  have HX := Lib.hid hx
  clear hA ha hb hx
  obtain ⟨cs, hcs⟩ : ∃ cs : List Value, cs = [.int .u8 x.op, .int .i64 x.d, .int .i64 x.a, .int .i64 x.b, .int .u32 x.n, .int .i64 x.f, .slice A x.args.length c, .int .i64 x.l1, .int .i64 x.l2] := ⟨_, rfl⟩
  have q2 : ∀ w', Bx w cs 50 w' → w'.cell? ⟨w.heap.size, 2, none⟩ = some (.int .i64 x.a) := fun w' h => h.cell (by rw [hcs]; rfl)
  have q3 : ∀ w', Bx w cs 50 w' → w'.cell? ⟨w.heap.size, 3, none⟩ = some (.int .i64 x.b) := fun w' h => h.cell (by rw [hcs]; rfl)
  have q6 : ∀ w', Bx w cs 50 w' → w'.cell? ⟨w.heap.size, 6, none⟩ = some (.slice A x.args.length c) := fun w' h => h.cell (by rw [hcs]; rfl)
  have hstart : Hid (Bx w cs 50 (w.alloc (.cells #[.int .u8 x.op, .int .i64 x.d, .int .i64 x.a, .int .i64 x.b, .int .u32 x.n, .int .i64 x.f, .slice A x.args.length c, .int .i64 x.l1, .int .i64 x.l2] 50))) := by
    have h := Bx.refl (w0 := w) (cs := cs) (T := 50)
    rw [hcs] at h
    rw [hcs]
    exact h
  clear hcs
  go_enter Tryd.func34, Tryd.ntmps34
  go_wp2_with fail
  refine (bx_Has x.op h0 h255 hstart.out).mono ?_
  rintro e w1 ⟨rfl, hx1⟩
  have hown1 : Hid (w1.ownsRow (w.heap.size + 1) 3 1 (.slice none 0 0) 0 []) := World.ownsRow_nil _ _ _ _
  have hlt1 := hx1.lt
  clear hstart
  go_wp2_with fail
  refine (bx_in97 x.op HA.out w1).mono ?_
  rintro e w' ⟨rfl, rfl⟩
  go_wp2_with fail
  refine (bx_in98 x.op HB.out w1).mono ?_
  rintro e w' ⟨rfl, rfl⟩
  go_wp2_with (at_builtin; refine list_more rfl (.tmp 17) (.tmp 20) _ rfl (w.heap.size + 1) 3 i0 _ 1 8 Tryd.underlying27 hi hz0 hz1 hz2 rfl (by decide) rfl (hown1.out.alloc _) rfl (src_one rfl) (by simp [Value.oneCell']) (by unfold maxLen; omega) (by omega) (by simp; omega) ?_)
  intro v2 w2 ho2 hg2 _
  have hx2 : Bx w cs 50 w2 := bx_grown (hx1.alloc _) (hown1.out.alloc _) hg2
  have hown2 := Lib.hid ho2
  have hlt2 := hx2.lt
  clear ho2 hg2
  go_wp2_with fail
  refine (bx_in120 x.op HX.out w2).mono ?_
  rintro e w' ⟨rfl, rfl⟩
  go_wp2_with fail
  go_ret
  refine ⟨_, rfl, ?_, hx2.below⟩
  rw [HG.out]
  exact OwnI.base (OwnI.of hown2.out (by first | (simp; done) | (simp; omega)) (by simp)) (by omega)

set_option maxRecDepth 100000 in
set_option maxHeartbeats 1000000 in
theorem ref_reads_011 (x : Ins) (w : World) (A : Option Addr) (c : Nat) (hI : InsCells w (fun k => k < w.heap.size) [.int .u8 x.op, .int .i64 x.d, .int .i64 x.a, .int .i64 x.b, .int .u32 x.n, .int .i64 x.f, .slice A x.args.length c, .int .i64 x.l1, .int .i64 x.l2] x A c) (hl : x.args.length ≤ 2097152)
    (ha : (hasS x.op).contains 97 = false) (hb : (hasS x.op).contains 98 = true) (hx : (hasS x.op).contains 120 = true) :
    Calls Tryd.prog 34 #[.agg #[.int .u8 x.op, .int .i64 x.d, .int .i64 x.a, .int .i64 x.b, .int .u32 x.n, .int .i64 x.f, .slice A x.args.length c, .int .i64 x.l1, .int .i64 x.l2]] w fun e w' => ∃ v, e = .returned v ∧ OwnI w' w.heap.size v (readsC x) ∧ Below w.heap.size w w' := by
  obtain ⟨_, hop, _, _, _, _, _, _, _, hA⟩ := hI
  obtain ⟨h0, h255⟩ := wfI_u8 hop
  obtain ⟨i0, hi, hz0, hz1, hz2⟩ := info_parts int_info
  have HS := Lib.hid fun w' (h : Below w.heap.size w w') => ints_src hA w' h.block
  have H1 := Lib.hid (ints_one .i64 x.args)
  have HG : Hid (readsC x = [x.b] ++ x.args) := by
    show _ = _
    unfold readsC
    rw [ha, hb, hx]
    rfl
  have HA := Lib.hid ha
  have HB := Lib.hid hb
  have HX := Lib.hid hx
  clear hA ha hb hx
  obtain ⟨cs, hcs⟩ : ∃ cs : List Value, cs = [.int .u8 x.op, .int .i64 x.d, .int .i64 x.a, .int .i64 x.b, .int .u32 x.n, .int .i64 x.f, .slice A x.args.length c, .int .i64 x.l1, .int .i64 x.l2] := ⟨_, rfl⟩
  have q2 : ∀ w', Bx w cs 50 w' → w'.cell? ⟨w.heap.size, 2, none⟩ = some (.int .i64 x.a) := fun w' h => h.cell (by rw [hcs]; rfl)
  have q3 : ∀ w', Bx w cs 50 w' → w'.cell? ⟨w.heap.size, 3, none⟩ = some (.int .i64 x.b) := fun w' h => h.cell (by rw [hcs]; rfl)
  have q6 : ∀ w', Bx w cs 50 w' → w'.cell? ⟨w.heap.size, 6, none⟩ = some (.slice A x.args.length c) := fun w' h => h.cell (by rw [hcs]; rfl)
  have hstart : Hid (Bx w cs 50 (w.alloc (.cells #[.int .u8 x.op, .int .i64 x.d, .int .i64 x.a, .int .i64 x.b, .int .u32 x.n, .int .i64 x.f, .slice A x.args.length c, .int .i64 x.l1, .int .i64 x.l2] 50))) := by
    have h := Bx.refl (w0 := w) (cs := cs) (T := 50)
    rw [hcs] at h
    rw [hcs]
    exact h
  clear hcs
  go_enter Tryd.func34, Tryd.ntmps34
  go_wp2_with fail
  refine (bx_Has x.op h0 h255 hstart.out).mono ?_
  rintro e w1 ⟨rfl, hx1⟩
  have hown1 : Hid (w1.ownsRow (w.heap.size + 1) 3 1 (.slice none 0 0) 0 []) := World.ownsRow_nil _ _ _ _
  have hlt1 := hx1.lt
  clear hstart
  go_wp2_with fail
  refine (bx_in97 x.op HA.out w1).mono ?_
  rintro e w' ⟨rfl, rfl⟩
  go_wp2_with fail
  refine (bx_in98 x.op HB.out w1).mono ?_
  rintro e w' ⟨rfl, rfl⟩
  go_wp2_with (at_builtin; refine list_more rfl (.tmp 17) (.tmp 20) _ rfl (w.heap.size + 1) 3 i0 _ 1 8 Tryd.underlying27 hi hz0 hz1 hz2 rfl (by decide) rfl (hown1.out.alloc _) rfl (src_one rfl) (by simp [Value.oneCell']) (by unfold maxLen; omega) (by omega) (by simp; omega) ?_)
  intro v2 w2 ho2 hg2 _
  have hx2 : Bx w cs 50 w2 := bx_grown (hx1.alloc _) (hown1.out.alloc _) hg2
  have hown2 := Lib.hid ho2
  have hlt2 := hx2.lt
  clear ho2 hg2
  go_wp2_with fail
  refine (bx_in120 x.op HX.out w2).mono ?_
  rintro e w' ⟨rfl, rfl⟩
  go_wp2_with (at_builtin; refine list_more rfl (.tmp 24) (.tmp 26) _ rfl (w.heap.size + 1) 3 i0 _ 1 8 Tryd.underlying27 hi hz0 hz1 hz2 rfl (by decide) rfl hown2.out rfl (HS.out _ hx2.below) H1.out (by unfold maxLen; omega) (by omega) (by omega) ?_)
  intro v3 w3 ho3 hg3 _
  have hx3 : Bx w cs 50 w3 := bx_grown hx2 hown2.out hg3
  have hown3 := Lib.hid ho3
  have hlt3 := hx3.lt
  clear ho3 hg3
  go_wp2_with fail
  go_ret
  refine ⟨_, rfl, ?_, hx3.below⟩
  rw [HG.out]
  exact OwnI.base (OwnI.of hown3.out (by first | (simp; done) | (simp; omega)) (by simp)) (by omega)

set_option maxRecDepth 100000 in
set_option maxHeartbeats 1000000 in
theorem ref_reads_100 (x : Ins) (w : World) (A : Option Addr) (c : Nat) (hI : InsCells w (fun k => k < w.heap.size) [.int .u8 x.op, .int .i64 x.d, .int .i64 x.a, .int .i64 x.b, .int .u32 x.n, .int .i64 x.f, .slice A x.args.length c, .int .i64 x.l1, .int .i64 x.l2] x A c) (_hl : x.args.length ≤ 2097152)
    (ha : (hasS x.op).contains 97 = true) (hb : (hasS x.op).contains 98 = false) (hx : (hasS x.op).contains 120 = false) :
    Calls Tryd.prog 34 #[.agg #[.int .u8 x.op, .int .i64 x.d, .int .i64 x.a, .int .i64 x.b, .int .u32 x.n, .int .i64 x.f, .slice A x.args.length c, .int .i64 x.l1, .int .i64 x.l2]] w fun e w' => ∃ v, e = .returned v ∧ OwnI w' w.heap.size v (readsC x) ∧ Below w.heap.size w w' := by
  obtain ⟨_, hop, _, _, _, _, _, _, _, hA⟩ := hI
  obtain ⟨h0, h255⟩ := wfI_u8 hop
  obtain ⟨i0, hi, hz0, hz1, hz2⟩ := info_parts int_info
  have HS := Lib.hid fun w' (h : Below w.heap.size w w') => ints_src hA w' h.block
  have H1 := Lib.hid (ints_one .i64 x.args)
  have HG : Hid (readsC x = [x.a]) := by
    show _ = _
    unfold readsC
    rw [ha, hb, hx]
    rfl
  have HA := Lib.hid ha
  have HB := Lib.hid hb
  have HX := Lib.hid hx
  clear hA ha hb hx
  obtain ⟨cs, hcs⟩ : ∃ cs : List Value, cs = [.int .u8 x.op, .int .i64 x.d, .int .i64 x.a, .int .i64 x.b, .int .u32 x.n, .int .i64 x.f, .slice A x.args.length c, .int .i64 x.l1, .int .i64 x.l2] := ⟨_, rfl⟩
  have q2 : ∀ w', Bx w cs 50 w' → w'.cell? ⟨w.heap.size, 2, none⟩ = some (.int .i64 x.a) := fun w' h => h.cell (by rw [hcs]; rfl)
  have q3 : ∀ w', Bx w cs 50 w' → w'.cell? ⟨w.heap.size, 3, none⟩ = some (.int .i64 x.b) := fun w' h => h.cell (by rw [hcs]; rfl)
  have q6 : ∀ w', Bx w cs 50 w' → w'.cell? ⟨w.heap.size, 6, none⟩ = some (.slice A x.args.length c) := fun w' h => h.cell (by rw [hcs]; rfl)
  have hstart : Hid (Bx w cs 50 (w.alloc (.cells #[.int .u8 x.op, .int .i64 x.d, .int .i64 x.a, .int .i64 x.b, .int .u32 x.n, .int .i64 x.f, .slice A x.args.length c, .int .i64 x.l1, .int .i64 x.l2] 50))) := by
    have h := Bx.refl (w0 := w) (cs := cs) (T := 50)
    rw [hcs] at h
    rw [hcs]
    exact h
  clear hcs
  go_enter Tryd.func34, Tryd.ntmps34
  go_wp2_with fail
  refine (bx_Has x.op h0 h255 hstart.out).mono ?_
  rintro e w1 ⟨rfl, hx1⟩
  have hown1 : Hid (w1.ownsRow (w.heap.size + 1) 3 1 (.slice none 0 0) 0 []) := World.ownsRow_nil _ _ _ _
  have hlt1 := hx1.lt
  clear hstart
  go_wp2_with fail
  refine (bx_in97 x.op HA.out w1).mono ?_
  rintro e w' ⟨rfl, rfl⟩
  go_wp2_with (at_builtin; refine list_more rfl (.tmp 10) (.tmp 13) _ rfl (w.heap.size + 1) 3 i0 _ 1 8 Tryd.underlying27 hi hz0 hz1 hz2 rfl (by decide) rfl (hown1.out.alloc _) rfl (src_one rfl) (by simp [Value.oneCell']) (by unfold maxLen; omega) (by omega) (by simp; omega) ?_)
  intro v2 w2 ho2 hg2 _
  have hx2 : Bx w cs 50 w2 := bx_grown (hx1.alloc _) (hown1.out.alloc _) hg2
  have hown2 := Lib.hid ho2
  have hlt2 := hx2.lt
  clear ho2 hg2
  go_wp2_with fail
  refine (bx_in98 x.op HB.out w2).mono ?_
  rintro e w' ⟨rfl, rfl⟩
  go_wp2_with fail
  refine (bx_in120 x.op HX.out w2).mono ?_
  rintro e w' ⟨rfl, rfl⟩
  go_wp2_with fail
  go_ret
  refine ⟨_, rfl, ?_, hx2.below⟩
  rw [HG.out]
  exact OwnI.base (OwnI.of hown2.out (by first | (simp; done) | (simp; omega)) (by simp)) (by omega)

set_option maxRecDepth 100000 in
set_option maxHeartbeats 1000000 in
theorem ref_reads_101 (x : Ins) (w : World) (A : Option Addr) (c : Nat) (hI : InsCells w (fun k => k < w.heap.size) [.int .u8 x.op, .int .i64 x.d, .int .i64 x.a, .int .i64 x.b, .int .u32 x.n, .int .i64 x.f, .slice A x.args.length c, .int .i64 x.l1, .int .i64 x.l2] x A c) (hl : x.args.length ≤ 2097152)
    (ha : (hasS x.op).contains 97 = true) (hb : (hasS x.op).contains 98 = false) (hx : (hasS x.op).contains 120 = true) :
    Calls Tryd.prog 34 #[.agg #[.int .u8 x.op, .int .i64 x.d, .int .i64 x.a, .int .i64 x.b, .int .u32 x.n, .int .i64 x.f, .slice A x.args.length c, .int .i64 x.l1, .int .i64 x.l2]] w fun e w' => ∃ v, e = .returned v ∧ OwnI w' w.heap.size v (readsC x) ∧ Below w.heap.size w w' := by
  obtain ⟨_, hop, _, _, _, _, _, _, _, hA⟩ := hI
  obtain ⟨h0, h255⟩ := wfI_u8 hop
  obtain ⟨i0, hi, hz0, hz1, hz2⟩ := info_parts int_info
  have HS := Lib.hid fun w' (h : Below w.heap.size w w') => ints_src hA w' h.block
  have H1 := Lib.hid (ints_one .i64 x.args)
  have HG : Hid (readsC x = [x.a] ++ x.args) := by
    show _ = _
    unfold readsC
    rw [ha, hb, hx]
    rfl
  have HA := Lib.hid ha
  have HB := Lib.hid hb
  have HX := Lib.hid hx
  clear hA ha hb hx
  obtain ⟨cs, hcs⟩ : ∃ cs : List Value, cs = [.int .u8 x.op, .int .i64 x.d, .int .i64 x.a, .int .i64 x.b, .int .u32 x.n, .int .i64 x.f, .slice A x.args.length c, .int .i64 x.l1, .int .i64 x.l2] := ⟨_, rfl⟩
  have q2 : ∀ w', Bx w cs 50 w' → w'.cell? ⟨w.heap.size, 2, none⟩ = some (.int .i64 x.a) := fun w' h => h.cell (by rw [hcs]; rfl)
  have q3 : ∀ w', Bx w cs 50 w' → w'.cell? ⟨w.heap.size, 3, none⟩ = some (.int .i64 x.b) := fun w' h => h.cell (by rw [hcs]; rfl)
  have q6 : ∀ w', Bx w cs 50 w' → w'.cell? ⟨w.heap.size, 6, none⟩ = some (.slice A x.args.length c) := fun w' h => h.cell (by rw [hcs]; rfl)
  have hstart : Hid (Bx w cs 50 (w.alloc (.cells #[.int .u8 x.op, .int .i64 x.d, .int .i64 x.a, .int .i64 x.b, .int .u32 x.n, .int .i64 x.f, .slice A x.args.length c, .int .i64 x.l1, .int .i64 x.l2] 50))) := by
    have h := Bx.refl (w0 := w) (cs := cs) (T := 50)
    rw [hcs] at h
    rw [hcs]
    exact h
  clear hcs
  go_enter Tryd.func34, Tryd.ntmps34
  go_wp2_with fail
  refine (bx_Has x.op h0 h255 hstart.out).mono ?_
  rintro e w1 ⟨rfl, hx1⟩
  have hown1 : Hid (w1.ownsRow (w.heap.size + 1) 3 1 (.slice none 0 0) 0 []) := World.ownsRow_nil _ _ _ _
  have hlt1 := hx1.lt
  clear hstart
  go_wp2_with fail
  refine (bx_in97 x.op HA.out w1).mono ?_
  rintro e w' ⟨rfl, rfl⟩
  go_wp2_with (at_builtin; refine list_more rfl (.tmp 10) (.tmp 13) _ rfl (w.heap.size + 1) 3 i0 _ 1 8 Tryd.underlying27 hi hz0 hz1 hz2 rfl (by decide) rfl (hown1.out.alloc _) rfl (src_one rfl) (by simp [Value.oneCell']) (by unfold maxLen; omega) (by omega) (by simp; omega) ?_)
  intro v2 w2 ho2 hg2 _
  have hx2 : Bx w cs 50 w2 := bx_grown (hx1.alloc _) (hown1.out.alloc _) hg2
  have hown2 := Lib.hid ho2
  have hlt2 := hx2.lt
  clear ho2 hg2
  go_wp2_with fail
  refine (bx_in98 x.op HB.out w2).mono ?_
  rintro e w' ⟨rfl, rfl⟩
  go_wp2_with fail
  refine (bx_in120 x.op HX.out w2).mono ?_
  rintro e w' ⟨rfl, rfl⟩
  go_wp2_with (at_builtin; refine list_more rfl (.tmp 24) (.tmp 26) _ rfl (w.heap.size + 1) 3 i0 _ 1 8 Tryd.underlying27 hi hz0 hz1 hz2 rfl (by decide) rfl hown2.out rfl (HS.out _ hx2.below) H1.out (by unfold maxLen; omega) (by omega) (by omega) ?_)
  intro v3 w3 ho3 hg3 _
  have hx3 : Bx w cs 50 w3 := bx_grown hx2 hown2.out hg3
  have hown3 := Lib.hid ho3
  have hlt3 := hx3.lt
  clear ho3 hg3
  go_wp2_with fail
  go_ret
  refine ⟨_, rfl, ?_, hx3.below⟩
  rw [HG.out]
  exact OwnI.base (OwnI.of hown3.out (by first | (simp; done) | (simp; omega)) (by simp)) (by omega)

set_option maxRecDepth 100000 in
set_option maxHeartbeats 1000000 in
theorem ref_reads_110 (x : Ins) (w : World) (A : Option Addr) (c : Nat) (hI : InsCells w (fun k => k < w.heap.size) [.int .u8 x.op, .int .i64 x.d, .int .i64 x.a, .int .i64 x.b, .int .u32 x.n, .int .i64 x.f, .slice A x.args.length c, .int .i64 x.l1, .int .i64 x.l2] x A c) (_hl : x.args.length ≤ 2097152)
    (ha : (hasS x.op).contains 97 = true) (hb : (hasS x.op).contains 98 = true) (hx : (hasS x.op).contains 120 = false) :
    Calls Tryd.prog 34 #[.agg #[.int .u8 x.op, .int .i64 x.d, .int .i64 x.a, .int .i64 x.b, .int .u32 x.n, .int .i64 x.f, .slice A x.args.length c, .int .i64 x.l1, .int .i64 x.l2]] w fun e w' => ∃ v, e = .returned v ∧ OwnI w' w.heap.size v (readsC x) ∧ Below w.heap.size w w' := by
  obtain ⟨_, hop, _, _, _, _, _, _, _, hA⟩ := hI
  obtain ⟨h0, h255⟩ := wfI_u8 hop
  obtain ⟨i0, hi, hz0, hz1, hz2⟩ := info_parts int_info
  have HS := Lib.hid fun w' (h : Below w.heap.size w w') => ints_src hA w' h.block
  have H1 := Lib.hid (ints_one .i64 x.args)
  have HG : Hid (readsC x = [x.a] ++ [x.b]) := by
    show _ = _
    unfold readsC
    rw [ha, hb, hx]
    rfl
  have HA := Lib.hid ha
  have HB := Lib.hid hb
  have HX := Lib.hid hx
  clear hA ha hb hx
  obtain ⟨cs, hcs⟩ : ∃ cs : List Value, cs = [.int .u8 x.op, .int .i64 x.d, .int .i64 x.a, .int .i64 x.b, .int .u32 x.n, .int .i64 x.f, .slice A x.args.length c, .int .i64 x.l1, .int .i64 x.l2] := ⟨_, rfl⟩
  have q2 : ∀ w', Bx w cs 50 w' → w'.cell? ⟨w.heap.size, 2, none⟩ = some (.int .i64 x.a) := fun w' h => h.cell (by rw [hcs]; rfl)
  have q3 : ∀ w', Bx w cs 50 w' → w'.cell? ⟨w.heap.size, 3, none⟩ = some (.int .i64 x.b) := fun w' h => h.cell (by rw [hcs]; rfl)
  have q6 : ∀ w', Bx w cs 50 w' → w'.cell? ⟨w.heap.size, 6, none⟩ = some (.slice A x.args.length c) := fun w' h => h.cell (by rw [hcs]; rfl)
  have hstart : Hid (Bx w cs 50 (w.alloc (.cells #[.int .u8 x.op, .int .i64 x.d, .int .i64 x.a, .int .i64 x.b, .int .u32 x.n, .int .i64 x.f, .slice A x.args.length c, .int .i64 x.l1, .int .i64 x.l2] 50))) := by
    have h := Bx.refl (w0 := w) (cs := cs) (T := 50)
    rw [hcs] at h
    rw [hcs]
    exact h
  clear hcs
  go_enter Tryd.func34, Tryd.ntmps34
  go_wp2_with fail
  refine (bx_Has x.op h0 h255 hstart.out).mono ?_
  rintro e w1 ⟨rfl, hx1⟩
  have hown1 : Hid (w1.ownsRow (w.heap.size + 1) 3 1 (.slice none 0 0) 0 []) := World.ownsRow_nil _ _ _ _
  have hlt1 := hx1.lt
  clear hstart
  go_wp2_with fail
  refine (bx_in97 x.op HA.out w1).mono ?_
  rintro e w' ⟨rfl, rfl⟩
  go_wp2_with (at_builtin; refine list_more rfl (.tmp 10) (.tmp 13) _ rfl (w.heap.size + 1) 3 i0 _ 1 8 Tryd.underlying27 hi hz0 hz1 hz2 rfl (by decide) rfl (hown1.out.alloc _) rfl (src_one rfl) (by simp [Value.oneCell']) (by unfold maxLen; omega) (by omega) (by simp; omega) ?_)
  intro v2 w2 ho2 hg2 _
  have hx2 : Bx w cs 50 w2 := bx_grown (hx1.alloc _) (hown1.out.alloc _) hg2
  have hown2 := Lib.hid ho2
  have hlt2 := hx2.lt
  clear ho2 hg2
  go_wp2_with fail
  refine (bx_in98 x.op HB.out w2).mono ?_
  rintro e w' ⟨rfl, rfl⟩
  go_wp2_with (at_builtin; refine list_more rfl (.tmp 17) (.tmp 20) _ rfl (w.heap.size + 1) 3 i0 _ 1 8 Tryd.underlying27 hi hz0 hz1 hz2 rfl (by decide) rfl (hown2.out.alloc _) rfl (src_one rfl) (by simp [Value.oneCell']) (by unfold maxLen; omega) (by omega) (by simp; omega) ?_)
  intro v3 w3 ho3 hg3 _
  have hx3 : Bx w cs 50 w3 := bx_grown (hx2.alloc _) (hown2.out.alloc _) hg3
  have hown3 := Lib.hid ho3
  have hlt3 := hx3.lt
  clear ho3 hg3
  go_wp2_with fail
  refine (bx_in120 x.op HX.out w3).mono ?_
  rintro e w' ⟨rfl, rfl⟩
  go_wp2_with fail
  go_ret
  refine ⟨_, rfl, ?_, hx3.below⟩
  rw [HG.out]
  exact OwnI.base (OwnI.of hown3.out (by first | (simp; done) | (simp; omega)) (by simp)) (by omega)

set_option maxRecDepth 100000 in
set_option maxHeartbeats 1000000 in
theorem ref_reads_111 (x : Ins) (w : World) (A : Option Addr) (c : Nat) (hI : InsCells w (fun k => k < w.heap.size) [.int .u8 x.op, .int .i64 x.d, .int .i64 x.a, .int .i64 x.b, .int .u32 x.n, .int .i64 x.f, .slice A x.args.length c, .int .i64 x.l1, .int .i64 x.l2] x A c) (hl : x.args.length ≤ 2097152)
    (ha : (hasS x.op).contains 97 = true) (hb : (hasS x.op).contains 98 = true) (hx : (hasS x.op).contains 120 = true) :
    Calls Tryd.prog 34 #[.agg #[.int .u8 x.op, .int .i64 x.d, .int .i64 x.a, .int .i64 x.b, .int .u32 x.n, .int .i64 x.f, .slice A x.args.length c, .int .i64 x.l1, .int .i64 x.l2]] w fun e w' => ∃ v, e = .returned v ∧ OwnI w' w.heap.size v (readsC x) ∧ Below w.heap.size w w' := by
  obtain ⟨_, hop, _, _, _, _, _, _, _, hA⟩ := hI
  obtain ⟨h0, h255⟩ := wfI_u8 hop
  obtain ⟨i0, hi, hz0, hz1, hz2⟩ := info_parts int_info
  have HS := Lib.hid fun w' (h : Below w.heap.size w w') => ints_src hA w' h.block
  have H1 := Lib.hid (ints_one .i64 x.args)
  have HG : Hid (readsC x = [x.a] ++ [x.b] ++ x.args) := by
    show _ = _
    unfold readsC
    rw [ha, hb, hx]
    rfl
  have HA := Lib.hid ha
  have HB := Lib.hid hb
  have HX := Lib.hid hx
  clear hA ha hb hx
  obtain ⟨cs, hcs⟩ : ∃ cs : List Value, cs = [.int .u8 x.op, .int .i64 x.d, .int .i64 x.a, .int .i64 x.b, .int .u32 x.n, .int .i64 x.f, .slice A x.args.length c, .int .i64 x.l1, .int .i64 x.l2] := ⟨_, rfl⟩
  have q2 : ∀ w', Bx w cs 50 w' → w'.cell? ⟨w.heap.size, 2, none⟩ = some (.int .i64 x.a) := fun w' h => h.cell (by rw [hcs]; rfl)
  have q3 : ∀ w', Bx w cs 50 w' → w'.cell? ⟨w.heap.size, 3, none⟩ = some (.int .i64 x.b) := fun w' h => h.cell (by rw [hcs]; rfl)
  have q6 : ∀ w', Bx w cs 50 w' → w'.cell? ⟨w.heap.size, 6, none⟩ = some (.slice A x.args.length c) := fun w' h => h.cell (by rw [hcs]; rfl)
  have hstart : Hid (Bx w cs 50 (w.alloc (.cells #[.int .u8 x.op, .int .i64 x.d, .int .i64 x.a, .int .i64 x.b, .int .u32 x.n, .int .i64 x.f, .slice A x.args.length c, .int .i64 x.l1, .int .i64 x.l2] 50))) := by
    have h := Bx.refl (w0 := w) (cs := cs) (T := 50)
    rw [hcs] at h
    rw [hcs]
    exact h
  clear hcs
  go_enter Tryd.func34, Tryd.ntmps34
  go_wp2_with fail
  refine (bx_Has x.op h0 h255 hstart.out).mono ?_
  rintro e w1 ⟨rfl, hx1⟩
  have hown1 : Hid (w1.ownsRow (w.heap.size + 1) 3 1 (.slice none 0 0) 0 []) := World.ownsRow_nil _ _ _ _
  have hlt1 := hx1.lt
  clear hstart
  go_wp2_with fail
  refine (bx_in97 x.op HA.out w1).mono ?_
  rintro e w' ⟨rfl, rfl⟩
  go_wp2_with (at_builtin; refine list_more rfl (.tmp 10) (.tmp 13) _ rfl (w.heap.size + 1) 3 i0 _ 1 8 Tryd.underlying27 hi hz0 hz1 hz2 rfl (by decide) rfl (hown1.out.alloc _) rfl (src_one rfl) (by simp [Value.oneCell']) (by unfold maxLen; omega) (by omega) (by simp; omega) ?_)
  intro v2 w2 ho2 hg2 _
  have hx2 : Bx w cs 50 w2 := bx_grown (hx1.alloc _) (hown1.out.alloc _) hg2
  have hown2 := Lib.hid ho2
  have hlt2 := hx2.lt
  clear ho2 hg2
  go_wp2_with fail
  refine (bx_in98 x.op HB.out w2).mono ?_
  rintro e w' ⟨rfl, rfl⟩
  go_wp2_with (at_builtin; refine list_more rfl (.tmp 17) (.tmp 20) _ rfl (w.heap.size + 1) 3 i0 _ 1 8 Tryd.underlying27 hi hz0 hz1 hz2 rfl (by decide) rfl (hown2.out.alloc _) rfl (src_one rfl) (by simp [Value.oneCell']) (by unfold maxLen; omega) (by omega) (by simp; omega) ?_)
  intro v3 w3 ho3 hg3 _
  have hx3 : Bx w cs 50 w3 := bx_grown (hx2.alloc _) (hown2.out.alloc _) hg3
  have hown3 := Lib.hid ho3
  have hlt3 := hx3.lt
  clear ho3 hg3
  go_wp2_with fail
  refine (bx_in120 x.op HX.out w3).mono ?_
  rintro e w' ⟨rfl, rfl⟩
  go_wp2_with (at_builtin; refine list_more rfl (.tmp 24) (.tmp 26) _ rfl (w.heap.size + 1) 3 i0 _ 1 8 Tryd.underlying27 hi hz0 hz1 hz2 rfl (by decide) rfl hown3.out rfl (HS.out _ hx3.below) H1.out (by unfold maxLen; omega) (by omega) (by omega) ?_)
  intro v4 w4 ho4 hg4 _
  have hx4 : Bx w cs 50 w4 := bx_grown hx3 hown3.out hg4
  have hown4 := Lib.hid ho4
  have hlt4 := hx4.lt
  clear ho4 hg4
  go_wp2_with fail
  go_ret
  refine ⟨_, rfl, ?_, hx4.below⟩
  rw [HG.out]
  exact OwnI.base (OwnI.of hown4.out (by first | (simp; done) | (simp; omega)) (by simp)) (by omega)

theorem ref_reads (x : Ins) (w : World) (cs : List Value) (hR : tIns.R w w.heap.size cs x) (hl : x.args.length ≤ 2097152) :
    Calls Tryd.prog 34 #[.agg cs.toArray] w fun e w' => ∃ v, e = .returned v ∧ OwnI w' w.heap.size v (readsC x) ∧ Below w.heap.size w w' := by
  obtain ⟨A, c, hI⟩ := tIns_R.1 hR
  have e := hI.cs
  subst e
  rcases ha : (hasS x.op).contains 97 with _ | _ <;> rcases hb : (hasS x.op).contains 98 with _ | _ <;> rcases hx : (hasS x.op).contains 120 with _ | _
  · exact ref_reads_000 x w A c hI hl ha hb hx
  · exact ref_reads_001 x w A c hI hl ha hb hx
  · exact ref_reads_010 x w A c hI hl ha hb hx
  · exact ref_reads_011 x w A c hI hl ha hb hx
  · exact ref_reads_100 x w A c hI hl ha hb hx
  · exact ref_reads_101 x w A c hI hl ha hb hx
  · exact ref_reads_110 x w A c hI hl ha hb hx
  · exact ref_reads_111 x w A c hI hl ha hb hx
end Mu
end
section
/-
  muntinref14.Writes; shape.Reads, shape.Writes, walked.
  Conditions: an instruction's arguments are at most 2^21.
-/
namespace Mu
open Go Go.RowKit Go.Proofs

/-- the register that is written, and whether one is -/
def writesV (x : Ins) : Value := if writesB x then .tuple #[.int .i64 x.d, .bool true] else .tuple #[.int .i64 0, .bool false]
theorem writesV_yes {x : Ins} (h : writesB x = true) : writesV x = .tuple #[.int .i64 x.d, .bool true] := by unfold writesV; rw [if_pos h]
theorem writesV_no {x : Ins} (h : writesB x = false) : writesV x = .tuple #[.int .i64 0, .bool false] := by unfold writesV; rw [if_neg (by simp [h])]

set_option maxHeartbeats 1000000 in
theorem ref_writes (x : Ins) (w : World) (cs : List Value) (hR : tIns.R w w.heap.size cs x) :
    Calls Tryd.prog 35 #[.agg cs.toArray] w fun e w' => e = .returned (writesV x) ∧ Below w.heap.size w w' := by
  obtain ⟨A, c, hI⟩ := tIns_R.1 hR
  obtain ⟨rfl, hop, _, _, _, _, _, _, _, _⟩ := hI
  obtain ⟨h0, h255⟩ := wfI_u8 hop
  obtain ⟨cs, hcs⟩ : ∃ cs : List Value, cs = [.int .u8 x.op, .int .i64 x.d, .int .i64 x.a, .int .i64 x.b, .int .u32 x.n, .int .i64 x.f, .slice A x.args.length c, .int .i64 x.l1, .int .i64 x.l2] := ⟨_, rfl⟩
  have q1 : ∀ w', Bx w cs 50 w' → w'.cell? ⟨w.heap.size, 1, none⟩ = some (.int .i64 x.d) := fun w' h => h.cell (by rw [hcs]; rfl)
  have hstart : Hid (Bx w cs 50 (w.alloc (.cells #[.int .u8 x.op, .int .i64 x.d, .int .i64 x.a, .int .i64 x.b, .int .u32 x.n, .int .i64 x.f, .slice A x.args.length c, .int .i64 x.l1, .int .i64 x.l2] 50))) := by
    have h := Bx.refl (w0 := w) (cs := cs) (T := 50)
    rw [hcs] at h
    rw [hcs]
    exact h
  clear hcs hR
  rcases hq : writesB x with _ | _
  · have HQ := Lib.hid hq
    clear hq
    go_enter Tryd.func35, Tryd.ntmps35
    go_wp2_with fail
    refine (bx_Has x.op h0 h255 hstart.out).mono ?_
    rintro e w1 ⟨rfl, hx1⟩
    go_wp2_with fail
    refine (bx_in100 x.op HQ.out w1).mono ?_
    rintro e w' ⟨rfl, rfl⟩
    go_wp2_with fail
    go_ret2
    exact ⟨by rw [writesV_no HQ.out]; rfl, hx1.below⟩
  · have HQ := Lib.hid hq
    clear hq
    go_enter Tryd.func35, Tryd.ntmps35
    go_wp2_with fail
    refine (bx_Has x.op h0 h255 hstart.out).mono ?_
    rintro e w1 ⟨rfl, hx1⟩
    go_wp2_with fail
    refine (bx_in100 x.op HQ.out w1).mono ?_
    rintro e w' ⟨rfl, rfl⟩
    go_wp2_with fail
    go_ret2
    exact ⟨by rw [writesV_yes HQ.out]; rfl, hx1.below⟩

set_option maxHeartbeats 2000000 in
theorem shape_writes (x : Ins) (w : World) (cs : List Value) (hR : tIns.R w w.heap.size cs x) :
    Calls Tryd.prog 22 #[.agg cs.toArray] w fun e w' => e = .returned (writesV x) ∧ Below w.heap.size w w' := by
  obtain ⟨A, c, hI⟩ := tIns_R.1 hR
  obtain ⟨rfl, hop, _, _, _, _, _, _, _, _⟩ := hI
  obtain ⟨h0, h255⟩ := wfI_u8 hop
  clear hR
  have hc : (x.op = 0 ∨ x.op = 1 ∨ x.op = 2 ∨ x.op = 3 ∨ x.op = 5) ∨ (x.op ≠ 0 ∧ x.op ≠ 1 ∧ x.op ≠ 2 ∧ x.op ≠ 3 ∧ x.op ≠ 5) := by omega
  rcases hc with hc | ⟨n0, n1, n2, n3, n5⟩
  · have HQ : Hid (writesB x = true) := by
      show _ = _
      unfold writesB hasS
      rcases hc with h | h | h | h | h <;> rw [h] <;> decide
    rcases hc with h | h | h | h | h
    all_goals
      rw [h]
      go_enter Tryd.func22, Tryd.ntmps22
      go_wp2_with fail
      go_ret2
      exact ⟨by rw [writesV_yes HQ.out]; rfl, (Below.refl _ _).alloc (Nat.le_refl _) _⟩
  · have HQ : Hid (writesB x = false) := by
      show _ = _
      unfold writesB hasS
      rw [if_neg n0, if_neg n1, if_neg n2, if_neg n3]
      by_cases h4 : x.op = 4
      · rw [h4]; decide
      · rw [if_neg h4, if_neg n5]
        repeat' split
        all_goals decide
    have e0 : (x.op == 0) = false := beq_eq_false_iff_ne.2 n0
    have e1 : (x.op == 1) = false := beq_eq_false_iff_ne.2 n1
    have e2 : (x.op == 2) = false := beq_eq_false_iff_ne.2 n2
    have e3 : (x.op == 3) = false := beq_eq_false_iff_ne.2 n3
    have e5 : (x.op == 5) = false := beq_eq_false_iff_ne.2 n5
    clear n0 n1 n2 n3 n5
    go_enter Tryd.func22, Tryd.ntmps22
    go_wp2_with fail
    go_ret2
    exact ⟨by rw [writesV_no HQ.out]; rfl, (Below.refl _ _).alloc (Nat.le_refl _) _⟩

theorem one_row (w : World) (o : Obj) (a : Value) : ((w.alloc o).alloc (.cells #[a] 3)).ownsRow (w.heap.size + 1) 3 1 (.slice (some ⟨w.heap.size + 1, 0, none⟩) 1 1) 1 [a] := by
  have h := heap_alloc_new (w.alloc o) (.cells #[a] 3)
  rw [show (w.alloc o).heap.size = w.heap.size + 1 from by simp] at h
  exact row_lit (cs := [a]) h (Nat.le_refl _) rfl one_max
theorem two_rows (w : World) (o : Obj) (a b : Value) : (((w.alloc o).alloc (.cells #[b] 3)).alloc (.cells #[a] 3)).ownsRow (w.heap.size + 1) 3 1 (.slice (some ⟨w.heap.size + 1 + 1, 0, none⟩) 1 1) 1 [a] ∧
    Src (((w.alloc o).alloc (.cells #[b] 3)).alloc (.cells #[a] 3)) 1 (some ⟨w.heap.size + 1, 0, none⟩) 1 [b] := by
  have h := heap_alloc_new ((w.alloc o).alloc (.cells #[b] 3)) (.cells #[a] 3)
  rw [show ((w.alloc o).alloc (.cells #[b] 3)).heap.size = w.heap.size + 1 + 1 from by simp] at h
  have h2 := heap_alloc_new (w.alloc o) (.cells #[b] 3)
  rw [show (w.alloc o).heap.size = w.heap.size + 1 from by simp] at h2
  exact ⟨row_lit (cs := [a]) h (by omega) rfl one_max, src_row (cs := #[b]) (box_alloc h2 _) rfl⟩

set_option maxRecDepth 100000 in
set_option maxHeartbeats 2000000 in
theorem shape_reads (x : Ins) (w : World) (cs : List Value) (hR : tIns.R w w.heap.size cs x) (hl : x.args.length ≤ 2097152) :
    Calls Tryd.prog 21 #[.agg cs.toArray] w fun e w' => ∃ v, e = .returned v ∧ OwnI w' w.heap.size v (readsC x) ∧ Below w.heap.size w w' := by
  obtain ⟨A, c, hI⟩ := tIns_R.1 hR
  obtain ⟨rfl, hop, _, _, _, _, _, _, _, hA⟩ := hI
  obtain ⟨h0, h255⟩ := wfI_u8 hop
  obtain ⟨i0, hi, hz0, hz1, hz2⟩ := info_parts int_info
  have hb0 : Hid (Below w.heap.size w (w.alloc (.cells #[.int .u8 x.op, .int .i64 x.d, .int .i64 x.a, .int .i64 x.b, .int .u32 x.n, .int .i64 x.f, .slice A x.args.length c, .int .i64 x.l1, .int .i64 x.l2] 50))) := (Below.refl _ _).alloc (Nat.le_refl _) _
  have HA : Hid (tInt.slice.R (w.alloc (.cells #[.int .u8 x.op, .int .i64 x.d, .int .i64 x.a, .int .i64 x.b, .int .u32 x.n, .int .i64 x.f, .slice A x.args.length c, .int .i64 x.l1, .int .i64 x.l2] 50)) (w.alloc (.cells #[.int .u8 x.op, .int .i64 x.d, .int .i64 x.a, .int .i64 x.b, .int .u32 x.n, .int .i64 x.f, .slice A x.args.length c, .int .i64 x.l1, .int .i64 x.l2] 50)).heap.size [.slice A x.args.length c] x.args) := Ty.below hA hb0.out hb0.out.size
  clear hR hA
  have hc : (x.op = 1 ∨ x.op = 4) ∨ (x.op = 2 ∨ x.op = 3 ∨ x.op = 6 ∨ x.op = 9 ∨ x.op = 10) ∨ x.op = 5 ∨ (x.op = 0 ∨ x.op = 7 ∨ x.op = 8) ∨ 11 ≤ x.op := by omega
  rcases hc with hc | hc | hc | hc | hc
  · have HQ : Hid (readsC x = [x.a, x.b]) := by
      show _ = _
      unfold readsC hasS
      rcases hc with h | h <;> rw [h] <;> rfl
    rcases hc with h | h
    all_goals
      rw [h] at hb0 HA ⊢
      go_enter Tryd.func21, Tryd.ntmps21
      go_wp2_with (at_builtin; refine list_more rfl (.tmp 22) (.tmp 23) _ rfl (w.heap.size + 1) 3 i0 _ 1 8 Tryd.underlying27 hi hz0 hz1 hz2 rfl (by decide) rfl (two_rows _ _ _ _).1 rfl (two_rows _ _ _ _).2 (by simp [Value.oneCell']) (by unfold maxLen; omega) (by omega) (by simp) ?_)
      intro v2 w2 ho2 hg2 _
      have hbn : Hid (Below w.heap.size w w2) := ((hb0.out.alloc (by simp) _).alloc (by simp; omega) _).grown hg2 (by simp; omega) (fun q hq => by simp [Value.ownBlock] at hq; omega)
      have HO := Lib.hid ho2
      clear ho2 hg2
      go_wp2_with fail
      go_ret
      exact ⟨_, rfl, by rw [HQ.out]; exact OwnI.base (OwnI.of HO.out rfl rfl) (by omega), hbn.out⟩
  · have HQ : Hid (readsC x = [x.a]) := by
      show _ = _
      unfold readsC hasS
      rcases hc with h | h | h | h | h <;> rw [h] <;> rfl
    rcases hc with h | h | h | h | h
    all_goals
      rw [h] at hb0 HA ⊢
      go_enter Tryd.func21, Tryd.ntmps21
      have hbn : Hid (Below w.heap.size w _) := hb0.out.alloc (by simp) (.cells #[.int .i64 x.a] 3)
      go_wp2_with fail
      go_ret
      exact ⟨_, rfl, by rw [HQ.out]; exact OwnI.base (OwnI.of (one_row _ _ _) rfl rfl) (by omega), hbn.out⟩
  · have HQ : Hid (readsC x = x.args) := by
      show _ = _
      unfold readsC hasS
      rw [hc]
      rfl
    rw [hc] at hb0 HA ⊢
    go_enter Tryd.func21, Tryd.ntmps21
    go_wp2_with fail
    refine (clone_any HA.out (by omega)).mono ?_
    rintro e w1 ⟨v, rfl, ho, hb⟩
    have HO := Lib.hid ho
    have HB := Lib.hid hb
    clear ho hb
    go_wp2_with fail
    go_ret
    exact ⟨_, rfl, by rw [HQ.out]; exact HO.out.base (by simp), hb0.out.trans (HB.out.mono hb0.out.size)⟩
  · have HQ : Hid (readsC x = []) := by
      show _ = _
      unfold readsC hasS
      rcases hc with h | h | h <;> rw [h] <;> rfl
    rcases hc with h | h | h
    all_goals
      rw [h] at hb0 HA ⊢
      go_enter Tryd.func21, Tryd.ntmps21
      go_wp2_with fail
      go_ret
      exact ⟨_, rfl, by rw [HQ.out]; exact OwnI.nil _ _, hb0.out⟩
  · have HQ : Hid (readsC x = []) := by
      show _ = _
      have e : hasS x.op = [] := by
        unfold hasS
        repeat rw [if_neg (by omega)]
      unfold readsC
      rw [e]
      rfl
    have e1 : (x.op == 1) = false := beq_eq_false_iff_ne.2 (by omega)
    have e2 : (x.op == 2) = false := beq_eq_false_iff_ne.2 (by omega)
    have e3 : (x.op == 3) = false := beq_eq_false_iff_ne.2 (by omega)
    have e4 : (x.op == 4) = false := beq_eq_false_iff_ne.2 (by omega)
    have e5 : (x.op == 5) = false := beq_eq_false_iff_ne.2 (by omega)
    have e6 : (x.op == 6) = false := beq_eq_false_iff_ne.2 (by omega)
    have e9 : (x.op == 9) = false := beq_eq_false_iff_ne.2 (by omega)
    have e10 : (x.op == 10) = false := beq_eq_false_iff_ne.2 (by omega)
    go_enter Tryd.func21, Tryd.ntmps21
    go_wp2_with fail
    go_ret
    exact ⟨_, rfl, by rw [HQ.out]; exact OwnI.nil _ _, hb0.out⟩
end Mu
end
section
/-
  muntinref14.SameInts, and the searches of a row for a number, walked.
  Conditions: the rows have at most 2^21 numbers.
-/
namespace Mu
open Go Go.RowKit Go.Proofs

theorem same_no {xs ys : List Int} {j : Nat} {x y : Int} (hx : xs[j]? = some x) (hy : ys[j]? = some y) (h : x ≠ y) : false = decide (xs = ys) := by
  symm
  rw [decide_eq_false_iff_not]
  rintro rfl
  rw [hx] at hy
  injection hy with hy
  exact h hy
theorem same_step {xs ys : List Int} {j : Nat} {x y : Int} (hx : xs[j]? = some x) (hy : ys[j]? = some y) (h : x = y) (hs : xs.take j = ys.take j) : Hid (xs.take (j + 1) = ys.take (j + 1)) := by
  show _ = _
  rw [List.take_add_one, List.take_add_one, hx, hy, h, hs]
theorem far {B : Nat} {w wr : World} (h : Below B w wr) : ∀ a : Addr, a.block < B → wr.cell? a = w.cell? a := fun _ ha => h.cell ha

set_option maxRecDepth 100000 in
set_option maxHeartbeats 1000000 in
theorem ref_same (xs ys : List Int) (va vb : Value) (w : World) (hA : tInt.slice.R w w.heap.size [va] xs) (hB : tInt.slice.R w w.heap.size [vb] ys) (hx : xs.length ≤ 2097152) :
    Calls Tryd.prog 18 #[va, vb] w fun e w' => e = .returned (.bool (decide (xs = ys))) ∧ Below w.heap.size w w' := by
  obtain ⟨A, c, rfl⟩ := slice_form hA
  obtain ⟨A', c', rfl⟩ := slice_form hB
  have HA := Lib.hid hA
  have HB := Lib.hid hB
  clear hA hB
  by_cases hl : xs.length = ys.length
  · have dl : ((xs.length : Int) != (ys.length : Int)) = false := by simp [hl]
    have HL := Lib.hid hl
    clear hl
    go_enter Tryd.func18, Tryd.ntmps18
    go_wp2
    go_loopw [5] (fun i wr => ∃ j : Nat, j ≤ xs.length ∧ i = .int .i64 j ∧ Hid (xs.take j = ys.take j) ∧ Below w.heap.size w wr) (fun i _ => xs.length - (RowKit.intOf i).toNat)
    case atStart => exact ⟨0, Nat.zero_le _, rfl, rfl, Below.refl _ _⟩
    case round =>
      obtain ⟨j, hj, rfl, hs, hbe⟩ := hrel
      have HBE := Lib.hid hbe
      have hfar := far hbe
      clear hbe
      by_cases hlt : j < xs.length
      · obtain ⟨x, hx1⟩ : ∃ x, xs[j]? = some x := ⟨_, List.getElem?_eq_getElem hlt⟩
        obtain ⟨y, hy1⟩ : ∃ y, ys[j]? = some y := ⟨_, List.getElem?_eq_getElem (by have := HL.out; omega)⟩
        obtain ⟨b1, o1, rfl, hb1, e1, _⟩ := int_at HA.out hx1
        obtain ⟨b2, o2, rfl, hb2, e2, _⟩ := int_at HB.out hy1
        have hlt2 : j < ys.length := by have := HL.out; omega
        have HX := Lib.hid hx1
        have HY := Lib.hid hy1
        clear hx1 hy1
        by_cases hxy : x = y
        · have d : (x != y) = false := by simp [hxy]
          have HXY := Lib.hid hxy
          clear hxy
          go_wp2
          go_quiet (fail)
          go_wp2
          go_roundw
          case rel => exact ⟨j + 1, by omega, by go_num, same_step HX.out HY.out HXY.out hs.out, bdrew HBE.out _⟩
          case measure => simp [RowKit.intOf]; omega
        · have d : (x != y) = true := by simp [hxy]
          have HXY := Lib.hid hxy
          clear hxy
          go_wp2
          go_quiet (fail)
          go_wp2
          go_ret
          exact ⟨ret_bool (same_no HX.out HY.out HXY.out), bdrew HBE.out _⟩
      · obtain rfl : j = xs.length := by omega
        go_wp2
        go_ret
        have hs' := hs.out
        rw [List.take_length, HL.out, List.take_length] at hs'
        exact ⟨ret_bool (by simp [hs']), HBE.out⟩
  · have dl : ((xs.length : Int) != (ys.length : Int)) = true := by simp; omega
    have HL := Lib.hid hl
    clear hl
    go_enter Tryd.func18, Tryd.ntmps18
    go_wp2
    go_ret
    exact ⟨ret_bool (by symm; rw [decide_eq_false_iff_not]; rintro rfl; exact HL.out rfl), Below.refl _ _⟩

theorem in_step {xs : List Int} {j : Nat} {x n : Int} (hx : xs[j]? = some x) (h : ¬ x = n) (hs : (xs.take j).contains n = false) : Hid ((xs.take (j + 1)).contains n = false) := by
  show _ = _
  rw [List.contains_eq_any_beq] at hs ⊢
  rw [List.take_add_one, hx, List.any_append, hs]
  simpa using fun e => h e.symm
theorem in_yes {xs : List Int} {j : Nat} {x n : Int} (hx : xs[j]? = some x) (h : x = n) : true = xs.contains n := by
  subst h
  simpa using (List.mem_of_getElem? hx)

end Mu
end
section
/-
  Where one goes from a block: plain.
  Conditions: none.
-/
namespace Mu
open Go

/-- a block's number -/
abbrev Blk (f : Func) := { k : Nat // k < f.blocks.length }
def toBlk (f : Func) (k : Int) : Option (Blk f) := if h : 0 ≤ k ∧ k < f.blocks.length then some ⟨k.toNat, by omega⟩ else none
def filtB (f : Func) (l : List Int) : List (Blk f) := l.filterMap (toBlk f)
/-- the ways behind an instruction, whether they are there or not -/
def rawWays (x : Ins) : List Int := if x.op = 9 then [x.l1, if x.l2 = x.l1 then -1 else x.l2] else if x.op = 8 then [x.l1, -1] else []
def nextB (f : Func) (b : Block) : List (Blk f) :=
  match b.ins.getLast? with
  | none => []
  | some x => filtB f (rawWays x)
def nextS (f : Func) (b : Int) : List (Blk f) :=
  if 0 ≤ b then
    match f.blocks[b.toNat]? with
    | none => []
    | some bl => nextB f bl
  else []
theorem toBlk_yes {f : Func} {m : Nat} (h : m < f.blocks.length) : toBlk f (m : Int) = some ⟨m, h⟩ := by
  unfold toBlk
  rw [dif_pos ⟨by omega, by omega⟩]
  simp
theorem toBlk_no {f : Func} {k : Int} (h : ¬ (0 ≤ k ∧ k < f.blocks.length)) : toBlk f k = none := by
  unfold toBlk
  rw [dif_neg h]
theorem rawWays_len (x : Ins) : (rawWays x).length ≤ 2 := by
  unfold rawWays
  repeat' split
  all_goals simp
theorem filtB_len (f : Func) (l : List Int) : (filtB f l).length ≤ l.length := List.length_filterMap_le _ _
theorem nextB_len (f : Func) (b : Block) : (nextB f b).length ≤ 2 := by
  unfold nextB
  split
  · simp
  · exact Nat.le_trans (filtB_len _ _) (rawWays_len _)
theorem nextS_len (f : Func) (b : Int) : (nextS f b).length ≤ 2 := by
  unfold nextS
  repeat' split
  · simp
  · exact nextB_len _ _
  · simp
end Mu
end
section
/-
  flow.goes, the iterator over where one goes from a block: its contract.
  Conditions: the function's blocks lie where the rounds leave them as they are.
-/
namespace Mu
open Go Go.RowKit Go.Proofs Go.Shelf
attribute [local go_sem] Oper.semAt_some

/-- some blocks lie as they lay -/
structure KS (S : Nat → Prop) (W W' : World) : Prop where
  size : W.heap.size ≤ W'.heap.size
  block : ∀ k, S k → W'.heap[k]? = W.heap[k]?
theorem KS.refl {S : Nat → Prop} {W : World} : KS S W W := ⟨Nat.le_refl _, fun _ _ => rfl⟩
theorem KS.trans {S : Nat → Prop} {A B C : World} (h : KS S A B) (k : KS S B C) : KS S A C := ⟨Nat.le_trans h.size k.size, fun i hi => (k.block i hi).trans (h.block i hi)⟩
theorem KS.cell {S : Nat → Prop} {W W' : World} (h : KS S W W') {a : Addr} {v : Value} (ha : S a.block) (hc : W.cell? a = some v) : W'.cell? a = some v := (World.cell?_of_block (h.block a.block ha)).trans hc
theorem KS.alloc {S : Nat → Prop} {W W' : World} (h : KS S W W') (hS : ∀ k, S k → k < W'.heap.size) (o : Obj) : KS S W (W'.alloc o) := ⟨by have := h.size; simp; omega, fun k hk => (Below.heap_alloc _ _ _ (hS k hk)).trans (h.block k hk)⟩

/-- what the iterator reads: the function's box, the number's box, the block -/
structure GoesAt (W : World) (S : Nat → Prop) (f : Func) (bi : Int) (Bf Bb : Nat) : Prop where
  fS : S Bf
  f3 : ∃ A c, W.cell? ⟨Bf, 3, none⟩ = some (.slice A f.blocks.length c) ∧ tBlock.slice.RS W S [.slice A f.blocks.length c] f.blocks
  bS : S Bb
  b0 : W.cell? ⟨Bb, 0, none⟩ = some (.int .i64 bi)
  len : f.blocks.length ≤ 2097152
  ins : ∀ b ∈ f.blocks, b.ins.length ≤ 2097152

theorem abides_alloc {β : Type} {B : Nat} {J : List β → World → Prop} (hJ : AbidesFrom B J) {s : List β} {A : World} (h : J s A) (o : Obj) : J s (A.alloc o) := hJ s A _ none h (World.grownBy_alloc _ _ _) (fun r e => by cases e)
/-- how the iterator ends -/
def GPost {f : Func} (xs : List (Blk f)) (J Jx : List (Blk f) → World → Prop) (W' : World) : Prop := (∃ ys, ys = xs ∧ J ys W') ∨ (∃ pre, pre <+: xs ∧ Jx pre W')
theorem filtB_append (f : Func) (l m : List Int) : filtB f (l ++ m) = filtB f l ++ filtB f m := List.filterMap_append
theorem filtB_one_yes {f : Func} {m : Nat} (h : m < f.blocks.length) {a : Int} (e : a = m) : filtB f [a] = [⟨m, h⟩] := by
  unfold filtB
  rw [e, List.filterMap_cons, toBlk_yes h]
  rfl
theorem filtB_one_no {f : Func} {a : Int} (h : ¬ (0 ≤ a ∧ a < f.blocks.length)) : filtB f [a] = [] := by
  unfold filtB
  rw [List.filterMap_cons, toBlk_no h]
  rfl
theorem filtB_nil (f : Func) : filtB f [] = [] := rfl

set_option maxRecDepth 100000 in
set_option maxHeartbeats 4000000 in
theorem goes1_in (F : Fence) (n : Nat) (h89 : F.fn 103) (hro : F.round = none) (hn : 1 ≤ n) (l : Nat) (f : Func) (bi : Int) (Bf Bb : Nat) (S : Nat → Prop) (J Jx : List (Blk f) → World → Prop) (W : World)
    (hJ : AbidesFrom W.heap.size J) (hS : ∀ k, S k → k < W.heap.size)
    (hY : ∀ pre x W, J pre W → pre.length < 2 → YieldAt F (n - 1) Tryd.prog l #[.int .i64 ((x : Blk f).1 : Int)] W fun e W' =>
      (e = .returned (.bool true) ∧ J (pre ++ [x]) W' ∧ KS S W W') ∨ (e = .returned (.bool false) ∧ Jx (pre ++ [x]) W'))
    (hG : GoesAt W S f bi Bf Bb) (h0 : J [] W) :
    CallsIn F n Tryd.prog 103 #[.func (.yield l) #[] #[], .pointer (some ⟨Bb, 0, none⟩), .pointer (some ⟨Bf, 0, none⟩)] W fun e W' => (∃ v, e = .returned v) ∧ GPost (nextS f bi) J Jx W' := by
  obtain ⟨hfS, ⟨A, c, hf3, hBR⟩, hbS, hb0, hlen, hins⟩ := hG
  have HBR := Lib.hid hBR
  have HINS := Lib.hid hins
  have HY := Lib.hid hY
  have H0 := Lib.hid h0
  clear hBR hins hY h0
  by_cases h0 : bi < 0
  · have d0 : decide (bi < 0) = true := decide_eq_true h0
    have hnx : Hid (nextS f bi = []) := by
      show _ = _
      unfold nextS
      rw [if_neg (by omega)]
    refine callsIn_of_wp Tryd.func103 rfl h89 ?_ hro
    simp only [Tryd.ntmps103, List.size_toArray, List.length_cons, List.length_nil, Nat.reduceAdd, Nat.reduceSub, Array.replicate_succ, Array.replicate_zero, List.push_toArray, List.append_toArray, List.nil_append, List.cons_append]
    gi_wp2
    refine bodyPost_ret (results_none rfl _ _ _) rfl ?_
    exact ⟨⟨_, rfl⟩, .inl ⟨_, hnx.out.symm, H0.out⟩⟩
  · have d0 : decide (bi < 0) = false := decide_eq_false h0
    obtain ⟨q, rfl⟩ := Int.eq_ofNat_of_zero_le (show 0 ≤ bi by omega)
    by_cases h1 : q < f.blocks.length
    · have d1 : decide ((f.blocks.length : Int) ≤ (q : Int)) = false := decide_eq_false (by omega)
      obtain ⟨bl, hbk⟩ : ∃ bl, f.blocks[q]? = some bl := ⟨_, List.getElem?_eq_getElem h1⟩
      obtain ⟨bb, bo, Ai, ci, rfl, hbb, hc0, hc1, hnm, hIR⟩ := block_at HBR.out hbk
      have hnb : Hid (nextS f (q : Int) = nextB f bl) := by
        show _ = _
        unfold nextS
        rw [if_pos (by omega), show ((q : Int)).toNat = q from by omega, hbk]
      have hil : bl.ins.length ≤ 2097152 := HINS.out bl (List.mem_of_getElem? hbk)
      have HIR := Lib.hid hIR
      have HBK := Lib.hid hbk
      clear hIR hbk hc0
      by_cases h2 : bl.ins = []
      · have hz : bl.ins.length = 0 := by rw [h2]; rfl
        rw [hz] at hc1
        have hnx : Hid (nextS f (q : Int) = []) := by
          show _ = _
          rw [hnb.out]
          unfold nextB
          rw [h2]
          rfl
        clear h2
        refine callsIn_of_wp Tryd.func103 rfl h89 ?_ hro
        simp only [Tryd.ntmps103, List.size_toArray, List.length_cons, List.length_nil, Nat.reduceAdd, Nat.reduceSub, Array.replicate_succ, Array.replicate_zero, List.push_toArray, List.append_toArray, List.nil_append, List.cons_append]
        gi_wp2
        refine bodyPost_ret (results_none rfl _ _ _) rfl ?_
        exact ⟨⟨_, rfl⟩, .inl ⟨_, hnx.out.symm, H0.out⟩⟩
      · obtain ⟨li, hli⟩ : ∃ li, bl.ins.length = li + 1 := ⟨bl.ins.length - 1, by have := List.length_pos_iff.2 h2; omega⟩
        obtain ⟨x, hxk⟩ : ∃ x, bl.ins[li]? = some x := ⟨_, List.getElem?_eq_getElem (by omega)⟩
        obtain ⟨ib, io, Aa, ca, rfl, hib, hat⟩ := ins_at HIR.out hxk
        have hnx : Hid (nextS f (q : Int) = filtB f (rawWays x)) := by
          show _ = _
          rw [hnb.out]
          unfold nextB
          rw [List.getLast?_eq_getElem?, show bl.ins.length - 1 = li from by omega, hxk]
        have e0 := hat.c0
        have e1 := hat.c1
        have e2 := hat.c2
        have e3 := hat.c3
        have e4 := hat.c4
        have e5 := hat.c5
        have e6 := hat.c6
        have e7 := hat.c7
        have e8 := hat.c8
        rw [hli] at hc1
        have dz : ((li : Int) + 1 == 0) = false := beq_eq_false_iff_ne.2 (by omega)
        have hll : li ≤ 2097152 := by omega
        clear hat h2 hli hxk hil
        have hcs : (x.op = 9 ∧ x.l2 ≠ x.l1) ∨ (x.op = 9 ∧ x.l2 = x.l1) ∨ x.op = 8 ∨ (x.op ≠ 9 ∧ x.op ≠ 8) := by omega
        rcases hcs with ⟨h9, hne⟩ | ⟨h9, heq⟩ | h8 | ⟨n9, n8⟩
        · have k9 : (x.op == 9) = true := beq_iff_eq.2 h9
          have k9' : (x.op != 9) = false := by rw [h9]; rfl
          have kn : (x.l2 != x.l1) = true := by rw [bne_iff_ne]; exact hne
          have hws : Hid (rawWays x = [x.l1, x.l2]) := by
            show _ = _
            unfold rawWays
            rw [if_pos h9, if_neg hne]
          have hJ1 : Hid (J [] ((W.alloc (.cells #[.int .u8 x.op, .int .i64 x.d, .int .i64 x.a, .int .i64 x.b, .int .u32 x.n, .int .i64 x.f, .slice Aa x.args.length ca, .int .i64 x.l1, .int .i64 x.l2] 50)).alloc (.cells #[.int .i64 x.l1, .int .i64 x.l2] 144))) :=
            abides_alloc hJ (abides_alloc hJ H0.out _) _
          have hK1 : Hid (KS S W ((W.alloc (.cells #[.int .u8 x.op, .int .i64 x.d, .int .i64 x.a, .int .i64 x.b, .int .u32 x.n, .int .i64 x.f, .slice Aa x.args.length ca, .int .i64 x.l1, .int .i64 x.l2] 50)).alloc (.cells #[.int .i64 x.l1, .int .i64 x.l2] 144))) :=
            (KS.refl.alloc hS _).alloc (fun k hk => by have := hS k hk; simp; omega) _
          clear h9 hne
          refine callsIn_of_wp Tryd.func103 rfl h89 ?_ hro
          simp only [Tryd.ntmps103, List.size_toArray, List.length_cons, List.length_nil, Nat.reduceAdd, Nat.reduceSub, Array.replicate_succ, Array.replicate_zero, List.push_toArray, List.append_toArray, List.nil_append, List.cons_append]
          gi_wp2
          have i0 : ∀ w, (Instr.index 144 (.agg #[.int .i64 x.l1, .int .i64 x.l2]) (.int .i64 0)).run Tryd.prog w = .ok (.int .i64 x.l1) w := fun _ => by kernel_rfl
          have i1 : ∀ w, (Instr.index 144 (.agg #[.int .i64 x.l1, .int .i64 x.l2]) (.int .i64 1)).run Tryd.prog w = .ok (.int .i64 x.l2) w := fun _ => by kernel_rfl
          gi_loopw [67] (fun i wr => ∃ k : Nat, k ≤ 2 ∧ i = .int .i64 k ∧ J (filtB f ([x.l1, x.l2].take k)) wr ∧ KS S W wr) (fun i _ => 2 - (RowKit.intOf i).toNat)
          case atStart => exact ⟨0, Nat.zero_le _, rfl, hJ1.out, hK1.out⟩
          case round =>
            obtain ⟨k, hk, rfl, hJk, hKk⟩ := hrel
            have hf3' := hKk.cell (a := ⟨Bf, 3, none⟩) hfS hf3
            have hk3 : k = 0 ∨ k = 1 ∨ k = 2 := by omega
            clear hJ1 hK1
            rcases hk3 with rfl | rfl | rfl
            · by_cases hin : 0 ≤ x.l1 ∧ x.l1 < (f.blocks.length : Int)
              · obtain ⟨m, hm⟩ := Int.eq_ofNat_of_zero_le hin.1
                have hml : m < f.blocks.length := by have := hin.2; omega
                have hst : Hid (filtB f [x.l1] = filtB f [] ++ [⟨m, hml⟩]) := by
                  show _ = _
                  rw [filtB_one_yes hml hm]; rfl
                have hprf : Hid (filtB f [] ++ [⟨m, hml⟩] <+: nextS f (q : Int)) := by
                  show _ <+: _
                  rw [← hst.out, hnx.out, hws.out]
                  exact List.IsPrefix.filterMap _ ⟨[x.l2], rfl⟩
                obtain ⟨fn, tmps, assign, body, hy, hR⟩ := HY.out _ (⟨m, hml⟩ : Blk f) wr hJk (Nat.lt_of_le_of_lt (filtB_len _ _) (by simp))
                have t0 : decide (0 ≤ x.l1) = true := decide_eq_true hin.1
                have t1 : decide (x.l1 < (f.blocks.length : Int)) = true := decide_eq_true hin.2
                dsimp only at hy
                rw [← hm] at hy
                clear hin hm
                gi_wp2
                refine hR.mono ?_
                rintro e W3 (⟨rfl, hJ3, hk3⟩ | ⟨rfl, hJx3⟩)
                · gi_wp2
                  go_roundw
                  case rel => exact ⟨1, by omega, by rfl, by rw [show ([x.l1, x.l2].take 1) = [x.l1] from rfl, hst.out]; exact hJ3, hKk.trans hk3⟩
                  case measure => simp [RowKit.intOf]
                · gi_wp2
                  refine bodyPost_ret (results_none rfl _ _ _) rfl ?_
                  exact ⟨⟨_, rfl⟩, .inr ⟨_, hprf.out, hJx3⟩⟩
              · have hst : Hid (filtB f [x.l1] = filtB f []) := by
                  show _ = _
                  rw [filtB_one_no hin]; rfl
                have hJn : J (filtB f [x.l1]) wr := by rw [hst.out]; exact hJk
                by_cases h0' : 0 ≤ x.l1
                · have t0 : decide (0 ≤ x.l1) = true := decide_eq_true h0'
                  have t1 : decide (x.l1 < (f.blocks.length : Int)) = false := decide_eq_false (by omega)
                  gi_wp2
                  refine ⟨fun _ h => (by cases h), ?_⟩
                  gi_wp2
                  go_roundw
                  case rel => exact ⟨1, by omega, by rfl, hJn, hKk⟩
                  case measure => simp [RowKit.intOf]
                · have t0 : decide (0 ≤ x.l1) = false := decide_eq_false h0'
                  gi_wp2
                  refine ⟨fun _ h => (by cases h), ?_⟩
                  gi_wp2
                  go_roundw
                  case rel => exact ⟨1, by omega, by rfl, hJn, hKk⟩
                  case measure => simp [RowKit.intOf]
            · by_cases hin : 0 ≤ x.l2 ∧ x.l2 < (f.blocks.length : Int)
              · obtain ⟨m, hm⟩ := Int.eq_ofNat_of_zero_le hin.1
                have hml : m < f.blocks.length := by have := hin.2; omega
                have hst : Hid (filtB f [x.l1, x.l2] = filtB f [x.l1] ++ [⟨m, hml⟩]) := by
                  show _ = _
                  exact (filtB_append f [x.l1] [_]).trans (by rw [filtB_one_yes hml hm])
                have hprf : Hid (filtB f [x.l1] ++ [⟨m, hml⟩] <+: nextS f (q : Int)) := by
                  show _ <+: _
                  rw [← hst.out, hnx.out, hws.out]
                  exact List.prefix_rfl
                obtain ⟨fn, tmps, assign, body, hy, hR⟩ := HY.out _ (⟨m, hml⟩ : Blk f) wr hJk (Nat.lt_of_le_of_lt (filtB_len _ _) (by simp))
                have t0 : decide (0 ≤ x.l2) = true := decide_eq_true hin.1
                have t1 : decide (x.l2 < (f.blocks.length : Int)) = true := decide_eq_true hin.2
                dsimp only at hy
                rw [← hm] at hy
                clear hin hm
                gi_wp2
                refine hR.mono ?_
                rintro e W3 (⟨rfl, hJ3, hk3⟩ | ⟨rfl, hJx3⟩)
                · gi_wp2
                  go_roundw
                  case rel => exact ⟨2, by omega, by rfl, by rw [show ([x.l1, x.l2].take 2) = [x.l1, x.l2] from rfl, hst.out]; exact hJ3, hKk.trans hk3⟩
                  case measure => simp [RowKit.intOf]
                · gi_wp2
                  refine bodyPost_ret (results_none rfl _ _ _) rfl ?_
                  exact ⟨⟨_, rfl⟩, .inr ⟨_, hprf.out, hJx3⟩⟩
              · have hst : Hid (filtB f [x.l1, x.l2] = filtB f [x.l1]) := by
                  show _ = _
                  exact (filtB_append f [x.l1] [_]).trans (by rw [filtB_one_no hin, List.append_nil])
                have hJn : J (filtB f [x.l1, x.l2]) wr := by rw [hst.out]; exact hJk
                by_cases h0' : 0 ≤ x.l2
                · have t0 : decide (0 ≤ x.l2) = true := decide_eq_true h0'
                  have t1 : decide (x.l2 < (f.blocks.length : Int)) = false := decide_eq_false (by omega)
                  gi_wp2
                  refine ⟨fun _ h => (by cases h), ?_⟩
                  gi_wp2
                  go_roundw
                  case rel => exact ⟨2, by omega, by rfl, hJn, hKk⟩
                  case measure => simp [RowKit.intOf]
                · have t0 : decide (0 ≤ x.l2) = false := decide_eq_false h0'
                  gi_wp2
                  refine ⟨fun _ h => (by cases h), ?_⟩
                  gi_wp2
                  go_roundw
                  case rel => exact ⟨2, by omega, by rfl, hJn, hKk⟩
                  case measure => simp [RowKit.intOf]
            · have hfin : Hid (J (nextS f (q : Int)) wr) := by
                show J _ _
                rw [hnx.out, hws.out]
                exact hJk
              gi_wp2
              go_end0
              exact ⟨⟨_, rfl⟩, .inl ⟨_, rfl, hfin.out⟩⟩
        · have k9 : (x.op == 9) = true := beq_iff_eq.2 h9
          have k9' : (x.op != 9) = false := by rw [h9]; rfl
          have kn : (x.l2 != x.l1) = false := by rw [heq]; simp
          have hws : Hid (rawWays x = [x.l1, (-1)]) := by
            show _ = _
            unfold rawWays
            rw [if_pos h9, if_pos heq]
          have hJ1 : Hid (J [] ((W.alloc (.cells #[.int .u8 x.op, .int .i64 x.d, .int .i64 x.a, .int .i64 x.b, .int .u32 x.n, .int .i64 x.f, .slice Aa x.args.length ca, .int .i64 x.l1, .int .i64 x.l2] 50)).alloc (.cells #[.int .i64 x.l1, .int .i64 (-1)] 144))) :=
            abides_alloc hJ (abides_alloc hJ H0.out _) _
          have hK1 : Hid (KS S W ((W.alloc (.cells #[.int .u8 x.op, .int .i64 x.d, .int .i64 x.a, .int .i64 x.b, .int .u32 x.n, .int .i64 x.f, .slice Aa x.args.length ca, .int .i64 x.l1, .int .i64 x.l2] 50)).alloc (.cells #[.int .i64 x.l1, .int .i64 (-1)] 144))) :=
            (KS.refl.alloc hS _).alloc (fun k hk => by have := hS k hk; simp; omega) _
          clear h9 heq
          refine callsIn_of_wp Tryd.func103 rfl h89 ?_ hro
          simp only [Tryd.ntmps103, List.size_toArray, List.length_cons, List.length_nil, Nat.reduceAdd, Nat.reduceSub, Array.replicate_succ, Array.replicate_zero, List.push_toArray, List.append_toArray, List.nil_append, List.cons_append]
          gi_wp2
          have i0 : ∀ w, (Instr.index 144 (.agg #[.int .i64 x.l1, .int .i64 (-1)]) (.int .i64 0)).run Tryd.prog w = .ok (.int .i64 x.l1) w := fun _ => by kernel_rfl
          have i1 : ∀ w, (Instr.index 144 (.agg #[.int .i64 x.l1, .int .i64 (-1)]) (.int .i64 1)).run Tryd.prog w = .ok (.int .i64 (-1)) w := fun _ => by kernel_rfl
          gi_loopw [67] (fun i wr => ∃ k : Nat, k ≤ 2 ∧ i = .int .i64 k ∧ J (filtB f ([x.l1, (-1)].take k)) wr ∧ KS S W wr) (fun i _ => 2 - (RowKit.intOf i).toNat)
          case atStart => exact ⟨0, Nat.zero_le _, rfl, hJ1.out, hK1.out⟩
          case round =>
            obtain ⟨k, hk, rfl, hJk, hKk⟩ := hrel
            have hf3' := hKk.cell (a := ⟨Bf, 3, none⟩) hfS hf3
            have hk3 : k = 0 ∨ k = 1 ∨ k = 2 := by omega
            clear hJ1 hK1
            rcases hk3 with rfl | rfl | rfl
            · by_cases hin : 0 ≤ x.l1 ∧ x.l1 < (f.blocks.length : Int)
              · obtain ⟨m, hm⟩ := Int.eq_ofNat_of_zero_le hin.1
                have hml : m < f.blocks.length := by have := hin.2; omega
                have hst : Hid (filtB f [x.l1] = filtB f [] ++ [⟨m, hml⟩]) := by
                  show _ = _
                  rw [filtB_one_yes hml hm]; rfl
                have hprf : Hid (filtB f [] ++ [⟨m, hml⟩] <+: nextS f (q : Int)) := by
                  show _ <+: _
                  rw [← hst.out, hnx.out, hws.out]
                  exact List.IsPrefix.filterMap _ ⟨[(-1)], rfl⟩
                obtain ⟨fn, tmps, assign, body, hy, hR⟩ := HY.out _ (⟨m, hml⟩ : Blk f) wr hJk (Nat.lt_of_le_of_lt (filtB_len _ _) (by simp))
                have t0 : decide (0 ≤ x.l1) = true := decide_eq_true hin.1
                have t1 : decide (x.l1 < (f.blocks.length : Int)) = true := decide_eq_true hin.2
                dsimp only at hy
                rw [← hm] at hy
                clear hin hm
                gi_wp2
                refine hR.mono ?_
                rintro e W3 (⟨rfl, hJ3, hk3⟩ | ⟨rfl, hJx3⟩)
                · gi_wp2
                  go_roundw
                  case rel => exact ⟨1, by omega, by rfl, by rw [show ([x.l1, (-1)].take 1) = [x.l1] from rfl, hst.out]; exact hJ3, hKk.trans hk3⟩
                  case measure => simp [RowKit.intOf]
                · gi_wp2
                  refine bodyPost_ret (results_none rfl _ _ _) rfl ?_
                  exact ⟨⟨_, rfl⟩, .inr ⟨_, hprf.out, hJx3⟩⟩
              · have hst : Hid (filtB f [x.l1] = filtB f []) := by
                  show _ = _
                  rw [filtB_one_no hin]; rfl
                have hJn : J (filtB f [x.l1]) wr := by rw [hst.out]; exact hJk
                by_cases h0' : 0 ≤ x.l1
                · have t0 : decide (0 ≤ x.l1) = true := decide_eq_true h0'
                  have t1 : decide (x.l1 < (f.blocks.length : Int)) = false := decide_eq_false (by omega)
                  gi_wp2
                  refine ⟨fun _ h => (by cases h), ?_⟩
                  gi_wp2
                  go_roundw
                  case rel => exact ⟨1, by omega, by rfl, hJn, hKk⟩
                  case measure => simp [RowKit.intOf]
                · have t0 : decide (0 ≤ x.l1) = false := decide_eq_false h0'
                  gi_wp2
                  refine ⟨fun _ h => (by cases h), ?_⟩
                  gi_wp2
                  go_roundw
                  case rel => exact ⟨1, by omega, by rfl, hJn, hKk⟩
                  case measure => simp [RowKit.intOf]
            · have hst : Hid (filtB f [x.l1, (-1)] = filtB f [x.l1]) := by
                show _ = _
                exact (filtB_append f [x.l1] [_]).trans (by rw [filtB_one_no (a := -1) (by omega), List.append_nil])
              have hJn : J (filtB f [x.l1, (-1)]) wr := by rw [hst.out]; exact hJk
              gi_wp2
              refine ⟨fun _ h => (by cases h), ?_⟩
              gi_wp2
              go_roundw
              case rel => exact ⟨2, by omega, by rfl, hJn, hKk⟩
              case measure => simp [RowKit.intOf]
            · have hfin : Hid (J (nextS f (q : Int)) wr) := by
                show J _ _
                rw [hnx.out, hws.out]
                exact hJk
              gi_wp2
              go_end0
              exact ⟨⟨_, rfl⟩, .inl ⟨_, rfl, hfin.out⟩⟩
        · have k9 : (x.op == 9) = false := by rw [h8]; rfl
          have k9' : (x.op != 9) = true := by rw [h8]; rfl
          have k8' : (x.op != 8) = false := by rw [h8]; rfl
          have hws : Hid (rawWays x = [x.l1, (-1)]) := by
            show _ = _
            unfold rawWays
            rw [if_neg (by omega), if_pos h8]
          have hJ1 : Hid (J [] ((W.alloc (.cells #[.int .u8 x.op, .int .i64 x.d, .int .i64 x.a, .int .i64 x.b, .int .u32 x.n, .int .i64 x.f, .slice Aa x.args.length ca, .int .i64 x.l1, .int .i64 x.l2] 50)).alloc (.cells #[.int .i64 x.l1, .int .i64 (-1)] 144))) :=
            abides_alloc hJ (abides_alloc hJ H0.out _) _
          have hK1 : Hid (KS S W ((W.alloc (.cells #[.int .u8 x.op, .int .i64 x.d, .int .i64 x.a, .int .i64 x.b, .int .u32 x.n, .int .i64 x.f, .slice Aa x.args.length ca, .int .i64 x.l1, .int .i64 x.l2] 50)).alloc (.cells #[.int .i64 x.l1, .int .i64 (-1)] 144))) :=
            (KS.refl.alloc hS _).alloc (fun k hk => by have := hS k hk; simp; omega) _
          clear h8
          refine callsIn_of_wp Tryd.func103 rfl h89 ?_ hro
          simp only [Tryd.ntmps103, List.size_toArray, List.length_cons, List.length_nil, Nat.reduceAdd, Nat.reduceSub, Array.replicate_succ, Array.replicate_zero, List.push_toArray, List.append_toArray, List.nil_append, List.cons_append]
          gi_wp2
          have i0 : ∀ w, (Instr.index 144 (.agg #[.int .i64 x.l1, .int .i64 (-1)]) (.int .i64 0)).run Tryd.prog w = .ok (.int .i64 x.l1) w := fun _ => by kernel_rfl
          have i1 : ∀ w, (Instr.index 144 (.agg #[.int .i64 x.l1, .int .i64 (-1)]) (.int .i64 1)).run Tryd.prog w = .ok (.int .i64 (-1)) w := fun _ => by kernel_rfl
          gi_loopw [67] (fun i wr => ∃ k : Nat, k ≤ 2 ∧ i = .int .i64 k ∧ J (filtB f ([x.l1, (-1)].take k)) wr ∧ KS S W wr) (fun i _ => 2 - (RowKit.intOf i).toNat)
          case atStart => exact ⟨0, Nat.zero_le _, rfl, hJ1.out, hK1.out⟩
          case round =>
            obtain ⟨k, hk, rfl, hJk, hKk⟩ := hrel
            have hf3' := hKk.cell (a := ⟨Bf, 3, none⟩) hfS hf3
            have hk3 : k = 0 ∨ k = 1 ∨ k = 2 := by omega
            clear hJ1 hK1
            rcases hk3 with rfl | rfl | rfl
            · by_cases hin : 0 ≤ x.l1 ∧ x.l1 < (f.blocks.length : Int)
              · obtain ⟨m, hm⟩ := Int.eq_ofNat_of_zero_le hin.1
                have hml : m < f.blocks.length := by have := hin.2; omega
                have hst : Hid (filtB f [x.l1] = filtB f [] ++ [⟨m, hml⟩]) := by
                  show _ = _
                  rw [filtB_one_yes hml hm]; rfl
                have hprf : Hid (filtB f [] ++ [⟨m, hml⟩] <+: nextS f (q : Int)) := by
                  show _ <+: _
                  rw [← hst.out, hnx.out, hws.out]
                  exact List.IsPrefix.filterMap _ ⟨[(-1)], rfl⟩
                obtain ⟨fn, tmps, assign, body, hy, hR⟩ := HY.out _ (⟨m, hml⟩ : Blk f) wr hJk (Nat.lt_of_le_of_lt (filtB_len _ _) (by simp))
                have t0 : decide (0 ≤ x.l1) = true := decide_eq_true hin.1
                have t1 : decide (x.l1 < (f.blocks.length : Int)) = true := decide_eq_true hin.2
                dsimp only at hy
                rw [← hm] at hy
                clear hin hm
                gi_wp2
                refine hR.mono ?_
                rintro e W3 (⟨rfl, hJ3, hk3⟩ | ⟨rfl, hJx3⟩)
                · gi_wp2
                  go_roundw
                  case rel => exact ⟨1, by omega, by rfl, by rw [show ([x.l1, (-1)].take 1) = [x.l1] from rfl, hst.out]; exact hJ3, hKk.trans hk3⟩
                  case measure => simp [RowKit.intOf]
                · gi_wp2
                  refine bodyPost_ret (results_none rfl _ _ _) rfl ?_
                  exact ⟨⟨_, rfl⟩, .inr ⟨_, hprf.out, hJx3⟩⟩
              · have hst : Hid (filtB f [x.l1] = filtB f []) := by
                  show _ = _
                  rw [filtB_one_no hin]; rfl
                have hJn : J (filtB f [x.l1]) wr := by rw [hst.out]; exact hJk
                by_cases h0' : 0 ≤ x.l1
                · have t0 : decide (0 ≤ x.l1) = true := decide_eq_true h0'
                  have t1 : decide (x.l1 < (f.blocks.length : Int)) = false := decide_eq_false (by omega)
                  gi_wp2
                  refine ⟨fun _ h => (by cases h), ?_⟩
                  gi_wp2
                  go_roundw
                  case rel => exact ⟨1, by omega, by rfl, hJn, hKk⟩
                  case measure => simp [RowKit.intOf]
                · have t0 : decide (0 ≤ x.l1) = false := decide_eq_false h0'
                  gi_wp2
                  refine ⟨fun _ h => (by cases h), ?_⟩
                  gi_wp2
                  go_roundw
                  case rel => exact ⟨1, by omega, by rfl, hJn, hKk⟩
                  case measure => simp [RowKit.intOf]
            · have hst : Hid (filtB f [x.l1, (-1)] = filtB f [x.l1]) := by
                show _ = _
                exact (filtB_append f [x.l1] [_]).trans (by rw [filtB_one_no (a := -1) (by omega), List.append_nil])
              have hJn : J (filtB f [x.l1, (-1)]) wr := by rw [hst.out]; exact hJk
              gi_wp2
              refine ⟨fun _ h => (by cases h), ?_⟩
              gi_wp2
              go_roundw
              case rel => exact ⟨2, by omega, by rfl, hJn, hKk⟩
              case measure => simp [RowKit.intOf]
            · have hfin : Hid (J (nextS f (q : Int)) wr) := by
                show J _ _
                rw [hnx.out, hws.out]
                exact hJk
              gi_wp2
              go_end0
              exact ⟨⟨_, rfl⟩, .inl ⟨_, rfl, hfin.out⟩⟩
        · have hny : Hid (nextS f (q : Int) = []) := by
            show _ = _
            rw [hnx.out]
            unfold rawWays
            rw [if_neg n9, if_neg n8]
            rfl
          have k9 : (x.op == 9) = false := beq_eq_false_iff_ne.2 n9
          have k9' : (x.op != 9) = true := by rw [bne_iff_ne]; exact n9
          have k8' : (x.op != 8) = true := by rw [bne_iff_ne]; exact n8
          have hJ1 : Hid (J [] ((W.alloc (.cells #[.int .u8 x.op, .int .i64 x.d, .int .i64 x.a, .int .i64 x.b, .int .u32 x.n, .int .i64 x.f, .slice Aa x.args.length ca, .int .i64 x.l1, .int .i64 x.l2] 50)).alloc (.cells #[.int .i64 x.l1, .int .i64 (-1)] 144))) :=
            abides_alloc hJ (abides_alloc hJ H0.out _) _
          clear n9 n8
          refine callsIn_of_wp Tryd.func103 rfl h89 ?_ hro
          simp only [Tryd.ntmps103, List.size_toArray, List.length_cons, List.length_nil, Nat.reduceAdd, Nat.reduceSub, Array.replicate_succ, Array.replicate_zero, List.push_toArray, List.append_toArray, List.nil_append, List.cons_append]
          gi_wp2
          refine bodyPost_ret (results_none rfl _ _ _) rfl ?_
          exact ⟨⟨_, rfl⟩, .inl ⟨_, hny.out.symm, hJ1.out⟩⟩
    · have d1 : decide ((f.blocks.length : Int) ≤ (q : Int)) = true := decide_eq_true (by omega)
      have hnx : Hid (nextS f (q : Int) = []) := by
        show _ = _
        unfold nextS
        rw [if_pos (by omega), show ((q : Int)).toNat = q from by omega, List.getElem?_eq_none (by omega)]
      refine callsIn_of_wp Tryd.func103 rfl h89 ?_ hro
      simp only [Tryd.ntmps103, List.size_toArray, List.length_cons, List.length_nil, Nat.reduceAdd, Nat.reduceSub, Array.replicate_succ, Array.replicate_zero, List.push_toArray, List.append_toArray, List.nil_append, List.cons_append]
      gi_wp2
      refine bodyPost_ret (results_none rfl _ _ _) rfl ?_
      exact ⟨⟨_, rfl⟩, .inl ⟨_, hnx.out.symm, H0.out⟩⟩
end Mu
end
section
/-
  flow.goes and flow.Next, walked.
  Conditions: at most 2^21 blocks and instructions.
-/
namespace Mu
open Go Go.RowKit Go.Proofs Go.Shelf
attribute [local go_sem] Oper.semAt_some

/-- flow.goes: the function and the number are boxed; the function value holds the boxes -/
theorem goes_in (F : Fence) (n : Nat) (h60 : F.fn 97) (hro : F.round = none) (cs : List Value) (bi : Int) (w : World) (hcs : cs.length = 4) :
    CallsIn F n Tryd.prog 97 #[.agg cs.toArray, .int .i64 bi] w fun e w' => e = .returned (.func (.func 103) #[] #[.pointer (some ⟨w.heap.size + 1, 0, none⟩), .pointer (some ⟨w.heap.size, 0, none⟩)]) ∧
      w' = (w.alloc (.cells cs.toArray 24)).alloc (.cells #[.int .i64 bi] 3) := by
  match cs, hcs with
  | [a, b, c, d], _ =>
    refine callsIn_of_wp Tryd.func97 rfl h60 ?_ hro
    simp only [Tryd.ntmps97, List.size_toArray, List.length_cons, List.length_nil, Nat.reduceAdd, Nat.reduceSub, Array.replicate_succ, Array.replicate_zero, List.push_toArray, List.append_toArray, List.nil_append, List.cons_append]
    gi_wp2
    go_ret
    exact ⟨rfl, rfl⟩

/-- what the iterator reads lies in a world -/
theorem goes_at {W : World} {S : Nat → Prop} {cs : List Value} {f : Func} {bi : Int} (hR : tFunc.RS W S cs f) (hS : ∀ k, S k → k < W.heap.size) (hl : f.blocks.length ≤ 2097152) (hi : ∀ b ∈ f.blocks, b.ins.length ≤ 2097152) :
    GoesAt ((W.alloc (.cells cs.toArray 24)).alloc (.cells #[.int .i64 bi] 3)) (fun k => S k ∨ k = W.heap.size ∨ k = W.heap.size + 1) f bi W.heap.size (W.heap.size + 1) := by
  obtain ⟨A, c, rfl, _, _, _, hB⟩ := tFunc_R.1 hR
  refine ⟨.inr (.inl rfl), ⟨A, c, ?_, ?_⟩, .inr (.inr rfl), ?_, hl, hi⟩
  · exact box_cell (box_alloc (heap_alloc_new W _) _) rfl
  · refine tBlock.slice.keepS hB (fun k hk => ?_) (fun k hk => .inl hk)
    have hk' := hS k hk
    rw [Below.heap_alloc _ _ _ (by simp; omega), Below.heap_alloc _ _ _ hk']
  · have h := heap_alloc_new (W.alloc (.cells [.string f.name, .int .i64 f.args, .int .i64 f.regs, .slice A f.blocks.length c].toArray 24)) (.cells #[.int .i64 bi] 3)
    rw [show (W.alloc (.cells [.string f.name, .int .i64 f.args, .int .i64 f.regs, .slice A f.blocks.length c].toArray 24)).heap.size = W.heap.size + 1 from by simp] at h
    exact box_cell (cs := [_]) h rfl
theorem GoesAt.keep {W W' : World} {S : Nat → Prop} {f : Func} {bi : Int} {Bf Bb : Nat} (h : GoesAt W S f bi Bf Bb) (hk : ∀ k, S k → W'.heap[k]? = W.heap[k]?) : GoesAt W' S f bi Bf Bb := by
  obtain ⟨h1, ⟨A, c, h2, h3⟩, h4, h5, h6, h7⟩ := h
  exact ⟨h1, ⟨A, c, (World.cell?_of_block (w := W) (a := ⟨Bf, 3, none⟩) (hk _ h1)).trans h2, tBlock.slice.keepS h3 hk (fun _ h => h)⟩, h4, (World.cell?_of_block (w := W) (a := ⟨Bb, 0, none⟩) (hk _ h4)).trans h5, h6, h7⟩

/-- the iterator's contract -/
theorem goes_stops (F : Fence) (n : Nat) (h89 : F.fn 103) (hro : F.round = none) (hn : 1 ≤ n) (f : Func) (bi : Int) (Bf Bb : Nat) (S : Nat → Prop) (w : World) (hS : ∀ k, S k → k < w.heap.size) (hG : GoesAt w S f bi Bf Bb) :
    SeqStopsK F n Tryd.prog 103 #[.pointer (some ⟨Bb, 0, none⟩), .pointer (some ⟨Bf, 0, none⟩)] (fun x : Blk f => #[Value.int .i64 ((x.1 : Nat) : Int)]) (KS S) (fun ys => ys = nextS f bi) (fun pre => pre <+: nextS f bi) 2 w := fun l J Jx W hW hJ _ hY h0 =>
  goes1_in F n h89 hro hn l f bi Bf Bb S J Jx W hJ (fun k hk => Nat.lt_of_lt_of_le (hS k hk) hW.size) hY (hG.keep (fun k hk => hW.block k (hS k hk))) h0
theorem ksK_t {S : Nat → Prop} {A B C : World} (h : KS S A B) (k : KS S B C) : KS S A C := h.trans k
theorem ksK_b {S : Nat → Prop} {w : World} (hS : ∀ k, S k → k < w.heap.size) (W : World) (l : Nat) (o o' : Obj) (hl : w.heap.size ≤ l) (h : W.heap[l]? = some o) (_ : o.isCells = false) (_ : o.isWalk = false) : KS S W (W.putObj l o') := by
  have hg := grownBy_putObj' W l o'
  refine ⟨hg.size, fun k hk => hg.block k ?_ ?_⟩
  · have := hS k hk; have := (Array.getElem?_eq_some_iff.1 h).1; omega
  · intro e; injection e with e; have := hS k hk; omega

/-- an append to what a box holds, the row's own blocks above the boxes -/
theorem box_app {W w1 : World} {n₀ B : Nat} {t e : TypeId} {size : Nat} {v v' : Value} {k m : Nat} {xs ys : List Value} {tmp : Obj} (hv : Boxed W B t v) (hBn : B < n₀) (hrow : W.ownsRow n₀ e size v k xs) (hn₀ : n₀ ≤ W.heap.size)
    (hown' : w1.ownsRow n₀ e size v' m ys) (hgrow : (W.alloc tmp).grownBy w1 v.ownBlock) :
    Boxed w1 B t v ∧ Boxed (w1.setCell ⟨B, 0, none⟩ v') B t v' ∧ (w1.setCell ⟨B, 0, none⟩ v').ownsRow n₀ e size v' m ys ∧ KeepsOthers W (w1.setCell ⟨B, 0, none⟩ v') ∧ Below B W (w1.setCell ⟨B, 0, none⟩ v') ∧
      ∀ q, q < n₀ → q ≠ B → (w1.setCell ⟨B, 0, none⟩ v').heap[q]? = W.heap[q]? := by
  have hne : ∀ q, q < n₀ → some q ≠ v.ownBlock := fun q hq e => by have := (World.ownsRow.lt hrow q e.symm).1; omega
  have hs := hgrow.size
  have hs2 : (W.alloc tmp).heap.size = W.heap.size + 1 := by simp
  have hold : ∀ q, q < n₀ → w1.heap[q]? = W.heap[q]? := fun q hq => (hgrow.block q (by omega) (hne q hq)).trans (Below.heap_alloc _ _ _ (by omega))
  have hv1 : Boxed w1 B t v := (hold B hBn).trans hv
  refine ⟨hv1, hv1.set v', ownsRow_keep hown' (fun q hq => Below.heap_setCell _ _ _ _ (by have := (World.ownsRow.lt hown' q hq).1; show q ≠ B; omega)), ?_, ?_, fun q hq hqB => (Below.heap_setCell _ _ _ _ (by show q ≠ B; exact hqB)).trans (hold q hq)⟩
  · refine ((KeepsOthers.alloc W tmp).trans (KeepsOthers.of_grownBy hgrow fun j o ej hj => ?_)).trans (KeepsOthers.setCell _ _ _)
    rcases (hrow.alloc tmp).2 with ⟨rfl, _⟩ | ⟨g, cap, cur, rfl, _, hgb, _⟩
    · simp [Value.ownBlock] at ej
    · obtain rfl : g = j := by simpa [Value.ownBlock] using ej
      rw [hgb] at hj; cases hj; rfl
  · exact (((Below.refl B W).alloc (by omega) tmp).grown hgrow (by omega) fun j ej => by have := (World.ownsRow.lt hrow j ej).1; omega).setCell (p := ⟨B, 0, none⟩) (Nat.le_refl _) v'

def blkI {f : Func} (x : Blk f) : Int := ((x.1 : Nat) : Int)
/-- where one goes from a block, as numbers -/
def nextL (f : Func) (b : Int) : List Int := (nextS f b).map blkI

end Mu
end
section
/-
  What data that was read is known to be; contracts said over worlds, said over abstract values.
  Conditions: none.
-/
namespace Mu
open Go Go.RowKit Go.Proofs

def okInts (l : List Int) : Prop := ∀ x ∈ l, wfI .i64 x
structure okIns (x : Ins) : Prop where
  op : wfI .u8 x.op
  d : wfI .i64 x.d
  a : wfI .i64 x.a
  b : wfI .i64 x.b
  n : wfI .u32 x.n
  f : wfI .i64 x.f
  l1 : wfI .i64 x.l1
  l2 : wfI .i64 x.l2
  args : okInts x.args
structure okBlock (b : Block) : Prop where
  name : b.name.size ≤ maxLen
  ins : ∀ x ∈ b.ins, okIns x
structure okFunc (f : Func) : Prop where
  name : f.name.size ≤ maxLen
  args : wfI .i64 f.args
  regs : wfI .i64 f.regs
  blocks : ∀ b ∈ f.blocks, okBlock b
section
variable {w : World} {S : Nat → Prop} {cs : List Value}
theorem ok_slice {α : Type} {T : Ty α} {p : α → Prop} {l : List α} (hp : ∀ cs d, T.RS w S cs d → p d) (h : T.slice.RS w S cs l) : ∀ x ∈ l, p x := by
  obtain ⟨A, c, rfl, _, _, hi⟩ := h
  intro x hx
  obtain ⟨j, hj⟩ := List.mem_iff_getElem?.1 hx
  obtain ⟨b, o, _, _, cs', h1, _⟩ := hi j x hj
  exact hp cs' x h1
theorem ok_ints {l : List Int} (h : tInt.slice.RS w S cs l) : okInts l := ok_slice (T := tInt) (p := wfI .i64) (fun _ _ h => (tInt_R.1 h).2) h
theorem ok_ins {x : Ins} (h : tIns.RS w S cs x) : okIns x := by
  obtain ⟨A, c, hI⟩ := tIns_R.1 h
  exact ⟨hI.op, hI.d, hI.a, hI.b, hI.n, hI.f, hI.l1, hI.l2, ok_ints hI.args⟩
theorem ok_block {x : Block} (h : tBlock.RS w S cs x) : okBlock x := by
  obtain ⟨A, c, _, h1, h2⟩ := tBlock_R.1 h
  exact ⟨h1, ok_slice (fun _ _ h => ok_ins h) h2⟩
theorem ok_func {x : Func} (h : tFunc.RS w S cs x) : okFunc x := by
  obtain ⟨A, c, _, h1, h2, h3, h4⟩ := tFunc_R.1 h
  exact ⟨h1, h2, h3, ok_slice (fun _ _ h => ok_block h) h4⟩
variable {h : List ABlk} {ψ : Nat → Value}
theorem put_ins {x : Ins} (ho : okIns x) (H : AV.relL w S h ψ (encIns x) cs) : tIns.RS w S cs x := by
  simp only [encIns, AV.relL, AV.rel] at H
  obtain ⟨_, _, rfl, rfl, _, _, rfl, rfl, _, _, rfl, rfl, _, _, rfl, rfl, _, _, rfl, rfl, _, _, rfl, rfl, _, _, rfl, ha, _, _, rfl, rfl, _, _, rfl, rfl, rfl⟩ := H
  obtain ⟨A, c, rfl⟩ := slice_form ha
  exact tIns_R.2 ⟨A, c, rfl, ho.op, ho.d, ho.a, ho.b, ho.n, ho.f, ho.l1, ho.l2, ha⟩
theorem put_block {x : Block} (ho : x.name.size ≤ maxLen) (H : AV.relL w S h ψ (encBlock x) cs) : tBlock.RS w S cs x := by
  simp only [encBlock, AV.relL, AV.rel] at H
  obtain ⟨_, _, rfl, rfl, _, _, rfl, ha, rfl⟩ := H
  obtain ⟨A, c, rfl⟩ := slice_form ha
  exact tBlock_R.2 ⟨A, c, rfl, ho, ha⟩
theorem put_func {x : Func} (ho : okFunc x) (H : AV.relL w S h ψ (encFunc x) cs) : tFunc.RS w S cs x := by
  simp only [encFunc, AV.relL, AV.rel] at H
  obtain ⟨_, _, rfl, rfl, _, _, rfl, rfl, _, _, rfl, rfl, _, _, rfl, ha, rfl⟩ := H
  obtain ⟨A, c, rfl⟩ := slice_form ha
  exact tFunc_R.2 ⟨A, c, rfl, ho.name, ho.args, ho.regs, ha⟩
end

section
variable {P : Program}
/-- what is known of the world is known -/
theorem Awp.know {C : Ctx} {c : Code} {Q : Exit → St → Prop} {s : St} {p : Prop} (hp : ∀ a w, s.rel C a w → p) (h : p → Awp P C c Q s) : Awp P C c Q s := fun a w H => h (hp a w H) a w H
theorem know_slot {C : Ctx} {t : List AV} {h : List ABlk} {α : Type} {T : Ty α} {l : List α} {p : Prop} (j : Nat) (hj : t[j]? = some (.bs T l)) (hp : ∀ w S cs, T.slice.RS w S cs l → p) : ∀ a w, St.rel C ⟨t, h⟩ a w → p := fun a w ⟨_, S, ψ, _, hl⟩ => by
  obtain ⟨v, _, h2⟩ := relL_get hl hj
  unfold AV.rel at h2
  exact hp w S [v] h2
/-- a contract that speaks of all that is there, as one over abstract values: a result that does not lead to memory -/
theorem Fn.of_lit {f : FuncId} {args : List AV} {v : Value} (hE : Enters P f = true) (h : ∀ (w : World) (vs : List Value), AV.relL w (fun k => k < w.heap.size) [] ψ0 args vs → Calls P f vs.toArray w fun e w' => e = .returned v ∧ Below w.heap.size w w') : Fn P f args (.lit v) :=
  ⟨hE, fun w S vs hS hr => (h w vs (AV.relL_ext (Ext.grow [] ψ0 (fun _ _ => rfl) hS) _ _ hr)).mono fun e w' ⟨he, hb⟩ => ⟨v, he, hb, S, fun _ h => h, fun _ h => .inl h, fun k hk => Nat.lt_of_lt_of_le (hS k hk) hb.size, by unfold AV.rel; rfl⟩⟩
theorem Fn.of_tup2 {f : FuncId} {args : List AV} {v u : Value} (hE : Enters P f = true) (h : ∀ (w : World) (vs : List Value), AV.relL w (fun k => k < w.heap.size) [] ψ0 args vs → Calls P f vs.toArray w fun e w' => e = .returned (.tuple #[v, u]) ∧ Below w.heap.size w w') : Fn P f args (.tup [.lit v, .lit u]) :=
  ⟨hE, fun w S vs hS hr => (h w vs (AV.relL_ext (Ext.grow [] ψ0 (fun _ _ => rfl) hS) _ _ hr)).mono fun e w' ⟨he, hb⟩ => ⟨_, he, hb, S, fun _ h => h, fun _ h => .inl h, fun k hk => Nat.lt_of_lt_of_le (hS k hk) hb.size, by
    unfold AV.rel
    exact ⟨[v, u], rfl, by simp [AV.relL, AV.rel]⟩⟩⟩
/-- .. a row of integers that it made -/
theorem Fn.of_ints {f : FuncId} {args : List AV} {l : List Int} (hE : Enters P f = true) (hl : okInts l) (h : ∀ (w : World) (vs : List Value), AV.relL w (fun k => k < w.heap.size) [] ψ0 args vs → Calls P f vs.toArray w fun e w' => ∃ v, e = .returned v ∧ OwnI w' w.heap.size v l ∧ Below w.heap.size w w') : Fn P f args (.bs tInt l) :=
  ⟨hE, fun w S vs hS hr => (h w vs (AV.relL_ext (Ext.grow [] ψ0 (fun _ _ => rfl) hS) _ _ hr)).mono fun e w' ⟨v, he, ho, hb⟩ => by
    refine ⟨v, he, hb, fun k => S k ∨ v.ownBlock = some k, fun _ h => .inl h, fun k hk => hk.imp id fun e => (ho.lt k e).1, fun k hk => ?_, ?_⟩
    · rcases hk with hk | hk
      · exact Nat.lt_of_lt_of_le (hS k hk) hb.size
      · exact (ho.lt k hk).2
    · unfold AV.rel
      exact tInt.slice.keepS (own_intsS ho hl) (fun _ _ => rfl) fun k hk => .inr hk⟩
/-- .. rows of integers that it made: whatever is read lies in memory that it made -/
theorem Fn.of_fresh {f : FuncId} {args : List AV} {α : Type} {T : Ty α} {l : List α} (hE : Enters P f = true) (h : ∀ (w : World) (vs : List Value), AV.relL w (fun k => k < w.heap.size) [] ψ0 args vs → Calls P f vs.toArray w fun e w' => ∃ v, e = .returned v ∧ T.slice.RS w' (fun k => w.heap.size ≤ k ∧ k < w'.heap.size) [v] l ∧ Below w.heap.size w w') : Fn P f args (.bs T l) :=
  ⟨hE, fun w S vs hS hr => (h w vs (AV.relL_ext (Ext.grow [] ψ0 (fun _ _ => rfl) hS) _ _ hr)).mono fun e w' ⟨v, he, ho, hb⟩ => by
    refine ⟨v, he, hb, fun k => S k ∨ (w.heap.size ≤ k ∧ k < w'.heap.size), fun _ h => .inl h, fun k hk => hk.imp id fun e => e.1, fun k hk => ?_, ?_⟩
    · rcases hk with hk | hk
      · exact Nat.lt_of_lt_of_le (hS k hk) hb.size
      · exact hk.2
    · unfold AV.rel
      exact T.slice.keepS ho (fun _ _ => rfl) fun k hk => .inr hk⟩
theorem arg1 {w : World} {S : Nat → Prop} {h : List ABlk} {ψ : Nat → Value} {x : AV} {vs : List Value} (H : AV.relL w S h ψ [x] vs) : ∃ v, vs = [v] ∧ AV.rel w S h ψ x v := by
  simp only [AV.relL] at H
  obtain ⟨v, _, rfl, h1, rfl⟩ := H
  exact ⟨v, rfl, h1⟩
theorem arg2 {w : World} {S : Nat → Prop} {h : List ABlk} {ψ : Nat → Value} {x y : AV} {vs : List Value} (H : AV.relL w S h ψ [x, y] vs) : ∃ v u, vs = [v, u] ∧ AV.rel w S h ψ x v ∧ AV.rel w S h ψ y u := by
  simp only [AV.relL] at H
  obtain ⟨v, _, rfl, h1, u, _, rfl, h2, rfl⟩ := H
  exact ⟨v, u, rfl, h1, h2⟩
theorem rel_agg {w : World} {S : Nat → Prop} {h : List ABlk} {ψ : Nat → Value} {l : List AV} {v : Value} (H : AV.rel w S h ψ (.agg l) v) : ∃ cs, v = .agg cs.toArray ∧ AV.relL w S h ψ l cs := by unfold AV.rel at H; exact H
theorem rel_lit {w : World} {S : Nat → Prop} {h : List ABlk} {ψ : Nat → Value} {u v : Value} (H : AV.rel w S h ψ (.lit u) v) : v = u := by unfold AV.rel at H; exact H
theorem rel_bs {w : World} {S : Nat → Prop} {h : List ABlk} {ψ : Nat → Value} {α : Type} {T : Ty α} {l : List α} {v : Value} (H : AV.rel w S h ψ (.bs T l) v) : T.slice.RS w S [v] l := by unfold AV.rel at H; exact H
end

theorem readsC_ok {x : Ins} (h : okIns x) : okInts (readsC x) := by
  intro r hr
  unfold readsC at hr
  simp only [List.mem_append] at hr
  rcases hr with (hr | hr) | hr <;> split at hr <;> first | (simp at hr; done) | (simp at hr; subst hr; first | exact h.a | exact h.b) | exact h.args r hr
theorem ref_reads_fn (x : Ins) (ho : okIns x) (hl : x.args.length ≤ 2097152) : Fn Tryd.prog 34 [.agg (encIns x)] (.bs tInt (readsC x)) :=
  Fn.of_ints (by kernel_rfl) (readsC_ok ho) fun w vs hr => by
    obtain ⟨v, rfl, hv⟩ := arg1 hr
    obtain ⟨cs, rfl, hc⟩ := rel_agg hv
    exact ref_reads x w cs (put_ins ho hc) hl
theorem ref_writes_fn (x : Ins) (ho : okIns x) : Fn Tryd.prog 35 [.agg (encIns x)] (.tup [.lit (.int .i64 (if writesB x then x.d else 0)), .lit (.bool (writesB x))]) :=
  Fn.of_tup2 (by kernel_rfl) fun w vs hr => by
    obtain ⟨v, rfl, hv⟩ := arg1 hr
    obtain ⟨cs, rfl, hc⟩ := rel_agg hv
    refine (ref_writes x w cs (put_ins ho hc)).mono fun e w' ⟨he, hb⟩ => ⟨?_, hb⟩
    rw [he]
    unfold writesV
    cases writesB x <;> rfl
theorem same_fn (xs ys : List Int) (hx : xs.length ≤ 2097152) : Fn Tryd.prog 18 [.bs tInt xs, .bs tInt ys] (.lit (.bool (decide (xs = ys)))) :=
  Fn.of_lit (by kernel_rfl) fun w vs hr => by
    obtain ⟨v, u, rfl, hv, hu⟩ := arg2 hr
    exact (ref_same xs ys v u w (rel_bs hv) (rel_bs hu) hx).mono fun e w' ⟨he, hb⟩ => ⟨he, hb⟩
theorem nextL_ok {f : Func} (hf : f.blocks.length ≤ 2097152) (b : Int) : okInts (nextL f b) := by
  intro x hx
  unfold nextL at hx
  obtain ⟨y, _, rfl⟩ := List.mem_map.1 hx
  have := y.2
  simp [wfI, Lit.wf, IntKind.min, IntKind.max, IntKind.signed, IntKind.bits, blkI]
  omega
end Mu
end
section
/-
  Structs that are written out; results that lie in memory; over abstract states.
  Conditions: none; generic.
-/
namespace Mu
open Go Go.RowKit Go.Proofs

section
variable {P : Program}
/-- a struct's fields: places and sizes -/
def placesL? (P : Program) : List Field → Option (List (Nat × Nat))
  | [] => some []
  | f :: fs =>
    match P.info? f.type with
    | some i => (placesL? P fs).map fun l => (f.offset, i.size) :: l
    | none => none
def places? (P : Program) (t : TypeId) : Option (List (Nat × Nat)) :=
  match P.underlying t with
  | some (.struct fs) => placesL? P fs.toList
  | _ => none
theorem run_places (w : World) : ∀ (fs : List Field) (l : List (Nat × Nat)), placesL? P fs = some l → (fs.mapM (m := Sem) fun f => do pure (f.offset, ← Go.sizeOf f.type)).run P w = .ok l w
  | [], l, h => by cases h; rfl
  | f :: fs, l, h => by
    unfold placesL? at h
    split at h <;> try (cases h; done)
    rename_i i hi
    obtain ⟨l', h1, rfl⟩ := Option.map_eq_some_iff.1 h
    have ih := run_places w fs l' h1
    have h0 : (do pure (f.offset, ← Go.sizeOf f.type) : Sem (Nat × Nat)).run P w = .ok (f.offset, i.size) w := by simp [Go.sizeOf, typeInfo, hi]
    rw [List.mapM_cons, Sem.run_bind, h0]
    simp only [Result.andThen_ok, Sem.run_bind, ih, Sem.run_pure]
/-- cells with single cells put in -/
def putCells (pl : List (Nat × Nat)) : List AV → List (Nat × AV) → Option (List AV)
  | cs, [] => some cs
  | cs, (j, x) :: ps =>
    match pl[j]? with
    | some (off, 1) => if off < cs.length then putCells pl (cs.set off x) ps else none
    | _ => none
theorem fill_put {w : World} {S : Nat → Prop} {h : List ABlk} {ψ : Nat → Value} {pl : List (Nat × Nat)} : ∀ (ps : List (Nat × AV)) (cs rs : List AV) (vs : List (Nat × Value)) (us : List Value), putCells pl cs ps = some rs → AV.relL w S h ψ cs us →
    vs.map (·.1) = ps.map (·.1) → (∀ (j : Nat) (p : Nat × AV) (v : Nat × Value), ps[j]? = some p → vs[j]? = some v → AV.rel w S h ψ p.2 v.2 ∧ v.2.oneCell' = true) →
    ∃ us', Instr.fill (fun i => pl[i]?) us.toArray vs = some us'.toArray ∧ AV.relL w S h ψ rs us'
  | [], cs, rs, vs, us, hp, hr, hv, _ => by
    cases hp
    have : vs = [] := by simpa using hv
    subst this
    exact ⟨us, rfl, hr⟩
  | (j, x) :: ps, cs, rs, vs, us, hp, hr, hv, hrel => by
    cases vs with
    | nil => simp at hv
    | cons v vs =>
      simp only [List.map_cons, List.cons.injEq] at hv
      obtain ⟨hv1, hv2⟩ := hv
      unfold putCells at hp
      split at hp <;> try (cases hp; done)
      rename_i off hpl
      split at hp <;> try (cases hp; done)
      rename_i hoff
      obtain ⟨h1, h2⟩ := hrel 0 _ _ rfl rfl
      have hul := relL_len hr
      obtain ⟨us', h3, h4⟩ := fill_put ps (cs.set off x) rs vs (us.set off v.2) hp (relL_set hr off h1) hv2 fun j p v hp hv => hrel (j + 1) p v (by simpa using hp) (by simpa using hv)
      refine ⟨us', ?_, h4⟩
      obtain ⟨i, v⟩ := v
      dsimp only at hv1 h1 h2 h3
      subst hv1
      unfold Instr.fill
      simp only [hpl, cells_one h2]
      have hc : ¬ ((decide ((#[v] : Array Value).size ≠ 1) || decide (off + (#[v] : Array Value).size > us.toArray.size)) = true) := by
        simp
        omega
      rw [if_neg hc]
      simpa using h3
theorem Quiet.build {C : Ctx} {t : List AV} {h : List ABlk} {o : Oper} {ty : TypeId} {parts : Array (Nat × Operand)} {zs : List Value} {pl : List (Nat × Nat)} {rs : List AV} (ho : o.op = .build ty parts) (hz : zeroCells? P ty = some zs) (hpl : places? P ty = some pl)
    (hr : putCells pl (zs.map .lit) (parts.toList.map fun p => (p.1, evA t p.2)) = some rs) (h1 : ∀ p ∈ parts.toList, One h (evA t p.2)) : Quiet P C t h o (.agg rs) :=
  Quiet.of_run fun S ψ w ρ H hρ => by
    unfold zeroCells? at hz
    obtain ⟨z, hz1, rfl⟩ := Option.map_eq_some_iff.1 hz
    obtain ⟨i, hi, hz2⟩ := Option.bind_eq_some_iff.1 hz1
    unfold places? at hpl
    split at hpl <;> try (cases hpl; done)
    rename_i fs hu
    have hrp := run_places (P := P) w fs.toList pl hpl
    have hmem : ∀ p ∈ parts.toList, AV.rel w S h ψ (evA t p.2) (ρ p.2) := fun p hp => hρ p.2 (by rw [ho]; exact List.mem_toArray.2 (List.mem_map.2 ⟨p, hp, rfl⟩))
    obtain ⟨us', h3, h4⟩ := fill_put (w := w) (S := S) (h := h) (ψ := ψ) _ _ rs (parts.toList.map fun p => (p.1, ρ p.2)) z.cells.toList hr (relL_lits _) (by simp) fun j p v hp hv => by
      rw [List.getElem?_map] at hp hv
      obtain ⟨q, hq, rfl⟩ := Option.map_eq_some_iff.1 hp
      rw [hq] at hv
      cases hv
      have hqm := List.mem_of_getElem? hq
      exact ⟨hmem q hqm, h1 q hqm C S ψ w _ H (hmem q hqm)⟩
    refine ⟨.agg us'.toArray, ?_, by unfold AV.rel; exact ⟨us', rfl, h4⟩⟩
    have hpa : (fs.mapM (m := Sem) fun f => do pure (f.offset, ← Go.sizeOf f.type)).run P w = .ok pl.toArray w := by
      rw [← Array.toArray_toList (xs := fs), List.mapM_toArray, Sem.run_map, hrp]
      rfl
    have hf : Instr.fill (fun i => pl.toArray[i]?) z.cells (parts.map fun p => (p.1, ρ p.2)).toList = some us'.toArray := by simpa using h3
    simp only [execOp, ho, Instr.build, zeroValue, typeInfo, underlying, Sem.run_bind, run_program, Result.andThen_ok, hi, hz2, Sem.run_pure, hu, hpa, hf]

/-- a result that lies in memory -/
def RetsC (t : Tmp) (r : AV) : Exit → St → Prop := fun e s => (e = .normal ∨ e = .ret) ∧ ∃ i cells, evA s.t (.tmp t) = .ptr i 0 ∧ s.h[i]? = some (.box cells) ∧ Fin s.h (.agg cells) r
theorem Fn.of_awpC {f : FuncId} {fn : Go.Func} {c : Code} {args : List AV} {r : AV} {t : Tmp} {ty : TypeId} {n m : Nat} (hf : P.funcs[f]? = some fn) (hb : fn.body = some c) (hE : Enters P f = true) (hres : fn.results = #[.cell t ty]) (ha : aggT P ty = some (true, m)) (hn : fn.ntmps = n)
    (h : ∀ C : Ctx, C.std → Awp P C c (fun e s => RetsC t r e s ∧ ∀ i cells, evA s.t (.tmp t) = .ptr i 0 → s.h[i]? = some (.box cells) → cells.length = m) ⟨args ++ List.replicate (n - args.length) (.lit undef), []⟩) : Fn P f args r := by
  refine ⟨hE, fun w S vs hS hr => calls_of_wp hf hb ?_⟩
  rw [hn]
  refine wp_mono ((h ⟨w, S, fun k => k < w.heap.size, none⟩ (fun _ h => h)).wp rfl (start_rel hS hr)) ?_
  rintro e a' w' ⟨s, ⟨⟨he, i, cells, hev, hi, hfin⟩, hlen⟩, hd, S1, ψ, H, hl⟩
  rw [hfin.1] at hd
  have hm := hlen i cells hev hi
  have hv := ev_rel hl (.tmp t)
  rw [hev] at hv
  unfold AV.rel at hv
  obtain ⟨g, h1, h2⟩ := hv.2 (by rw [hi]; rfl)
  obtain ⟨g', cs, e', h3, _, _, h4, h5⟩ := H.blk i _ hi
  rw [h1] at h3
  cases h3
  have hc : ∀ j u, cs[j]? = some u → w'.cell? ⟨g, 0 + j, none⟩ = some u := fun j u hu => by simp [World.cell?, h4, hu]
  have hload := run_load_agg (P := P) (ty := ty) (b := g) (off := 0) ha (by rw [relL_len h5]; exact hm) hc
  have hres' : (results fn a'.tmps).run P w' = .ok (.agg cs.toArray) w' := by
    have e1 : (a'.tmps[t]?).getD undef = .pointer (some ⟨g, 0, none⟩) := by rw [← Array.getD_eq_getD_getElem?]; exact h2
    unfold Instr.loadAt Instr.sureAddr at hload
    simp only [Sem.run_bind, Sem.run_pure, Result.andThen_ok] at hload
    simp [results, hres, e1, asAddr, hload]
  have hg := good_final H hfin (by unfold AV.rel; exact ⟨cs, rfl, h5⟩)
  rcases he with rfl | rfl
  · exact ⟨hd, _, hres', _, rfl, hg⟩
  · exact ⟨hd, _, hres', _, rfl, hg⟩
end
end Mu
end
section
/-
  Regions that draw their order in which a variable's memory is made beside reads and calls.
  Conditions: none; generic.
-/
namespace Mu
open Go Go.RowKit

mutual
/-- does not speak of block p -/
def AV.nr (p : Nat) : AV → Bool
  | .own i _ => i != p
  | .ptr i _ => i != p
  | .rp i _ _ _ => i != p
  | .agg l => AV.nrL p l
  | .tup l => AV.nrL p l
  | _ => true
def AV.nrL (p : Nat) : List AV → Bool
  | [] => true
  | x :: l => AV.nr p x && AV.nrL p l
end
def nrB (p : Nat) : ABlk → Bool
  | .box cells => AV.nrL p cells
  | _ => true
section
variable {w : World} {S : Nat → Prop} {h : List ABlk} {ψ ψ' : Nat → Value} {p : Nat} {b : ABlk}
mutual
theorem AV.rel_up (hψ : ∀ i, i ≠ p → ψ' i = ψ i) : ∀ (x : AV) (v : Value), AV.nr p x = true → AV.rel w S h ψ x v → AV.rel w S (h.set p b) ψ' x v
  | .any, _, _, _ => by unfold AV.rel; trivial
  | .lit u, v, _, H => by unfold AV.rel at H ⊢; exact H
  | .bs T l, v, _, H => by unfold AV.rel at H ⊢; exact H
  | .tv T d, v, _, H => by unfold AV.rel at H ⊢; exact H
  | .own i ver, v, hn, H => by
    have hi : i ≠ p := by simpa [AV.nr] using hn
    unfold AV.rel at H ⊢
    rw [List.getElem?_set_ne (Ne.symm hi), hψ i hi]
    exact ⟨by simpa using H.1, H.2⟩
  | .ptr i off, v, hn, H => by
    have hi : i ≠ p := by simpa [AV.nr] using hn
    unfold AV.rel at H ⊢
    rw [List.getElem?_set_ne (Ne.symm hi), hψ i hi]
    exact ⟨by simpa using H.1, H.2⟩
  | .rp i ver k off, v, hn, H => by
    have hi : i ≠ p := by simpa [AV.nr] using hn
    unfold AV.rel at H ⊢
    rw [List.getElem?_set_ne (Ne.symm hi), hψ i hi]
    exact ⟨by simpa using H.1, H.2⟩
  | .bp T d off, v, _, H => by unfold AV.rel at H ⊢; exact H
  | .agg l, v, hn, H => by
    unfold AV.nr at hn
    unfold AV.rel at H ⊢
    obtain ⟨cs, e, hl⟩ := H
    exact ⟨cs, e, AV.relL_up hψ l cs hn hl⟩
  | .tup l, v, hn, H => by
    unfold AV.nr at hn
    unfold AV.rel at H ⊢
    obtain ⟨cs, e, hl⟩ := H
    exact ⟨cs, e, AV.relL_up hψ l cs hn hl⟩
theorem AV.relL_up (hψ : ∀ i, i ≠ p → ψ' i = ψ i) : ∀ (l : List AV) (cs : List Value), AV.nrL p l = true → AV.relL w S h ψ l cs → AV.relL w S (h.set p b) ψ' l cs
  | [], cs, _, H => by unfold AV.relL at H ⊢; exact H
  | x :: l, cs, hn, H => by
    unfold AV.nrL at hn
    rw [Bool.and_eq_true] at hn
    unfold AV.relL at H ⊢
    obtain ⟨v, vs, e, h1, h2⟩ := H
    exact ⟨v, vs, e, AV.rel_up hψ x v hn.1 h1, AV.relL_up hψ l vs hn.2 h2⟩
end
variable {h' : List ABlk}
mutual
theorem AV.rel_cute (hc : Cut h h') (hl : h'.length = h.length) : ∀ (x : AV) (v : Value), AV.rel w S h ψ x v → AV.rel w S h' ψ x v
  | .any, _, _ => by unfold AV.rel; trivial
  | .lit u, v, H => by unfold AV.rel at H ⊢; exact H
  | .bs T l, v, H => by unfold AV.rel at H ⊢; exact H
  | .tv T d, v, H => by unfold AV.rel at H ⊢; exact H
  | .own i ver, v, H => by
    unfold AV.rel at H ⊢
    exact ⟨by omega, fun c hv => H.2 c (hc.ver hv).1⟩
  | .ptr i off, v, H => by
    unfold AV.rel at H ⊢
    exact ⟨by omega, fun hv => H.2 (hc.box hv)⟩
  | .rp i ver k off, v, H => by
    unfold AV.rel at H ⊢
    refine ⟨by omega, fun c hv => ?_⟩
    rw [(hc.ver hv).2]
    exact H.2 c (hc.ver hv).1
  | .bp T d off, v, H => by unfold AV.rel at H ⊢; exact H
  | .agg l, v, H => by
    unfold AV.rel at H ⊢
    obtain ⟨cs, e, hL⟩ := H
    exact ⟨cs, e, AV.relL_cute hc hl l cs hL⟩
  | .tup l, v, H => by
    unfold AV.rel at H ⊢
    obtain ⟨cs, e, hL⟩ := H
    exact ⟨cs, e, AV.relL_cute hc hl l cs hL⟩
theorem AV.relL_cute (hc : Cut h h') (hl : h'.length = h.length) : ∀ (l : List AV) (cs : List Value), AV.relL w S h ψ l cs → AV.relL w S h' ψ l cs
  | [], cs, H => by unfold AV.relL at H ⊢; exact H
  | x :: l, cs, H => by
    unfold AV.relL at H ⊢
    obtain ⟨v, vs, e, h1, h2⟩ := H
    exact ⟨v, vs, e, AV.rel_cute hc hl x v h1, AV.relL_cute hc hl l vs h2⟩
end
theorem HRel.cute {C : Ctx} (H : HRel C h S ψ w) (hc : Cut h h') (hl : h'.length = h.length) : HRel C h' S ψ w :=
  ⟨H.bel, H.nlt, H.lt, H.sub, H.new, fun i b hi => by
    rcases hc.blk i b hi with rfl | h1
    · trivial
    · have hB := H.blk i b h1
      cases b with
      | dead => trivial
      | box cells =>
        obtain ⟨g, cs, e, k1, k2, k3, k4, k5⟩ := hB
        exact ⟨g, cs, e, k1, k2, k3, k4, AV.relL_cute hc hl _ _ k5⟩
      | row ver e T l => exact hB
      | res R => exact hB, fun i j hij h1 h2 => by rw [hc.same h1, hc.same h2]; exact H.dis i j hij (hc.live h1) (hc.live h2)⟩
theorem Cut.of_set (hp : h[p]? = some .dead) : Cut (h.set p b) h := ⟨by simp, fun i c hi => by
  by_cases hip : i = p
  · subst hip; rw [hp] at hi; exact .inl (by injection hi with e; exact e.symm)
  · exact .inr (by rw [List.getElem?_set_ne (Ne.symm hip)]; exact hi)⟩
theorem Quiet.up {P : Program} {C : Ctx} {t : List AV} {o : Oper} {r : AV} (hp : h[p]? = some .dead) (hr : AV.nr p r = true) (hq : Quiet P C t h o r) : Quiet P C t (h.set p b) o r := by
  intro S ψ w ρ H hx
  have hc : Cut (h.set p b) h := Cut.of_set hp
  have hl : h.length = (h.set p b).length := by simp
  have h1 := hq S ψ w ρ (H.cute hc hl) fun x hxm => AV.rel_cute hc hl _ _ (hx x hxm)
  have key : ∀ v w', Good w S h ψ r v w' → Good w S (h.set p b) ψ r v w' := fun v w' ⟨hb, S', k1, k2, k3, k4⟩ => ⟨hb, S', k1, k2, k3, AV.rel_up (fun _ _ => rfl) r v hr k4⟩
  cases hres : (execOp ρ o).run P w with
  | ok n w' =>
    rw [hres] at h1
    cases n <;> simp only [qUpon] at h1 ⊢
    case value v => exact key _ _ h1
    case skip => exact key _ _ h1
    case enter f args => exact ⟨h1.1, h1.2.mono fun e w'' ⟨v, he, hg⟩ => ⟨v, he, key _ _ hg⟩⟩
  | halt x w' => rw [hres] at h1; simp only [qUpon] at h1
theorem HRel.revive {C : Ctx} {w' : World} {v : Value} (H : HRel C h S ψ w) (hp : h[p]? = some .dead) (hn : h.all (nrB p) = true) (hb : Below w.heap.size w w') (hB : BRel C.N w' S (h.set p b) (ψset ψ p v) v b) (hg : ∀ g, ftp (some b) v g → w.heap.size ≤ g) :
    HRel C (h.set p b) S (ψset ψ p v) w' := by
  have hpl := (List.getElem?_eq_some_iff.1 hp).1
  have H' := H.grow (S' := S) hb (fun _ h => h) (fun _ h => .inl h) fun k hk => Nat.lt_of_lt_of_le (H.lt k hk) hb.size
  have hlt : ∀ i, ABlk.live h[i]? = true → ∀ g, ftp h[i]? (ψ i) g → g < w.heap.size := fun i hl g hgg => by
    obtain ⟨c, hc⟩ := live_some hl
    rw [hc] at hgg
    exact ((H.blk i c hc).lt (by rw [← hc]; exact hl) g hgg).2.1
  refine ⟨H'.bel, H'.nlt, H'.lt, H'.sub, H'.new, fun i c hi => ?_, fun i j hij hi hj g h1 h2 => ?_⟩
  · by_cases hip : i = p
    · subst hip
      rw [List.getElem?_set_self hpl] at hi
      cases hi
      rw [ψset_self]
      exact hB
    · rw [List.getElem?_set_ne (Ne.symm hip)] at hi
      rw [ψset_ne hip]
      have hc := H'.blk i c hi
      have hnr := List.all_eq_true.1 hn c (List.mem_of_getElem? hi)
      cases c with
      | dead => trivial
      | box cells =>
        obtain ⟨g, cs, e, k1, k2, k3, k4, k5⟩ := hc
        exact ⟨g, cs, e, k1, k2, k3, k4, AV.relL_up (fun i hi => ψset_ne hi) _ _ hnr k5⟩
      | row ver e T l => exact hc
      | res R => exact hc
  · by_cases hip : i = p
    · subst hip
      rw [ψset_self, List.getElem?_set_self hpl] at h1
      have hji : j ≠ i := Ne.symm hij
      rw [ψset_ne hji, List.getElem?_set_ne (Ne.symm hji)] at h2
      rw [List.getElem?_set_ne (Ne.symm hji)] at hj
      have := hlt j hj g h2
      have := hg g h1
      omega
    · rw [ψset_ne hip, List.getElem?_set_ne (Ne.symm hip)] at h1
      rw [List.getElem?_set_ne (Ne.symm hip)] at hi
      by_cases hjp : j = p
      · subst hjp
        rw [ψset_self, List.getElem?_set_self hpl] at h2
        have := hlt i hi g h1
        have := hg g h2
        omega
      · rw [ψset_ne hjp, List.getElem?_set_ne (Ne.symm hjp)] at h2
        rw [List.getElem?_set_ne (Ne.symm hjp)] at hj
        exact H.dis i j hij hi hj g h1 h2
end

section
variable {P : Program} {C : Ctx} {ops : Array Oper} {md : Region.Mode} {h : List ABlk} {p ip : Nat} {zs : List Value} {elem : TypeId}

/-- an operation among them makes a variable -/
def isAl (o : Oper) : Bool :=
  match o.op with
  | .alloc _ => true
  | _ => false
def bYields (P : Program) (C : Ctx) (ops : Array Oper) (h : List ABlk) (p : Nat) (zs : List Value) (o : Oper) (r : AV) (t : List AV) : Prop :=
  (isAl o = false ∧ gA ops t o = some true ∧ Quiet P C t h o r ∧ AV.nr p r = true) ∨ (isAl o = false ∧ gA ops t o = some false ∧ r = .lit undef) ∨ (isAl o = true ∧ o.guard = none ∧ r = .ptr p 0 ∧ ∃ elem, o.op = .alloc elem ∧ zeroCells? P elem = some zs)
def bOp (P : Program) (C : Ctx) (ops : Array Oper) (h : List ABlk) (p ip : Nat) (zs : List Value) (i : Nat) (K : List AV → Prop) (t : List AV) : Prop :=
  match ops[i]? with
  | none => K t
  | some o => ∃ r, bYields P C ops h p zs o r t ∧ isAl o = decide (i = ip) ∧ K (putA t o.dst r)
theorem bOp_mono {i : Nat} {t : List AV} {K K' : List AV → Prop} (hk : ∀ t, K t → K' t) (hh : bOp P C ops h p ip zs i K t) : bOp P C ops h p ip zs i K' t := by
  unfold bOp at *
  split
  · exact hk _ (by simpa [*] using hh)
  · rename_i o ho
    simp only [ho] at hh
    obtain ⟨r, h1, h2, h3⟩ := hh
    exact ⟨r, h1, h2, hk _ h3⟩
def bAny (P : Program) (C : Ctx) (md : Region.Mode) (ops : Array Oper) (h : List ABlk) (p ip : Nat) (zs : List Value) (n : Nat) (L : Array Bool → List AV → Prop) : Nat → Array Bool → List AV → Prop
  | 0, listed, t => L listed t
  | f + 1, listed, t =>
    Region.ready md ops listed ≠ [] ∧ ∀ i ∈ Region.ready md ops listed, i < n ∧ bOp P C ops h p ip zs i (bAny P C md ops h p ip zs n L f (listed.setIfInBounds i true)) t
def hcur (h : List ABlk) (p ip : Nat) (zs : List Value) (listed : Array Bool) : List ABlk := if listed.getD ip false = true then h.set p (.box (zs.map .lit)) else h
theorem hcur_ne {listed : Array Bool} {i : Nat} (hi : i ≠ ip) : hcur h p ip zs (listed.setIfInBounds i true) = hcur h p ip zs listed := by
  unfold hcur
  rw [getD_set_ne false hi]
theorem hcur_or {listed : Array Bool} : hcur h p ip zs listed = h ∨ hcur h p ip zs listed = h.set p (.box (zs.map .lit)) := by
  unfold hcur
  split
  · exact .inr rfl
  · exact .inl rfl
theorem nrL_put {t : List AV} {d : Option Tmp} {r : AV} (ht : AV.nrL p t = true) (hr : AV.nr p r = true) : AV.nrL p (putA t d r) = true := by
  cases d with
  | none => exact ht
  | some d =>
    unfold putA
    simp only
    induction t generalizing d with
    | nil => exact ht
    | cons x t ih =>
      unfold AV.nrL at ht
      rw [Bool.and_eq_true] at ht
      cases d with
      | zero => unfold List.set AV.nrL; rw [hr, ht.2]; rfl
      | succ d => unfold List.set AV.nrL; rw [ht.1, ih ht.2]; rfl
theorem wpOp_of_bOp {i : Nat} {t : List AV} {a : Act} {w : World} {K : List AV → Prop} {K' : Act → World → Prop} {Q' : Exit → Act → World → Prop} {listed : Array Bool} (hp : h[p]? = some .dead) (hn : h.all (nrB p) = true) (hnt : listed.getD ip false = false → AV.nrL p t = true)
    (hip : ip < listed.size) (hr : i ∈ Region.ready md ops listed) (H : St.rel C ⟨t, hcur h p ip zs listed⟩ a w)
    (hK : ∀ t a w, K t → ((listed.setIfInBounds i true).getD ip false = false → AV.nrL p t = true) → St.rel C ⟨t, hcur h p ip zs (listed.setIfInBounds i true)⟩ a w → K' a w)
    (hh : bOp P C ops h p ip zs i K t) : wpOp P ops Q' i K' a w := by
  obtain ⟨hun, o, ho, -⟩ := mem_ready.1 hr
  unfold bOp at hh
  unfold wpOp
  simp only [ho] at hh ⊢
  obtain ⟨r, hy, hal, hk⟩ := hh
  obtain ⟨hd, S, ψ, hh', hl⟩ := id H
  have hnr : ∀ {r : AV}, i ≠ ip → AV.nr p r = true → ((listed.setIfInBounds i true).getD ip false = false → AV.nrL p (putA t o.dst r) = true) := fun hi hr hl => by
    rw [getD_set_ne false hi] at hl
    exact nrL_put (hnt hl) hr
  rcases hy with ⟨ha, hg, hq, hrn⟩ | ⟨ha, hg, rfl⟩ | ⟨ha, hgd, rfl, el, hop, hz⟩
  · have hw := gA_wanted hg hl
    rw [hw, if_pos rfl]
    have hi : i ≠ ip := fun e => by rw [ha] at hal; simp [e] at hal
    refine .inl ?_
    have hq' : Quiet P C t (hcur h p ip zs listed) o r := by
      rcases hcur_or (h := h) (p := p) (ip := ip) (zs := zs) (listed := listed) with e | e <;> rw [e]
      · exact hq
      · exact hq.up hp hrn
    exact upon_of_q (s := ⟨t, hcur h p ip zs listed⟩) hd hh' hl (hq' S ψ w a.eval hh' fun x _ => ev_rel hl x) fun a' w' h' => hK _ _ _ hk (hnr hi hrn) (by rw [hcur_ne hi]; exact h')
  · have hw := gA_wanted hg hl
    rw [hw, if_neg (by simp)]
    have hi : i ≠ ip := fun e => by rw [ha] at hal; simp [e] at hal
    exact hK _ _ _ hk (hnr hi rfl) (by rw [hcur_ne hi]; exact undef_rel H o.dst)
  · have hi : i = ip := by rw [ha] at hal; simpa using hal.symm
    subst hi
    have hw : Region.wanted o (yielded ops a.tmps) = true := by unfold Region.wanted; rw [hgd]
    rw [hw, if_pos rfl]
    refine .inl ?_
    have hun' : listed.getD i false = false := getD_both hun
    have hc0 : hcur h p i zs listed = h := by unfold hcur; rw [if_neg (by simp [hun'])]
    have hc1 : hcur h p i zs (listed.setIfInBounds i true) = h.set p (.box (zs.map .lit)) := by
      unfold hcur
      rw [if_pos (by simp [Array.getD_eq_getD_getElem?, hip])]
    rw [hc0] at hh' hl
    unfold zeroCells? at hz
    obtain ⟨z, hz1, rfl⟩ := Option.map_eq_some_iff.1 hz
    obtain ⟨ti, hti, hz2⟩ := Option.bind_eq_some_iff.1 hz1
    have hrun : (execOp a.eval o).run P w = .ok (.value (.pointer (some ⟨w.heap.size, 0, none⟩))) (w.alloc (.cells z.cells el)) := by
      simp [execOp, hop, Instr.alloc, zeroValue, typeInfo, hti, hz2, newVar, newRow]
    unfold Oper.wp
    rw [hrun]
    have hb : Below w.heap.size w (w.alloc (.cells z.cells el)) := (Below.refl _ _).alloc (Nat.le_refl _) _
    have hB : BRel C.N (w.alloc (.cells z.cells el)) S (h.set p (.box (z.cells.toList.map .lit))) (ψset ψ p (.pointer (some ⟨w.heap.size, 0, none⟩))) (.pointer (some ⟨w.heap.size, 0, none⟩)) (.box (z.cells.toList.map .lit)) :=
      ⟨w.heap.size, z.cells.toList, el, rfl, fun hN => by have := hh'.nlt _ hN; have := hh'.bel.size; omega, fun hS => by have := hh'.lt _ hS; omega, by simpa using heap_alloc_new w (.cells z.cells el), relL_lits _⟩
    have H1 := hh'.revive hp hn hb hB fun g hg => by simp [ftp, blkOf] at hg; omega
    have hl1 := AV.relL_ext (Ext.grow h ψ (fun k hk => hb.block k (hh'.lt k hk)) fun _ h => h) _ _ hl
    have hl2 := AV.relL_up (b := .box (z.cells.toList.map .lit)) (ψ' := ψset ψ p (.pointer (some ⟨w.heap.size, 0, none⟩))) (fun i hi => ψset_ne hi) _ _ (hnt hun') hl1
    refine hK _ _ _ hk (fun hl => ?_) ?_
    · simp [Array.getD_eq_getD_getElem?, hip] at hl
    · rw [hc1]
      refine ⟨by rw [put_defers, hd]; show mkD (hcur _ _ _ _ _) = mkD (h.set p _); rw [hc0]; exact (mkD_set (b' := .box (z.cells.toList.map .lit)) hp rfl).symm, S, _, H1, put_rel hl2 o.dst ?_⟩
      unfold AV.rel
      exact ⟨by simpa using (List.getElem?_eq_some_iff.1 hp).1, fun _ => ⟨w.heap.size, ψset_self, rfl⟩⟩
theorem wpAny_of_b {n g : Nat} {L : Array Bool → List AV → Prop} {Q' : Exit → Act → World → Prop} (hp : h[p]? = some .dead) (hn : h.all (nrB p) = true) (hL : ∀ listed t a w, L listed t → St.rel C ⟨t, hcur h p ip zs listed⟩ a w → wpAny P md ops Q' g listed a w) :
    ∀ (f : Nat) (listed : Array Bool) (t : List AV) (a : Act) (w : World), ip < listed.size → (listed.getD ip false = false → AV.nrL p t = true) → bAny P C md ops h p ip zs n L f listed t → St.rel C ⟨t, hcur h p ip zs listed⟩ a w → wpAny P md ops Q' (f + g) listed a w
  | 0, listed, t, a, w, _, _, hh, H => by rw [Nat.zero_add]; exact hL _ _ _ _ hh H
  | f + 1, listed, t, a, w, hip, hnt, hh, H => by
    rw [show f + 1 + g = (f + g) + 1 by omega]
    exact ⟨fun h0 => absurd h0 hh.1, fun i hi => wpOp_of_bOp hp hn hnt hip hi H (fun t' a' w' h' hnt' H' => wpAny_of_b hp hn hL f _ t' a' w' (by simpa using hip) hnt' h' H') (hh.2 i hi).2⟩
theorem bYields_put {o : Oper} {t : List AV} {dst : Option Tmp} {u r : AV} (hdst : ∀ d, dst = some d → d ∉ o.looksAt ops) : bYields P C ops h p zs o r (putA t dst u) ↔ bYields P C ops h p zs o r t := by
  unfold bYields
  rw [gA_put hdst, quiet_put hdst]
theorem bOp_put {j : Nat} {oi oj : Oper} {v : AV} (hj : ops[j]? = some oj) (hap : oi.apart ops oj = true) {K : List AV → Prop} {t : List AV} (hy : bYields P C ops h p zs oi v t) (hh : bOp P C ops h p ip zs j K (putA t oi.dst v)) :
    bOp P C ops h p ip zs j (fun t' => bYields P C ops h p zs oi v t' ∧ K (putA t' oi.dst v)) t := by
  obtain ⟨h1, h2, h3⟩ := Oper.apart_spec hap
  unfold bOp at *
  simp only [hj] at *
  obtain ⟨r, hr, ha, hk⟩ := hh
  exact ⟨r, (bYields_put h1).1 hr, ha, (bYields_put h3).2 hy, by rw [← putA_comm t v r h2]; exact hk⟩
theorem bAny_first {n i : Nat} {oi : Oper} {v : AV} {L : Array Bool → List AV → Prop} (hi : ops[i]? = some oi) (hial : isAl oi = decide (i = ip))
    (htail : ∀ listed i, HeadInv md ops n listed → i < n → listed.getD i true = false → ∀ t, n ≤ t → t ∉ Region.ready md ops listed) (hin : i < n)
    (hdone : ∀ listed t, L listed t → ∀ j ∈ Region.ready md ops listed, n ≤ j) :
    ∀ (f : Nat) (listed : Array Bool) (t : List AV), HeadInv md ops n listed →
      (∀ j oj, ops[j]? = some oj → j ≠ i → listed.getD j true = false → (∀ e ∈ oj.after, Region.binds md e = true → e.on ≠ i) → oi.apart ops oj = true) →
      i ∈ Region.ready md ops listed → bYields P C ops h p zs oi v t →
      bAny P C md ops h p ip zs n L f (listed.setIfInBounds i true) (putA t oi.dst v) → bAny P C md ops h p ip zs n L (f + 1) listed t := by
  intro f
  induction f with
  | zero =>
    intro listed t inv _ hr hy H
    have hun := (mem_ready.1 hr).1
    refine ⟨fun h => (by rw [h] at hr; cases hr), fun j hj => ?_⟩
    have hjn : j < n := by
      rcases Nat.lt_or_ge j n with h | h
      · exact h
      · exact absurd hj (htail _ i inv hin hun j h)
    refine ⟨hjn, ?_⟩
    by_cases hji : j = i
    · subst hji
      unfold bOp
      simp only [hi]
      exact ⟨v, hy, hial, H⟩
    · have := hdone _ _ H j (ready_mono hj hji)
      omega
  | succ f ih =>
    intro listed t inv hfree hr hy H
    have hun := (mem_ready.1 hr).1
    refine ⟨fun h => (by rw [h] at hr; cases hr), fun j hj => ?_⟩
    have hjn : j < n := by
      rcases Nat.lt_or_ge j n with h | h
      · exact h
      · exact absurd hj (htail _ i inv hin hun j h)
    refine ⟨hjn, ?_⟩
    by_cases hji : j = i
    · subst hji
      unfold bOp
      simp only [hi]
      exact ⟨v, hy, hial, H⟩
    · have h1 := (H.2 j (ready_mono hj hji)).2
      obtain ⟨hjun, oj, hoj, hall⟩ := mem_ready.1 hj
      have hnot : ∀ e ∈ oj.after, Region.binds md e = true → e.on ≠ i := fun e he hb heq => by
        have h1 := hall e he hb
        rw [heq, getD_both hun] at h1
        cases h1
      have h2 := bOp_put hoj (hfree j oj hoj hji hjun hnot) hy h1
      have hfree' : ∀ k ok, ops[k]? = some ok → k ≠ i → (listed.setIfInBounds j true).getD k true = false →
          (∀ e ∈ ok.after, Region.binds md e = true → e.on ≠ i) → oi.apart ops ok = true := fun k ok hk hki hun hno => by
        refine hfree k ok hk hki ?_ hno
        by_cases hjk : j = k
        · subst hjk; exact hjun
        · rw [getD_set_ne true hjk] at hun; exact hun
      refine bOp_mono (fun a' h3 => ih (listed.setIfInBounds j true) a' (inv.set hj hjn) hfree' (ready_mono hr (Ne.symm hji)) h3.1 ?_) h2
      rw [Array.setIfInBounds_comm _ _ hji]
      exact h3.2
def bQ (P : Program) (C : Ctx) (ops : Array Oper) (h : List ABlk) (p ip : Nat) (zs : List Value) (K : List AV → Prop) : Nat → List Oper → List AV → Prop
  | _, [], t => K t
  | k, o :: rest, t => ∃ r, bYields P C ops h p zs o r t ∧ isAl o = decide (k = ip) ∧ bQ P C ops h p ip zs K (k + 1) rest (putA t o.dst r)
theorem bAny_lex {n g : Nat} {Lq : List AV → Prop} (htail : ∀ listed i, HeadInv md ops n listed → i < n → listed.getD i true = false → ∀ t, n ≤ t → t ∉ Region.ready md ops listed) (hipn : ip < n) :
    ∀ (l : List Oper) (k : Nat) (listed : Array Bool) (t : List AV), (∀ j, j < l.length → l[j]? = ops[k + j]?) → k + l.length = n → HeadInv md ops n listed → (∀ j, j < k → listed.getD j false = true) →
    Region.lexHead md ops g l.length k listed = true → bQ P C ops h p ip zs Lq k l t →
    bAny P C md ops h p ip zs n (fun listed' t' => Region.seqB md ops g n listed' = true ∧ listed'.getD ip false = true ∧ Lq t') l.length listed t
  | [], k, listed, t, _, hk, _, hset, hB, hh => by
    have : k = n := by simpa using hk
    subst this
    exact ⟨by simpa [Region.lexHead] using hB, hset ip hipn, hh⟩
  | o :: l, k, listed, t, hl, hk, inv, hset, hB, hh => by
    have h0 : ops[k]? = some o := by simpa using (hl 0 (by simp)).symm
    simp only [List.length_cons, Region.lexHead, Bool.and_eq_true] at hB
    obtain ⟨⟨hr, hf⟩, hB'⟩ := hB
    have hkn : k < n := by simp only [List.length_cons] at hk; omega
    have hr' : k ∈ Region.ready md ops listed := by simpa using hr
    obtain ⟨v, hy, ha, hK⟩ := hh
    have hks : k < listed.size := by rw [inv.size]; exact (Array.getElem?_eq_some_iff.1 h0).1
    refine bAny_first h0 ha htail hkn (fun listed' a' hL => seqB_ready hL.1) l.length listed t inv (Region.free_spec h0 hf) hr' hy
      (bAny_lex htail hipn l (k + 1) _ _ (fun j hj => by have := hl (j + 1) (by simp; omega); simpa [Nat.add_assoc, Nat.add_comm 1 j] using this) (by simp only [List.length_cons] at hk; omega) (inv.set hr' hkn) (fun j hj => ?_) hB' hK)
    by_cases hjk : k = j
    · subst hjk
      simp [Array.getD_eq_getD_getElem?, hks]
    · exact getD_set_true (hset j (by omega))
end
theorem St.le_dead {C : Ctx} {t : List AV} {h : List ABlk} : St.le C ⟨t, h⟩ ⟨t, h ++ [.dead]⟩ := fun a w ⟨hd, S, ψ, H, hl⟩ => by
  have X : Ext w S h ψ w S (h ++ [.dead]) (ψset ψ h.length (.slice none 0 0)) := Ext.push _ _ fun _ _ => rfl
  exact ⟨by rw [hd]; show mkD h = mkD (h ++ [_]); rw [mkD_push]; rfl, S, _, H.push (Below.refl _ _) trivial (fun g hg => by simp [ftp, blkOf] at hg), AV.relL_ext X _ _ hl⟩
theorem Awp.drawB {P : Program} {C : Ctx} {id : Nat} {l : List Oper} {Q : Exit → St → Prop} {t : List AV} {h : List ABlk} {zs : List Value} (n ip : Nat) (hm : P.follows .mixedOrders = true) (hB : regB l.toArray n = true) (hip : decide (ip < n) = true)
    (hn : AV.nrL h.length t = true) (hnh : h.all (nrB h.length) = true)
    (hh : bQ P C l.toArray (h ++ [.dead]) h.length ip zs (fun t => aSeq P C l.toArray (Q .normal) (l.drop n) ⟨t, h ++ [.box (zs.map .lit)]⟩) 0 (l.take n) t) : Awp P C (.region id l.toArray true) Q ⟨t, h⟩ := fun a w H0 => by
  have H := St.le_dead a w H0
  have hipn : ip < n := by simpa using hip
  simp only [regB, Bool.and_eq_true, decide_eq_true_eq, Bool.or_eq_true, beq_iff_eq] at hB
  obtain ⟨⟨⟨⟨hsel, hnd⟩, hn'⟩, hs⟩, hlex⟩ := hB
  have hn'' : n ≤ l.length := by simpa using hn'
  have htl : (l.take n).length = n := by simp; omega
  have hdl : (l.drop n).length = l.toArray.size - n := by simp
  have inv0 : HeadInv .any l.toArray n (Array.replicate l.toArray.size false) :=
    ⟨by simp, fun j oj _ hl => (by rw [getD_replicate_false] at hl; cases hl), fun t _ ht => getD_in (by simpa using ht) (getD_replicate_false _ _)⟩
  have htail : ∀ (listed : Array Bool) (i : Nat), HeadInv .any l.toArray n listed → i < n → listed.getD i true = false → ∀ t, n ≤ t → t ∉ Region.ready .any l.toArray listed := by
    intro listed i inv hi hun t ht
    rcases hs with hs | ⟨hs, hc⟩
    · intro hr
      obtain ⟨_, o, ho, _⟩ := mem_ready.1 hr
      have := (Array.getElem?_eq_some_iff.1 ho).1
      omega
    · by_cases hlt : n < l.toArray.size
      · exact tail_waits hs hc hlt inv _ i rfl hi hun t ht
      · intro hr
        obtain ⟨_, o, ho, _⟩ := mem_ready.1 hr
        have := (Array.getElem?_eq_some_iff.1 ho).1
        omega
  have HH := bAny_lex (md := .any) (g := l.toArray.size - n) htail hipn (l.take n) 0 _ t (fun j hj => by
    have hj' : j < n := by rw [htl] at hj; exact hj
    simp [hj']) (by simpa using htl) inv0 (fun j hj => by omega) (by rw [htl]; exact hlex) hh
  refine fnc_region hm hnd ?_
  have hp : (h ++ [ABlk.dead])[h.length]? = some .dead := by simp
  have hna : (h ++ [ABlk.dead]).all (nrB h.length) = true := by rw [List.all_append, hnh]; rfl
  have hset : (h ++ [ABlk.dead]).set h.length (.box (zs.map .lit)) = h ++ [.box (zs.map .lit)] := by simp
  have H' : St.rel C ⟨t, hcur (h ++ [.dead]) h.length ip zs (Array.replicate l.toArray.size false)⟩ a { w with drawn := w.drawn + 1 } := by
    obtain ⟨hd, S, ψ, hh', hl⟩ := H
    have hb : Below w.heap.size w { w with drawn := w.drawn + 1 } := ⟨rfl, rfl, rfl, Nat.le_refl _, fun _ _ => rfl⟩
    have e : hcur (h ++ [.dead]) h.length ip zs (Array.replicate l.toArray.size false) = h ++ [.dead] := by unfold hcur; rw [getD_replicate_false]; rfl
    rw [e]
    exact ⟨hd, S, ψ, hh'.grow hb (fun _ h => h) (fun _ h => .inl h) hh'.lt, AV.relL_ext (show Ext w S (h ++ [.dead]) ψ { w with drawn := w.drawn + 1 } S (h ++ [.dead]) ψ from Ext.grow _ ψ (fun k hk => rfl) fun _ h => h) _ _ hl⟩
  have := wpAny_of_b (Q' := fun e a' w' => e = .normal ∧ ∃ s', Q e s' ∧ s'.rel C a' w') (g := l.toArray.size - n) hp hna (fun listed t a' w' hL H' => by
    have hc : hcur (h ++ [.dead]) h.length ip zs listed = h ++ [.box (zs.map .lit)] := by unfold hcur; rw [if_pos hL.2.1]; exact hset
    rw [hc] at H'
    have := wpAny_of_seq (md := .any) (l.drop n) n listed a' w' (fun j => by simp [List.getElem?_drop]) (by rw [hdl]; exact hL.1) (wpList_of_aSeq (Q' := fun e a' w' => e = .normal ∧ ∃ s', Q e s' ∧ s'.rel C a' w') (fun s a w h H => ⟨rfl, s, h, H⟩) _ _ _ _ hL.2.2 H')
    rwa [hdl] at this) _ _ _ _ _ (by simp; omega) (fun _ => hn) HH H'
  rw [htl, show n + (l.toArray.size - n) = l.toArray.size by omega] at this
  exact this
section
variable {P : Program} {C : Ctx} {ops : Array Oper} {h : List ABlk} {p ip k : Nat} {zs : List Value} {K : List AV → Prop} {o : Oper} {rest : List Oper} {t : List AV}
theorem Awp.drawE {id : Nat} {l : List Oper} {Q : Exit → St → Prop} (elem : TypeId) [ZC P elem zs] (n ip : Nat) (hm : P.follows .mixedOrders = true) (hB : regB l.toArray n = true) (hip : decide (ip < n) = true)
    (hn : AV.nrL h.length t = true) (hnh : h.all (nrB h.length) = true)
    (hh : bQ P C l.toArray (h ++ [.dead]) h.length ip zs (fun t => aSeq P C l.toArray (Q .normal) (l.drop n) ⟨t, h ++ [.box (zs.map .lit)]⟩) 0 (l.take n) t) : Awp P C (.region id l.toArray true) Q ⟨t, h⟩ := Awp.drawB n ip hm hB hip hn hnh hh
def BOp (P : Program) (C : Ctx) (o : Oper) (t : List AV) (h : List ABlk) (p : Nat) (K : List AV → Prop) : Prop := ∃ r, Quiet P C t h o r ∧ AV.nr p r = true ∧ K (putA t o.dst r)
theorem BOp.q {r : AV} {K : List AV → Prop} (hq : Quiet P C t h o r) (hk : AV.nr p r = true ∧ K (putA t o.dst r)) : BOp P C o t h p K := ⟨r, hq, hk.1, hk.2⟩
theorem bQ_t (ha : isAl o = false) (hi : decide (k = ip) = false) (hg : gA ops t o = some true) (hq : BOp P C o t h p (bQ P C ops h p ip zs K (k + 1) rest)) : bQ P C ops h p ip zs K k (o :: rest) t :=
  let ⟨r, h1, h2, h3⟩ := hq; ⟨r, .inl ⟨ha, hg, h1, h2⟩, by rw [ha, hi], h3⟩
theorem bQ_skip (ha : isAl o = false) (hi : decide (k = ip) = false) (hg : gA ops t o = some false) (hk : bQ P C ops h p ip zs K (k + 1) rest (putA t o.dst (.lit undef))) : bQ P C ops h p ip zs K k (o :: rest) t := ⟨_, .inr (.inl ⟨ha, hg, rfl⟩), by rw [ha, hi], hk⟩
theorem bQ_al {elem : TypeId} [ZC P elem zs] (ha : isAl o = true) (hi : decide (k = ip) = true) (hgd : o.guard = none) (ho : o.op = .alloc elem) (hk : bQ P C ops h p ip zs K (k + 1) rest (putA t o.dst (.ptr p 0))) : bQ P C ops h p ip zs K k (o :: rest) t := ⟨_, .inr (.inr ⟨ha, hgd, rfl, elem, ho, ZC.eq⟩), by rw [ha, hi], hk⟩
theorem bQ_nt {l : List Oper} {t' : List AV} (ht : t = t') (hk : bQ P C ops h p ip zs K k l t') : bQ P C ops h p ip zs K k l t := by subst ht; exact hk
theorem bQ_nil (hk : K t) : bQ P C ops h p ip zs K k [] t := hk
end
end Mu
end
section
/-
  Functions that take a row of the caller's, change it, and hand it back.
  Conditions: none; generic.
-/
namespace Mu
open Go Go.RowKit

def FnRow (P : Program) (f : FuncId) (e : TypeId) {α : Type} (T : Ty α) (l l' : List α) : Prop :=
  Enters P f = true ∧ ∀ (N S : Nat → Prop) (w : World) (v : Value), (∀ k, N k → k < w.heap.size) → (∀ k, S k → k < w.heap.size) → BRel N w S [] ψ0 v (.row 0 e T l) →
    Calls P f #[v] w fun x w' => ∃ v', x = .returned v' ∧ w.grownBy w' (blkOf v) ∧ BRel N w' S [] ψ0 v' (.row 0 e T l') ∧ ∀ g, blkOf v' = some g → blkOf v = some g ∨ w.heap.size ≤ g
theorem BRel.row_any {N : Nat → Prop} {w : World} {S : Nat → Prop} {h h' : List ABlk} {ψ ψ' : Nat → Value} {v : Value} {ver ver' : Nat} {e : TypeId} {α : Type} {T : Ty α} {l : List α} (H : BRel N w S h ψ v (.row ver e T l)) : BRel N w S h' ψ' v (.row ver' e T l) := H
def RetsRow (t : Tmp) (e : TypeId) {α : Type} (T : Ty α) (l' : List α) : Exit → St → Prop := fun x s => (x = .normal ∨ x = .ret) ∧ ∃ i ver, evA s.t (.tmp t) = .own i ver ∧ s.h[i]? = some (.row ver e T l') ∧ mkD s.h = []
theorem FnRow.of_awp {P : Program} {f : FuncId} {fn : Go.Func} {c : Code} {e : TypeId} {α : Type} {T : Ty α} {l l' : List α} {t : Tmp} {n : Nat} (hf : P.funcs[f]? = some fn) (hb : fn.body = some c) (hE : Enters P f = true) (hres : fn.results = #[.tmp t]) (hn : fn.ntmps = n) (hflat : ∀ w S S' cs d, T.RS w S cs d → T.RS w S' cs d)
    (h : ∀ C : Ctx, Awp P C c (RetsRow t e T l') ⟨[.own 0 0] ++ List.replicate (n - 1) (.lit undef), [.row 0 e T l]⟩) : FnRow P f e T l l' := by
  refine ⟨hE, fun N S w v hN hS hB => calls_of_wp hf hb ?_⟩
  rw [hn]
  have hlv := hB.lt rfl
  have hst : St.rel ⟨w, S, fun k => k < w.heap.size ∧ blkOf v ≠ some k, none⟩ ⟨[.own 0 0] ++ List.replicate (n - 1) (.lit undef), [.row 0 e T l]⟩ { tmps := #[v] ++ Array.replicate (n - (#[v] : Array Value).size) undef, defers := [] } w := by
    refine ⟨rfl, S, fun _ => v, ⟨Kp.refl _ _, fun k hk => hk.1, hS, fun _ h => h, fun _ h => .inl h, fun i b hi => ?_, fun i j hij hi hj => ?_⟩, ?_⟩
    · cases i with
      | zero =>
        simp only [List.getElem?_cons_zero, Option.some.injEq] at hi
        subst hi
        obtain ⟨cells, k1, k2, k3, k4⟩ := hB
        exact ⟨cells, k1, k2, k3, fun g hg => ⟨fun hc => hc.2 (ownBlock_blkOf hg), (k4 g hg).2⟩⟩
      | succ i => simp at hi
    · cases i with
      | zero => cases j with
        | zero => exact absurd rfl hij
        | succ j => simp [ABlk.live] at hj
      | succ i => simp [ABlk.live] at hi
    · simp only [Array.toList_append, Array.toList_replicate]
      refine relL_append ?_ (relL_of (by simp) fun i x u hx hu => ?_)
      · unfold AV.relL
        refine ⟨v, [], rfl, ?_, by unfold AV.relL; rfl⟩
        unfold AV.rel
        refine ⟨by simp, fun c hc => ?_⟩
        simp [ABlk.ver] at hc
        exact ⟨by omega, fun _ => rfl⟩
      · rw [List.getElem?_replicate] at hx hu
        split at hx <;> cases hx
        split at hu <;> cases hu
        unfold AV.rel
        rfl
  refine wp_mono ((h ⟨w, S, fun k => k < w.heap.size ∧ blkOf v ≠ some k, none⟩).wp rfl hst) ?_
  rintro x a' w' ⟨s, ⟨hx, i, ver, hev, hi, hmk⟩, hd, S1, ψ, H, hl⟩
  rw [hmk] at hd
  have hv := ev_rel hl (.tmp t)
  rw [hev] at hv
  unfold AV.rel at hv
  have hv' := (hv.2 _ (by rw [hi]; rfl)).2 rfl
  have hBi := H.blk i _ hi
  have hlt := hBi.lt rfl
  have hres' : (results fn a'.tmps).run P w' = .ok (a'.eval (.tmp t)) w' := results_tmp hres _ _ _
  have hg : w.grownBy w' (blkOf v) := ⟨H.bel.os, H.bel.tape, H.bel.output, H.bel.size, fun k hk hne => H.bel.block k ⟨hk, fun e => hne e.symm⟩⟩
  have hfin : ∃ v', Ending.returned (a'.eval (.tmp t)) = .returned v' ∧ w.grownBy w' (blkOf v) ∧ BRel N w' S [] ψ0 v' (.row 0 e T l') ∧ ∀ g, blkOf v' = some g → blkOf v = some g ∨ w.heap.size ≤ g := by
    have hor : ∀ g, blkOf (ψ i) = some g → blkOf v = some g ∨ w.heap.size ≤ g := fun g hgg => by
      have := (hlt g hgg).1
      by_cases hc : blkOf v = some g
      · exact .inl hc
      · exact .inr (Nat.le_of_not_lt fun h => this ⟨h, hc⟩)
    obtain ⟨cells, k1, k2, k3, k4⟩ := hBi
    rw [hv']
    refine ⟨_, rfl, hg, ⟨cells, k1, k2, ?_, fun g hgg => ?_⟩, hor⟩
    · intro j d hj
      exact hflat _ _ _ _ _ (k3 j d hj)
    · refine ⟨fun hNg => ?_, fun hSg => (k4 g hgg).2 (H.sub g hSg)⟩
      rcases hor g (ownBlock_blkOf hgg) with h1 | h1
      · exact (hlv g h1).1 hNg
      · have := hN g hNg; omega
  rcases hx with rfl | rfl
  · exact ⟨hd, _, hres', hfin⟩
  · exact ⟨hd, _, hres', hfin⟩
theorem AOp.callRow {P : Program} {C : Ctx} {o : Oper} {t : List AV} {h : List ABlk} {K : St → Prop} {f : FuncId} {x : Operand} {tys : Array TypeId} {i ver : Nat} {e : TypeId} {α : Type} {T : Ty α} {l l' : List α}
    (ho : o.op = .call { callee := .value (.func f), args := #[x], argTypes := tys }) (hF : FnRow P f e T l l') (hx : evA t x = .own i ver) (hi : h[i]? = some (.row ver e T l))
    (hK : K ⟨putA t o.dst (.own i (ver + 1)), h.set i (.row (ver + 1) e T l')⟩) : AOp P C o ⟨t, h⟩ K := by
  rintro Q' a w ⟨hd, S, ψ, H, hl⟩
  refine ⟨fun c e => (by rw [ho] at e; cases e), ?_⟩
  have hx' := ev_rel hl x
  rw [show evA (St.mk t h).t x = .own i ver from hx] at hx'
  unfold AV.rel at hx'
  have hv := (hx'.2 _ (by rw [hi]; rfl)).2 rfl
  have hBi := H.blk i _ hi
  have hlt := hBi.lt rfl
  unfold Oper.wp
  rw [run_call ho hF.1 a.eval w rfl]
  simp only [Oper.upon]
  have hc := hF.2 C.N S w (ψ i) (fun k hk => Nat.lt_of_lt_of_le (H.nlt k hk) H.bel.size) H.lt hBi
  rw [show (#[x].map a.eval) = #[ψ i] from by simp [hv]]
  refine hc.mono ?_
  rintro r w' ⟨v', rfl, hgr, hB', hor⟩
  have hblk : ∀ k, S k → w'.heap[k]? = w.heap[k]? := fun k hk => hgr.block k (H.lt k hk) fun e => (hlt k e.symm).2.2 hk
  have X : Ext w S h ψ w' S (h.set i (.row (ver + 1) e T l')) (ψset ψ i v') := Ext.set hblk hi (fun c' hc => by
    simp only [ABlk.ver, Option.some.injEq] at hc
    exact ⟨ver, rfl, by omega, fun e => by omega⟩) fun h => by simp [ABlk.isBox] at h
  refine ⟨_, hK, st_set (s := ⟨t, h⟩) hi hd hl (H.set hi rfl (Gr.of_grownBy hgr) X hB' hor) X ?_⟩
  unfold AV.rel
  refine ⟨by simp [(List.getElem?_eq_some_iff.1 hi).1], fun c' hc' => ?_⟩
  rw [List.getElem?_set_self (List.getElem?_eq_some_iff.1 hi).1] at hc'
  simp only [ABlk.ver, Option.some.injEq] at hc'
  exact ⟨by omega, fun _ => by rw [ψset_self]⟩
end Mu
end
section
/-
  Regions that draw their order, whose last operations may come in several orders.
  Conditions: none; generic.
-/
namespace Mu
open Go Go.RowKit

section
variable {P : Program} {C : Ctx} {ops : Array Oper} {md : Region.Mode} {h : List ABlk} {K : St → Prop}
def tOp (P : Program) (C : Ctx) (ops : Array Oper) (i : Nat) (K : St → Prop) (s : St) : Prop :=
  match ops[i]? with
  | none => K s
  | some o => ∃ b, gA ops s.t o = some b ∧ (b = true → AOp P C o s K) ∧ (b = false → K ⟨putA s.t o.dst (.lit undef), s.h⟩)
def tAny (P : Program) (C : Ctx) (md : Region.Mode) (ops : Array Oper) (K : St → Prop) : Nat → Array Bool → St → Prop
  | 0, listed, s => Region.ready md ops listed = [] ∧ K s
  | f + 1, listed, s => (Region.ready md ops listed = [] → K s) ∧ ∀ i ∈ Region.ready md ops listed, tOp P C ops i (tAny P C md ops K f (listed.setIfInBounds i true)) s
theorem wpOp_of_tOp {i : Nat} {s : St} {a : Act} {w : World} {K' : Act → World → Prop} {Q' : Exit → Act → World → Prop} (H : s.rel C a w) (hK : ∀ s a w, K s → s.rel C a w → K' a w) (hh : tOp P C ops i K s) : wpOp P ops Q' i K' a w := by
  unfold tOp at hh
  unfold wpOp
  split
  · rename_i ho; simp only [ho] at hh; exact hK _ _ _ hh H
  · rename_i o ho
    simp only [ho] at hh
    obtain ⟨b, hg, ht, hf⟩ := hh
    obtain ⟨_, S, ψ, _, hl⟩ := id H
    rw [gA_wanted hg hl]
    cases b with
    | true =>
      rw [if_pos rfl]
      exact .inl (Oper.wp_mono (fun a' w' ⟨s', h1, h2⟩ => hK s' a' w' h1 h2) (ht rfl Q' a w H).2)
    | false =>
      rw [if_neg (by simp)]
      exact hK _ _ _ (hf rfl) (undef_rel H o.dst)
theorem wpAny_of_tAny {Q' : Exit → Act → World → Prop} (hQ : ∀ s a w, K s → s.rel C a w → Q' .normal a w) : ∀ (f : Nat) (listed : Array Bool) (s : St) (a : Act) (w : World), tAny P C md ops K f listed s → s.rel C a w → wpAny P md ops Q' f listed a w
  | 0, _, s, a, w, hh, H => ⟨hh.1, hQ s a w hh.2 H⟩
  | f + 1, _, s, a, w, hh, H => ⟨fun h0 => hQ s a w (hh.1 h0) H, fun i hi => wpOp_of_tOp H (fun s' a' w' h' H' => wpAny_of_tAny hQ f _ s' a' w' h' H') (hh.2 i hi)⟩

def lexHd (ops : Array Oper) (n : Nat) : Nat → Nat → Array Bool → Bool
  | 0, _, listed => (Region.ready .any ops listed).all fun j => decide (n ≤ j)
  | f + 1, k, listed => (Region.ready .any ops listed).contains k && Region.free .any ops listed k && lexHd ops n f (k + 1) (listed.setIfInBounds k true)
def regT (ops : Array Oper) (n : Nat) : Bool :=
  (Region.noSelect ops && noDefer ops) && decide (n ≤ ops.size) && ((List.range ops.size).all fun t => decide (t < n) || (List.range n).all fun i => Region.waitsFor .any ops t i) && lexHd ops n n 0 (Array.replicate ops.size false)
def listedN (sz : Nat) : Nat → Array Bool
  | 0 => Array.replicate sz false
  | k + 1 => (listedN sz k).setIfInBounds k true
theorem aAny_lexT {n sz : Nat} {Lq : List AV → Prop} (htail : ∀ listed i, HeadInv .any ops n listed → i < n → listed.getD i true = false → ∀ t, n ≤ t → t ∉ Region.ready .any ops listed) :
    ∀ (l : List Oper) (k : Nat) (t : List AV), (∀ j, j < l.length → l[j]? = ops[k + j]?) → k + l.length = n → HeadInv .any ops n (listedN sz k) →
    lexHd ops n l.length k (listedN sz k) = true → aQ P C ops h Lq l t →
    aAny P C .any ops h n (fun listed' t' => (∀ j ∈ Region.ready .any ops listed', n ≤ j) ∧ listed' = listedN sz n ∧ Lq t') l.length (listedN sz k) t
  | [], k, t, _, hk, _, hB, hh => by
    have : k = n := by simpa using hk
    subst this
    exact ⟨fun j hj => of_decide_eq_true (List.all_eq_true.1 hB j hj), rfl, hh⟩
  | o :: l, k, t, hl, hk, inv, hB, hh => by
    have h0 : ops[k]? = some o := by simpa using (hl 0 (by simp)).symm
    simp only [List.length_cons, lexHd, Bool.and_eq_true] at hB
    obtain ⟨⟨hr, hf⟩, hB'⟩ := hB
    have hkn : k < n := by simp only [List.length_cons] at hk; omega
    have hr' : k ∈ Region.ready .any ops (listedN sz k) := by simpa using hr
    obtain ⟨v, hy, hK⟩ := hh
    exact aAny_first h0 htail hkn (fun listed' a' hL => hL.1) l.length _ t inv (Region.free_spec h0 hf) hr' hy
      (aAny_lexT htail l (k + 1) _ (fun j hj => by have := hl (j + 1) (by simp; omega); simpa [Nat.add_assoc, Nat.add_comm 1 j] using this) (by simp only [List.length_cons] at hk; omega) (inv.set hr' hkn) hB' hK)
end
theorem Awp.drawT {P : Program} {C : Ctx} {id : Nat} {l : List Oper} {Q : Exit → St → Prop} {s : St} (n : Nat) (hm : P.follows .mixedOrders = true) (hB : regT l.toArray n = true)
    (hh : aQ P C l.toArray s.h (fun t => tAny P C .any l.toArray (Q .normal) (l.length - n) (listedN l.length n) ⟨t, s.h⟩) (l.take n) s.t) : Awp P C (.region id l.toArray true) Q s := fun a w H => by
  simp only [regT, Bool.and_eq_true, decide_eq_true_eq] at hB
  obtain ⟨⟨⟨⟨hsel, hnd⟩, hn⟩, hs⟩, hlex⟩ := hB
  have hn' : n ≤ l.length := by simpa using hn
  have htl : (l.take n).length = n := by simp; omega
  have inv0 : HeadInv .any l.toArray n (Array.replicate l.toArray.size false) :=
    ⟨by simp, fun j oj _ hl => (by rw [getD_replicate_false] at hl; cases hl), fun t _ ht => getD_in (by simpa using ht) (getD_replicate_false _ _)⟩
  have htail : ∀ (listed : Array Bool) (i : Nat), HeadInv .any l.toArray n listed → i < n → listed.getD i true = false → ∀ t, n ≤ t → t ∉ Region.ready .any l.toArray listed := by
    intro listed i inv hi hun t ht hr
    obtain ⟨_, ot, hot, hall⟩ := mem_ready.1 hr
    have htlt : t < l.toArray.size := (Array.getElem?_eq_some_iff.1 hot).1
    have h1 := List.all_eq_true.1 hs t (List.mem_range.2 htlt)
    simp only [Bool.or_eq_true, decide_eq_true_eq] at h1
    rcases h1 with h1 | h1
    · omega
    · obtain ⟨oj, hoj, e, he, hb, hon⟩ := Region.waitsFor_spec (List.all_eq_true.1 h1 i (List.mem_range.2 hi))
      have : oj = ot := Option.some.inj (hoj.symm.trans hot)
      subst this
      have h2 := hall e he hb
      rw [hon, getD_both hun] at h2
      cases h2
  have HH := aAny_lexT (P := P) (C := C) (h := s.h) (sz := l.length) (Lq := fun t => tAny P C .any l.toArray (Q .normal) (l.length - n) (listedN l.length n) ⟨t, s.h⟩) htail (l.take n) 0 s.t (fun j hj => by
    have hj' : j < n := by rw [htl] at hj; exact hj
    simp [hj']) (by simpa using htl) (by simpa [listedN] using inv0) (by rw [htl]; simpa [listedN] using hlex) hh
  refine fnc_region hm hnd ?_
  have H' : St.rel C ⟨s.t, s.h⟩ a { w with drawn := w.drawn + 1 } := by
    obtain ⟨hd, S, ψ, hh', hl⟩ := H
    have hb : Below w.heap.size w { w with drawn := w.drawn + 1 } := ⟨rfl, rfl, rfl, Nat.le_refl _, fun _ _ => rfl⟩
    exact ⟨hd, S, ψ, hh'.grow hb (fun _ h => h) (fun _ h => .inl h) hh'.lt, AV.relL_ext (show Ext w S s.h ψ { w with drawn := w.drawn + 1 } S s.h ψ from Ext.grow s.h ψ (fun k hk => rfl) fun _ h => h) _ _ hl⟩
  have := wpAny_of_a (Q' := fun e a' w' => e = .normal ∧ ∃ s', Q e s' ∧ s'.rel C a' w') (g := l.length - n) (fun listed t a' w' hL H' => by
    rw [hL.2.1]
    exact wpAny_of_tAny (fun s a w h H => ⟨rfl, s, h, H⟩) _ _ _ _ _ hL.2.2 H') _ _ _ _ _ HH H'
  rw [htl, show n + (l.length - n) = l.toArray.size by simp; omega] at this
  exact this
section
variable {P : Program} {C : Ctx} {ops : Array Oper} {K : St → Prop} {listed : Array Bool} {g : Nat} {s : St} {t : List AV} {h : List ABlk}
def tAll (P : Program) (C : Ctx) (ops : Array Oper) (K : St → Prop) (g : Nat) (listed : Array Bool) (s : St) (rs : List Nat) : Prop := ∀ i ∈ rs, tOp P C ops i (tAny P C .any ops K g (listed.setIfInBounds i true)) s
theorem tAny_step (rs : List Nat) (hr : Region.ready .any ops listed = rs) (hne : rs ≠ []) (hh : tAll P C ops K g listed s rs) : tAny P C .any ops K (g + 1) listed s := ⟨fun h0 => absurd (hr ▸ h0) hne, hr ▸ hh⟩
theorem tAny_done (hr : Region.ready .any ops listed = []) (hh : K s) : tAny P C .any ops K 0 listed s := ⟨hr, hh⟩
theorem tAll_nil : tAll P C ops K g listed s [] := fun i hi => by cases hi
theorem tAll_cons {i : Nat} {rs : List Nat} {o : Oper} (ho : ops[i]? = some o) (hg : gA ops s.t o = some true) (h1 : AOp P C o s (tAny P C .any ops K g (listed.setIfInBounds i true))) (h2 : tAll P C ops K g listed s rs) : tAll P C ops K g listed s (i :: rs) := fun j hj => by
  rcases List.mem_cons.1 hj with rfl | hj
  · unfold tOp
    simp only [ho]
    exact ⟨true, hg, fun _ => h1, fun e => by cases e⟩
  · exact h2 j hj
theorem tAny_nt {t' : List AV} {h' : List ABlk} (ht : t = t') (hh : h = h') (hk : tAny P C .any ops K g listed ⟨t', h'⟩) : tAny P C .any ops K g listed ⟨t, h⟩ := by subst ht hh; exact hk
end
end Mu
end
section
/-
  Regions that draw their order: some moves first, the reads in an order of one's own, the last operations in whatever order.
  Conditions: none; generic.
-/
namespace Mu
open Go Go.RowKit

section
variable {P : Program} {C : Ctx} {ops : Array Oper} {md : Region.Mode} {h : List ABlk} {Inv : Array Bool → Prop} {n : Nat}
theorem aAny_firstI {i : Nat} {oi : Oper} {v : AV} {L : Array Bool → List AV → Prop} (hset : ∀ listed i, Inv listed → i ∈ Region.ready md ops listed → i < n → Inv (listed.setIfInBounds i true)) (hi : ops[i]? = some oi)
    (htail : ∀ listed i, Inv listed → i < n → listed.getD i true = false → ∀ t, n ≤ t → t ∉ Region.ready md ops listed) (hin : i < n)
    (hdone : ∀ listed t, L listed t → ∀ j ∈ Region.ready md ops listed, n ≤ j) :
    ∀ (f : Nat) (listed : Array Bool) (t : List AV), Inv listed →
      (∀ j oj, ops[j]? = some oj → j ≠ i → listed.getD j true = false → (∀ e ∈ oj.after, Region.binds md e = true → e.on ≠ i) → oi.apart ops oj = true) →
      i ∈ Region.ready md ops listed → aYields P C ops h oi v t →
      aAny P C md ops h n L f (listed.setIfInBounds i true) (putA t oi.dst v) → aAny P C md ops h n L (f + 1) listed t := by
  intro f
  induction f with
  | zero =>
    intro listed t inv _ hr hy H
    have hun := (mem_ready.1 hr).1
    refine ⟨fun h => (by rw [h] at hr; cases hr), fun j hj => ?_⟩
    have hjn : j < n := by
      rcases Nat.lt_or_ge j n with h | h
      · exact h
      · exact absurd hj (htail _ i inv hin hun j h)
    refine ⟨hjn, ?_⟩
    by_cases hji : j = i
    · subst hji
      unfold aOp
      simp only [hi]
      exact ⟨v, hy, H⟩
    · have := hdone _ _ H j (ready_mono hj hji)
      omega
  | succ f ih =>
    intro listed t inv hfree hr hy H
    have hun := (mem_ready.1 hr).1
    refine ⟨fun h => (by rw [h] at hr; cases hr), fun j hj => ?_⟩
    have hjn : j < n := by
      rcases Nat.lt_or_ge j n with h | h
      · exact h
      · exact absurd hj (htail _ i inv hin hun j h)
    refine ⟨hjn, ?_⟩
    by_cases hji : j = i
    · subst hji
      unfold aOp
      simp only [hi]
      exact ⟨v, hy, H⟩
    · have h1 := (H.2 j (ready_mono hj hji)).2
      obtain ⟨hjun, oj, hoj, hall⟩ := mem_ready.1 hj
      have hnot : ∀ e ∈ oj.after, Region.binds md e = true → e.on ≠ i := fun e he hb heq => by
        have h1 := hall e he hb
        rw [heq, getD_both hun] at h1
        cases h1
      have h2 := aOp_put hoj (hfree j oj hoj hji hjun hnot) hy h1
      have hfree' : ∀ k ok, ops[k]? = some ok → k ≠ i → (listed.setIfInBounds j true).getD k true = false →
          (∀ e ∈ ok.after, Region.binds md e = true → e.on ≠ i) → oi.apart ops ok = true := fun k ok hk hki hun hno => by
        refine hfree k ok hk hki ?_ hno
        by_cases hjk : j = k
        · subst hjk; exact hjun
        · rw [getD_set_ne true hjk] at hun; exact hun
      refine aOp_mono (fun a' h3 => ih (listed.setIfInBounds j true) a' (hset _ _ inv hj hjn) hfree' (ready_mono hr (Ne.symm hji)) h3.1 ?_) h2
      rw [Array.setIfInBounds_comm _ _ hji]
      exact h3.2

/-- the slots' operations in an order of one's own -/
def aQo (P : Program) (C : Ctx) (ops : Array Oper) (h : List ABlk) (K : List AV → Prop) : List Nat → List AV → Prop
  | [], t => K t
  | i :: rest, t => ∃ o r, ops[i]? = some o ∧ aYields P C ops h o r t ∧ aQo P C ops h K rest (putA t o.dst r)
def setAll : List Nat → Array Bool → Array Bool
  | [], l => l
  | i :: is, l => setAll is (l.setIfInBounds i true)
def ordB (ops : Array Oper) (n : Nat) : List Nat → Array Bool → Bool
  | [], listed => (Region.ready .any ops listed).all fun j => decide (n ≤ j)
  | i :: is, listed => decide (i < n) && (Region.ready .any ops listed).contains i && Region.free .any ops listed i && ordB ops n is (listed.setIfInBounds i true)
theorem aAny_ord {Lq : List AV → Prop} (hset : ∀ listed i, Inv listed → i ∈ Region.ready .any ops listed → i < n → Inv (listed.setIfInBounds i true))
    (htail : ∀ listed i, Inv listed → i < n → listed.getD i true = false → ∀ t, n ≤ t → t ∉ Region.ready .any ops listed) :
    ∀ (l : List Nat) (listed : Array Bool) (t : List AV), Inv listed → ordB ops n l listed = true → aQo P C ops h Lq l t →
    aAny P C .any ops h n (fun listed' t' => (∀ j ∈ Region.ready .any ops listed', n ≤ j) ∧ listed' = setAll l listed ∧ Lq t') l.length listed t
  | [], listed, t, _, hB, hh => ⟨fun j hj => of_decide_eq_true (List.all_eq_true.1 hB j hj), rfl, hh⟩
  | i :: l, listed, t, inv, hB, hh => by
    obtain ⟨o, v, h0, hy, hK⟩ := hh
    simp only [ordB, Bool.and_eq_true, decide_eq_true_eq] at hB
    obtain ⟨⟨⟨hin, hr⟩, hf⟩, hB'⟩ := hB
    have hr' : i ∈ Region.ready .any ops listed := by simpa using hr
    exact aAny_firstI hset h0 htail hin (fun listed' a' hL => hL.1) l.length _ t inv (Region.free_spec h0 hf) hr' hy (aAny_ord hset htail l _ _ (hset _ _ inv hr' hin) hB' hK)

/-- moves that come first -/
def movesA (ops : Array Oper) : List Nat → List AV → Option (List AV)
  | [], t => some t
  | i :: is, t =>
    match ops[i]? with
    | some ⟨dst, .move x, _, _, _, none⟩ => movesA ops is (putA t dst (evA t x))
    | _ => none
def freeB (ops : Array Oper) : List Nat → Array Bool → Bool
  | [], _ => true
  | i :: is, listed => (Region.ready .any ops listed).contains i && Region.free .any ops listed i && freeB ops is (listed.setIfInBounds i true)
theorem wpAny_moves {Q : Exit → Act → World → Prop} (hsel : Region.noSelect ops = true) (hQ : ∀ c a w, ¬ Q (.panic c) a w) : ∀ (is : List Nat) (fuel : Nat) (listed : Array Bool) (t t' : List AV) (a : Act) (w : World), freeB ops is listed = true → movesA ops is t = some t' → St.rel C ⟨t, h⟩ a w →
    (∀ a' , St.rel C ⟨t', h⟩ a' w → wpAny P .any ops Q fuel (setAll is listed) a' w) → wpAny P .any ops Q (fuel + is.length) listed a w
  | [], fuel, listed, t, t', a, w, _, hm, H, hk => by
    cases hm
    exact hk a H
  | i :: is, fuel, listed, t, t', a, w, hB, hm, H, hk => by
    unfold movesA at hm
    split at hm <;> try (cases hm; done)
    rename_i dst x ty pos af ho
    simp only [freeB, Bool.and_eq_true] at hB
    obtain ⟨⟨hr, hf⟩, hB'⟩ := hB
    obtain ⟨hd, S, ψ, hh, hl⟩ := id H
    have hy : Yields P ops ⟨dst, .move x, ty, pos, af, none⟩ (a.eval x) a := .inl ⟨by simp [Region.wanted], fun w => by simp [execOp]⟩
    rw [show fuel + (i :: is).length = (fuel + is.length) + 1 from by simp; omega]
    refine wpAny_take ho hsel hf hr (fun c a w hq => absurd hq (hQ c _ w)) hy ?_
    exact wpAny_moves hsel hQ is fuel _ _ t' _ w hB' hm ⟨by rw [put_defers]; exact hd, S, ψ, hh, put_rel hl dst (ev_rel hl x)⟩ hk
end
def waitB (ops : Array Oper) : Nat → Nat → Nat → Bool
  | 0, _, _ => false
  | f + 1, j, i =>
    match ops[j]? with
    | some oj => oj.after.any fun e => Region.binds .any e && (e.on == i || waitB ops f e.on i)
    | none => false
theorem waitB_listed {ops : Array Oper} {n : Nat} {listed : Array Bool} (inv : HeadInv .any ops n listed) : ∀ (f j i : Nat), (∀ oj, ops[j]? = some oj → ∀ e ∈ oj.after, Region.binds .any e = true → listed.getD e.on false = true) → waitB ops f j i = true → listed.getD i false = true
  | 0, j, i, _, h => by cases h
  | f + 1, j, i, hj, h => by
    unfold waitB at h
    cases ho : ops[j]? with
    | none => rw [ho] at h; cases h
    | some oj =>
      rw [ho] at h
      obtain ⟨e, he, hb⟩ := Array.any_eq_true'.1 h
      simp only [Bool.and_eq_true, Bool.or_eq_true, beq_iff_eq] at hb
      have hl := hj oj ho e he hb.1
      rcases hb.2 with h1 | h1
      · rw [← h1]; exact hl
      · exact waitB_listed inv f e.on i (fun oj' ho' e' he' hb' => inv.closed e.on oj' ho' hl e' he' hb') h1
def regF (ops : Array Oper) (n : Nat) (fs is : List Nat) : Bool :=
  (Region.noSelect ops && noDefer ops) && decide (n ≤ ops.size) && (fs.all fun i => decide (i < n)) && freeB ops fs (Array.replicate ops.size false) && ordB ops n is (setAll fs (Array.replicate ops.size false)) && ((List.range ops.size).all fun t => decide (t < n) || (List.range n).all fun i => fs.contains i || waitB ops ops.size t i)
theorem setAll_size : ∀ (l : List Nat) (a : Array Bool), (setAll l a).size = a.size
  | [], a => rfl
  | i :: l, a => by unfold setAll; rw [setAll_size l]; simp
theorem setAll_keep : ∀ (l : List Nat) (a : Array Bool) (j : Nat), a.getD j false = true → (setAll l a).getD j false = true
  | [], _a, _j, h => h
  | _i :: l, _a, j, h => setAll_keep l _ j (getD_set_true h)
theorem setAll_mem : ∀ (l : List Nat) (a : Array Bool) (j : Nat), j ∈ l → j < a.size → (setAll l a).getD j false = true
  | [], a, j, h, _ => by cases h
  | i :: l, a, j, h, hs => by
    unfold setAll
    rcases List.mem_cons.1 h with rfl | h
    · exact setAll_keep l _ _ (by simp [Array.getD_eq_getD_getElem?, hs])
    · exact setAll_mem l _ j h (by simpa using hs)
theorem setAll_ne : ∀ (l : List Nat) (a : Array Bool) (j : Nat), j ∉ l → (setAll l a).getD j true = a.getD j true
  | [], a, j, h => rfl
  | i :: l, a, j, h => by
    simp only [List.mem_cons, not_or] at h
    unfold setAll
    rw [setAll_ne l _ j h.2, getD_set_ne true (Ne.symm h.1)]
theorem headInv_all {ops : Array Oper} {n : Nat} : ∀ (fs : List Nat) (listed : Array Bool), HeadInv .any ops n listed → (fs.all fun i => decide (i < n)) = true → freeB ops fs listed = true → HeadInv .any ops n (setAll fs listed)
  | [], listed, inv, _, _ => inv
  | i :: fs, listed, inv, hn, hB => by
    simp only [List.all_cons, Bool.and_eq_true, decide_eq_true_eq] at hn
    simp only [freeB, Bool.and_eq_true] at hB
    exact headInv_all fs _ (inv.set (by simpa using hB.1.1) hn.1) hn.2 hB.2
theorem Awp.drawF {P : Program} {C : Ctx} {id : Nat} {l : List Oper} {Q : Exit → St → Prop} {s : St} (n : Nat) (fs is : List Nat) {t1 : List AV} (hm : P.follows .mixedOrders = true) (hB : regF l.toArray n fs is = true) (hl : fs.length + is.length = n ∧ n ≤ l.length) (hmv : movesA l.toArray fs s.t = some t1)
    (hh : aQo P C l.toArray s.h (fun t => tAny P C .any l.toArray (Q .normal) (l.length - n) (setAll is (setAll fs (Array.replicate l.length false))) ⟨t, s.h⟩) is t1) : Awp P C (.region id l.toArray true) Q s := fun a w H => by
  simp only [regF, Bool.and_eq_true, decide_eq_true_eq] at hB
  obtain ⟨⟨⟨⟨⟨⟨hsel, hnd⟩, hn⟩, hfn⟩, hfree⟩, hord⟩, hs⟩ := hB
  have inv0 : HeadInv .any l.toArray n (Array.replicate l.toArray.size false) :=
    ⟨by simp, fun j oj _ hl => (by rw [getD_replicate_false] at hl; cases hl), fun t _ ht => getD_in (by simpa using ht) (getD_replicate_false _ _)⟩
  let Inv : Array Bool → Prop := fun listed => HeadInv .any l.toArray n listed ∧ ∀ j ∈ fs, listed.getD j false = true
  have hset : ∀ listed i, Inv listed → i ∈ Region.ready .any l.toArray listed → i < n → Inv (listed.setIfInBounds i true) := fun listed i inv hr hi => ⟨inv.1.set hr hi, fun j hj => getD_set_true (inv.2 j hj)⟩
  have htail : ∀ (listed : Array Bool) (i : Nat), Inv listed → i < n → listed.getD i true = false → ∀ t, n ≤ t → t ∉ Region.ready .any l.toArray listed := by
    intro listed i inv hi hun t ht hr
    obtain ⟨_, ot, hot, hall⟩ := mem_ready.1 hr
    have htlt : t < l.toArray.size := (Array.getElem?_eq_some_iff.1 hot).1
    have h1 := List.all_eq_true.1 hs t (List.mem_range.2 htlt)
    simp only [Bool.or_eq_true, decide_eq_true_eq] at h1
    rcases h1 with h1 | h1
    · omega
    · have h2 := List.all_eq_true.1 h1 i (List.mem_range.2 hi)
      simp only [Bool.or_eq_true] at h2
      rcases h2 with h2 | h2
      · have := inv.2 i (by simpa using h2)
        rw [getD_both hun] at this
        cases this
      · have h3 := waitB_listed inv.1 _ t i (fun oj hoj e he hb => by
          have : oj = ot := Option.some.inj (hoj.symm.trans hot)
          subst this
          exact hall e he hb) h2
        rw [getD_both hun] at h3
        cases h3
  have inv1 : Inv (setAll fs (Array.replicate l.toArray.size false)) := ⟨headInv_all fs _ inv0 hfn hfree, fun j hj => setAll_mem fs _ j hj (by
    have := List.all_eq_true.1 hfn j hj
    simp only [decide_eq_true_eq] at this
    simp
    omega)⟩
  have HH := aAny_ord (P := P) (C := C) (h := s.h) (Inv := Inv) (Lq := fun t => tAny P C .any l.toArray (Q .normal) (l.length - n) (setAll is (setAll fs (Array.replicate l.length false))) ⟨t, s.h⟩) hset htail is _ t1 inv1 hord hh
  have H' : St.rel C ⟨s.t, s.h⟩ a { w with drawn := w.drawn + 1 } := by
    obtain ⟨hd, S, ψ, hh', hl⟩ := H
    have hb : Below w.heap.size w { w with drawn := w.drawn + 1 } := ⟨rfl, rfl, rfl, Nat.le_refl _, fun _ _ => rfl⟩
    exact ⟨hd, S, ψ, hh'.grow hb (fun _ h => h) (fun _ h => .inl h) hh'.lt, AV.relL_ext (show Ext w S s.h ψ { w with drawn := w.drawn + 1 } S s.h ψ from Ext.grow s.h ψ (fun k hk => rfl) fun _ h => h) _ _ hl⟩
  refine fnc_region hm hnd ?_
  have key := wpAny_moves (P := P) (C := C) (h := s.h) (Q := fun e a' w' => e = .normal ∧ ∃ s', Q e s' ∧ s'.rel C a' w') hsel (fun c a w hq => by cases hq.1) fs (is.length + (l.length - n)) (Array.replicate l.toArray.size false) s.t t1 a { w with drawn := w.drawn + 1 } hfree hmv H' fun a' H'' =>
    wpAny_of_a (Q' := fun e a' w' => e = .normal ∧ ∃ s', Q e s' ∧ s'.rel C a' w') (g := l.length - n) (fun listed t a' w' hL H' => by
      rw [hL.2.1]
      have := hL.2.2
      simp only [List.size_toArray] at this ⊢
      exact wpAny_of_tAny (fun s a w h H => ⟨rfl, s, h, H⟩) _ _ _ _ _ this H') _ _ _ _ _ HH H''
  rw [show is.length + (l.length - n) + fs.length = l.toArray.size by simp; omega] at key
  exact key
section
variable {P : Program} {C : Ctx} {ops : Array Oper} {K : List AV → Prop} {h : List ABlk} {t : List AV}
theorem aQo_t {i : Nat} {is : List Nat} {o : Oper} (ho : ops[i]? = some o) (hg : gA ops t o = some true) (hq : QOp P C o t h (aQo P C ops h K is)) : aQo P C ops h K (i :: is) t := let ⟨r, h1, h2⟩ := hq; ⟨o, r, ho, .inl ⟨hg, h1⟩, h2⟩
theorem aQo_nt {l : List Nat} {t' : List AV} (ht : t = t') (hk : aQo P C ops h K l t') : aQo P C ops h K l t := by subst ht; exact hk
theorem aQo_nil (hk : K t) : aQo P C ops h K [] t := hk
end
end Mu
end
section
/-
  Memory of any form among the call's own: read, lent, turned, made; known addresses.
  Conditions: none; generic.
-/
namespace Mu
open Go Go.RowKit

section
variable {P : Program} {C : Ctx} {t : List AV} {h : List ABlk} {o : Oper}

/-- a cell within it, at a known place -/
theorem CellsOf.res {i b off : Nat} {R : Res} {rs : List AV} (hi : h[i]? = some (.res R)) (hc : AV.clL rs = true)
    (hp : ∀ w S, R.R w S → ∀ j r, rs[j]? = some r → ∃ u, w.cell? ⟨b, off + j, none⟩ = some u ∧ AV.rel w S [] ψ0 r u) : CellsOf h (.lit (.pointer (some ⟨b, off, none⟩))) rs := fun C S ψ w v H hv => by
  unfold AV.rel at hv
  refine ⟨b, off, hv, fun j y hy => ?_⟩
  obtain ⟨u, h1, h2⟩ := hp w S (H.blk i _ hi).2 j y hy
  have hcy : AV.cl y = true := by
    have : ∀ (l : List AV), AV.clL l = true → ∀ y ∈ l, AV.cl y = true := fun l => by
      induction l with
      | nil => intro _ y hy; cases hy
      | cons x l ih =>
        intro hl y hy
        unfold AV.clL at hl
        rw [Bool.and_eq_true] at hl
        rcases List.mem_cons.1 hy with rfl | hy
        · exact hl.1
        · exact ih hl.2 y hy
    exact this rs hc y (List.mem_of_getElem? hy)
  exact ⟨u, h1, AV.rel_cl _ _ hcy h2⟩
theorem Quiet.ld_res {ty : TypeId} {x : Operand} {n i b off : Nat} {R : Res} {r : AV} [AG P ty false n] (ho : o.op = .load ty x) (hx : evA t x = .lit (.pointer (some ⟨b, off, none⟩))) (hi : h[i]? = some (.res R)) (hc : AV.cl r = true)
    (hp : ∀ w S, R.R w S → ∃ u, w.cell? ⟨b, off, none⟩ = some u ∧ AV.rel w S [] ψ0 r u) : Quiet P C t h o r :=
  Quiet.load1 (cells := [r]) ho AG.eq hx (CellsOf.res (rs := [r]) hi (by unfold AV.clL; rw [hc]; rfl) fun w S hR j y hy => by
    cases j with
    | zero => cases hy; exact hp w S hR
    | succ j => cases hy) rfl
/-- an element's address in a row at a known place -/
theorem Quiet.ixl {ty : TypeId} {x y : Operand} {ik : IntKind} {k n b off len c : Nat} [ES P ty n] (ho : o.op = .indexAddr ty x y) (hx : evA t x = .lit (.slice (some ⟨b, off, none⟩) len c)) (hy : evA t y = .lit (.int ik (k : Int))) (hk : k < len) :
    Quiet P C t h o (.lit (.pointer (some ⟨b, off + k * n, none⟩))) :=
  Quiet.of_run fun S ψ w ρ H hρ => by
    have h1 := hρ x (by simp [ho, Op.operands])
    have h2 := hρ y (by simp [ho, Op.operands])
    rw [hx] at h1
    rw [hy] at h2
    unfold AV.rel at h1 h2
    have hr := run_indexAt_sl (P := P) (w := w) (b := b) (off := off) (c := c) (ik := ik) (ES.eq (P := P) (ty := ty) (n := n)) hk
    exact ⟨_, by simp [execOp, ho, h1, h2, hr]; rfl, by unfold AV.rel; rfl⟩

/-- a contract that reads such memory -/
def FnR (P : Program) (f : FuncId) (R : Res) (args : List AV) (r : AV) : Prop :=
  Enters P f = true ∧ ∀ (w : World) (S : Nat → Prop) (vs : List Value), (∀ k, S k → k < w.heap.size) → (∀ g, R.F g → g < w.heap.size) → R.R w S → AV.relL w S [] ψ0 args vs →
    Calls P f vs.toArray w fun e w' => ∃ v, e = .returned v ∧ Good w S [] ψ0 r v w'
theorem Quiet.callR {f : FuncId} {args : Array Operand} {tys : Array TypeId} {xs : List AV} {r : AV} {i : Nat} {R : Res} (hi : h[i]? = some (.res R))
    (ho : o.op = .call { callee := .value (.func f), args := args, argTypes := tys }) (hF : FnR P f R xs r) (hx : args.toList.map (evA t) = xs) (hc : AV.clL xs = true) (hr : AV.cl r = true) : Quiet P C t h o r := by
  intro S ψ w ρ H hρ
  have h1 : ρ (.func f) = .func (.func f) #[] #[] := by
    have := hρ (.func f) (by rw [ho]; exact Array.mem_append.2 (.inl (by simp)))
    simpa [evA, AV.rel] using this
  rw [run_call ho hF.1 ρ w h1]
  refine ⟨rfl, ?_⟩
  have h2 : AV.relL w S h ψ xs (args.toList.map ρ) := by
    rw [← hx]
    exact relL_map fun x hx' => hρ x (by rw [ho]; exact Array.mem_append.2 (.inr (Array.mem_toList_iff.1 hx')))
  have hB := H.blk i _ hi
  have h3 := hF.2 w S (args.toList.map ρ) H.lt (fun g hg => (hB.1 g hg).2.2) hB.2 (AV.relL_cl _ _ hc h2)
  rw [show (args.map ρ) = (args.toList.map ρ).toArray from (by rw [← Array.toList_map])]
  refine h3.mono ?_
  rintro e w' ⟨v, he, hb, S', k1, k2, k3, k4⟩
  exact ⟨v, he, hb, S', k1, k2, k3, AV.rel_cl _ _ hr k4⟩

/-- what an operation makes of such memory: one of several outcomes -/
structure Turns {ι : Type} (w : World) (S : Nat → Prop) (F : Nat → Prop) (Rs : ι → Res) (val : ι → Value) (v : Value) (w' : World) : Prop where
  gr : Gr F w w'
  some : ∃ p, v = val p ∧ (Rs p).R w' S ∧ ∀ k, (Rs p).F k → (F k ∨ w.heap.size ≤ k) ∧ k < w'.heap.size
def tUpon {ι : Type} (P : Program) (w : World) (S : Nat → Prop) (F : Nat → Prop) (Rs : ι → Res) (val : ι → Value) : Result Next → Prop
  | .ok (.value v) w' => Turns w S F Rs val v w'
  | .ok .skip w' => Turns w S F Rs val undef w'
  | .ok (.enter f args) w1 => w1 = w ∧ Calls P f args w fun e w' => ∃ v, e = .returned v ∧ Turns w S F Rs val v w'
  | _ => False
variable {ι : Type} {Rs : ι → Res} {val : ι → Value}
theorem tUpon_noDefer {w : World} {S : Nat → Prop} {F : Nat → Prop} {ρ : Operand → Value} (hq : tUpon P w S F Rs val ((execOp ρ o).run P w)) : ∀ c, o.op ≠ .defer c := fun c e => by
  simp only [execOp, e, Sem.run_bind] at hq
  generalize (resolve ρ c o.type).run P w = x at hq
  cases x with
  | ok d w' => exact hq
  | halt x w' => exact hq
theorem upon_of_t {K : Act → World → Prop} {Q' : Exit → Act → World → Prop} {a : Act} {w : World} {S : Nat → Prop} {F : Nat → Prop} {res : Result Next} (hq : tUpon P w S F Rs val res) (hK : ∀ v w', Turns w S F Rs val v w' → K (a.put o.dst v) w') : o.upon P a K Q' res := by
  cases res with
  | ok n w' =>
    cases n <;> simp only [tUpon] at hq <;> simp only [Oper.upon]
    case value v => exact hK v w' hq
    case skip => exact hK undef w' hq
    case enter f args =>
      obtain ⟨rfl, hc⟩ := hq
      exact hc.mono fun e w'' ⟨v, he, hg⟩ => by subst he; exact hK v w'' hg
  | halt x w' => simp only [tUpon] at hq
/-- such memory is turned -/
theorem AOp.turn {i : Nat} {R : Res} {K : St → Prop} (hi : h[i]? = some (.res R)) (hm : ∀ p, (Rs p).mrk = R.mrk)
    (hq : ∀ S ψ w (ρ : Operand → Value), HRel C h S ψ w → R.R w S → (∀ g, R.F g → g < w.heap.size) → (∀ x ∈ o.op.operands, AV.rel w S h ψ (evA t x) (ρ x)) → tUpon P w S R.F Rs val ((execOp ρ o).run P w))
    (hK : ∀ p, K ⟨putA t o.dst (.lit (val p)), h.set i (.res (Rs p))⟩) : AOp P C o ⟨t, h⟩ K := by
  rintro Q' a w ⟨hd, S, ψ, H, hl⟩
  have hB := H.blk i _ hi
  have hq' := hq S ψ w a.eval H hB.2 (fun g hg => (hB.1 g hg).2.2) fun x _ => ev_rel hl x
  refine ⟨tUpon_noDefer hq', upon_of_t hq' fun v w' hT => ?_⟩
  obtain ⟨p, rfl, hR, hF⟩ := hT.some
  have hblk : ∀ k, S k → w'.heap[k]? = w.heap[k]? := fun k hk => hT.gr.block k (H.lt k hk) fun hf => (hB.1 k hf).2.1 hk
  have X : Ext w S h ψ w' S (h.set i (.res (Rs p))) (ψset ψ i (ψ i)) := Ext.set hblk hi (fun c' hc => by simp [ABlk.ver] at hc) fun h => by simp [ABlk.isBox] at h
  have hBn : BRel C.N w' S (h.set i (.res (Rs p))) (ψset ψ i (ψ i)) (ψ i) (.res (Rs p)) := ⟨fun g hg => by
    obtain ⟨h1, h2⟩ := hF g hg
    rcases h1 with h1 | h1
    · exact ⟨(hB.1 g h1).1, (hB.1 g h1).2.1, h2⟩
    · exact ⟨fun hn => by have := H.nlt g hn; have := H.bel.size; omega, fun hs => by have := H.lt g hs; omega, h2⟩, hR⟩
  exact ⟨_, hK p, st_set (s := ⟨t, h⟩) hi hd hl (H.set hi rfl hT.gr X hBn fun g hg => (hF g hg).1) X (by unfold AV.rel; rfl) (by show (Rs p).mrk.map mark = R.mrk.map mark; rw [hm p])⟩
/-- such memory is made -/
theorem AOp.make_res {K : St → Prop} (hm : ∀ p, (Rs p).mrk = [])
    (hq : ∀ S ψ w (ρ : Operand → Value), HRel C h S ψ w → (∀ x ∈ o.op.operands, AV.rel w S h ψ (evA t x) (ρ x)) → tUpon P w S (fun _ => False) Rs val ((execOp ρ o).run P w))
    (hK : ∀ p, K ⟨putA t o.dst (.lit (val p)), h ++ [.res (Rs p)]⟩) : AOp P C o ⟨t, h⟩ K := by
  rintro Q' a w ⟨hd, S, ψ, H, hl⟩
  have hq' := hq S ψ w a.eval H fun x _ => ev_rel hl x
  refine ⟨tUpon_noDefer hq', upon_of_t hq' fun v w' hT => ?_⟩
  obtain ⟨p, rfl, hR, hF⟩ := hT.some
  have hb : Below w.heap.size w w' := ⟨hT.gr.os, hT.gr.tape, hT.gr.output, hT.gr.size, fun k hk => hT.gr.block k hk fun h => h⟩
  have X : Ext w S h ψ w' S (h ++ [.res (Rs p)]) (ψset ψ h.length (val p)) := Ext.push _ _ fun k hk => hb.block k (H.lt k hk)
  have hBn : BRel C.N w' S (h ++ [.res (Rs p)]) (ψset ψ h.length (val p)) (val p) (.res (Rs p)) := ⟨fun g hg => by
    obtain ⟨h1, h2⟩ := hF g hg
    rcases h1 with h1 | h1
    · exact h1.elim
    · exact ⟨fun hn => by have := H.nlt g hn; have := H.bel.size; omega, fun hs => by have := H.lt g hs; omega, h2⟩, hR⟩
  exact ⟨_, hK p, st_push (s := ⟨t, h⟩) hd hl (H.push hb hBn fun g hg => by
    rcases (hF g hg).1 with h1 | h1
    · exact h1.elim
    · exact h1) X (by unfold AV.rel; rfl) (by show (Rs p).mrk.map mark = []; rw [hm p]; rfl)⟩

/-- a contract whose result is such memory, made -/
def FnNew (P : Program) (f : FuncId) (args : List AV) (Rs : ι → Res) (val : ι → Value) : Prop :=
  Enters P f = true ∧ ∀ (w : World) (S : Nat → Prop) (vs : List Value), (∀ k, S k → k < w.heap.size) → AV.relL w S [] ψ0 args vs →
    Calls P f vs.toArray w fun e w' => ∃ v, e = .returned v ∧ Turns w S (fun _ => False) Rs val v w'
theorem AOp.callNew {f : FuncId} {args : Array Operand} {tys : Array TypeId} {xs : List AV} {K : St → Prop}
    (ho : o.op = .call { callee := .value (.func f), args := args, argTypes := tys }) (hF : FnNew P f xs Rs val) (hm : ∀ p, (Rs p).mrk = []) (hx : args.toList.map (evA t) = xs) (hc : AV.clL xs = true)
    (hK : ∀ p, K ⟨putA t o.dst (.lit (val p)), h ++ [.res (Rs p)]⟩) : AOp P C o ⟨t, h⟩ K := by
  refine AOp.make_res hm (fun S ψ w ρ H hρ => ?_) hK
  have h1 : ρ (.func f) = .func (.func f) #[] #[] := by
    have := hρ (.func f) (by rw [ho]; exact Array.mem_append.2 (.inl (by simp)))
    simpa [evA, AV.rel] using this
  rw [run_call ho hF.1 ρ w h1]
  refine ⟨rfl, ?_⟩
  have h2 : AV.relL w S h ψ xs (args.toList.map ρ) := by
    rw [← hx]
    exact relL_map fun x hx' => hρ x (by rw [ho]; exact Array.mem_append.2 (.inr (Array.mem_toList_iff.1 hx')))
  rw [show (args.map ρ) = (args.toList.map ρ).toArray from (by rw [← Array.toList_map])]
  exact hF.2 w S (args.toList.map ρ) H.lt (AV.relL_cl _ _ hc h2)
/-- a contract that reads such memory and makes another one -/
def FnRNew (P : Program) (f : FuncId) (R : Res) (args : List AV) (Rs : ι → Res) (val : ι → Value) : Prop :=
  Enters P f = true ∧ ∀ (w : World) (S : Nat → Prop) (vs : List Value), (∀ k, S k → k < w.heap.size) → (∀ g, R.F g → g < w.heap.size) → R.R w S → AV.relL w S [] ψ0 args vs →
    Calls P f vs.toArray w fun e w' => ∃ v, e = .returned v ∧ Turns w S (fun _ => False) Rs val v w'
theorem AOp.callRNew {i : Nat} {R : Res} {f : FuncId} {args : Array Operand} {tys : Array TypeId} {xs : List AV} {K : St → Prop} (hi : h[i]? = some (.res R))
    (ho : o.op = .call { callee := .value (.func f), args := args, argTypes := tys }) (hF : FnRNew P f R xs Rs val) (hm : ∀ p, (Rs p).mrk = []) (hx : args.toList.map (evA t) = xs) (hc : AV.clL xs = true)
    (hK : ∀ p, K ⟨putA t o.dst (.lit (val p)), h ++ [.res (Rs p)]⟩) : AOp P C o ⟨t, h⟩ K := by
  refine AOp.make_res hm (fun S ψ w ρ H hρ => ?_) hK
  have h1 : ρ (.func f) = .func (.func f) #[] #[] := by
    have := hρ (.func f) (by rw [ho]; exact Array.mem_append.2 (.inl (by simp)))
    simpa [evA, AV.rel] using this
  rw [run_call ho hF.1 ρ w h1]
  refine ⟨rfl, ?_⟩
  have h2 : AV.relL w S h ψ xs (args.toList.map ρ) := by
    rw [← hx]
    exact relL_map fun x hx' => hρ x (by rw [ho]; exact Array.mem_append.2 (.inr (Array.mem_toList_iff.1 hx')))
  rw [show (args.map ρ) = (args.toList.map ρ).toArray from (by rw [← Array.toList_map])]
  have hB := H.blk i _ hi
  exact hF.2 w S (args.toList.map ρ) H.lt (fun g hg => (hB.1 g hg).2.2) hB.2 (AV.relL_cl _ _ hc h2)
/-- a contract that turns such memory -/
def FnTurn (P : Program) (f : FuncId) (R : Res) (args : List AV) (Rs : ι → Res) (val : ι → Value) : Prop :=
  Enters P f = true ∧ ∀ (w : World) (S : Nat → Prop) (vs : List Value), (∀ k, S k → k < w.heap.size ∧ ¬ R.F k) → (∀ g, R.F g → g < w.heap.size) → R.R w S → AV.relL w S [] ψ0 args vs →
    Calls P f vs.toArray w fun e w' => ∃ v, e = .returned v ∧ Turns w S R.F Rs val v w'
theorem AOp.callTurn {i : Nat} {R : Res} {f : FuncId} {args : Array Operand} {tys : Array TypeId} {xs : List AV} {K : St → Prop} (hi : h[i]? = some (.res R))
    (ho : o.op = .call { callee := .value (.func f), args := args, argTypes := tys }) (hF : FnTurn P f R xs Rs val) (hm : ∀ p, (Rs p).mrk = R.mrk) (hx : args.toList.map (evA t) = xs) (hc : AV.clL xs = true)
    (hK : ∀ p, K ⟨putA t o.dst (.lit (val p)), h.set i (.res (Rs p))⟩) : AOp P C o ⟨t, h⟩ K := by
  refine AOp.turn hi hm (fun S ψ w ρ H hR hlt hρ => ?_) hK
  have h1 : ρ (.func f) = .func (.func f) #[] #[] := by
    have := hρ (.func f) (by rw [ho]; exact Array.mem_append.2 (.inl (by simp)))
    simpa [evA, AV.rel] using this
  rw [run_call ho hF.1 ρ w h1]
  refine ⟨rfl, ?_⟩
  have h2 : AV.relL w S h ψ xs (args.toList.map ρ) := by
    rw [← hx]
    exact relL_map fun x hx' => hρ x (by rw [ho]; exact Array.mem_append.2 (.inr (Array.mem_toList_iff.1 hx')))
  rw [show (args.map ρ) = (args.toList.map ρ).toArray from (by rw [← Array.toList_map])]
  exact hF.2 w S (args.toList.map ρ) (fun k hk => ⟨H.lt k hk, fun hf => ((H.blk i _ hi).1 k hf).2.1 hk⟩) hlt hR (AV.relL_cl _ _ hc h2)

/-- what is known of such memory is weakened -/
theorem St.le_res {i : Nat} {R R' : Res} (hi : h[i]? = some (.res R)) (hF : ∀ g, R'.F g → R.F g) (hR : ∀ w S, R.R w S → R'.R w S) (hm : R'.mrk = R.mrk) : St.le C ⟨t, h⟩ ⟨t, h.set i (.res R')⟩ := fun a w ⟨hd, S, ψ, H, hl⟩ => by
  have hB := H.blk i _ hi
  have X : Ext w S h ψ w S (h.set i (.res R')) (ψset ψ i (ψ i)) := Ext.set (fun _ _ => rfl) hi (fun c' hc => by simp [ABlk.ver] at hc) fun h => by simp [ABlk.isBox] at h
  refine ⟨by rw [hd]; exact (mkD_set hi (by show R'.mrk.map mark = R.mrk.map mark; rw [hm])).symm, S, _, H.set (v' := ψ i) hi rfl ⟨rfl, rfl, rfl, Nat.le_refl _, fun _ _ _ => rfl⟩ X ⟨fun g hg => hB.1 g (hF g hg), hR w S hB.2⟩ fun g hg => .inl (hF g hg), AV.relL_ext X _ _ hl⟩
/-- two such memories are taken as one -/
theorem St.le_merge {i j : Nat} {R1 R2 R : Res} (hij : i ≠ j) (hi : h[i]? = some (.res R1)) (hj : h[j]? = some (.res R2)) (h1 : R1.mrk = []) (h2 : R2.mrk = []) (h3 : R.mrk = []) (hF : ∀ g, R.F g → R1.F g ∨ R2.F g)
    (hR : ∀ w S, R1.R w S → R2.R w S → (∀ g, R1.F g → ¬ R2.F g) → R.R w S) : St.le C ⟨t, h⟩ ⟨t, (h.set j .dead).set i (.res R)⟩ := fun a w ⟨hd, S, ψ, H, hl⟩ => by
  have hB1 := H.blk i _ hi
  have hB2 := H.blk j _ hj
  have hil := (List.getElem?_eq_some_iff.1 hi).1
  have hjl := (List.getElem?_eq_some_iff.1 hj).1
  have hdis : ∀ g, R1.F g → ¬ R2.F g := fun g k1 k2 => H.dis i j hij (by rw [hi]; rfl) (by rw [hj]; rfl) g (by rw [hi]; exact k1) (by rw [hj]; exact k2)
  have X1 : Ext w S h ψ w S (h.set j .dead) (ψset ψ j (ψ j)) := Ext.set (fun _ _ => rfl) hj (fun c' hc => by simp [ABlk.ver] at hc) fun h => by simp [ABlk.isBox] at h
  have hi' : (h.set j .dead)[i]? = some (.res R1) := by rw [List.getElem?_set_ne (Ne.symm hij)]; exact hi
  have X2 : Ext w S (h.set j .dead) (ψset ψ j (ψ j)) w S ((h.set j .dead).set i (.res R)) (ψset (ψset ψ j (ψ j)) i (ψset ψ j (ψ j) i)) := Ext.set (fun _ _ => rfl) hi' (fun c' hc => by simp [ABlk.ver] at hc) fun h => by simp [ABlk.isBox] at h
  have e : ∀ (φ : Nat → Value) k, ψset φ k (φ k) = φ := fun φ k => funext fun q => by unfold ψset; split <;> simp_all
  rw [e] at X1
  rw [e, e] at X2
  have X : Ext w S h ψ w S ((h.set j .dead).set i (.res R)) ψ := ⟨fun _ _ => rfl, fun _ h => h, by simp, fun k c' hk hv => by
    obtain ⟨c1, k1, k2, k3⟩ := X2.ver k c' (by simpa using hk) hv
    obtain ⟨c2, k4, k5, k6⟩ := X1.ver k c1 hk k1
    exact ⟨c2, k4, by omega, fun e' => ⟨rfl, by rw [(k3 (by omega)).2, (k6 (by omega)).2]⟩⟩, fun k hk hv => ⟨(X1.box k hk (X2.box k (by simpa using hk) hv).1).1, rfl⟩⟩
  have hget : ∀ k b, ((h.set j .dead).set i (.res R))[k]? = some b → (k = i ∧ b = .res R) ∨ (k = j ∧ b = .dead) ∨ (k ≠ i ∧ k ≠ j ∧ h[k]? = some b) := fun k b hb => by
    by_cases hki : k = i
    · subst hki
      rw [List.getElem?_set_self (by simpa using hil)] at hb
      cases hb
      exact .inl ⟨rfl, rfl⟩
    · rw [List.getElem?_set_ne (Ne.symm hki)] at hb
      by_cases hkj : k = j
      · subst hkj
        rw [List.getElem?_set_self hjl] at hb
        cases hb
        exact .inr (.inl ⟨rfl, rfl⟩)
      · rw [List.getElem?_set_ne (Ne.symm hkj)] at hb
        exact .inr (.inr ⟨hki, hkj, hb⟩)
  refine ⟨?_, S, ψ, ⟨H.bel, H.nlt, H.lt, H.sub, H.new, fun k b hb => ?_, fun k q hkq hk hq g g1 g2 => ?_⟩, AV.relL_ext X _ _ hl⟩
  · rw [hd]
    show mkD h = _
    rw [mkD_set hi' (by show R.mrk.map mark = R1.mrk.map mark; rw [h1, h3]), mkD_set hj (by show [] = R2.mrk.map mark; rw [h2]; rfl)]
  · rcases hget k b hb with ⟨rfl, rfl⟩ | ⟨rfl, rfl⟩ | ⟨_, _, hb⟩
    · exact ⟨fun g hg => (hF g hg).elim (hB1.1 g) (hB2.1 g), hR w S hB1.2 hB2.2 hdis⟩
    · trivial
    · exact (H.blk k b hb).keep X fun g _ => ⟨rfl, fun h => h⟩
  · have key : ∀ k, ABlk.live ((h.set j .dead).set i (.res R))[k]? = true → ftp ((h.set j .dead).set i (.res R))[k]? (ψ k) g → (k = i ∧ (R1.F g ∨ R2.F g)) ∨ (k ≠ i ∧ k ≠ j ∧ ABlk.live h[k]? = true ∧ ftp h[k]? (ψ k) g) := fun k k1 k2 => by
      obtain ⟨b, hb⟩ := live_some k1
      rw [hb] at k1 k2
      rcases hget k b hb with ⟨rfl, rfl⟩ | ⟨rfl, rfl⟩ | ⟨q1, q2, hb'⟩
      · exact .inl ⟨rfl, hF g k2⟩
      · cases k1
      · exact .inr ⟨q1, q2, by rw [hb']; exact k1, by rw [hb']; exact k2⟩
    have no : ∀ k, k ≠ i → k ≠ j → ABlk.live h[k]? = true → ftp h[k]? (ψ k) g → (R1.F g ∨ R2.F g) → False := fun k q1 q2 q3 q4 q5 => by
      rcases q5 with q5 | q5
      · exact H.dis k i q1 q3 (by rw [hi]; rfl) g q4 (by rw [hi]; exact q5)
      · exact H.dis k j q2 q3 (by rw [hj]; rfl) g q4 (by rw [hj]; exact q5)
    rcases key k hk g1 with ⟨e1, f1⟩ | ⟨a1, a2, a3, a4⟩ <;> rcases key q hq g2 with ⟨e2, f2⟩ | ⟨b1, b2, b3, b4⟩
    · exact hkq (e1.trans e2.symm)
    · exact no q b1 b2 b3 b4 f1
    · exact no k a1 a2 a3 a4 f2
    · exact H.dis k q hkq a3 b3 g a4 b4
end
end Mu
end
section
/-
  A range over a function, over abstract states.
  Conditions: outermost; the rounds end normally; what the slots name lies at known places.
-/
namespace Mu
open Go Go.RowKit

/-- an iterator's contract: its k-th yield gives what encs k allows -/
def IterK (P : Program) (gf : FuncId) (lb : Array Value) (Sg : Nat → Prop) (W0 : World) (encs : Nat → List Value → Prop) (N : Nat) : Prop :=
  ∀ (l : Nat) (J : Nat → World → Prop) (W : World), KS Sg W0 W →
    (∀ k vs W1, k < N → encs k vs → J k W1 → YieldAt Fence.wide 2 P l vs.toArray W1 fun e W' => e = .returned (.bool true) ∧ J (k + 1) W' ∧ KS Sg W1 W') →
    J 0 W → CallsIn Fence.wide 3 P gf (#[.func (.yield l) #[] #[]] ++ lb) W fun e W' => (∃ v, e = .returned v) ∧ J N W'

/-- the marks of loops that are over -/
def marksR (ds : List Nat) : Res := ⟨ds, fun g => g ∈ ds, fun w _ => ds.Nodup ∧ ∀ d ∈ ds, w.heap[d]? = some (.deferred (some [])), fun h hk _ _ => ⟨h.1, fun d hd => (hk d hd).trans (h.2 d hd)⟩⟩

def owns (h : List ABlk) (ψ : Nat → Value) (g : Nat) : Prop := ∃ j, ABlk.live h[j]? = true ∧ ftp h[j]? (ψ j) g

section
variable {C : Ctx} {h h' : List ABlk} {S : Nat → Prop} {ψ : Nat → Value} {w w' W W' : World} {N N' : Nat → Prop}
theorem BRel.re {b : ABlk} {v : Value} (H : BRel N w S h ψ v b) (hn : ∀ g, ftp (some b) v g → ABlk.live (some b) = true → ¬ N' g) : BRel N' w S h ψ v b := by
  cases b with
  | dead => trivial
  | box cells =>
    obtain ⟨g, cs, e, rfl, h1, h2, h3, h4⟩ := H
    exact ⟨g, cs, e, rfl, hn g rfl rfl, h2, h3, h4⟩
  | row ver e T l =>
    obtain ⟨cells, h1, h0, h2, h3⟩ := H
    exact ⟨cells, h1, h0, h2, fun g hg => ⟨hn g (ownBlock_blkOf hg) rfl, (h3 g hg).2⟩⟩
  | res R => exact ⟨fun g hg => ⟨hn g hg rfl, (H.1 g hg).2⟩, H.2⟩
theorem HRel.own_lt (H : HRel C h S ψ w) {g : Nat} (hg : owns h ψ g) : ¬ C.N g ∧ g < w.heap.size ∧ ¬ S g := by
  obtain ⟨j, h1, h2⟩ := hg
  obtain ⟨b, hb⟩ := live_some h1
  rw [hb] at h1 h2
  exact (H.blk j b hb).lt h1 g h2
/-- another frame for the same memory -/
theorem HRel.re (H : HRel C h S ψ W) (hS : ∀ k, S k → W'.heap[k]? = W.heap[k]?) (hO : ∀ k, owns h ψ k → W'.heap[k]? = W.heap[k]?) (N' : Nat → Prop) (hN : ∀ k, N' k → k < W'.heap.size ∧ ¬ owns h ψ k) (rd : Option Nat) : HRel ⟨W', S, N', rd⟩ h S ψ W' := by
  refine ⟨Kp.refl _ _, fun k hk => (hN k hk).1, fun k hk => ?_, fun _ h => h, fun _ h => .inl h, fun i b hi => ?_, H.dis⟩
  · have h1 := hS k hk
    rw [Array.getElem?_eq_getElem (H.lt k hk)] at h1
    exact (Array.getElem?_eq_some_iff.1 h1).1
  · by_cases hl : ABlk.live (some b) = true
    · have hown : ∀ g, ftp (some b) (ψ i) g → owns h ψ g := fun g hg => ⟨i, by rw [hi]; exact hl, by rw [hi]; exact hg⟩
      exact BRel.re ((H.blk i b hi).keep (Ext.grow h ψ hS fun _ h => h) fun g hg => ⟨hO g (hown g hg), fun h => h⟩) fun g hg _ hn => (hN g hn).2 (hown g hg)
    · cases b <;> simp [ABlk.live] at hl
      trivial
/-- back to the frame of the call -/
theorem HRel.to {C' : Ctx} (H : HRel C' h S ψ W) (hbel : Kp C.N C.w0 W) (hnlt : ∀ k, C.N k → k < C.w0.heap.size) (hsub : ∀ k, C.S0 k → S k) (hnew : ∀ k, S k → C.S0 k ∨ C.w0.heap.size ≤ k) (hown : ∀ g, owns h ψ g → ¬ C.N g) : HRel C h S ψ W :=
  ⟨hbel, hnlt, H.lt, hsub, hnew, fun i b hi => (H.blk i b hi).re fun g hg hl => hown g ⟨i, by rw [hi]; exact hl, by rw [hi]; exact hg⟩, H.dis⟩
theorem HRel.cut (H : HRel C h S ψ w) (hc : Cut h h') (hb : ∀ b ∈ h', boxBd h'.length b = true) : HRel C h' S ψ w := by
  refine ⟨H.bel, H.nlt, H.lt, H.sub, H.new, fun i b hi => ?_, fun i j hij h1 h2 => by rw [hc.same h1, hc.same h2]; exact H.dis i j hij (hc.live h1) (hc.live h2)⟩
  rcases hc.blk i b hi with rfl | h1
  · trivial
  · have hB := H.blk i b h1
    cases b with
    | dead => trivial
    | box cells =>
      obtain ⟨g, cs, e, k1, k2, k3, k4, k5⟩ := hB
      exact ⟨g, cs, e, k1, k2, k3, k4, AV.relL_cut hc _ _ (hb _ (List.mem_of_getElem? hi)) k5⟩
    | row ver e T l => exact hB
    | res R => exact hB
theorem owns_cut (hc : Cut h h') {g : Nat} (hg : owns h' ψ g) : owns h ψ g := by
  obtain ⟨j, h1, h2⟩ := hg
  exact ⟨j, hc.live h1, by rw [← hc.same h1]; exact h2⟩
theorem HRel.rise {p : Nat} {R : Res} (H : HRel C h S ψ w) (hp : h[p]? = some .dead) (hR : R.R w S) (hF : ∀ g, R.F g → ¬ C.N g ∧ ¬ S g ∧ g < w.heap.size ∧ ¬ owns h ψ g) : HRel C (h.set p (.res R)) S ψ w := by
  have hpl := (List.getElem?_eq_some_iff.1 hp).1
  have X : Ext w S h ψ w S (h.set p (.res R)) (ψset ψ p (ψ p)) := Ext.set (fun _ _ => rfl) hp (fun c' hc => by simp [ABlk.ver] at hc) fun h => by simp [ABlk.isBox] at h
  have e : ψset ψ p (ψ p) = ψ := funext fun j => by unfold ψset; split <;> simp_all
  rw [e] at X
  refine ⟨H.bel, H.nlt, H.lt, H.sub, H.new, fun i b hi => ?_, fun i j hij hi hj g h1 h2 => ?_⟩
  · by_cases hip : i = p
    · subst hip
      rw [List.getElem?_set_self hpl] at hi
      cases hi
      exact ⟨fun g hg => ⟨(hF g hg).1, (hF g hg).2.1, (hF g hg).2.2.1⟩, hR⟩
    · rw [List.getElem?_set_ne (Ne.symm hip)] at hi
      exact (H.blk i b hi).keep X fun g _ => ⟨rfl, fun h => h⟩
  · have key : ∀ j, j ≠ p → ABlk.live (h.set p (.res R))[j]? = true → ftp (h.set p (.res R))[j]? (ψ j) g → owns h ψ g := fun j hj h1 h2 => by
      rw [List.getElem?_set_ne (Ne.symm hj)] at h1 h2
      exact ⟨j, h1, h2⟩
    by_cases hip : i = p
    · subst hip
      rw [List.getElem?_set_self hpl] at h1
      exact (hF g h1).2.2.2 (key j (Ne.symm hij) hj h2)
    · by_cases hjp : j = p
      · subst hjp
        rw [List.getElem?_set_self hpl] at h2
        exact (hF g h2).2.2.2 (key i hip hi h1)
      · rw [List.getElem?_set_ne (Ne.symm hip)] at h1 hi
        rw [List.getElem?_set_ne (Ne.symm hjp)] at h2 hj
        exact H.dis i j hij hi hj g h1 h2
theorem mkD_rise {h : List ABlk} {p : Nat} {R : Res} (hp : h[p]? = some .dead) (hm : mkD h = []) : mkD (h.set p (.res R)) = R.mrk.map mark := by
  induction h generalizing p with
  | nil => simp at hp
  | cons c h ih =>
    simp only [mkD, List.append_eq_nil_iff] at hm
    cases p with
    | zero => simp [mkD, hm.1, ABlk.mrk]
    | succ p =>
      simp only [List.set_cons_succ, mkD]
      rw [ih (by simpa using hp) hm.1, hm.2, List.append_nil]
end

/-- the slots of a round -/
def putAll (t : List AV) (ps : List Tmp) (es : List AV) : List AV := (ps.zip es).foldl (fun t p => t.set p.1 p.2) t
theorem putAll_rel {w : World} {S : Nat → Prop} {h : List ABlk} {ψ : Nat → Value} : ∀ (ps : List Tmp) (es : List AV) (vs : List Value) (t : List AV) (tmps : Array Value), AV.relL w S h ψ es vs → AV.relL w S h ψ t tmps.toList →
    AV.relL w S h ψ (putAll t ps es) ((ps.zip vs).foldl (fun (t : Array Value) p => t.setIfInBounds p.1 p.2) tmps).toList
  | [], es, vs, t, tmps, _, ht => ht
  | p :: ps, [], vs, t, tmps, he, ht => by
    unfold AV.relL at he
    subst he
    exact ht
  | p :: ps, x :: es, vs, t, tmps, he, ht => by
    unfold AV.relL at he
    obtain ⟨v, vs', rfl, h1, h2⟩ := he
    exact putAll_rel ps es vs' (t.set p x) (tmps.setIfInBounds p v) h2 (by rw [Array.toList_setIfInBounds]; exact relL_set ht p h1)

/-- the memory of a round comes to that of the next one -/
structure Drops (h h' : List ABlk) : Prop where
  cut : Cut h h'
  bd : ∀ b ∈ h', boxBd h'.length b = true
/-- what a round must come to -/
def roundEnd (h' : List ABlk) : Exit → St → Prop := fun e s => e = .normal ∧ Drops s.h h'
def roundBody (P : Program) (body : Code) (h' : List ABlk) (s1 : St) : Prop := ∀ C' : Ctx, C'.rd.isSome = true → Awp P C' body (roundEnd h') s1

/-- between two rounds -/
structure Between (PN own0 S : Nat → Prop) (w : World) (rec_ : Loop) (hk : List ABlk) (W : World) : Prop where
  loop : W.heap[w.heap.size + 1]? = some (.loop rec_)
  dfr : W.heap[w.heap.size]? = some (.deferred (some []))
  kp : Kp PN w W
  st : ∃ Sk ψk, HRel ⟨W, Sk, fun _ => False, none⟩ hk Sk ψk W ∧ (∀ g, S g → Sk g) ∧ (∀ g, Sk g → S g ∨ w.heap.size + 2 ≤ g) ∧ ∀ g, owns hk ψk g → own0 g ∨ w.heap.size + 2 ≤ g

section
variable {P : Program}
theorem round_ok {PN own0 S : Nat → Prop} {w W : World} {t es : List AV} {hk hk1 : List ABlk} {ps : Array Tmp} {vs : List Value} {tmps : Array Value} {assign body : Code} {fn : FuncId} {rec_ : LoopState → Loop}
    (hst : ∀ x y, ({ rec_ x with state := y } : Loop) = rec_ y) (hrst : (rec_ .ready).state = .ready) (hpe : ∀ x, (rec_ x).pending = none)
    (hP0 : ∀ g, PN g → g < w.heap.size ∧ ¬ own0 g) (ho0 : ∀ g, own0 g → g < w.heap.size) (hS0 : ∀ g, S g → g < w.heap.size)
    (ht : AV.clL t = true) (hes : AV.clL es = true) (htr : AV.relL w S [] ψ0 t tmps.toList) (hSP : ∀ g, S g → PN g) (hev : AV.relL w S [] ψ0 es vs) (hm : mkD hk = [])
    (hB : Between PN own0 S w (rec_ .ready) hk W)
    (hA : ∀ C' : Ctx, C'.rd.isSome = true → Awp P C' assign (athen (roundBody P body hk1) (fun _ _ => False)) ⟨putAll t ps.toList es, hk⟩) :
    RoundIn Fence.wide 2 P (w.heap.size + 1) fn ((ps.toList.zip vs).foldl (fun t p => t.setIfInBounds p.1 p.2) tmps) assign body W fun e W' => e = .returned (.bool true) ∧ Between PN own0 S w (rec_ .ready) hk1 W' ∧ Kp PN W W' := by
  obtain ⟨hl, hD, hkp, Sk, ψk, H, hs1, hs2, hs3⟩ := hB
  have hlW : w.heap.size + 1 < W.heap.size := (Array.getElem?_eq_some_iff.1 hl).1
  have hkp' := hkp
  have hSk : ∀ k, S k → W.heap[k]? = w.heap[k]? := fun k hk => hkp.block k (hSP k hk)
  let N1 : Nat → Prop := fun g => g < W.heap.size ∧ ¬ owns hk ψk g
  have hPN1 : ∀ g, PN g → N1 g := fun g hg => ⟨Nat.lt_of_lt_of_le (hP0 g hg).1 hkp.size, fun ho => by
    rcases hs3 g ho with h1 | h1
    · exact (hP0 g hg).2 h1
    · have := (hP0 g hg).1; omega⟩
  have hlD : ∀ g, (g = w.heap.size ∨ g = w.heap.size + 1) → N1 g := fun g hg => ⟨by omega, fun ho => by
    rcases hs3 g ho with h1 | h1
    · have := ho0 g h1; omega
    · omega⟩
  have H1 := H.re (W' := W) (fun _ _ => rfl) (fun _ _ => rfl) N1 (fun _ h => h) (some (w.heap.size + 1))
  refine roundIn_of_wpIn trivial ?_
  have r1 : St.rel ⟨W, Sk, N1, some (w.heap.size + 1)⟩ ⟨putAll t ps.toList es, hk⟩ { tmps := (ps.toList.zip vs).foldl (fun t p => t.setIfInBounds p.1 p.2) tmps, defers := [] } W := by
    refine ⟨hm.symm, Sk, ψk, H1, putAll_rel _ _ _ _ _ ?_ ?_⟩
    · exact AV.relL_cl _ _ hes (AV.relL_ext (Ext.grow [] ψ0 hSk hs1) _ _ hev)
    · exact AV.relL_cl _ _ ht (AV.relL_ext (Ext.grow [] ψ0 hSk hs1) _ _ htr)
  refine wpIn_mono (fnc_n (hA ⟨W, Sk, N1, some (w.heap.size + 1)⟩ rfl _ _ r1)) ?_
  rintro e a1 Wa ⟨s1, q1, hd1, Sa, ψa, Ha, hla⟩
  cases e with
  | normal =>
    have hka := Ha.bel
    have hla1 : Wa.heap[w.heap.size + 1]? = some (.loop (rec_ .ready)) := (hka.block _ (hlD _ (.inr rfl))).trans hl
    have hDa : Wa.heap[w.heap.size]? = some (.deferred (some [])) := (hka.block _ (hlD _ (.inl rfl))).trans hD
    have hSa2 : ∀ g, Sa g → S g ∨ w.heap.size + 2 ≤ g := fun g hg => by
      rcases Ha.new g hg with h1 | h1
      · exact hs2 g h1
      · right; show w.heap.size + 2 ≤ g; have : W.heap.size ≤ g := h1; omega
    have hoa : ∀ g, owns s1.h ψa g → own0 g ∨ w.heap.size + 2 ≤ g := fun g hg => by
      by_cases hgW : g < W.heap.size
      · have h1 := (Ha.own_lt hg).1
        have : owns hk ψk g := Classical.not_not.1 fun h2 => h1 ⟨hgW, h2⟩
        exact hs3 g this
      · right; omega
    have hneS : ∀ g, Sa g → g ≠ w.heap.size + 1 := fun g hg => by
      rcases hSa2 g hg with h1 | h1
      · have := hS0 g h1; omega
      · omega
    have hneO : ∀ g, owns s1.h ψa g → g ≠ w.heap.size + 1 := fun g hg => by
      rcases hoa g hg with h1 | h1
      · have := ho0 g h1; omega
      · omega
    refine ⟨_, run_beginRound hla1 hrst, ?_⟩
    rw [hst]
    obtain ⟨W2, hW2⟩ : ∃ W2, W2 = Wa.putObj (w.heap.size + 1) (.loop (rec_ .busy)) := ⟨_, rfl⟩
    rw [← hW2]
    have hot : ∀ g, g ≠ w.heap.size + 1 → W2.heap[g]? = Wa.heap[g]? := fun g hg => by rw [hW2]; exact World.putObj_heap_other hg
    have hsz2 : W2.heap.size = Wa.heap.size := by rw [hW2]; simp
    let N2 : Nat → Prop := fun g => g < W2.heap.size ∧ ¬ owns s1.h ψa g
    have H2 := Ha.re (W' := W2) (fun k hk => hot k (hneS k hk)) (fun k hk => hot k (hneO k hk)) N2 (fun _ h => h) (some (w.heap.size + 1))
    have hla2 : W2.heap[w.heap.size + 1]? = some (.loop (rec_ .busy)) := by rw [hW2]; exact World.putObj_heap_same (Array.getElem?_eq_some_iff.1 hla1).1
    have hWa : W.heap.size ≤ Wa.heap.size := hka.size
    have hPN2 : ∀ g, PN g → N2 g := fun g hg => ⟨by have := (hP0 g hg).1; omega, fun ho => by
      rcases hoa g ho with h1 | h1
      · exact (hP0 g hg).2 h1
      · have := (hP0 g hg).1; omega⟩
    have hlD2 : ∀ g, (g = w.heap.size ∨ g = w.heap.size + 1) → N2 g := fun g hg => ⟨by omega, fun ho => by
      rcases hoa g ho with h1 | h1
      · have := ho0 g h1; omega
      · omega⟩
    have r2 : St.rel ⟨W2, Sa, N2, some (w.heap.size + 1)⟩ s1 a1 W2 := ⟨hd1, Sa, ψa, H2, AV.relL_ext (Ext.grow s1.h ψa (fun k hk => hot k (hneS k hk)) fun _ h => h) _ _ hla⟩
    refine wpIn_mono (fnc_n (q1 ⟨W2, Sa, N2, some (w.heap.size + 1)⟩ rfl _ _ r2)) ?_
    rintro e a3 W3 ⟨s2, ⟨rfl, hdr⟩, hd2, S3, ψ3, H3, hl3⟩
    have hk3 := H3.bel
    have hl31 : W3.heap[w.heap.size + 1]? = some (.loop (rec_ .busy)) := (hk3.block _ (hlD2 _ (.inr rfl))).trans hla2
    have hD3 : W3.heap[w.heap.size]? = some (.deferred (some [])) := (hk3.block _ (hlD2 _ (.inl rfl))).trans ((hot _ (by omega)).trans hDa)
    have H4 := H3.cut hdr.cut hdr.bd
    have hS3 : ∀ g, S3 g → S g ∨ w.heap.size + 2 ≤ g := fun g hg => by
      rcases H3.new g hg with h1 | h1
      · exact hSa2 g h1
      · right; have : W2.heap.size ≤ g := h1; omega
    have ho3 : ∀ g, owns hk1 ψ3 g → own0 g ∨ w.heap.size + 2 ≤ g := fun g hg => by
      by_cases hgW : g < W2.heap.size
      · have h1 := (H3.own_lt (owns_cut hdr.cut hg)).1
        have : owns s1.h ψa g := Classical.not_not.1 fun h2 => h1 ⟨hgW, h2⟩
        exact hoa g this
      · right; omega
    have hot4 : ∀ g, g ≠ w.heap.size + 1 → (W3.putObj (w.heap.size + 1) (.loop (rec_ .ready))).heap[g]? = W3.heap[g]? := fun g hg => World.putObj_heap_other hg
    have hr := run_endRound (P := P) none hl31
    have hrec : ({ rec_ .busy with state := .ready, pending := none } : Loop) = rec_ .ready := by rw [← hst .busy .ready, ← hpe .busy]
    rw [show (if (none : Option Code).isNone = true then LoopState.ready else LoopState.done) = .ready from rfl, hrec] at hr
    have hkW : Kp PN W (W3.putObj (w.heap.size + 1) (.loop (rec_ .ready))) := by
      refine ⟨?_, ?_, ?_, ?_, fun k hk => ?_⟩
      · show W3.os = W.os
        rw [hk3.os]; show W2.os = W.os; rw [hW2]; exact hka.os
      · show W3.tape = W.tape
        rw [hk3.tape]; show W2.tape = W.tape; rw [hW2]; exact hka.tape
      · show W3.output = W.output
        rw [hk3.output]; show W2.output = W.output; rw [hW2]; exact hka.output
      · have h1 : W2.heap.size ≤ W3.heap.size := hk3.size
        simp
        omega
      · have hne : k ≠ w.heap.size + 1 := by have := (hP0 k hk).1; omega
        rw [hot4 k hne, hk3.block k (hPN2 k hk)]
        show W2.heap[k]? = W.heap[k]?
        rw [hot k hne]
        exact hka.block k (hPN1 k hk)
    refine ⟨_, _, hr, rfl, ⟨World.putObj_heap_same (Array.getElem?_eq_some_iff.1 hl31).1, (hot4 _ (by omega)).trans hD3, hkp.trans hkW, S3, ψ3, ?_, fun g hg => H3.sub g (Ha.sub g (hs1 g hg)), hS3, ho3⟩, hkW⟩
    refine H4.re (fun k hk => hot4 k ?_) (fun k hk => hot4 k ?_) _ (fun _ h => h.elim) none
    · rcases hS3 k hk with h1 | h1
      · have := hS0 k h1; omega
      · omega
    · rcases ho3 k hk with h1 | h1
      · have := ho0 k h1; omega
      · omega
  | _ => exact q1.elim

theorem enters_call {gf : FuncId} (hE : Enters P gf = true) (args : Array Value) (w : World) : (callFunc gf args).run P w = .ok (.enter gf args) w := by
  unfold Enters at hE
  cases hf : P.funcs[gf]? with
  | none => rw [hf] at hE; cases hE
  | some fn =>
    rw [hf] at hE
    simp only [Bool.and_eq_true, Bool.not_eq_true'] at hE
    have h1 : ¬ fn.name = "runtime.NumGoroutine" := by simpa using hE.1
    have h2 : ¬ fn.body = none := fun e => by have := hE.2; rw [e] at this; cases this
    simp [callFunc, hf, h1, h2]
theorem Awp.rangeK {C : Ctx} {g : Operand} {ps : Array Tmp} {assign body : Code} {Q : Exit → St → Prop} {t : List AV} {h : List ABlk} {gf : FuncId} {lb : Array Value} {R : Res} {ds : List Nat} {N : Nat} {encs : Nat → List AV} (i im : Nat) (σ : Nat → List ABlk)
    (hrd : C.rd = none) (hE : Enters P gf = true) (hg : evA t g = .lit (.func (.func gf) #[] lb)) (hi : h[i]? = some (.res R)) (hmi : h[im]? = some (.res (marksR ds))) (hmk : mkD h = ds.map mark)
    (h0 : Drops h (σ 0)) (h0i : (σ 0)[i]? = some .dead) (hσm : ∀ k, (σ k)[im]? = some .dead) (hmσ : ∀ k, mkD (σ k) = []) (ht : AV.clL t = true) (hes : ∀ k, AV.clL (encs k) = true) (hps : ∀ k, (encs k).length = ps.size)
    (hit : ∀ w S, (∀ k, S k → k < w.heap.size) → (∀ k, R.F k → k < w.heap.size) → R.R w S → IterK P gf lb (fun k => S k ∨ R.F k) w (fun k vs => AV.relL w S [] ψ0 (encs k) vs) N)
    (hround : ∀ k, k < N → ∀ C' : Ctx, C'.rd.isSome = true → Awp P C' assign (athen (roundBody P body (σ (k + 1))) (fun _ _ => False)) ⟨putAll t ps.toList (encs k), σ k⟩)
    (hdone : ∀ D, Q .normal ⟨t, (σ N).set im (.res (marksR (D :: ds)))⟩) : Awp P C (.rangeFunc g ps assign body) Q ⟨t, h⟩ := fun a w ⟨hd, S, ψ, H, hl⟩ => by
  rw [hrd]
  show (Code.rangeFunc g ps assign body).wpIn Fence.wide 4 P _ a w
  have H0 := H.cut h0.cut h0.bd
  have hBi := H.blk i _ hi
  have hBm := H.blk im _ hmi
  have hgv := ev_rel hl g
  rw [hg] at hgv
  unfold AV.rel at hgv
  have hlit : AV.relL w S [] ψ0 t a.tmps.toList := AV.relL_cl _ _ ht hl
  obtain ⟨own0, hown0⟩ : ∃ o, o = owns (σ 0) ψ := ⟨_, rfl⟩
  obtain ⟨PN, hPN⟩ : ∃ p : Nat → Prop, p = fun g => g < w.heap.size ∧ ¬ own0 g := ⟨_, rfl⟩
  have ho0 : ∀ g, own0 g → g < w.heap.size := fun g hg => by rw [hown0] at hg; exact (H0.own_lt hg).2.1
  have hP0 : ∀ g, PN g → g < w.heap.size ∧ ¬ own0 g := fun g hg => by rw [hPN] at hg; exact hg
  have hdead : ∀ (j : Nat) (R' : Res), h[j]? = some (.res R') → (σ 0)[j]? = some .dead → ∀ g, R'.F g → ¬ own0 g := fun j R' hj hjd g hF ho => by
    rw [hown0] at ho
    obtain ⟨j', h1, h2⟩ := ho
    have hne : j' ≠ j := fun e => by subst e; rw [hjd] at h1; cases h1
    rw [h0.cut.same h1] at h2
    exact H.dis j' j hne (h0.cut.live h1) (by rw [hj]; rfl) g h2 (by rw [hj]; exact hF)
  have hSP : ∀ g, S g → PN g := fun g hg => by rw [hPN]; exact ⟨H.lt g hg, fun ho => by rw [hown0] at ho; exact (H0.own_lt ho).2.2 hg⟩
  have hFP : ∀ g, R.F g → PN g := fun g hg => by rw [hPN]; exact ⟨(hBi.1 g hg).2.2, hdead i R hi h0i g hg⟩
  have hdP : ∀ g, g ∈ ds → PN g := fun g hg => by rw [hPN]; exact ⟨(hBm.1 g hg).2.2, hdead im _ hmi (hσm 0) g hg⟩
  refine wpIn_rangeFunc fun fn _ => ?_
  obtain ⟨rec_, hrec⟩ : ∃ rec_ : LoopState → Loop, rec_ = fun st => { state := st, pending := none, fn, tmps := a.tmps, params := ps, assign, body, defers := w.heap.size } := ⟨_, rfl⟩
  have hst : ∀ x y, ({ rec_ x with state := y } : Loop) = rec_ y := fun x y => by rw [hrec]
  have hrst : (rec_ .ready).state = .ready := by rw [hrec]
  have hpe : ∀ x, (rec_ x).pending = none := fun x => by rw [hrec]
  obtain ⟨W1, hW1⟩ : ∃ W1, W1 = (w.alloc (.deferred (some []))).alloc (.loop (rec_ .ready)) := ⟨_, rfl⟩
  have hL1 : W1.heap[w.heap.size + 1]? = some (.loop (rec_ .ready)) := by
    rw [hW1]; have := heap_alloc_new (w.alloc (.deferred (some []))) (.loop (rec_ .ready)); rwa [World.size_alloc] at this
  have hD1 : W1.heap[w.heap.size]? = some (.deferred (some [])) := by
    rw [hW1]; exact (Below.heap_alloc _ _ _ (by simp)).trans (heap_alloc_new w _)
  have hb1 : Below w.heap.size w W1 := by rw [hW1]; exact ((Below.refl _ w).alloc (Nat.le_refl _) _).alloc (by simp) _
  have hJ0 : Between PN own0 S w (rec_ .ready) (σ 0) W1 := by
    refine ⟨hL1, hD1, Kp.of_below hb1 fun k hk => (hP0 k hk).1, S, ψ, ?_, fun _ h => h, fun _ h => .inl h, fun g hg => .inl (by rw [hown0]; exact hg)⟩
    exact H0.re (fun k hk => hb1.block k (H.lt k hk)) (fun k hk => hb1.block k (H0.own_lt hk).2.1) _ (fun _ h => h.elim) none
  refine ⟨w.heap.size + 1, [mark w.heap.size], W1, { target := .fn (.func gf) lb, args := #[.func (.yield (w.heap.size + 1)) #[] #[]] }, W1, gf, #[.func (.yield (w.heap.size + 1)) #[] #[]] ++ lb, W1, ?_, ?_, fun _ _ => trivial, ?_, fun _ => by omega, ?_⟩
  · rw [hW1, hrec]; exact run_enterLoop_outer _ _ _ _ _
  · simp only [resolve, hgv]
    simp [go_sem]
  · simp [invoke, go_sem, enters_call hE]
  · refine (hit w S H.lt (fun k hk => (hBi.1 k hk).2.2) hBi.2 (w.heap.size + 1) (fun k W => Between PN own0 S w (rec_ .ready) (σ k) W) W1 ⟨hb1.size, fun k hk => hb1.block k ?_⟩ ?_ hJ0).mono ?_
    · rcases hk with hk | hk
      · exact H.lt k hk
      · exact (hBi.1 k hk).2.2
    · intro k vs W hkN hev hJ
      have hvl : vs.length = ps.size := by rw [relL_len hev, hps]
      have hy := run_yield (P := P) (args := vs.toArray) hJ.loop (by rw [hrec]; simpa using hvl)
      have hR := round_ok (P := P) (fn := fn) (ps := ps) (tmps := a.tmps) (body := body) hst hrst hpe hP0 ho0 H.lt ht (hes k) hlit hSP hev (hmσ k) hJ (hround k hkN)
      have e1 : ((rec_ .ready).params.zip vs.toArray).foldl (fun tmps (t, a) => tmps.setIfInBounds t a) (rec_ .ready).tmps = (ps.toList.zip vs).foldl (fun t p => t.setIfInBounds p.1 p.2) a.tmps := by
        rw [hrec, ← Array.foldl_toList, Array.toList_zip]
      rw [e1] at hy
      rw [show (rec_ .ready).fn = fn by rw [hrec], show (rec_ .ready).assign = assign by rw [hrec], show (rec_ .ready).body = body by rw [hrec]] at hy
      refine ⟨fn, _, assign, body, hy, hR.mono ?_⟩
      rintro e W' ⟨rfl, hB, hK⟩
      refine ⟨rfl, hB, hK.size, fun g hg => hK.block g ?_⟩
      rcases hg with hg | hg
      · exact hSP g hg
      · exact hFP g hg
    · rintro e W' ⟨⟨v, rfl⟩, hJ⟩
      have hend := run_endLoop (P := P) hJ.loop (by rw [hrst]; simp)
      rw [hpe] at hend
      refine ⟨none, _, hend, ⟨t, (σ N).set im (.res (marksR (w.heap.size :: ds)))⟩, hdone _, ?_⟩
      obtain ⟨hlp, hdf, hkp, Sk, ψk, Hk, hs1, hs2, hs3⟩ := hJ
      suffices key : ∀ (W5 : World) (ob : Obj), W5 = W'.putObj (w.heap.size + 1) ob → St.rel C ⟨t, (σ N).set im (.res (marksR (w.heap.size :: ds)))⟩ { a with defers := [mark w.heap.size] ++ a.defers } W5 from key _ _ rfl
      intro W5 ob hW5
      have hot : ∀ g, g ≠ w.heap.size + 1 → W5.heap[g]? = W'.heap[g]? := fun g hg => by rw [hW5]; exact World.putObj_heap_other hg
      have hsz : W5.heap.size = W'.heap.size := by rw [hW5]; simp
      have hlW : w.heap.size + 1 < W'.heap.size := (Array.getElem?_eq_some_iff.1 hlp).1
      have hSne : ∀ g, Sk g → g ≠ w.heap.size + 1 := fun g hg => by
        rcases hs2 g hg with h1 | h1
        · have := H.lt g h1; omega
        · omega
      have hOne : ∀ g, owns (σ N) ψk g → g ≠ w.heap.size + 1 := fun g hg => by
        rcases hs3 g hg with h1 | h1
        · have := ho0 g h1; omega
        · omega
      have hPne : ∀ g, PN g → W5.heap[g]? = w.heap[g]? := fun g hg => (hot g (by have := (hP0 g hg).1; omega)).trans (hkp.block g hg)
      have hH5 := Hk.re (W' := W5) (fun k hk => hot k (hSne k hk)) (fun k hk => hot k (hOne k hk)) (fun _ => False) (fun _ h => h.elim) none
      have hCN : ∀ g, C.N g → PN g := fun g hg => by
        rw [hPN]
        refine ⟨Nat.lt_of_lt_of_le (H.nlt g hg) H.bel.size, fun ho => ?_⟩
        rw [hown0] at ho
        exact (H0.own_lt ho).1 hg
      have hkp5 : Kp C.N w W5 := ⟨by rw [hW5]; exact hkp.os, by rw [hW5]; exact hkp.tape, by rw [hW5]; exact hkp.output, by have := hkp.size; omega, fun k hk => hPne k (hCN k hk)⟩
      have hH6 : HRel C (σ N) Sk ψk W5 := hH5.to (H.bel.trans hkp5) H.nlt (fun k hk => hs1 k (H.sub k hk)) (fun k hk => by
        rcases hs2 k hk with h1 | h1
        · exact H.new k h1
        · right; have := H.bel.size; omega) fun g hg hn => by
          rcases hs3 g hg with h1 | h1
          · exact (hP0 g (hCN g hn)).2 h1
          · have := H.nlt g hn; have := H.bel.size; omega
      refine ⟨?_, Sk, ψk, hH6.rise (hσm N) ⟨List.nodup_cons.2 ⟨fun hm => by have := (hBm.1 _ hm).2.2; omega, hBm.2.1⟩, fun d hd => ?_⟩ fun g hg => ?_, ?_⟩
      · show [mark w.heap.size] ++ a.defers = mkD ((σ N).set im _)
        rw [mkD_rise (hσm N) (hmσ N), hd, hmk]
        rfl
      · rcases List.mem_cons.1 hd with rfl | hd
        · exact (hot _ (by omega)).trans hdf
        · exact (hPne d (hdP d hd)).trans (hBm.2.2 d hd)
      · rcases List.mem_cons.1 hg with rfl | hg
        · refine ⟨fun hn => by have := H.nlt _ hn; have := H.bel.size; omega, fun hs => ?_, by omega, fun ho => ?_⟩
          · rcases hs2 _ hs with h1 | h1
            · have := H.lt _ h1; omega
            · omega
          · rcases hs3 _ ho with h1 | h1
            · have := ho0 _ h1; omega
            · omega
        · have hlt := (hBm.1 g hg).2.2
          refine ⟨(hBm.1 g hg).1, fun hs => ?_, by omega, fun ho => ?_⟩
          · rcases hs2 _ hs with h1 | h1
            · exact (hBm.1 g hg).2.1 h1
            · omega
          · rcases hs3 _ ho with h1 | h1
            · exact (hP0 g (hdP g hg)).2 h1
            · omega
      · exact AV.relL_cl _ _ ht (AV.relL_ext (Ext.grow [] ψ0 (fun k hk => hPne k (hSP k hk)) hs1) _ _ hlit)
end
end Mu
end
section
/-
  A function that holds ranges over functions: its contract from its walk.
  Conditions: none; generic.
-/
namespace Mu
open Go Go.RowKit

section
variable {C : Ctx} {h : List ABlk} {S : Nat → Prop} {ψ : Nat → Value} {W : World}
theorem HRel.other (H : HRel C h S ψ W) {D : Nat} (o : Obj) (h1 : ¬ C.N D) (h2 : ¬ S D) (h3 : ¬ owns h ψ D) : HRel C h S ψ (W.putObj D o) := by
  have hot : ∀ g, g ≠ D → (W.putObj D o).heap[g]? = W.heap[g]? := fun g hg => World.putObj_heap_other hg
  have hS : ∀ k, S k → (W.putObj D o).heap[k]? = W.heap[k]? := fun k hk => hot k fun e => h2 (e ▸ hk)
  refine ⟨H.bel.trans ⟨rfl, rfl, rfl, by simp, fun k hk => hot k fun e => h1 (e ▸ hk)⟩, H.nlt, fun k hk => by simpa using H.lt k hk, H.sub, H.new, fun i b hi => ?_, H.dis⟩
  by_cases hl : ABlk.live (some b) = true
  · exact (H.blk i b hi).keep (Ext.grow h ψ hS fun _ h => h) fun g hg => ⟨hot g fun e => h3 ⟨i, by rw [hi]; exact hl, by rw [hi]; exact e ▸ hg⟩, fun h => h⟩
  · cases b <;> simp [ABlk.live] at hl
    trivial
end
theorem leaves_h {P : Program} {C : Ctx} {fn : Go.Func} {tmps : Array Value} {R : Ending → World → Prop} {v : Value} {x : AV} {n : Nat} (hres : ∀ W, (results fn tmps).run P W = .ok v W) :
    ∀ (ds : List Nat) (W : World) (h : List ABlk) (S : Nat → Prop) (ψ : Nat → Value), (∀ W S ψ, HRel C (h.set 0 .dead) S ψ W → AV.rel W S (h.set 0 .dead) ψ x v → R (.returned v) W) → h[0]? = some (.res (marksR ds)) → HRel C h S ψ W → AV.rel W S h ψ x v →
      LeavesInM Fence.wide n P fn tmps R (ds.map mark) .returning W
  | [], W, h, S, ψ, hfin, h0, H, hv => by
    have hc : Cut h (h.set 0 .dead) := ⟨by simp, fun i b hi => by
      by_cases hi0 : i = 0
      · subst hi0
        rw [List.getElem?_set_self (List.getElem?_eq_some_iff.1 h0).1] at hi
        cases hi
        exact .inl rfl
      · rw [List.getElem?_set_ne (Ne.symm hi0)] at hi
        exact .inr hi⟩
    exact ⟨v, hres W, hfin W S ψ (H.cute hc (by simp)) (AV.rel_cute hc (by simp) _ _ hv)⟩
  | D :: ds, W, h, S, ψ, hfin, h0, H, hv => by
    have hB := H.blk 0 _ h0
    have hlen := (List.getElem?_eq_some_iff.1 h0).1
    have hD := hB.1 D (by show D ∈ D :: ds; simp)
    refine ⟨by simp, .inl ⟨_, _, rfl, run_takeDeferred (hB.2.2 D (by simp)), ?_⟩⟩
    have X : Ext W S h ψ W S (h.set 0 (.res (marksR ds))) (ψset ψ 0 (ψ 0)) := Ext.set (fun _ _ => rfl) h0 (fun c' hc => by simp [ABlk.ver] at hc) fun h => by simp [ABlk.isBox] at h
    have hnd := List.nodup_cons.1 hB.2.1
    have H1 : HRel C (h.set 0 (.res (marksR ds))) S (ψset ψ 0 (ψ 0)) W := H.set (v' := ψ 0) h0 rfl ⟨rfl, rfl, rfl, Nat.le_refl _, fun _ _ _ => rfl⟩ X
      ⟨fun g hg => hB.1 g (List.mem_cons_of_mem _ hg), hnd.2, fun d hd => hB.2.2 d (List.mem_cons_of_mem _ hd)⟩ fun g hg => .inl (List.mem_cons_of_mem _ hg)
    have hno : ¬ owns (h.set 0 (.res (marksR ds))) (ψset ψ 0 (ψ 0)) D := fun ⟨j, h1, h2⟩ => by
      by_cases hj : j = 0
      · subst hj
        rw [List.getElem?_set_self hlen] at h2
        exact hnd.1 h2
      · rw [List.getElem?_set_ne (Ne.symm hj)] at h1 h2
        rw [ψset_ne hj] at h2
        exact H.dis j 0 hj h1 (by rw [h0]; rfl) D h2 (by rw [h0]; show D ∈ D :: ds; simp)
    have hSk : ∀ k, S k → (W.putObj D (.deferred none)).heap[k]? = W.heap[k]? := fun k hk => World.putObj_heap_other fun e => hD.2.1 (e ▸ hk)
    refine leaves_h hres ds _ _ S _ (fun W S ψ h1 h2 => ?_) (List.getElem?_set_self hlen) (H1.other _ hD.1 hD.2.1 hno) (AV.rel_ext (Ext.grow _ _ hSk fun _ h => h) _ _ (AV.rel_ext X _ _ hv))
    rw [List.set_set] at h1 h2
    exact hfin W S ψ h1 h2
def RetsM (t : Tmp) (r : AV) : Exit → St → Prop := fun e s => (e = .normal ∨ e = .ret) ∧ ∃ ds, s.h[0]? = some (.res (marksR ds)) ∧ mkD s.h = ds.map mark ∧ Fin (s.h.set 0 .dead) (evA s.t (.tmp t)) r
theorem Fn.of_awpM {P : Program} {f : FuncId} {fn : Go.Func} {c : Code} {args : List AV} {r : AV} {t : Tmp} {n : Nat} (hf : P.funcs[f]? = some fn) (hb : fn.body = some c) (hE : Enters P f = true) (hres : fn.results = #[.tmp t]) (hn : fn.ntmps = n)
    (h : ∀ C : Ctx, C.std → C.rd = none → Awp P C c (RetsM t r) ⟨args ++ List.replicate (n - args.length) (.lit undef), [.res (marksR [])]⟩) : Fn P f args r := by
  refine ⟨hE, fun w S vs hS hr => (callsIn_wide (n := 4)).1 (callsIn_of_wp_marks hf hb trivial ?_)⟩
  rw [hn]
  have hst : St.rel ⟨w, S, fun k => k < w.heap.size, none⟩ ⟨args ++ List.replicate (n - args.length) (.lit undef), [.res (marksR [])]⟩ { tmps := vs.toArray ++ Array.replicate (n - vs.toArray.size) undef, defers := [] } w := by
    obtain ⟨hd, S1, ψ, H, hl⟩ := start_rel (n := n) hS hr
    have X := Ext.push (w := w) (w' := w) (S := S1) (h := []) (ψ := ψ) (.res (marksR [])) undef fun _ _ => rfl
    exact ⟨rfl, S1, _, H.push (b := .res (marksR [])) (v := undef) (Below.refl _ _) (show BRel _ _ _ _ _ _ (.res (marksR [])) from ⟨fun g hg => (List.not_mem_nil hg).elim, show ([] : List Nat).Nodup ∧ ∀ d ∈ ([] : List Nat), w.heap[d]? = some (.deferred (some [])) from ⟨List.nodup_nil, fun d hd => (List.not_mem_nil hd).elim⟩⟩) (fun g hg => (List.not_mem_nil hg).elim), AV.relL_ext X _ _ hl⟩
  have hw := h ⟨w, S, fun k => k < w.heap.size, none⟩ (fun _ h => h) rfl _ w hst
  refine wpIn_mono hw ?_
  rintro e a' w' ⟨s, ⟨he, ds, h0, hm, hfin⟩, hd, S1, ψ, H, hl⟩
  have hv := ev_rel hl (.tmp t)
  rw [hm] at hd
  have key := leaves_h (P := P) (C := ⟨w, S, fun k => k < w.heap.size, none⟩) (fn := fn) (tmps := a'.tmps) (R := fun e w' => ∃ v, e = .returned v ∧ Good w S [] ψ0 r v w') (n := 4) (x := evA s.t (.tmp t)) (v := a'.eval (.tmp t)) (fun W => results_tmp hres _ _ _) ds w' s.h S1 ψ (fun W S ψ h1 h2 => ⟨_, rfl, good_final (s := ⟨s.t, s.h.set 0 .dead⟩) h1 hfin h2⟩) h0 H hv
  rcases he with rfl | rfl
  · show LeavesInM Fence.wide 4 P fn a'.tmps _ a'.defers .returning w'
    rw [hd]
    exact key
  · show LeavesInM Fence.wide 4 P fn a'.tmps _ a'.defers .returning w'
    rw [hd]
    exact key
end Mu
end
section
/-
  Iterators that make memory of their own: their contract from their walk; a range over one, over abstract states.
  Conditions: outermost; the rounds end normally; what the slots name lies at known places.
-/
namespace Mu
open Go Go.RowKit

/-! ### operations within the fence -/
section
variable {P : Program} {C : Ctx} {t : List AV} {h : List ABlk} {o : Oper}
def AOpY (P : Program) (C : Ctx) (o : Oper) (s : St) (K : St → Prop) : Prop :=
  ∀ (Q' : Exit → Act → World → Prop), ¬ LetsOut Q' → ∀ a w, s.rel C a w → o.wpIn (fnc C.rd) 4 P a w (fun a' w' => ∃ s', K s' ∧ s'.rel C a' w') Q'
theorem AOpY.op {s : St} {K : St → Prop} (h : AOp P C o s K) : AOpY P C o s K := fun Q' hQ a w H => fnc_oper (h Q' a w H).1 hQ (h Q' a w H).2
def aSeqY (P : Program) (C : Ctx) (ops : Array Oper) (K : St → Prop) : List Oper → St → Prop
  | [], s => K s
  | o :: rest, s => ∃ b, gA ops s.t o = some b ∧ (b = true → AOpY P C o s (aSeqY P C ops K rest)) ∧ (b = false → aSeqY P C ops K rest ⟨putA s.t o.dst (.lit undef), s.h⟩)
theorem wpListIn_of_aSeqY {rd : Option Nat} (hrd : C.rd = rd) {ops : Array Oper} {K : St → Prop} {Q' : Exit → Act → World → Prop} (hlo : ¬ LetsOut Q') (hQ : ∀ s a w, K s → s.rel C a w → Q' .normal a w) : ∀ (l : List Oper) (s : St) (a : Act) (w : World), aSeqY P C ops K l s → s.rel C a w → wpListIn (fnc rd) 4 P ops Q' l a w
  | [], s, a, w, h, H => hQ s a w h H
  | o :: rest, s, a, w, h, H => by
    obtain ⟨b, hg, ht, hf⟩ := h
    obtain ⟨_, S, ψ, _, hl⟩ := id H
    have hw := gA_wanted hg hl
    unfold wpListIn
    rw [hw]
    cases b with
    | true =>
      rw [if_pos rfl]
      subst hrd
      have key := ht rfl Q' hlo a w H
      exact Oper.wpIn_mono (fun a' w' ⟨s', h1, h2⟩ => wpListIn_of_aSeqY rfl hlo hQ rest s' a' w' h1 h2) key
    | false =>
      rw [if_neg (by simp)]
      exact ⟨fun _ _ => fnc_fn _ _, wpListIn_of_aSeqY hrd hlo hQ rest _ _ w (hf rfl) (undef_rel H o.dst)⟩
theorem Awp.regionY {id : Nat} {l : List Oper} {Q : Exit → St → Prop} {s : St} (h : aSeqY P C l.toArray (Q .normal) l s) : Awp P C (.region id l.toArray false) Q s := fun a w H =>
  wpIn_mono (wpIn_region_lit (wpListIn_of_aSeqY rfl (Q' := fun e a' w' => e = .normal ∧ ∃ s', Q e s' ∧ s'.rel C a' w') (fun ⟨_, _, h⟩ => by cases h.1) (fun s a w h H => ⟨rfl, s, h, H⟩) l s a w h H)) fun _ _ _ h => h.2
theorem aSeqY_nil {ops : Array Oper} {K : St → Prop} {s : St} (h : K s) : aSeqY P C ops K [] s := h
theorem aSeqY_o {ops : Array Oper} {K : St → Prop} {rest : List Oper} {s : St} (hg : gA ops s.t o = some true) (hq : AOp P C o s (aSeqY P C ops K rest)) : aSeqY P C ops K (o :: rest) s := ⟨true, hg, fun _ => AOpY.op hq, fun h => by cases h⟩
theorem aSeqY_y {ops : Array Oper} {K : St → Prop} {rest : List Oper} {s : St} (hg : gA ops s.t o = some true) (hq : AOpY P C o s (aSeqY P C ops K rest)) : aSeqY P C ops K (o :: rest) s := ⟨true, hg, fun _ => hq, fun h => by cases h⟩
theorem aSeqY_skip {ops : Array Oper} {K : St → Prop} {rest : List Oper} (hg : gA ops t o = some false) (hk : aSeqY P C ops K rest ⟨putA t o.dst (.lit undef), h⟩) : aSeqY P C ops K (o :: rest) ⟨t, h⟩ := ⟨false, hg, fun h => (by cases h), fun _ => hk⟩
theorem aSeqY_nt {ops : Array Oper} {K : St → Prop} {l : List Oper} {t t' : List AV} {h h' : List ABlk} (ht : t = t') (hh : h = h') (hk : aSeqY P C ops K l ⟨t', h'⟩) : aSeqY P C ops K l ⟨t, h⟩ := by subst ht hh; exact hk

/-! ### a call of yield -/
/-- a call of yield turns the caller's memory -/
def YTurn {ι : Type} (P : Program) (l : Nat) (S0 : Nat → Prop) (n0 : Nat) (R : Res) (xs : List AV) (Rs : ι → Res) : Prop :=
  ∀ (w : World) (S : Nat → Prop) (vs : List Value), (∀ k, S0 k → S k) → (∀ k, S k → S0 k ∨ n0 ≤ k) → (∀ k, S k → k < w.heap.size ∧ ¬ R.F k) → (∀ g, R.F g → g < w.heap.size) → R.R w S → AV.relL w S [] ψ0 xs vs →
    YieldAt Fence.wide 2 P l vs.toArray w fun e w' => e = .returned (.bool true) ∧ Turns w S R.F Rs (fun _ => .bool true) (.bool true) w'
theorem AOpY.yield {ι : Type} {Rs : ι → Res} {i l : Nat} {R : Res} {x : Operand} {args : Array Operand} {tys : Array TypeId} {xs : List AV} {K : St → Prop} (hrd : C.rd = none) (hi : h[i]? = some (.res R)) (hm : ∀ p, (Rs p).mrk = R.mrk)
    (ho : o.op = .call { callee := .value x, args := args, argTypes := tys }) (hx : evA t x = .lit (.func (.yield l) #[] #[])) (hxs : args.toList.map (evA t) = xs) (hc : AV.clL xs = true)
    (hY : YTurn P l C.S0 C.w0.heap.size R xs Rs) (hK : ∀ p, K ⟨putA t o.dst (.lit (.bool true)), h.set i (.res (Rs p))⟩) : AOpY P C o ⟨t, h⟩ K := by
  rintro Q' hQ a w ⟨hd, S, ψ, H, hl⟩
  have hB := H.blk i _ hi
  have h1 := ev_rel hl x
  rw [hx] at h1
  unfold AV.rel at h1
  have h2 : AV.relL w S h ψ xs (args.toList.map a.eval) := by
    rw [← hxs]
    exact relL_map fun x _ => ev_rel hl x
  obtain ⟨fn, tmps, assign, body, hy, hR⟩ := hY w S (args.toList.map a.eval) H.sub H.new (fun k hk => ⟨H.lt k hk, fun hf => (hB.1 k hf).2.1 hk⟩) (fun g hg => (hB.1 g hg).2.2) hB.2 (AV.relL_cl _ _ hc h2)
  have hdf : ∀ c, o.op ≠ .defer c := fun c e => by rw [ho] at e; cases e
  have hrun : (execOp a.eval o).run P w = .ok (.round l fn tmps assign body) w := by
    have e : (args.map a.eval) = (args.toList.map a.eval).toArray := by rw [← Array.toList_map]
    simp only [execOp, ho, resolve, h1]
    simp [Deferred.ofValue, invoke]
    rw [e, hy]
  rw [hrd]
  refine ⟨fun _ _ => fnc_fn _ _, ?_⟩
  rw [Oper.semAt_eq _ _ _ hdf, hrun]
  refine ⟨fun h => (by cases h), ?_⟩
  have hR' : RoundIn Fence.wide 3 P l fn tmps assign body w _ := ⟨hR.1, fun c cs _ => hR.2 c cs (room_wide _)⟩
  refine RoundIn.mono hR' ?_
  rintro e w' ⟨rfl, hT⟩
  obtain ⟨p, _, hRp, hF⟩ := hT.some
  have hblk : ∀ k, S k → w'.heap[k]? = w.heap[k]? := fun k hk => hT.gr.block k (H.lt k hk) fun hf => (hB.1 k hf).2.1 hk
  have X : Ext w S h ψ w' S (h.set i (.res (Rs p))) (ψset ψ i (ψ i)) := Ext.set hblk hi (fun c' hc => by simp [ABlk.ver] at hc) fun h => by simp [ABlk.isBox] at h
  have hBn : BRel C.N w' S (h.set i (.res (Rs p))) (ψset ψ i (ψ i)) (ψ i) (.res (Rs p)) := ⟨fun g hg => by
    obtain ⟨h1, h2⟩ := hF g hg
    rcases h1 with h1 | h1
    · exact ⟨(hB.1 g h1).1, (hB.1 g h1).2.1, h2⟩
    · exact ⟨fun hn => by have := H.nlt g hn; have := H.bel.size; omega, fun hs => by have := H.lt g hs; omega, h2⟩, hRp⟩
  exact ⟨_, hK p, st_set (s := ⟨t, h⟩) hi hd hl (H.set hi rfl hT.gr X hBn fun g hg => (hF g hg).1) X (by unfold AV.rel; rfl) (by show (Rs p).mrk.map mark = R.mrk.map mark; rw [hm p])⟩
end

/-! ### the iterator's contract -/
/-- an iterator's contract: its k-th yield is given encs k -/
def IterY (P : Program) (gf : FuncId) (lb : List Value) (RB : Res) (encs : Nat → List AV) (N : Nat) : Prop :=
  Enters P gf = true ∧ ∀ (w : World) (S : Nat → Prop) (ι : Type) (l : Nat) (Jr : Nat → ι → Res), (∀ k p, (Jr k p).mrk = []) → (∀ k p, k < N → YTurn P l S w.heap.size (Jr k p) (encs k) (Jr (k + 1))) →
    ∀ p, (∀ k, S k → k < w.heap.size ∧ ¬ (Jr 0 p).F k ∧ ¬ RB.F k) → (∀ g, (Jr 0 p).F g → g < w.heap.size ∧ ¬ RB.F g) → (∀ g, RB.F g → g < w.heap.size) → (Jr 0 p).R w S → RB.R w S →
      CallsIn Fence.wide 3 P gf (#[Value.func (.yield l) #[] #[]] ++ lb.toArray) w fun e w' => (∃ v, e = .returned v) ∧ Gr (fun g => (Jr 0 p).F g ∨ RB.F g) w w' ∧ ∃ q S', (∀ k, S k → S' k) ∧ (Jr N q).R w' S' ∧ (∀ k, S' k → k < w'.heap.size ∧ ¬ (Jr N q).F k) ∧ (∀ k, S' k → S k ∨ w.heap.size ≤ k) ∧ ∀ g, (Jr N q).F g → ((Jr 0 p).F g ∨ RB.F g ∨ w.heap.size ≤ g) ∧ g < w'.heap.size
/-- how an iterator's walk ends -/
def RetsY {ι : Type} (Rs : ι → Res) : Exit → St → Prop := fun e s => (e = .normal ∨ e = .ret) ∧ ∃ q, s.h[0]? = some (.res (Rs q)) ∧ mkD s.h = []
theorem relL_litL {w : World} {S : Nat → Prop} {h : List ABlk} {ψ : Nat → Value} : ∀ l : List Value, AV.relL w S h ψ (l.map .lit) l
  | [] => by unfold AV.relL; rfl
  | v :: l => by
    simp only [List.map_cons]
    unfold AV.relL
    exact ⟨v, l, rfl, by unfold AV.rel; rfl, relL_litL l⟩
theorem IterY.of_awp {P : Program} {gf : FuncId} {fn : Go.Func} {c : Code} {lb : List Value} {RB : Res} {encs : Nat → List AV} {N n : Nat} (hf : P.funcs[gf]? = some fn) (hb : fn.body = some c) (hE : Enters P gf = true) (hres : fn.results = #[]) (hn : fn.ntmps = n) (hmB : RB.mrk = [])
    (h : ∀ (C : Ctx), C.rd = none → ∀ (ι : Type) (l : Nat) (Jr : Nat → ι → Res), (∀ k p, (Jr k p).mrk = []) → (∀ k p, k < N → YTurn P l C.S0 C.w0.heap.size (Jr k p) (encs k) (Jr (k + 1))) → ∀ p,
      Awp P C c (RetsY (Jr N)) ⟨(.lit (.func (.yield l) #[] #[]) :: lb.map .lit) ++ List.replicate (n - (lb.length + 1)) (.lit undef), [.res (Jr 0 p), .res RB]⟩) : IterY P gf lb RB encs N := by
  refine ⟨hE, fun w S ι l Jr hm hY p hS hF hB hR hRB => callsIn_of_wp hf hb trivial ?_⟩
  rw [hn]
  let N0 : Nat → Prop := fun k => k < w.heap.size ∧ ¬ (Jr 0 p).F k ∧ ¬ RB.F k
  have hH : HRel ⟨w, S, N0, none⟩ [.res (Jr 0 p), .res RB] S ψ0 w := by
    refine ⟨Kp.refl _ _, fun k hk => hk.1, fun k hk => (hS k hk).1, fun _ h => h, fun _ h => .inl h, fun i b hi => ?_, fun i j hij hi hj g h1 h2 => ?_⟩
    · rcases i with _ | _ | i
      · have : b = .res (Jr 0 p) := by simpa using hi.symm
        subst this
        exact ⟨fun g hg => ⟨fun hn => hn.2.1 hg, fun hs => (hS g hs).2.1 hg, (hF g hg).1⟩, hR⟩
      · have : b = .res RB := by simpa using hi.symm
        subst this
        exact ⟨fun g hg => ⟨fun hn => hn.2.2 hg, fun hs => (hS g hs).2.2 hg, hB g hg⟩, hRB⟩
      · simp at hi
    · rcases i with _ | _ | i
      · rcases j with _ | _ | j
        · exact hij rfl
        · exact (hF g h1).2 h2
        · simp [ABlk.live] at hj
      · rcases j with _ | _ | j
        · exact (hF g h2).2 h1
        · exact hij rfl
        · simp [ABlk.live] at hj
      · simp [ABlk.live] at hi
  have hst : St.rel ⟨w, S, N0, none⟩ ⟨(.lit (.func (.yield l) #[] #[]) :: lb.map .lit) ++ List.replicate (n - (lb.length + 1)) (.lit undef), [.res (Jr 0 p), .res RB]⟩ { tmps := (#[Value.func (.yield l) #[] #[]] ++ lb.toArray) ++ Array.replicate (n - (#[Value.func (.yield l) #[] #[]] ++ lb.toArray).size) undef, defers := [] } w := by
    refine ⟨?_, S, ψ0, hH, ?_⟩
    · show [] = mkD _
      simp [mkD, ABlk.mrk, hm 0 p, hmB]
    · have e : ((#[Value.func (.yield l) #[] #[]] ++ lb.toArray) ++ Array.replicate (n - (#[Value.func (.yield l) #[] #[]] ++ lb.toArray).size) undef).toList = (Value.func (.yield l) #[] #[] :: lb) ++ List.replicate (n - (lb.length + 1)) undef := by
        simp []
      rw [e, show (AV.lit (.func (.yield l) #[] #[]) :: lb.map .lit) = ((Value.func (.yield l) #[] #[] :: lb).map AV.lit) from rfl, show List.replicate (n - (lb.length + 1)) (AV.lit undef) = (List.replicate (n - (lb.length + 1)) undef).map AV.lit by simp]
      exact relL_append (relL_litL _) (relL_litL _)
  have hw := h ⟨w, S, N0, none⟩ rfl ι l Jr hm hY p _ w hst
  refine wpIn_mono (fnc_n (m := 3) hw) ?_
  rintro e a' w' ⟨s, ⟨he, q, h0, hmk⟩, hd, S1, ψ, H, hl⟩
  rw [hmk] at hd
  have hq := H.blk 0 _ h0
  have hfin : (∃ v, Ending.returned (.tuple #[]) = .returned v) ∧ Gr (fun g => (Jr 0 p).F g ∨ RB.F g) w w' ∧ ∃ q S', (∀ k, S k → S' k) ∧ (Jr N q).R w' S' ∧ (∀ k, S' k → k < w'.heap.size ∧ ¬ (Jr N q).F k) ∧ (∀ k, S' k → S k ∨ w.heap.size ≤ k) ∧ ∀ g, (Jr N q).F g → ((Jr 0 p).F g ∨ RB.F g ∨ w.heap.size ≤ g) ∧ g < w'.heap.size := by
    refine ⟨⟨_, rfl⟩, ⟨H.bel.os, H.bel.tape, H.bel.output, H.bel.size, fun k hk hno => H.bel.block k ⟨hk, fun h => hno (.inl h), fun h => hno (.inr h)⟩⟩, q, S1, H.sub, hq.2, fun k hk => ⟨H.lt k hk, fun hf => (hq.1 k hf).2.1 hk⟩, H.new, fun g hg => ⟨?_, (hq.1 g hg).2.2⟩⟩
    have h1 := (hq.1 g hg).1
    by_cases hlt : g < w.heap.size
    · by_cases h2 : (Jr 0 p).F g
      · exact .inl h2
      · by_cases h3 : RB.F g
        · exact .inr (.inl h3)
        · exact absurd ⟨hlt, h2, h3⟩ h1
    · exact .inr (.inr (by show w.heap.size ≤ g; omega))
  rcases he with rfl | rfl
  · exact ⟨hd, _, results_none hres _ _ _, hfin⟩
  · exact ⟨hd, _, results_none hres _ _ _, hfin⟩

/-! ### the range -/
theorem HRel.widen {C : Ctx} {h : List ABlk} {S S' : Nat → Prop} {ψ : Nat → Value} {W : World} (H : HRel C h S ψ W) (hs : ∀ k, S k → S' k) (hl : ∀ k, S' k → k < W.heap.size ∧ ¬ owns h ψ k) (N' : Nat → Prop) (hN : ∀ k, N' k → k < W.heap.size ∧ ¬ owns h ψ k) (rd : Option Nat) : HRel ⟨W, S', N', rd⟩ h S' ψ W := by
  have H1 := H.re (W' := W) (fun _ _ => rfl) (fun _ _ => rfl) N' hN rd
  refine ⟨Kp.refl _ _, fun k hk => (hN k hk).1, fun k hk => (hl k hk).1, fun _ h => h, fun _ h => .inl h, fun i b hi => ?_, H.dis⟩
  by_cases hlv : ABlk.live (some b) = true
  · exact (H1.blk i b hi).keep (Ext.grow h ψ (fun _ _ => rfl) hs) fun g hg => ⟨rfl, fun _ hs' => (hl g hs').2 ⟨i, by rw [hi]; exact hlv, by rw [hi]; exact hg⟩⟩
  · cases b <;> simp [ABlk.live] at hlv
    trivial
/-- between two rounds, as the iterator sees it -/
structure BetY (S own0 : Nat → Prop) (w : World) (rec_ : Loop) (hk : List ABlk) (Sk : Nat → Prop) (ψk : Nat → Value) (X : Nat → Prop) (W : World) (SI : Nat → Prop) : Prop where
  loop : W.heap[w.heap.size + 1]? = some (.loop rec_)
  dfr : W.heap[w.heap.size]? = some (.deferred (some []))
  size : w.heap.size + 2 ≤ W.heap.size
  same : ∀ g, S g → W.heap[g]? = w.heap[g]?
  st : HRel ⟨W, Sk, fun _ => False, none⟩ hk Sk ψk W
  sub : ∀ g, S g → Sk g
  new : ∀ g, Sk g → S g ∨ w.heap.size + 2 ≤ g
  old : ∀ g, owns hk ψk g → own0 g ∨ w.heap.size + 2 ≤ g
  cover : ∀ g, Sk g → X g ∨ SI g
abbrev BetP := (Nat → Prop) × (Nat → Value) × (Nat → Prop)
def betF (w : World) (hk : List ABlk) (p : BetP) (g : Nat) : Prop := g = w.heap.size ∨ g = w.heap.size + 1 ∨ owns hk p.2.1 g ∨ p.2.2 g
def betR (S own0 : Nat → Prop) (w : World) (rec_ : Loop) (hk : List ABlk) (p : BetP) : Res := ⟨[], betF w hk p, fun W SI => BetY S own0 w rec_ hk p.1 p.2.1 p.2.2 W SI, by
  intro W W' SI SI' H hF hS hsub
  have hSk : ∀ g, p.1 g → W'.heap[g]? = W.heap[g]? := fun g hg => by
    rcases H.cover g hg with h1 | h1
    · exact hF g (.inr (.inr (.inr h1)))
    · exact hS g h1
  have hl := (hF _ (.inr (.inl rfl))).trans H.loop
  refine ⟨hl, (hF _ (.inl rfl)).trans H.dfr, by have := (Array.getElem?_eq_some_iff.1 hl).1; omega, fun g hg => (hSk g (H.sub g hg)).trans (H.same g hg), H.st.re hSk (fun k hk => hF k (.inr (.inr (.inl hk)))) _ (fun _ h => h.elim) none, H.sub, H.new, H.old, fun g hg => (H.cover g hg).imp id (hsub g)⟩⟩
theorem round_okY {P : Program} {own0 S SI : Nat → Prop} {w W : World} {t es : List AV} {hk hk1 : List ABlk} {ps : Array Tmp} {vs : List Value} {tmps : Array Value} {assign body : Code} {fn : FuncId} {rec_ : LoopState → Loop} {p : BetP}
    (hst : ∀ x y, ({ rec_ x with state := y } : Loop) = rec_ y) (hrst : (rec_ .ready).state = .ready) (hpe : ∀ x, (rec_ x).pending = none)
    (ho0 : ∀ g, own0 g → g < w.heap.size) (hS0 : ∀ g, S g → g < w.heap.size)
    (ht : AV.clL t = true) (hes : AV.clL es = true) (htr : AV.relL w S [] ψ0 t tmps.toList) (hev : AV.relL W SI [] ψ0 es vs) (hm : mkD hk = [])
    (_hI1 : ∀ g, S g → SI g) (hI2 : ∀ g, SI g → S g ∨ w.heap.size + 2 ≤ g) (hI3 : ∀ g, SI g → g < W.heap.size ∧ ¬ betF w hk p g)
    (hB : BetY S own0 w (rec_ .ready) hk p.1 p.2.1 p.2.2 W SI)
    (hA : ∀ C' : Ctx, C'.rd.isSome = true → Awp P C' assign (athen (roundBody P body hk1) (fun _ _ => False)) ⟨putAll t ps.toList es, hk⟩) :
    RoundIn Fence.wide 2 P (w.heap.size + 1) fn ((ps.toList.zip vs).foldl (fun t p => t.setIfInBounds p.1 p.2) tmps) assign body W fun e W' => e = .returned (.bool true) ∧ Turns W SI (betF w hk p) (betR S own0 w (rec_ .ready) hk1) (fun _ => .bool true) (.bool true) W' := by
  obtain ⟨Sk, ψk, X⟩ := p
  obtain ⟨hl, hD, hsz, hsame, H, hs1, hs2, hs3, hcov⟩ := hB
  dsimp only at H hs1 hs2 hs3 hcov
  have hF : ∀ g, betF w hk (Sk, ψk, X) g ↔ (g = w.heap.size ∨ g = w.heap.size + 1 ∨ owns hk ψk g ∨ X g) := fun g => Iff.rfl
  let S1 : Nat → Prop := fun g => Sk g ∨ SI g
  have hS1o : ∀ g, S1 g → g < W.heap.size ∧ ¬ owns hk ψk g := fun g hg => by
    rcases hg with hg | hg
    · exact ⟨H.lt g hg, fun ho => (H.own_lt ho).2.2 hg⟩
    · exact ⟨(hI3 g hg).1, fun ho => (hI3 g hg).2 (.inr (.inr (.inl ho)))⟩
  have hS1n : ∀ g, S1 g → S g ∨ w.heap.size + 2 ≤ g := fun g hg => by
    rcases hg with hg | hg
    · exact hs2 g hg
    · exact hI2 g hg
  let N1 : Nat → Prop := fun g => g < W.heap.size ∧ ¬ owns hk ψk g
  have hlD : ∀ g, (g = w.heap.size ∨ g = w.heap.size + 1) → N1 g := fun g hg => ⟨by omega, fun ho => by
    rcases hs3 g ho with h1 | h1
    · have := ho0 g h1; omega
    · omega⟩
  have H1 := H.widen (S' := S1) (fun k hk => .inl hk) hS1o N1 (fun _ h => h) (some (w.heap.size + 1))
  refine roundIn_of_wpIn trivial ?_
  have r1 : St.rel ⟨W, S1, N1, some (w.heap.size + 1)⟩ ⟨putAll t ps.toList es, hk⟩ { tmps := (ps.toList.zip vs).foldl (fun t p => t.setIfInBounds p.1 p.2) tmps, defers := [] } W := by
    refine ⟨hm.symm, S1, ψk, H1, putAll_rel _ _ _ _ _ ?_ ?_⟩
    · exact AV.relL_cl _ _ hes (AV.relL_ext (Ext.grow [] ψ0 (fun _ _ => rfl) fun k hk => .inr hk) _ _ hev)
    · exact AV.relL_cl _ _ ht (AV.relL_ext (Ext.grow [] ψ0 hsame fun k hk => .inl (hs1 k hk)) _ _ htr)
  refine wpIn_mono (fnc_n (hA ⟨W, S1, N1, some (w.heap.size + 1)⟩ rfl _ _ r1)) ?_
  rintro e a1 Wa ⟨s1, q1, hd1, Sa, ψa, Ha, hla⟩
  cases e with
  | normal =>
    have hka := Ha.bel
    have hla1 : Wa.heap[w.heap.size + 1]? = some (.loop (rec_ .ready)) := (hka.block _ (hlD _ (.inr rfl))).trans hl
    have hDa : Wa.heap[w.heap.size]? = some (.deferred (some [])) := (hka.block _ (hlD _ (.inl rfl))).trans hD
    have hSa2 : ∀ g, Sa g → S1 g ∨ W.heap.size ≤ g := Ha.new
    have hoa : ∀ g, owns s1.h ψa g → owns hk ψk g ∨ W.heap.size ≤ g := fun g hg => by
      by_cases hgW : g < W.heap.size
      · have h1 := (Ha.own_lt hg).1
        exact .inl (Classical.not_not.1 fun h2 => h1 ⟨hgW, h2⟩)
      · right; omega
    have hneS : ∀ g, Sa g → g ≠ w.heap.size + 1 := fun g hg => by
      rcases hSa2 g hg with h1 | h1
      · rcases hS1n g h1 with h2 | h2
        · have := hS0 g h2; omega
        · omega
      · omega
    have hneO : ∀ g, owns s1.h ψa g → g ≠ w.heap.size + 1 := fun g hg => by
      rcases hoa g hg with h1 | h1
      · rcases hs3 g h1 with h2 | h2
        · have := ho0 g h2; omega
        · omega
      · omega
    refine ⟨_, run_beginRound hla1 hrst, ?_⟩
    rw [hst]
    obtain ⟨W2, hW2⟩ : ∃ W2, W2 = Wa.putObj (w.heap.size + 1) (.loop (rec_ .busy)) := ⟨_, rfl⟩
    rw [← hW2]
    have hot : ∀ g, g ≠ w.heap.size + 1 → W2.heap[g]? = Wa.heap[g]? := fun g hg => by rw [hW2]; exact World.putObj_heap_other hg
    have hsz2 : W2.heap.size = Wa.heap.size := by rw [hW2]; simp
    let N2 : Nat → Prop := fun g => g < W2.heap.size ∧ ¬ owns s1.h ψa g
    have H2 := Ha.re (W' := W2) (fun k hk => hot k (hneS k hk)) (fun k hk => hot k (hneO k hk)) N2 (fun _ h => h) (some (w.heap.size + 1))
    have hla2 : W2.heap[w.heap.size + 1]? = some (.loop (rec_ .busy)) := by rw [hW2]; exact World.putObj_heap_same (Array.getElem?_eq_some_iff.1 hla1).1
    have hWa : W.heap.size ≤ Wa.heap.size := hka.size
    have hN12 : ∀ g, N1 g → N2 g := fun g hg => ⟨by have := hg.1; omega, fun ho => by
      rcases hoa g ho with h1 | h1
      · exact hg.2 h1
      · have := hg.1; omega⟩
    have r2 : St.rel ⟨W2, Sa, N2, some (w.heap.size + 1)⟩ s1 a1 W2 := ⟨hd1, Sa, ψa, H2, AV.relL_ext (Ext.grow s1.h ψa (fun k hk => hot k (hneS k hk)) fun _ h => h) _ _ hla⟩
    refine wpIn_mono (fnc_n (q1 ⟨W2, Sa, N2, some (w.heap.size + 1)⟩ rfl _ _ r2)) ?_
    rintro e a3 W3 ⟨s2, ⟨rfl, hdr⟩, hd2, S3, ψ3, H3, hl3⟩
    have hk3 := H3.bel
    have hl31 : W3.heap[w.heap.size + 1]? = some (.loop (rec_ .busy)) := (hk3.block _ (hN12 _ (hlD _ (.inr rfl)))).trans hla2
    have hD3 : W3.heap[w.heap.size]? = some (.deferred (some [])) := (hk3.block _ (hN12 _ (hlD _ (.inl rfl)))).trans ((hot _ (by omega)).trans hDa)
    have H4 := H3.cut hdr.cut hdr.bd
    have hk3s : W2.heap.size ≤ W3.heap.size := hk3.size
    have hS3 : ∀ g, S3 g → S1 g ∨ W.heap.size ≤ g := fun g hg => by
      rcases H3.new g hg with h1 | h1
      · exact hSa2 g h1
      · right; have : W2.heap.size ≤ g := h1; omega
    have ho3 : ∀ g, owns hk1 ψ3 g → owns hk ψk g ∨ W.heap.size ≤ g := fun g hg => by
      by_cases hgW : g < W2.heap.size
      · have h1 := (H3.own_lt (owns_cut hdr.cut hg)).1
        have : owns s1.h ψa g := Classical.not_not.1 fun h2 => h1 ⟨hgW, h2⟩
        exact hoa g this
      · right; omega
    have hS3n : ∀ g, S3 g → S g ∨ w.heap.size + 2 ≤ g := fun g hg => by
      rcases hS3 g hg with h1 | h1
      · exact hS1n g h1
      · right; omega
    have ho3n : ∀ g, owns hk1 ψ3 g → own0 g ∨ w.heap.size + 2 ≤ g := fun g hg => by
      rcases ho3 g hg with h1 | h1
      · exact hs3 g h1
      · right; omega
    have hneS3 : ∀ g, S3 g → g ≠ w.heap.size + 1 := fun g hg => by
      rcases hS3n g hg with h2 | h2
      · have := hS0 g h2; omega
      · omega
    have hneO3 : ∀ g, owns hk1 ψ3 g → g ≠ w.heap.size + 1 := fun g hg => by
      rcases ho3n g hg with h2 | h2
      · have := ho0 g h2; omega
      · omega
    have hr := run_endRound (P := P) none hl31
    have hrec : ({ rec_ .busy with state := .ready, pending := none } : Loop) = rec_ .ready := by rw [← hst .busy .ready, ← hpe .busy]
    rw [show (if (none : Option Code).isNone = true then LoopState.ready else LoopState.done) = .ready from rfl, hrec] at hr
    obtain ⟨W4, hW4⟩ : ∃ W4, W4 = W3.putObj (w.heap.size + 1) (.loop (rec_ .ready)) := ⟨_, rfl⟩
    rw [← hW4] at hr
    have hot4 : ∀ g, g ≠ w.heap.size + 1 → W4.heap[g]? = W3.heap[g]? := fun g hg => by rw [hW4]; exact World.putObj_heap_other hg
    have hsz4 : W4.heap.size = W3.heap.size := by rw [hW4]; simp
    have hN1 : ∀ g, N1 g → g ≠ w.heap.size + 1 → W4.heap[g]? = W.heap[g]? := fun g hg hne => by
      rw [hot4 g hne, hk3.block g (hN12 g hg)]
      show W2.heap[g]? = W.heap[g]?
      rw [hot g hne]
      exact hka.block g hg
    refine ⟨_, _, hr, rfl, ⟨?_, ?_, ?_, by omega, fun g hg hno => ?_⟩, (S3, ψ3, fun g => S3 g ∧ ¬ SI g), rfl, ?_, fun g hg => ?_⟩
    · rw [hW4]
      show W3.os = W.os
      rw [hk3.os]; show W2.os = W.os; rw [hW2]; exact hka.os
    · rw [hW4]
      show W3.tape = W.tape
      rw [hk3.tape]; show W2.tape = W.tape; rw [hW2]; exact hka.tape
    · rw [hW4]
      show W3.output = W.output
      rw [hk3.output]; show W2.output = W.output; rw [hW2]; exact hka.output
    · exact hN1 g ⟨hg, fun ho => hno (.inr (.inr (.inl ho)))⟩ fun e => hno (.inr (.inl e))
    · refine ⟨by rw [hW4]; exact World.putObj_heap_same (Array.getElem?_eq_some_iff.1 hl31).1, (hot4 _ (by omega)).trans hD3, by omega, fun g hg => ?_, ?_, fun g hg => H3.sub g (Ha.sub g (.inl (hs1 g hg))), hS3n, ho3n, fun g hg => ?_⟩
      · have hlt := hS0 g hg
        exact (hN1 g ⟨by omega, fun ho => (H.own_lt ho).2.2 (hs1 g hg)⟩ (by omega)).trans (hsame g hg)
      · exact H4.re (fun k hk => hot4 k (hneS3 k hk)) (fun k hk => hot4 k (hneO3 k hk)) _ (fun _ h => h.elim) none
      · show (S3 g ∧ ¬ SI g) ∨ SI g
        by_cases h1 : SI g
        · exact .inr h1
        · exact .inl ⟨hg, h1⟩
    · have hg : g = w.heap.size ∨ g = w.heap.size + 1 ∨ owns hk1 ψ3 g ∨ (S3 g ∧ ¬ SI g) := hg
      rcases hg with hg | hg | hg | hg
      · exact ⟨.inl (.inl hg), by omega⟩
      · exact ⟨.inl (.inr (.inl hg)), by omega⟩
      · refine ⟨?_, by rw [hsz4]; exact (H4.own_lt hg).2.1⟩
        rcases ho3 g hg with h1 | h1
        · exact .inl (.inr (.inr (.inl h1)))
        · exact .inr h1
      · refine ⟨?_, by rw [hsz4]; exact H4.lt g hg.1⟩
        rcases hS3 g hg.1 with h1 | h1
        · rcases h1 with h1 | h1
          · rcases hcov g h1 with h2 | h2
            · exact .inl (.inr (.inr (.inr h2)))
            · exact absurd h2 hg.2
          · exact absurd h1 hg.2
        · exact .inr h1
  | _ => exact q1.elim
end Mu
end
section
/-
  A range over an iterator that makes memory of its own, over abstract states.
  Conditions: outermost; the rounds end normally; what the slots name lies at known places.
-/
namespace Mu
open Go Go.RowKit

section
variable {P : Program}
theorem Awp.rangeY {C : Ctx} {g : Operand} {ps : Array Tmp} {assign body : Code} {Q : Exit → St → Prop} {t : List AV} {h : List ABlk} {gf : FuncId} {lb : List Value} {RB : Res} {ds : List Nat} {N : Nat} {encs : Nat → List AV} (i im : Nat) (σ : Nat → List ABlk)
    (hrd : C.rd = none) (hg : evA t g = .lit (.func (.func gf) #[] lb.toArray)) (hne : i ≠ im) (hi : h[i]? = some (.res RB)) (hmi : h[im]? = some (.res (marksR ds))) (hmk : mkD h = ds.map mark)
    (h0 : Drops h (σ 0)) (h0i : (σ 0)[i]? = some .dead) (hσm : ∀ k, (σ k)[im]? = some .dead) (hmσ : ∀ k, mkD (σ k) = []) (ht : AV.clL t = true) (hes : ∀ k, AV.clL (encs k) = true) (hps : ∀ k, (encs k).length = ps.size)
    (hit : IterY P gf lb RB encs N)
    (hround : ∀ k, k < N → ∀ C' : Ctx, C'.rd.isSome = true → Awp P C' assign (athen (roundBody P body (σ (k + 1))) (fun _ _ => False)) ⟨putAll t ps.toList (encs k), σ k⟩)
    (hdone : ∀ D, Q .normal ⟨t, (σ N).set im (.res (marksR (D :: ds)))⟩) : Awp P C (.rangeFunc g ps assign body) Q ⟨t, h⟩ := fun a w ⟨hd, S, ψ, H, hl⟩ => by
  rw [hrd]
  show (Code.rangeFunc g ps assign body).wpIn Fence.wide 4 P _ a w
  have H0 := H.cut h0.cut h0.bd
  have hBi := H.blk i _ hi
  have hBm := H.blk im _ hmi
  have hgv := ev_rel hl g
  rw [hg] at hgv
  unfold AV.rel at hgv
  have hlit : AV.relL w S [] ψ0 t a.tmps.toList := AV.relL_cl _ _ ht hl
  obtain ⟨own0, hown0⟩ : ∃ o, o = owns (σ 0) ψ := ⟨_, rfl⟩
  have ho0 : ∀ g, own0 g → g < w.heap.size := fun g hg => by rw [hown0] at hg; exact (H0.own_lt hg).2.1
  have hdead : ∀ (j : Nat) (R' : Res), h[j]? = some (.res R') → (σ 0)[j]? = some .dead → ∀ g, R'.F g → ¬ own0 g := fun j R' hj hjd g hF ho => by
    rw [hown0] at ho
    obtain ⟨j', h1, h2⟩ := ho
    have hne : j' ≠ j := fun e => by subst e; rw [hjd] at h1; cases h1
    rw [h0.cut.same h1] at h2
    exact H.dis j' j hne (h0.cut.live h1) (by rw [hj]; rfl) g h2 (by rw [hj]; exact hF)
  have hSo : ∀ g, S g → ¬ own0 g := fun g hg ho => by rw [hown0] at ho; exact (H0.own_lt ho).2.2 hg
  have hRlt : ∀ g, RB.F g → g < w.heap.size := fun g hg => (hBi.1 g hg).2.2
  refine wpIn_rangeFunc fun fn _ => ?_
  obtain ⟨rec_, hrec⟩ : ∃ rec_ : LoopState → Loop, rec_ = fun st => { state := st, pending := none, fn, tmps := a.tmps, params := ps, assign, body, defers := w.heap.size } := ⟨_, rfl⟩
  have hst : ∀ x y, ({ rec_ x with state := y } : Loop) = rec_ y := fun x y => by rw [hrec]
  have hrst : (rec_ .ready).state = .ready := by rw [hrec]
  have hpe : ∀ x, (rec_ x).pending = none := fun x => by rw [hrec]
  obtain ⟨W1, hW1⟩ : ∃ W1, W1 = (w.alloc (.deferred (some []))).alloc (.loop (rec_ .ready)) := ⟨_, rfl⟩
  have hW1s : W1.heap.size = w.heap.size + 2 := by rw [hW1]; simp
  have hL1 : W1.heap[w.heap.size + 1]? = some (.loop (rec_ .ready)) := by
    rw [hW1]; have := heap_alloc_new (w.alloc (.deferred (some []))) (.loop (rec_ .ready)); rwa [World.size_alloc] at this
  have hD1 : W1.heap[w.heap.size]? = some (.deferred (some [])) := by
    rw [hW1]; exact (Below.heap_alloc _ _ _ (by simp)).trans (heap_alloc_new w _)
  have hb1 : Below w.heap.size w W1 := by rw [hW1]; exact ((Below.refl _ w).alloc (Nat.le_refl _) _).alloc (by simp) _
  have hJ0 : BetY S own0 w (rec_ .ready) (σ 0) S ψ (fun _ => False) W1 S := by
    refine ⟨hL1, hD1, by omega, fun g hg => hb1.block g (H.lt g hg), ?_, fun _ h => h, fun _ h => .inl h, fun g hg => .inl (by rw [hown0]; exact hg), fun _ h => .inr h⟩
    exact H0.re (fun k hk => hb1.block k (H.lt k hk)) (fun k hk => hb1.block k (H0.own_lt hk).2.1) _ (fun _ h => h.elim) none
  refine ⟨w.heap.size + 1, [mark w.heap.size], W1, { target := .fn (.func gf) lb.toArray, args := #[.func (.yield (w.heap.size + 1)) #[] #[]] }, W1, gf, #[.func (.yield (w.heap.size + 1)) #[] #[]] ++ lb.toArray, W1, ?_, ?_, fun _ _ => trivial, ?_, fun _ => by omega, ?_⟩
  · rw [hW1, hrec]; exact run_enterLoop_outer _ _ _ _ _
  · simp only [resolve, hgv]
    simp [go_sem]
  · simp [invoke, go_sem, enters_call hit.1]
  · have key := hit.2 W1 S BetP (w.heap.size + 1) (fun k p => betR S own0 w (rec_ .ready) (σ k) p) (fun _ _ => rfl) ?_ (S, ψ, fun _ => False) (fun k hk => ⟨by have := H.lt k hk; omega, ?_, fun hf => (hBi.1 k hf).2.1 hk⟩) (fun g hg => ?_) (fun g hg => by have := hRlt g hg; omega) hJ0 (RB.keep hBi.2 (fun k hk => hb1.block k (hRlt k hk)) (fun k hk => hb1.block k (H.lt k hk)) fun _ h => h)
    · refine key.mono ?_
      rintro e W' ⟨⟨v, rfl⟩, hgr, q, S', hSS, hJ, hS'lt, hS'new, hFq⟩
      have hJ : BetY S own0 w (rec_ .ready) (σ N) q.1 q.2.1 q.2.2 W' S' := hJ
      have hend := run_endLoop (P := P) hJ.loop (by rw [hrst]; simp)
      rw [hpe] at hend
      refine ⟨none, _, hend, ⟨t, (σ N).set im (.res (marksR (w.heap.size :: ds)))⟩, hdone _, ?_⟩
      obtain ⟨hlp, hdf, hsz, hsame, Hk, hs1, hs2, hs3, _⟩ := hJ
      suffices key : ∀ (W5 : World) (ob : Obj), W5 = W'.putObj (w.heap.size + 1) ob → St.rel C ⟨t, (σ N).set im (.res (marksR (w.heap.size :: ds)))⟩ { a with defers := [mark w.heap.size] ++ a.defers } W5 from key _ _ rfl
      intro W5 ob hW5
      have hot : ∀ g, g ≠ w.heap.size + 1 → W5.heap[g]? = W'.heap[g]? := fun g hg => by rw [hW5]; exact World.putObj_heap_other hg
      have hsz5 : W5.heap.size = W'.heap.size := by rw [hW5]; simp
      have hSne : ∀ g, q.1 g → g ≠ w.heap.size + 1 := fun g hg => by
        rcases hs2 g hg with h1 | h1
        · have := H.lt g h1; omega
        · omega
      have hOne : ∀ g, owns (σ N) q.2.1 g → g ≠ w.heap.size + 1 := fun g hg => by
        rcases hs3 g hg with h1 | h1
        · have := ho0 g h1; omega
        · omega
      have hkeep : ∀ g, g < w.heap.size → ¬ own0 g → ¬ RB.F g → W5.heap[g]? = w.heap[g]? := fun g h1 h2 h3 => by
        rw [hot g (by omega), hgr.block g (by omega) ?_, hb1.block g h1]
        rintro (h4 | h4)
        · have h4 : g = w.heap.size ∨ g = w.heap.size + 1 ∨ owns (σ 0) ψ g ∨ False := h4
          rcases h4 with h4 | h4 | h4 | h4
          · omega
          · omega
          · exact h2 (by rw [hown0]; exact h4)
          · exact h4
        · exact h3 h4
      have hH5 := Hk.re (W' := W5) (fun k hk => hot k (hSne k hk)) (fun k hk => hot k (hOne k hk)) (fun _ => False) (fun _ h => h.elim) none
      have hkp5 : Kp C.N w W5 := ⟨by rw [hW5]; exact hgr.os.trans hb1.os, by rw [hW5]; exact hgr.tape.trans hb1.tape, by rw [hW5]; exact hgr.output.trans hb1.output, by omega, fun k hk => hkeep k (Nat.lt_of_lt_of_le (H.nlt k hk) H.bel.size) (fun ho => by rw [hown0] at ho; exact (H0.own_lt ho).1 hk) fun hf => (hBi.1 k hf).1 hk⟩
      have hH6 : HRel C (σ N) q.1 q.2.1 W5 := hH5.to (H.bel.trans hkp5) H.nlt (fun k hk => hs1 k (H.sub k hk)) (fun k hk => by
        rcases hs2 k hk with h1 | h1
        · exact H.new k h1
        · right; have := H.bel.size; omega) fun g hg hn => by
          rcases hs3 g hg with h1 | h1
          · rw [hown0] at h1; exact (H0.own_lt h1).1 hn
          · have := H.nlt g hn; have := H.bel.size; omega
      have hdP : ∀ g, g ∈ ds → ¬ own0 g := fun g hg => hdead im _ hmi (hσm 0) g hg
      have hdB : ∀ g, g ∈ ds → ¬ RB.F g := fun g hg hf => H.dis i im hne (by rw [hi]; rfl) (by rw [hmi]; rfl) g (by rw [hi]; exact hf) (by rw [hmi]; exact hg)
      refine ⟨?_, q.1, q.2.1, hH6.rise (hσm N) ⟨List.nodup_cons.2 ⟨fun hm => by have := (hBm.1 _ hm).2.2; omega, hBm.2.1⟩, fun d hd => ?_⟩ fun g hg => ?_, ?_⟩
      · show [mark w.heap.size] ++ a.defers = mkD ((σ N).set im _)
        rw [mkD_rise (hσm N) (hmσ N), hd, hmk]
        rfl
      · rcases List.mem_cons.1 hd with rfl | hd
        · exact (hot _ (by omega)).trans hdf
        · exact (hkeep d (hBm.1 d hd).2.2 (hdP d hd) (hdB d hd)).trans (hBm.2.2 d hd)
      · rcases List.mem_cons.1 hg with rfl | hg
        · refine ⟨fun hn => by have := H.nlt _ hn; have := H.bel.size; omega, fun hs => ?_, by omega, fun ho => ?_⟩
          · rcases hs2 _ hs with h1 | h1
            · have := H.lt _ h1; omega
            · omega
          · rcases hs3 _ ho with h1 | h1
            · have := ho0 _ h1; omega
            · omega
        · have hlt := (hBm.1 g hg).2.2
          refine ⟨(hBm.1 g hg).1, fun hs => ?_, by omega, fun ho => ?_⟩
          · rcases hs2 _ hs with h1 | h1
            · exact (hBm.1 g hg).2.1 h1
            · omega
          · rcases hs3 _ ho with h1 | h1
            · exact hdP g hg h1
            · omega
      · exact AV.relL_cl _ _ ht (AV.relL_ext (Ext.grow [] ψ0 (fun k hk => (hot k (by have := H.lt k hk; omega)).trans (hsame k hk)) hs1) _ _ hlit)
    · intro k p hkN W SI vs hI1 hI2 hI3 hFlt hB hev
      have hB : BetY S own0 w (rec_ .ready) (σ k) p.1 p.2.1 p.2.2 W SI := hB
      have hvl : vs.length = ps.size := by rw [relL_len hev, hps]
      have hy := run_yield (P := P) (args := vs.toArray) hB.loop (by rw [hrec]; simpa using hvl)
      have hR := round_okY (P := P) (fn := fn) (ps := ps) (tmps := a.tmps) (body := body) (p := p) hst hrst hpe ho0 H.lt ht (hes k) hlit hev (hmσ k) hI1 (fun g hg => by have := hI2 g hg; rw [hW1s] at this; exact this) hI3 hB (hround k hkN)
      have e1 : ((rec_ .ready).params.zip vs.toArray).foldl (fun tmps (t, a) => tmps.setIfInBounds t a) (rec_ .ready).tmps = (ps.toList.zip vs).foldl (fun t p => t.setIfInBounds p.1 p.2) a.tmps := by
        rw [hrec, ← Array.foldl_toList, Array.toList_zip]
      rw [e1] at hy
      rw [show (rec_ .ready).fn = fn by rw [hrec], show (rec_ .ready).assign = assign by rw [hrec], show (rec_ .ready).body = body by rw [hrec]] at hy
      exact ⟨fn, _, assign, body, hy, hR⟩
    · intro hf
      have hf : k = w.heap.size ∨ k = w.heap.size + 1 ∨ owns (σ 0) ψ k ∨ False := hf
      have := H.lt k hk
      rcases hf with hf | hf | hf | hf
      · omega
      · omega
      · exact hSo k hk (by rw [hown0]; exact hf)
      · exact hf
    · have hg : g = w.heap.size ∨ g = w.heap.size + 1 ∨ owns (σ 0) ψ g ∨ False := hg
      rcases hg with hg | hg | hg | hg
      · exact ⟨by omega, fun hf => by have := hRlt g hf; omega⟩
      · exact ⟨by omega, fun hf => by have := hRlt g hf; omega⟩
      · exact ⟨by have := (H0.own_lt hg).2.1; omega, fun hf => hdead i _ hi h0i g hf (by rw [hown0]; exact hg)⟩
      · exact hg.elim
end
end Mu
end
