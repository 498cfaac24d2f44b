/-
  The library's functions on rows of integers of the call's own: sort, compact; contains, clone on rows that are read.
  Conditions: the rows' lengths fit.
-/
import Derived.Test.YteeekjidkjdpjaaShelf
import Derived.Test.YteeekjidkjdpjaaMuAt
import Derived.Sort.OwnSortedInts
namespace Mu
open Go Go.RowKit Go.Proofs Go.Sort

theorem holds_ints {w : World} {g : Nat} {e : TypeId} {cur : Array Value} {zs : List Int} (hb : w.heap[g]? = some (.cells cur e (0, 0))) (h4 : cur.toList.take (zs.length * 1) = zs.map (Value.int .i64)) :
    Holds (Value.int .i64) w g 0 zs.toArray := by
  intro j hj
  have hj' : j < zs.length := by simpa using hj
  have h5 : cur[j]? = some (.int .i64 zs[j]) := by
    have : (cur.toList.take (zs.length * 1))[j]? = some (.int .i64 zs[j]) := by rw [h4]; simp [hj']
    rw [List.getElem?_take_of_lt (by omega)] at this
    simpa using this
  refine ⟨?_, by simp [World.frozen?, hb]⟩
  have e1 : zs.toArray[j]! = zs[j] := by simp [getElem!_pos, hj']
  rw [e1, Nat.zero_add]
  simp [World.cell?, hb, h5]

/-- a row of ints of the call's own -/
def OwnI (w : World) (base : Nat) (v : Value) (l : List Int) : Prop := w.ownsRow base 3 1 v l.length (l.map (Value.int .i64))

theorem OwnI.of {w : World} {base n : Nat} {v : Value} {l : List Int} {cs : List Value} (h : w.ownsRow base 3 1 v n cs) (hn : n = l.length) (hc : cs = l.map (Value.int .i64)) : OwnI w base v l := by
  subst hn hc
  exact h
theorem OwnI.alloc {w : World} {base : Nat} {v : Value} {l : List Int} (h : OwnI w base v l) (o : Obj) : OwnI (w.alloc o) base v l := World.ownsRow.alloc h o
theorem OwnI.nil (w : World) (base : Nat) : OwnI w base (.slice none 0 0) [] := World.ownsRow_nil _ _ _ _
theorem OwnI.base {w : World} {base base' : Nat} {v : Value} {l : List Int} (h : OwnI w base v l) (hb : base' ≤ base) : OwnI w base' v l := by
  obtain ⟨h1, h2⟩ := h
  refine ⟨h1, ?_⟩
  rcases h2 with h2 | ⟨g, cap, cur, hv, hg, r⟩
  · exact .inl h2
  · exact .inr ⟨g, cap, cur, hv, by omega, r⟩
theorem OwnI.kept {w w' : World} {base : Nat} {v : Value} {l : List Int} (h : OwnI w base v l) (hb : Below w.heap.size w w') : OwnI w' base v l := by
  obtain ⟨h1, h2⟩ := h
  refine ⟨h1, ?_⟩
  rcases h2 with h2 | ⟨g, cap, cur, hv, hg, hh, r⟩
  · exact .inl h2
  · exact .inr ⟨g, cap, cur, hv, hg, (hb.block g (Array.getElem?_eq_some_iff.1 hh).1).trans hh, r⟩
theorem OwnI.lt {w : World} {base : Nat} {v : Value} {l : List Int} (h : OwnI w base v l) : ∀ k, v.ownBlock = some k → base ≤ k ∧ k < w.heap.size := World.ownsRow.lt h
theorem OwnI.grown {w w' w0 : World} {base : Nat} {v : Value} {l : List Int} (h : OwnI w base v l) (hb : Below base w0 w) (hs : base ≤ w.heap.size) (hg : w.grownBy w' v.ownBlock) : Below base w0 w' :=
  hb.grown hg hs (fun q hq => (h.lt q hq).1)
theorem OwnI.read {w : World} {base : Nat} {v : Value} {l : List Int} (h : OwnI w base v l) (hw : ∀ x ∈ l, wfI .i64 x) : (Ty.int .i64).slice.R w w.heap.size [v] l := own_ints h hw
theorem int_info : (Try.prog.info? 3).map (fun i => (i.zero, i.size, i.bytes)) = some (some (.int .i64 0), 1, 8) := by kernel_rfl

theorem clone_any {v : Value} {xs : List Int} {w : World} (h : (Ty.int .i64).slice.R w w.heap.size [v] xs) (hn : xs.length ≤ 2147483648) :
    Calls Try.prog 67 #[v] w fun e w' => ∃ v', e = .returned v' ∧ OwnI w' w.heap.size v' xs ∧ Below w.heap.size w w' := by
  obtain ⟨A, c, rfl⟩ := slice_form h
  rcases A with _ | ad
  · obtain ⟨rfl, _, rfl⟩ := slice_nil_at h
    refine (Try.slices_Clone_int_nil _ _ _).mono fun e w' ⟨he, hw⟩ => ?_
    subst hw
    exact ⟨_, he, OwnI.nil _ _, Below.refl _ _⟩
  · by_cases hz : xs = []
    · subst hz
      refine (Try.slices_Clone_int_zero ad c w).mono fun e w' ⟨v', he, ho, _, hb⟩ => ?_
      exact ⟨v', he, ho, hb⟩
    · have hpos : 0 < xs.length := List.length_pos_iff.2 hz
      obtain ⟨b, o, e, _⟩ := int_at h (List.getElem?_eq_getElem hpos)
      cases e
      refine (Try.slices_Clone_int b o xs.length c xs w (Nat.le_refl _) (by omega) (fun j hj => ?_)).mono fun e w' ⟨v', he, ho, _, hb⟩ => ?_
      · obtain ⟨b', o', e', _, hc, _⟩ := int_at h (List.getElem?_eq_getElem hj)
        cases e'
        rw [hc]
        simp [List.getD, hj]
      · rw [List.take_length] at ho
        exact ⟨v', he, ho, hb⟩

theorem sort_own {base : Nat} {v : Value} {zs : List Int} {w : World} (hown : OwnI w base v zs) (hn : zs.length ≤ 2147483648) :
    Calls Try.prog 40 #[v] w fun e w' => e = .returned (.tuple #[]) ∧ OwnI w' base v (zs.mergeSort fun x y => decide (x ≤ y)) ∧ w.grownBy w' v.ownBlock := by
  rcases hown.2 with ⟨rfl, h0⟩ | ⟨g, cap, cur, rfl, hbase, hb, h1, h2, h3, h4⟩
  · have : zs = [] := List.eq_nil_of_length_eq_zero h0
    subst this
    refine (Try.slices_Sort_int_none _ _ _).mono fun e w' ⟨he, hw⟩ => ?_
    subst hw
    exact ⟨he, by simpa using hown, World.grownBy.refl _ _⟩
  · have hgl : g < w.heap.size := (Array.getElem?_eq_some_iff.1 hb).1
    refine (Try.slices_Sort_int g 0 cap zs w (holds_ints hb h4) hgl (by omega)).mono fun e w' ⟨he, nn, os, hw⟩ => ?_
    subst hw
    exact ⟨he, .of (ownsRow_sortedI (by simp) hbase hb h1 h2 h3) (by simp) rfl, grownBy_sortedI _⟩

theorem compact_own {base : Nat} {v : Value} {zs : List Int} {w : World} (hown : OwnI w base v zs) (hn : zs.length ≤ 2147483648) :
    Calls Try.prog 41 #[v] w fun e w' => ∃ v', e = .returned v' ∧ OwnI w' base v' (Lib.compact zs) ∧ w.grownBy w' v.ownBlock ∧ v'.ownBlock = v.ownBlock := by
  rcases hown.2 with ⟨rfl, h0⟩ | ⟨g, cap, cur, rfl, hbase, hb, h1, h2, h3, h4⟩
  · have : zs = [] := List.eq_nil_of_length_eq_zero h0
    subst this
    refine (Try.slices_Compact_int_empty _ _ _).mono fun e w' ⟨he, hw⟩ => ?_
    subst hw
    exact ⟨_, he, by simpa [Lib.compact, Lib.compactUpTo] using hown, World.grownBy.refl _ _, rfl⟩
  · have hlen : (Lib.compact zs).length ≤ zs.length := by
      unfold Lib.compact Lib.compactUpTo
      rw [List.length_map]
      exact Nat.le_trans (List.length_filter_le _ _) (by simp)
    refine (Try.slices_Compact_int g 0 cap zs w (holds_ints hb h4) (by omega) h1).mono fun e w' ⟨he, nn, hw⟩ => ?_
    subst hw
    refine ⟨_, he, ?_, ?_, rfl⟩
    · have hr := ownsRow_sortedI (os := #[]) (n := nn) (ts := Lib.compact zs ++ List.replicate (zs.length - (Lib.compact zs).length) 0) (ss := zs) (by simp; omega) hbase hb h1 h2 h3
      rw [grow_empty] at hr
      rcases hr.2 with ⟨h0, _⟩ | ⟨g', cap', cur', hv, hg', hh', k1, k2, k3, k4⟩
      · cases h0
      · cases hv
        refine ⟨by simp, .inr ⟨g, cap, cur', rfl, hg', hh', by omega, k2, k3, ?_⟩⟩
        have e2 := congrArg (List.take (Lib.compact zs).length) k4
        rw [List.take_take, Nat.mul_one, Nat.min_eq_left hlen, ← List.map_take, List.take_left' rfl] at e2
        rw [Nat.mul_one]
        exact e2
    · have hg := grownBy_sortedI (w := w) (g := g) (n := nn) (os := #[]) (Lib.compact zs ++ List.replicate (zs.length - (Lib.compact zs).length) 0).toArray
      rw [grow_empty] at hg
      exact hg
end Mu
