/-
  The set of functions as bits: newBits, has, put, walked.
  Conditions: numbers from 0 up to the set's size; at most 2^21 of them.
-/
import Derived.Test.YteeekjidkjdpjaaMuRows
import Derived.Test.YteeekjidkjdpjaaMuBulk
import Derived.BigQuiet
import Derived.WalkSpells
namespace Mu
open Go Go.RowKit Go.Proofs

/-- a set of numbers below m * 64, in a row of the call's own -/
def OwnB (w : World) (base : Nat) (v : Value) (m : Nat) (S : Nat → Bool) : Prop := w.ownsRow base 133 64 v m ((List.range (m * 64)).map fun k => Value.bool (S k))

theorem word_info : (Try.prog.info? 133).map (fun i => (i.zero, i.size, i.bytes)) = some (some (.agg (List.replicate 64 (Value.bool false)).toArray), 64, 64) := by kernel_rfl

theorem OwnB.cell {w : World} {base m k g cap : Nat} {S : Nat → Bool} (ho : OwnB w base (.slice (some ⟨g, 0, none⟩) m cap) m S) (hk : k < m * 64) : w.cell? ⟨g, k / 64 * 64 + k % 64, none⟩ = some (.bool (S k)) := by
  rw [show k / 64 * 64 + k % 64 = k from by omega]
  have := World.ownsRow.cellAt ho k hk
  rw [this]
  simp [hk]
theorem OwnB.put {w : World} {base m k g cap : Nat} {S : Nat → Bool} (ho : OwnB w base (.slice (some ⟨g, 0, none⟩) m cap) m S) (hk : k < m * 64) :
    OwnB (w.setCell ⟨g, k / 64 * 64 + k % 64, none⟩ (.bool true)) base (.slice (some ⟨g, 0, none⟩) m cap) m (put S k) := by
  rw [show k / 64 * 64 + k % 64 = k from by omega]
  have := World.ownsRow.stored ho k (.bool true)
  unfold OwnB
  have e : ((List.range (m * 64)).map fun j => Value.bool (S j)).set k (.bool true) = (List.range (m * 64)).map fun j => Value.bool (Mu.put S k j) := by
    apply List.ext_getElem?
    intro j
    rw [List.getElem?_set]
    by_cases hj : j < m * 64
    · by_cases he : k = j
      · subst he
        simp [hj, Mu.put]
      · simp [hj, he, Mu.put, Ne.symm he]
    · simp [hj]
      omega
  rw [← e]
  exact this.1
theorem OwnB.keep {w w' : World} {base m : Nat} {v : Value} {S : Nat → Bool} (h : OwnB w base v m S) (hk : ∀ g, v.ownBlock = some g → w'.heap[g]? = w.heap[g]?) : OwnB w' base v m S := ownsRow_keep h hk

set_option maxRecDepth 100000 in
set_option maxHeartbeats 1000000 in
theorem bits_has (w : World) (base m k g cap : Nat) (S : Nat → Bool) (ho : OwnB w base (.slice (some ⟨g, 0, none⟩) m cap) m S) (hk : k < m * 64) (hm : m ≤ 65536) :
    Calls Try.prog 70 #[.slice (some ⟨g, 0, none⟩) m cap, .int .i64 k] w fun e w' => e = .returned (.bool (S k)) ∧ w = w' := by
  have hc := ho.cell hk
  have h1 : k / 64 < m := by omega
  have h2 : k % 64 < 64 := by omega
  clear ho
  go_enter Try.func70, Try.ntmps70
  go_wp2_with fail
  go_ret
  exact ⟨rfl, rfl⟩

set_option maxRecDepth 100000 in
set_option maxHeartbeats 1000000 in
theorem bits_put (w : World) (base m k g cap : Nat) (S : Nat → Bool) (ho : OwnB w base (.slice (some ⟨g, 0, none⟩) m cap) m S) (hk : k < m * 64) (hm : m ≤ 65536) :
    Calls Try.prog 69 #[.slice (some ⟨g, 0, none⟩) m cap, .int .i64 k] w fun e w' => e = .returned (.bool (!S k)) ∧ w.setCell ⟨g, k / 64 * 64 + k % 64, none⟩ (.bool true) = w' := by
  have hc := ho.cell hk
  have hfz : w.frozen? ⟨g, k / 64 * 64 + k % 64, none⟩ = false := World.ownsRow.frozenAt ho _
  have h1 : k / 64 < m := by omega
  have h2 : k % 64 < 64 := by omega
  have HO := Lib.hid ho
  clear ho
  go_enter Try.func69, Try.ntmps69
  go_wp2_with fail
  refine (bits_has _ base m k g cap S HO.out hk hm).mono ?_
  rintro e w' ⟨rfl, rfl⟩
  go_wp2_with fail
  go_ret
  exact ⟨rfl, rfl⟩

theorem made_all (q m : Nat) (hq : 0 < q) (x : Value) : (madeCells (List.replicate q x).toArray (m * q)).toList = (List.range (m * q)).map fun _ => x := by
  apply List.ext_getElem?
  intro j
  by_cases hj : j < m * q
  · have h1 : j % q < q := Nat.mod_lt _ hq
    simp [madeCells, hj, getElem!_pos, h1]
  · simp [madeCells, hj]
theorem made_false (m : Nat) : (madeCells (List.replicate 64 (Value.bool false)).toArray (m * 64)).toList = (List.range (m * 64)).map fun _ => Value.bool false := made_all 64 m (by decide) _

set_option maxRecDepth 100000 in
set_option maxHeartbeats 1000000 in
theorem bits_new (w : World) (n : Nat) (hn : n ≤ 2097152) :
    Calls Try.prog 68 #[.int .i64 n] w fun e w' => e = .returned (.slice (some ⟨w.heap.size, 0, none⟩) (n / 64 + 1) (n / 64 + 1)) ∧ OwnB w' w.heap.size (.slice (some ⟨w.heap.size, 0, none⟩) (n / 64 + 1) (n / 64 + 1)) (n / 64 + 1) (fun _ => false) ∧ w.grownBy w' none := by
  obtain ⟨i0, hi, hz0, hz1, hz2⟩ := info_parts word_info
  go_enter Try.func68, Try.ntmps68
  go_wp2_with (at_make; refine wpList_make_full _ rfl _ _ 99 rfl w.heap.size 133 i0 (.agg (List.replicate 64 (Value.bool false)).toArray) 64 Try.underlying99 hi hz0 hz1 .i64 .i64 ((n : Int) / 64 + 1) ((n : Int) / 64 + 1) (n / 64 + 1) rfl rfl (by omega) (by omega) (by rw [hz2]; omega) (by unfold maxLen; omega) (Nat.le_refl _) ?_; intro w1 ho hg)
  have HO := Lib.hid ho
  have HG := Lib.hid hg
  clear ho hg
  go_wp2_with fail
  go_ret
  refine ⟨rfl, ?_, HG.out⟩
  have := HO.out
  unfold OwnB
  rw [← made_false]
  exact this
end Mu
