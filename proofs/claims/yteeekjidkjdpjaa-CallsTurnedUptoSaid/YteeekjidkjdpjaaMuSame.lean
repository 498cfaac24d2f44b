/-
  muntinref14.SameInts, and the searches of a row for a number, walked.
  Conditions: the rows have at most 2^21 numbers.
-/
import Derived.Test.YteeekjidkjdpjaaMuBulk
import Derived.BigQuiet
import Derived.WalkSpells
namespace Mu
open Go Go.RowKit Go.Proofs

theorem same_no {xs ys : List Int} {j : Nat} {x y : Int} (hx : xs[j]? = some x) (hy : ys[j]? = some y) (h : x ≠ y) : false = decide (xs = ys) := by
  symm
  rw [decide_eq_false_iff_not]
  rintro rfl
  rw [hx] at hy
  injection hy with hy
  exact h hy
theorem same_step {xs ys : List Int} {j : Nat} {x y : Int} (hx : xs[j]? = some x) (hy : ys[j]? = some y) (h : x = y) (hs : xs.take j = ys.take j) : Hid (xs.take (j + 1) = ys.take (j + 1)) := by
  show _ = _
  rw [List.take_add_one, List.take_add_one, hx, hy, h, hs]
theorem far {B : Nat} {w wr : World} (h : Below B w wr) : ∀ a : Addr, a.block < B → wr.cell? a = w.cell? a := fun _ ha => h.cell ha

set_option maxRecDepth 100000 in
set_option maxHeartbeats 1000000 in
theorem ref_same (xs ys : List Int) (va vb : Value) (w : World) (hA : tInt.slice.R w w.heap.size [va] xs) (hB : tInt.slice.R w w.heap.size [vb] ys) (hx : xs.length ≤ 2097152) :
    Calls Try.prog 16 #[va, vb] w fun e w' => e = .returned (.bool (decide (xs = ys))) ∧ Below w.heap.size w w' := by
  obtain ⟨A, c, rfl⟩ := slice_form hA
  obtain ⟨A', c', rfl⟩ := slice_form hB
  have HA := Lib.hid hA
  have HB := Lib.hid hB
  clear hA hB
  by_cases hl : xs.length = ys.length
  · have dl : ((xs.length : Int) != (ys.length : Int)) = false := by simp [hl]
    have HL := Lib.hid hl
    clear hl
    go_enter Try.func16, Try.ntmps16
    go_wp2
    go_loopw [5] (fun i wr => ∃ j : Nat, j ≤ xs.length ∧ i = .int .i64 j ∧ Hid (xs.take j = ys.take j) ∧ Below w.heap.size w wr) (fun i _ => xs.length - (RowKit.intOf i).toNat)
    case atStart => exact ⟨0, Nat.zero_le _, rfl, rfl, Below.refl _ _⟩
    case round =>
      obtain ⟨j, hj, rfl, hs, hbe⟩ := hrel
      have HBE := Lib.hid hbe
      have hfar := far hbe
      clear hbe
      by_cases hlt : j < xs.length
      · obtain ⟨x, hx1⟩ : ∃ x, xs[j]? = some x := ⟨_, List.getElem?_eq_getElem hlt⟩
        obtain ⟨y, hy1⟩ : ∃ y, ys[j]? = some y := ⟨_, List.getElem?_eq_getElem (by have := HL.out; omega)⟩
        obtain ⟨b1, o1, rfl, hb1, e1, _⟩ := int_at HA.out hx1
        obtain ⟨b2, o2, rfl, hb2, e2, _⟩ := int_at HB.out hy1
        have hlt2 : j < ys.length := by have := HL.out; omega
        have HX := Lib.hid hx1
        have HY := Lib.hid hy1
        clear hx1 hy1
        by_cases hxy : x = y
        · have d : (x != y) = false := by simp [hxy]
          have HXY := Lib.hid hxy
          clear hxy
          go_wp2
          go_quiet (fail)
          go_wp2
          go_roundw
          case rel => exact ⟨j + 1, by omega, by go_num, same_step HX.out HY.out HXY.out hs.out, bdrew HBE.out _⟩
          case measure => simp [RowKit.intOf]; omega
        · have d : (x != y) = true := by simp [hxy]
          have HXY := Lib.hid hxy
          clear hxy
          go_wp2
          go_quiet (fail)
          go_wp2
          go_ret
          exact ⟨ret_bool (same_no HX.out HY.out HXY.out), bdrew HBE.out _⟩
      · obtain rfl : j = xs.length := by omega
        go_wp2
        go_ret
        have hs' := hs.out
        rw [List.take_length, HL.out, List.take_length] at hs'
        exact ⟨ret_bool (by simp [hs']), HBE.out⟩
  · have dl : ((xs.length : Int) != (ys.length : Int)) = true := by simp; omega
    have HL := Lib.hid hl
    clear hl
    go_enter Try.func16, Try.ntmps16
    go_wp2
    go_ret
    exact ⟨ret_bool (by symm; rw [decide_eq_false_iff_not]; rintro rfl; exact HL.out rfl), Below.refl _ _⟩

theorem in_step {xs : List Int} {j : Nat} {x n : Int} (hx : xs[j]? = some x) (h : ¬ x = n) (hs : (xs.take j).contains n = false) : Hid ((xs.take (j + 1)).contains n = false) := by
  show _ = _
  rw [List.contains_eq_any_beq] at hs ⊢
  rw [List.take_add_one, hx, List.any_append, hs]
  simpa using fun e => h e.symm
theorem in_yes {xs : List Int} {j : Nat} {x n : Int} (hx : xs[j]? = some x) (h : x = n) : true = xs.contains n := by
  subst h
  simpa using (List.mem_of_getElem? hx)

set_option maxRecDepth 100000 in
set_option maxHeartbeats 1000000 in
theorem law20_in (xs : List Int) (n : Int) (va : Value) (w : World) (hA : tInt.slice.R w w.heap.size [va] xs) (hx : xs.length ≤ 2097152) :
    Calls Try.prog 23 #[va, .int .i64 n] w fun e w' => e = .returned (.bool (xs.contains n)) ∧ Below w.heap.size w w' := by
  obtain ⟨A, c, rfl⟩ := slice_form hA
  have HA := Lib.hid hA
  clear hA
  go_enter Try.func23, Try.ntmps23
  go_wp2
  go_loopw [5] (fun i wr => ∃ j : Nat, j ≤ xs.length ∧ i = .int .i64 j ∧ Hid ((xs.take j).contains n = false) ∧ Below w.heap.size w wr) (fun i _ => xs.length - (RowKit.intOf i).toNat)
  case atStart => exact ⟨0, Nat.zero_le _, rfl, rfl, Below.refl _ _⟩
  case round =>
    obtain ⟨j, hj, rfl, hs, hbe⟩ := hrel
    have HBE := Lib.hid hbe
    have hfar := far hbe
    clear hbe
    by_cases hlt : j < xs.length
    · obtain ⟨x, hx1⟩ : ∃ x, xs[j]? = some x := ⟨_, List.getElem?_eq_getElem hlt⟩
      obtain ⟨b1, o1, rfl, hb1, e1, _⟩ := int_at HA.out hx1
      have HX := Lib.hid hx1
      clear hx1
      by_cases hxy : x = n
      · have d : (x == n) = true := by simp [hxy]
        have HXY := Lib.hid hxy
        clear hxy
        go_wp2
        go_ret
        exact ⟨ret_bool (in_yes HX.out HXY.out), HBE.out⟩
      · have d : (x == n) = false := by simp [hxy]
        have HXY := Lib.hid hxy
        clear hxy
        go_wp2
        go_roundw
        case rel => exact ⟨j + 1, by omega, by go_num, in_step HX.out HXY.out hs.out, HBE.out⟩
        case measure => simp [RowKit.intOf]; omega
    · obtain rfl : j = xs.length := by omega
      go_wp2
      go_ret
      have hs' := hs.out
      rw [List.take_length] at hs'
      exact ⟨ret_bool hs'.symm, HBE.out⟩

set_option maxRecDepth 100000 in
set_option maxHeartbeats 1000000 in
theorem law17_has (xs : List Int) (n : Int) (va : Value) (w : World) (hA : tInt.slice.R w w.heap.size [va] xs) (hx : xs.length ≤ 2097152) :
    Calls Try.prog 34 #[va, .int .i64 n] w fun e w' => e = .returned (.bool (xs.contains n)) ∧ Below w.heap.size w w' := by
  obtain ⟨A, c, rfl⟩ := slice_form hA
  have HA := Lib.hid hA
  clear hA
  go_enter Try.func34, Try.ntmps34
  go_wp2
  go_loopw [5] (fun i wr => ∃ j : Nat, j ≤ xs.length ∧ i = .int .i64 j ∧ Hid ((xs.take j).contains n = false) ∧ Below w.heap.size w wr) (fun i _ => xs.length - (RowKit.intOf i).toNat)
  case atStart => exact ⟨0, Nat.zero_le _, rfl, rfl, Below.refl _ _⟩
  case round =>
    obtain ⟨j, hj, rfl, hs, hbe⟩ := hrel
    have HBE := Lib.hid hbe
    have hfar := far hbe
    clear hbe
    by_cases hlt : j < xs.length
    · obtain ⟨x, hx1⟩ : ∃ x, xs[j]? = some x := ⟨_, List.getElem?_eq_getElem hlt⟩
      obtain ⟨b1, o1, rfl, hb1, e1, _⟩ := int_at HA.out hx1
      have HX := Lib.hid hx1
      clear hx1
      by_cases hxy : x = n
      · have d : (x == n) = true := by simp [hxy]
        have HXY := Lib.hid hxy
        clear hxy
        go_wp2
        go_ret
        exact ⟨ret_bool (in_yes HX.out HXY.out), HBE.out⟩
      · have d : (x == n) = false := by simp [hxy]
        have HXY := Lib.hid hxy
        clear hxy
        go_wp2
        go_roundw
        case rel => exact ⟨j + 1, by omega, by go_num, in_step HX.out HXY.out hs.out, HBE.out⟩
        case measure => simp [RowKit.intOf]; omega
    · obtain rfl : j = xs.length := by omega
      go_wp2
      go_ret
      have hs' := hs.out
      rw [List.take_length] at hs'
      exact ⟨ret_bool hs'.symm, HBE.out⟩

set_option maxRecDepth 100000 in
set_option maxHeartbeats 1000000 in
theorem ref17_in (xs : List Int) (n : Int) (va : Value) (w : World) (hA : tInt.slice.R w w.heap.size [va] xs) (hx : xs.length ≤ 2097152) :
    Calls Try.prog 72 #[va, .int .i64 n] w fun e w' => e = .returned (.bool (xs.contains n)) ∧ Below w.heap.size w w' := by
  obtain ⟨A, c, rfl⟩ := slice_form hA
  have HA := Lib.hid hA
  clear hA
  go_enter Try.func72, Try.ntmps72
  go_wp2
  go_loopw [5] (fun i wr => ∃ j : Nat, j ≤ xs.length ∧ i = .int .i64 j ∧ Hid ((xs.take j).contains n = false) ∧ Below w.heap.size w wr) (fun i _ => xs.length - (RowKit.intOf i).toNat)
  case atStart => exact ⟨0, Nat.zero_le _, rfl, rfl, Below.refl _ _⟩
  case round =>
    obtain ⟨j, hj, rfl, hs, hbe⟩ := hrel
    have HBE := Lib.hid hbe
    have hfar := far hbe
    clear hbe
    by_cases hlt : j < xs.length
    · obtain ⟨x, hx1⟩ : ∃ x, xs[j]? = some x := ⟨_, List.getElem?_eq_getElem hlt⟩
      obtain ⟨b1, o1, rfl, hb1, e1, _⟩ := int_at HA.out hx1
      have HX := Lib.hid hx1
      clear hx1
      by_cases hxy : x = n
      · have d : (x == n) = true := by simp [hxy]
        have HXY := Lib.hid hxy
        clear hxy
        go_wp2
        go_ret
        exact ⟨ret_bool (in_yes HX.out HXY.out), HBE.out⟩
      · have d : (x == n) = false := by simp [hxy]
        have HXY := Lib.hid hxy
        clear hxy
        go_wp2
        go_roundw
        case rel => exact ⟨j + 1, by omega, by go_num, in_step HX.out HXY.out hs.out, HBE.out⟩
        case measure => simp [RowKit.intOf]; omega
    · obtain rfl : j = xs.length := by omega
      go_wp2
      go_ret
      have hs' := hs.out
      rw [List.take_length] at hs'
      exact ⟨ret_bool hs'.symm, HBE.out⟩
end Mu
