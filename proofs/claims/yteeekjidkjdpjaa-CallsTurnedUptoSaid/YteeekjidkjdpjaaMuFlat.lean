/-
  A slice that is read, as one row of cells; a row of the call's own with one element turned.
  Conditions: none.
-/
import Derived.Test.YteeekjidkjdpjaaMuAt
namespace Mu
open Go Go.RowKit

theorem chunk_left {cells cs : List Value} {m i sz : Nat} (hl : cells.length = m * sz) (hi : i < m) : ((cells ++ cs).drop (i * sz)).take sz = (cells.drop (i * sz)).take sz := by
  have h1 : (i + 1) * sz ≤ m * sz := Nat.mul_le_mul (by omega) (Nat.le_refl _)
  rw [Nat.succ_mul] at h1
  rw [List.drop_append_of_le_length (by omega), List.take_append_of_le_length (by rw [List.length_drop]; omega)]
theorem chunk_last {cells cs : List Value} {m sz : Nat} (hl : cells.length = m * sz) (hc : cs.length = sz) : ((cells ++ cs).drop (m * sz)).take sz = cs := by
  rw [← hl, List.drop_left, ← hc, List.take_length]

theorem slice_cells {α : Type} {T : Ty α} {w : World} {S : Nat → Prop} {A : Option Addr} {n c : Nat} {ds : List α} (h : T.slice.RS w S [.slice A n c] ds) (h1 : ∀ cs d, T.RS w S cs d → ∀ u ∈ cs, u.oneCell' = true) :
    ∃ cells : List Value, cells.length = n * T.size ∧ (∀ b o, A = some ⟨b, o, none⟩ → ∀ j u, cells[j]? = some u → w.cell? ⟨b, o + j, none⟩ = some u) ∧
      (∀ i d, ds[i]? = some d → T.RS w S ((cells.drop (i * T.size)).take T.size) d) ∧ ∀ u ∈ cells, u.oneCell' = true := by
  obtain ⟨hn, _, _⟩ := slice_len h
  have key : ∀ m, m ≤ ds.length → ∃ cells : List Value, cells.length = m * T.size ∧ (∀ b o, A = some ⟨b, o, none⟩ → ∀ j u, cells[j]? = some u → w.cell? ⟨b, o + j, none⟩ = some u) ∧
      (∀ i d, i < m → ds[i]? = some d → T.RS w S ((cells.drop (i * T.size)).take T.size) d) ∧ ∀ u ∈ cells, u.oneCell' = true := by
    intro m
    induction m with
    | zero => intro _; exact ⟨[], by simp, by simp, by simp, by simp⟩
    | succ m ih =>
      intro hm
      obtain ⟨cells, hl, hc, hr, ho⟩ := ih (by omega)
      have hd : ds[m]? = some ds[m] := List.getElem?_eq_getElem (by omega)
      obtain ⟨b, o, rfl, _, cs, hR, hC⟩ := slice_at h hd
      have hcs := T.len hR
      refine ⟨cells ++ cs, by rw [List.length_append, hl, hcs, Nat.succ_mul], ?_, ?_, ?_⟩
      · intro b' o' e j u hu
        cases e
        rw [List.getElem?_append] at hu
        by_cases hj : j < cells.length
        · rw [if_pos hj] at hu
          exact hc b o rfl j u hu
        · rw [if_neg hj] at hu
          have := hC _ u hu
          rw [show o + m * T.size + (j - cells.length) = o + j from by omega] at this
          exact this
      · intro i d hi hdi
        by_cases e : i = m
        · subst e
          rw [hd] at hdi
          cases hdi
          rw [chunk_last hl hcs]
          exact hR
        · rw [chunk_left hl (by omega)]
          exact hr i d (by omega) hdi
      · intro u hu
        rcases List.mem_append.1 hu with hu | hu
        · exact ho u hu
        · exact h1 _ _ hR u hu
  obtain ⟨cells, hl, hc, hr, ho⟩ := key ds.length (Nat.le_refl _)
  exact ⟨cells, by rw [hn]; exact hl, hc, fun i d hd => hr i d (List.getElem?_eq_some_iff.1 hd).1 hd, ho⟩

/-- one cell of an element turned -/
theorem chunk_set {cells : List Value} {i k sz j : Nat} {v : Value} (hj : j < sz) (hi : (i + 1) * sz ≤ cells.length) :
    ((cells.set (k * sz + j) v).drop (i * sz)).take sz = if i = k then (((cells.drop (i * sz)).take sz).set j v) else (cells.drop (i * sz)).take sz := by
  rw [Nat.succ_mul] at hi
  apply List.ext_getElem?
  intro x
  by_cases hx : x < sz
  · rw [List.getElem?_take_of_lt hx, List.getElem?_drop, List.getElem?_set]
    by_cases e : i = k
    · subst e
      rw [if_pos rfl, List.getElem?_set, List.getElem?_take_of_lt hx, List.getElem?_drop]
      by_cases e2 : j = x
      · subst e2
        rw [if_pos rfl, if_pos rfl, if_pos (by omega), if_pos (by simp; omega)]
      · rw [if_neg (by omega), if_neg e2]
    · rw [if_neg e, List.getElem?_take_of_lt hx, List.getElem?_drop, if_neg]
      intro h
      rcases Nat.lt_or_gt_of_ne e with h1 | h1
      · have : (i + 1) * sz ≤ k * sz := Nat.mul_le_mul (by omega) (Nat.le_refl _)
        rw [Nat.succ_mul] at this
        omega
      · have : (k + 1) * sz ≤ i * sz := Nat.mul_le_mul (by omega) (Nat.le_refl _)
        rw [Nat.succ_mul] at this
        omega
  · rw [List.getElem?_eq_none (by simp; omega)]
    symm
    split
    · exact List.getElem?_eq_none (by simp; omega)
    · exact List.getElem?_eq_none (by simp; omega)
end Mu
