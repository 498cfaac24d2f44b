/-
  Rows of rows of numbers, of the call's own.
  Conditions: none.
-/
import Derived.Test.YteeekjidkjdpjaaMuLib
import Derived.Test.YteeekjidkjdpjaaMuBulk
import Derived.Deep.AppendLies
namespace Mu
open Go Go.RowKit Go.Proofs

/-- a row of rows of ints, the call's own from 'base' on; the inner rows lie beside the outer one -/
def OwnS (w : World) (base : Nat) (v : Value) (ls : List (List Int)) : Prop :=
  ∃ cells, w.ownsRow base 22 1 v ls.length cells ∧ ∀ (i : Nat) (l : List Int), ls[i]? = some l → ∃ u, cells[i]? = some u ∧ tInt.slice.RS w (fun b => base ≤ b ∧ b < w.heap.size ∧ v.ownBlock ≠ some b) [u] l

theorem OwnS.nil (w : World) (base : Nat) : OwnS w base (.slice none 0 0) [] := ⟨[], World.ownsRow_nil _ _ _ _, by simp⟩

theorem ownsRow_keep {w w' : World} {base n size : Nat} {e : TypeId} {v : Value} {xs : List Value} (h : w.ownsRow base e size v n xs) (hk : ∀ g, v.ownBlock = some g → w'.heap[g]? = w.heap[g]?) : w'.ownsRow base e size v n xs := by
  obtain ⟨h1, h2⟩ := h
  refine ⟨h1, ?_⟩
  rcases h2 with h2 | ⟨g, cap, cur, rfl, hg, hh, r⟩
  · exact .inl h2
  · exact .inr ⟨g, cap, cur, rfl, hg, (hk g rfl).trans hh, r⟩

theorem OwnS.keep {w w' : World} {base : Nat} {v : Value} {ls : List (List Int)} (h : OwnS w base v ls) (hk : ∀ k, base ≤ k → k < w.heap.size → w'.heap[k]? = w.heap[k]?) (hs : w.heap.size ≤ w'.heap.size) : OwnS w' base v ls := by
  obtain ⟨cells, ho, hi⟩ := h
  refine ⟨cells, ownsRow_keep ho (fun g hg => hk g (ho.lt g hg).1 (ho.lt g hg).2), fun i l hl => ?_⟩
  obtain ⟨u, hu, hR⟩ := hi i l hl
  exact ⟨u, hu, Ty.keepS _ hR (fun k hk' => hk k hk'.1 hk'.2.1) (fun k hk' => ⟨hk'.1, by omega, hk'.2.2⟩)⟩
theorem OwnS.kept {w w' : World} {base : Nat} {v : Value} {ls : List (List Int)} (h : OwnS w base v ls) (hb : Below w.heap.size w w') : OwnS w' base v ls := h.keep (fun k _ hk => hb.block k hk) hb.size
theorem OwnS.setCell {w : World} {base : Nat} {v : Value} {ls : List (List Int)} (h : OwnS w base v ls) {a : Addr} (ha : a.block < base) (u : Value) : OwnS (w.setCell a u) base v ls :=
  h.keep (fun k hk _ => Below.heap_setCell _ _ _ _ (by omega)) (by simp [World.setCell])
theorem OwnS.drewN {w : World} {base : Nat} {v : Value} {ls : List (List Int)} (h : OwnS w base v ls) (n : Nat) : OwnS (w.drewN n) base v ls := h.keep (fun _ _ _ => rfl) (Nat.le_refl _)
theorem OwnS.lt {w : World} {base : Nat} {v : Value} {ls : List (List Int)} (h : OwnS w base v ls) : ∀ k, v.ownBlock = some k → base ≤ k ∧ k < w.heap.size := by
  obtain ⟨cells, ho, _⟩ := h
  exact ho.lt

/-- one row more: it lies in the own memory of a callee; then the append -/
theorem OwnS.snoc {w w1 w2 : World} {base g cap : Nat} {v u : Value} {ls : List (List Int)} {l : List Int} {cells : List Value} {n : Nat} (ho : w.ownsRow base 22 1 v ls.length cells)
    (hi : ∀ (i : Nat) (l : List Int), ls[i]? = some l → ∃ u, cells[i]? = some u ∧ tInt.slice.RS w (fun b => base ≤ b ∧ b < w.heap.size ∧ v.ownBlock ≠ some b) [u] l)
    (hb1 : Below w.heap.size w w1) (hu : OwnI w1 w.heap.size u l) (hw : ∀ x ∈ l, wfI .i64 x) (hbase : base ≤ w.heap.size)
    (ho2 : w2.ownsRow base 22 1 (.slice (some ⟨g, 0, none⟩) n cap) n (cells ++ [u])) (hn : n = ls.length + 1) (hgr : w1.grownBy w2 v.ownBlock) (hg : v.ownBlock = some g ∨ w1.heap.size ≤ g) :
    OwnS w2 base (.slice (some ⟨g, 0, none⟩) n cap) (ls ++ [l]) := by
  have hlen : cells.length = ls.length := by have := ho.1; omega
  refine ⟨cells ++ [u], by rw [List.length_append, List.length_singleton, ← hn]; exact ho2, fun i l' hl' => ?_⟩
  by_cases hlt : i < ls.length
  · rw [List.getElem?_append_left hlt] at hl'
    obtain ⟨u', hu', hR⟩ := hi i l' hl'
    refine ⟨u', by rw [List.getElem?_append_left (by omega)]; exact hu', Ty.keepS _ hR (fun k hk => ?_) (fun k hk => ?_)⟩
    · rw [hgr.block k (by have := hb1.size; omega) (fun e => hk.2.2 e.symm), hb1.block k hk.2.1]
    · refine ⟨hk.1, by have := hb1.size; have := hgr.size; omega, ?_⟩
      simp only [Value.ownBlock, ne_eq, Option.some.injEq]
      rintro rfl
      rcases hg with hg | hg
      · exact hk.2.2 hg
      · have := hb1.size; omega
  · have hil : i = ls.length := by
      have := (List.getElem?_eq_some_iff.1 hl').1
      simp at this
      omega
    subst hil
    rw [List.getElem?_append_right (Nat.le_refl _)] at hl'
    simp at hl'
    subst hl'
    refine ⟨u, by rw [List.getElem?_append_right (by omega)]; simp [hlen], Ty.keepS _ (own_intsS hu hw) (fun k hk => ?_) (fun k hk => ?_)⟩
    · have h1 := hu.lt k hk
      refine hgr.block k h1.2 (fun e => ?_)
      have := ho.lt k e.symm
      omega
    · have h1 := hu.lt k hk
      refine ⟨by omega, by have := hgr.size; omega, ?_⟩
      simp only [Value.ownBlock, ne_eq, Option.some.injEq]
      rintro rfl
      rcases hg with hg | hg
      · have := ho.lt _ hg; omega
      · omega

/-- .. read as data -/
theorem OwnS.read {w : World} {base : Nat} {v : Value} {ls : List (List Int)} (h : OwnS w base v ls) : tInt.slice.slice.RS w (fun b => base ≤ b ∧ b < w.heap.size) [v] ls := by
  obtain ⟨cells, ho, hi⟩ := h
  refine own_slice (T := tInt.slice) ho (fun i d hd => ?_) (fun g hg => ho.lt g hg)
  obtain ⟨u, hu, hR⟩ := hi i d hd
  have : ((cells.drop (i * tInt.slice.size)).take tInt.slice.size) = [u] := by
    show (cells.drop (i * 1)).take 1 = _
    obtain ⟨hi', he⟩ := List.getElem?_eq_some_iff.1 hu
    rw [Nat.mul_one, List.drop_eq_getElem_cons hi', he]
    simp
  rw [this]
  exact Ty.keepS _ hR (fun _ _ => rfl) (fun k hk => ⟨hk.1, hk.2.1⟩)
end Mu
