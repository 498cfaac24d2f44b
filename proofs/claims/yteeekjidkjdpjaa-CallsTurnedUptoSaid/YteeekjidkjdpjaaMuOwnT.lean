/-
  Rows of the call's own whose elements are readings: grown by one, read as a slice.
  Conditions: none.
-/
import Derived.Test.YteeekjidkjdpjaaMuMem
import Derived.Test.YteeekjidkjdpjaaMuRows
namespace Mu
open Go Go.RowKit
variable {α : Type}

/-- a row of the call's own; its elements are readings among the blocks of S, which are not the row's own -/
def OwnT (T : Ty α) (e : TypeId) (w : World) (base : Nat) (v : Value) (ds : List α) (S : Nat → Prop) : Prop :=
  ∃ cells, w.ownsRow base e T.size v ds.length cells ∧ (∀ i d, ds[i]? = some d → T.RS w S ((cells.drop (i * T.size)).take T.size) d) ∧ ∀ k, S k → k < w.heap.size ∧ v.ownBlock ≠ some k

section
variable {T : Ty α} {e : TypeId} {w w' w2 X : World} {base : Nat} {v v' : Value} {ds : List α} {S S' : Nat → Prop}
theorem OwnT.nil (hS : ∀ k, S k → k < w.heap.size) : OwnT T e w base (.slice none 0 0) [] S := ⟨[], World.ownsRow_nil _ _ _ _, by simp, fun k hk => ⟨hS k hk, by simp [Value.ownBlock]⟩⟩
theorem OwnT.lt (h : OwnT T e w base v ds S) : ∀ k, v.ownBlock = some k → base ≤ k ∧ k < w.heap.size := by
  obtain ⟨_, ho, _⟩ := h
  exact World.ownsRow.lt ho
theorem OwnT.far (h : OwnT T e w base v ds S) : ∀ k, S k → k < w.heap.size ∧ v.ownBlock ≠ some k := by
  obtain ⟨_, _, _, hs⟩ := h
  exact hs
theorem OwnT.keep (h : OwnT T e w base v ds S) (hk : ∀ k, (S k ∨ v.ownBlock = some k) → w'.heap[k]? = w.heap[k]?) (hs : w.heap.size ≤ w'.heap.size) : OwnT T e w' base v ds S := by
  obtain ⟨cells, ho, hr, hf⟩ := h
  exact ⟨cells, ownsRow_keep ho (fun k h => hk k (.inr h)), fun i d hd => T.keepS (hr i d hd) (fun k h => hk k (.inl h)) (fun _ h => h), fun k h => ⟨Nat.lt_of_lt_of_le (hf k h).1 hs, (hf k h).2⟩⟩
theorem OwnT.below (h : OwnT T e w base v ds S) (hb : Below w.heap.size w w') : OwnT T e w' base v ds S :=
  h.keep (fun k hk => hb.block k (by rcases hk with hk | hk; exact (h.far k hk).1; exact (h.lt k hk).2)) hb.size
theorem OwnT.form (h : OwnT T e w base v ds S) : ∃ A c, v = .slice A ds.length c := by
  obtain ⟨cells, ho, _⟩ := h
  rcases ho.2 with ⟨rfl, h0⟩ | ⟨g, cap, cur, rfl, _⟩
  · rw [h0]; exact ⟨_, _, rfl⟩
  · exact ⟨_, _, rfl⟩
theorem OwnT.read (h : OwnT T e w base v ds S) : T.slice.RS w (fun k => S k ∨ v.ownBlock = some k) [v] ds := by
  obtain ⟨cells, ho, hr, _⟩ := h
  exact own_slice ho (fun i d hd => T.keepS (hr i d hd) (fun _ _ => rfl) (fun _ h => .inl h)) (fun g hg => .inr hg)
/-- one element more -/
theorem OwnT.snoc {cells cs : List Value} {d : α} {n : Nat} (ho : w.ownsRow base e T.size v ds.length cells) (hr : ∀ i d, ds[i]? = some d → T.RS w S ((cells.drop (i * T.size)).take T.size) d)
    (hS : ∀ k, S k → k < w.heap.size ∧ v.ownBlock ≠ some k) (hX : ∀ k, S k → X.heap[k]? = w.heap[k]?) (hs : w.heap.size ≤ X.heap.size) (hr' : T.RS X S' cs d) (hS' : ∀ k, S' k → k < X.heap.size ∧ v.ownBlock ≠ some k)
    (hn : n = ds.length + 1) (ho2 : w2.ownsRow base e T.size v' n (cells ++ cs)) (hg : X.grownBy w2 v.ownBlock) (hat : v'.ownBlock = v.ownBlock ∨ v'.ownBlock = some X.heap.size) :
    OwnT T e w2 base v' (ds ++ [d]) (fun k => S k ∨ S' k) := by
  have hsz := hg.size
  have hin : ∀ k, S k → w2.heap[k]? = w.heap[k]? := fun k hk => (hg.block k (by have := (hS k hk).1; omega) (fun e => (hS k hk).2 e.symm)).trans (hX k hk)
  have hin' : ∀ k, S' k → w2.heap[k]? = X.heap[k]? := fun k hk => hg.block k (hS' k hk).1 (fun e => (hS' k hk).2 e.symm)
  have hcl : cells.length = ds.length * T.size := ho.1
  have hcs : cs.length = T.size := T.len hr'
  refine ⟨cells ++ cs, by rw [List.length_append, List.length_singleton, ← hn]; exact ho2, fun i d' hd' => ?_, fun k hk => ?_⟩
  · by_cases hi : i < ds.length
    · rw [List.getElem?_append_left hi] at hd'
      rw [chunk_left hcl hi]
      exact T.keepS (hr i d' hd') hin (fun _ h => .inl h)
    · have hil : i = ds.length := by
        have := (List.getElem?_eq_some_iff.1 hd').1
        simp at this
        omega
      subst hil
      simp at hd'
      subst hd'
      rw [chunk_last hcl hcs]
      exact T.keepS hr' hin' (fun _ h => .inr h)
  · have hk2 : k < X.heap.size ∧ v.ownBlock ≠ some k := by
      rcases hk with hk | hk
      · exact ⟨by have := (hS k hk).1; omega, (hS k hk).2⟩
      · exact hS' k hk
    refine ⟨by omega, fun e => ?_⟩
    rcases hat with h | h
    · exact hk2.2 (h ▸ e)
    · rw [h] at e
      injection e with e
      omega
theorem OwnT.congr (h : OwnT T e w base v ds S) (hS : ∀ k, S k ↔ S' k) : OwnT T e w base v ds S' := by
  obtain ⟨cells, ho, hr, hf⟩ := h
  exact ⟨cells, ho, fun i d hd => T.keepS (hr i d hd) (fun _ _ => rfl) (fun k hk => (hS k).1 hk), fun k hk => hf k ((hS k).2 hk)⟩
theorem OwnT.base_le {base' : Nat} (h : OwnT T e w base v ds S) (hb : base' ≤ base) : OwnT T e w base' v ds S := by
  obtain ⟨cells, ⟨h1, h2⟩, r⟩ := h
  refine ⟨cells, ⟨h1, ?_⟩, r⟩
  rcases h2 with h2 | ⟨g, cap, cur, hv, hg, r⟩
  · exact .inl h2
  · exact .inr ⟨g, cap, cur, hv, by omega, r⟩
end
theorem src_one {w : World} {size m : Nat} {cs : Array Value} {t : TypeId} (hl : cs.size = m * size) : Src (w.alloc (.cells cs t)) size (some ⟨w.heap.size, 0, none⟩) m cs.toList := src_row (heap_alloc_new w _) hl
theorem src_two {w : World} {o : Obj} {size m : Nat} {cs : Array Value} {t : TypeId} (hl : cs.size = m * size) : Src ((w.alloc o).alloc (.cells cs t)) size (some ⟨w.heap.size + 1, 0, none⟩) m cs.toList := by
  have h := src_one (w := w.alloc o) (t := t) hl
  rwa [show (w.alloc o).heap.size = w.heap.size + 1 from by simp] at h
end Mu
