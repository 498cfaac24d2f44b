/-
  The arguments of a row, read; what a call that makes new blocks only leaves of them.
  Conditions: none.
-/
import Derived.Test.YteeekjidkjdpjaaMuApi
import Derived.Test.YteeekjidkjdpjaaRows
import Derived.Carry
import Derived.OpenShut
import Derived.ProofKit
namespace Mu
open Go Go.RowKit Go.ChangeShapes Go.WideShapes Go.Proofs

theorem laid_out : laidOutB Try.prog = true := by kernel_rfl
mutual
theorem bulk_le {H : Type} : ∀ d : DataW H, bulkD d ≤ Yteeekjidkjdpjaa.Rows.uptoBulk d
  | .lit (.string _) => Nat.le_refl _
  | .lit (.bool _) => Nat.le_refl _
  | .lit (.int _ _) => Nat.le_refl _
  | .lit (.float _ _) => Nat.le_refl _
  | .lit .nil => Nat.le_refl _
  | .nil => Nat.le_refl _
  | .ptr d => by show 1 ≤ Yteeekjidkjdpjaa.Rows.uptoBulk d + 1; omega
  | .slice e s => by
    have h1 := bulks_le e
    have h2 := bulks_le s
    show bulkD.go e + bulkD.go s + 1 ≤ Yteeekjidkjdpjaa.Rows.uptoBulkAll e + Yteeekjidkjdpjaa.Rows.uptoBulkAll s + 1
    omega
  | .agg p => by
    have h1 := bulks_le p
    show bulkD.go p + 1 ≤ Yteeekjidkjdpjaa.Rows.uptoBulkAll p + 1
    omega
  | .iface _ d => by show 1 ≤ Yteeekjidkjdpjaa.Rows.uptoBulk d + 1; omega
  | .map m => by show 1 ≤ Yteeekjidkjdpjaa.Rows.uptoBulkEntries m + 1; omega
  | .held _ => Nat.le_refl _
theorem bulks_le {H : Type} : ∀ l : List (DataW H), bulkD.go l ≤ Yteeekjidkjdpjaa.Rows.uptoBulkAll l
  | [] => Nat.le_refl _
  | d :: r => by
    have h1 := bulk_le d
    have h2 := bulks_le r
    show bulkD d + bulkD.go r ≤ Yteeekjidkjdpjaa.Rows.uptoBulk d + Yteeekjidkjdpjaa.Rows.uptoBulkAll r
    omega
end

/-- an argument of a type that is read: a value of many cells -/
theorem open_many {α : Type} {t : TypeId} {T : Ty α} {H : Type} {enc : TypeId × Value → H} {W : World} {v : Value} {d : DataW H} {p : List MemPlace} (ho : Opens Try.prog t T) (hs : 1 < T.size)
    (h : DataW.Trod enc Try.prog W 0 (fun _ => true) true t v d p) (hp : ∀ x ∈ p, x.block < W.heap.size) :
    ∃ cs x, v = .agg cs.toArray ∧ T.R W W.heap.size cs x ∧ T.bulk x ≤ Yteeekjidkjdpjaa.Rows.uptoBulk d := by
  obtain ⟨fuel, hf⟩ := h
  obtain ⟨x, hR, hb⟩ := ho.go H enc W 0 _ true fuel _ (d, p) W.heap.size hf hp
  have hl := T.len hR
  refine ⟨v.cells.toList, x, ?_, hR, Nat.le_trans hb (bulk_le d)⟩
  cases v <;> first
    | (simp [Value.cells] at hl; omega)
    | simp [Value.cells]
/-- an argument of a type that is read: a value of one cell -/
theorem open_one {α : Type} {t : TypeId} {T : Ty α} {H : Type} {enc : TypeId × Value → H} {W : World} {v : Value} {d : DataW H} {p : List MemPlace} (ho : Opens Try.prog t T)
    (h : DataW.Trod enc Try.prog W 0 (fun _ => true) true t v d p) (hp : ∀ x ∈ p, x.block < W.heap.size) (hv : v.cells = #[v]) :
    ∃ x, T.R W W.heap.size [v] x ∧ T.bulk x ≤ Yteeekjidkjdpjaa.Rows.uptoBulk d := by
  obtain ⟨fuel, hf⟩ := h
  obtain ⟨x, hR, hb⟩ := ho.go H enc W 0 _ true fuel _ (d, p) W.heap.size hf hp
  rw [hv] at hR
  exact ⟨x, hR, Nat.le_trans hb (bulk_le d)⟩
/-- what an argument read as, it reads as behind a call that makes new blocks only -/
theorem stays {t : TypeId} {H : Type} {enc : TypeId × Value → H} {W W' : World} {v : Value} {d : DataW H} {p : List MemPlace} (hr : Try.prog.readableRec t = true) (ht : t < Try.prog.types.size)
    (h : DataW.Trod enc Try.prog W 0 (fun _ => true) true t v d p) (hb : Below W.heap.size W W') (hp : ∀ x ∈ p, x.block < W.heap.size) :
    DataW.Trod enc Try.prog W' 0 (fun b => decide (b < W.heap.size)) true t v d p := Below.trod laid_out hr ht h hb hp
end Mu
