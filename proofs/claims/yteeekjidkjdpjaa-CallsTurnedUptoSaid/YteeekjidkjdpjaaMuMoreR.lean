/-
  A program with one call more, as it lies in memory: rows of the call's own, read.
  Conditions: none.
-/
import Derived.Test.YteeekjidkjdpjaaMuFlat
import Derived.Test.YteeekjidkjdpjaaMuMoreP
import Derived.Test.YteeekjidkjdpjaaMuRows
namespace Mu
open Go Go.RowKit Go.Proofs

theorem func_cells {w : World} {S : Nat → Prop} (cs : List Value) (x : Func) (h : tFunc.RS w S cs x) : ∀ u ∈ cs, u.oneCell' = true := by
  obtain ⟨A, c, rfl, _⟩ := tFunc_R.1 h
  simp [Value.oneCell']
theorem block_cells {w : World} {S : Nat → Prop} (cs : List Value) (x : Block) (h : tBlock.RS w S cs x) : ∀ u ∈ cs, u.oneCell' = true := by
  obtain ⟨A, c, rfl, _⟩ := tBlock_R.1 h
  simp [Value.oneCell']

theorem blocks_row {w5 : World} {base B1 n : Nat} {v : Value} {k : Int} {bs : List Block} {bcells : List Value} {S : Nat → Prop}
    (ho : w5.ownsRow base 42 2 v n ([.string ⟨#[]⟩, .slice (some ⟨B1, 0, none⟩) 1 1] ++ bcells)) (hn : n = bs.length + 1)
    (hB1 : w5.heap[B1]? = some (.cells (insVals 5 k).toArray 39 (0, 0))) (hk : wfI .i64 k)
    (hb : ∀ i d, bs[i]? = some d → tBlock.RS w5 S ((bcells.drop (i * 2)).take 2) d) (hS1 : S B1) (hS : ∀ g, v.ownBlock = some g → S g) :
    tBlock.slice.RS w5 S [v] (callB k :: bs) := by
  refine own_slice (T := tBlock) (base := base) (e := 42) (cells := [.string ⟨#[]⟩, .slice (some ⟨B1, 0, none⟩) 1 1] ++ bcells) (by rw [List.length_cons, ← hn]; exact ho) (fun i d hd => ?_) hS
  cases i with
  | zero =>
    cases hd
    refine tBlock_R.2 ⟨some ⟨B1, 0, none⟩, 1, rfl, sz0, ?_⟩
    refine block_slice hB1 rfl rfl one_max (fun i d hd => ?_) hS1
    cases i with
    | zero =>
      cases hd
      exact ins_lit (by decide : (Lit.int .u8 5).wf = true) hk
    | succ i => cases hd
  | succ i =>
    have e : ((([.string ⟨#[]⟩, .slice (some ⟨B1, 0, none⟩) 1 1] : List Value) ++ bcells).drop ((i + 1) * tBlock.size)) = bcells.drop (i * 2) := by
      rw [tBlock_size, show (i + 1) * 2 = i * 2 + 1 + 1 from by omega]
      rfl
    rw [e]
    exact hb i d hd

theorem funcs_row {wq : World} {base n f : Nat} {vq v5 : Value} {p : Prog} {fn : Func} {k : Int} {cells : List Value} {S : Nat → Prop} (hfn : p.funcs[f]? = some fn) (hn : n = p.funcs.length)
    (ho : wq.ownsRow base 31 4 vq n (cells.set (f * 4 + 3) v5)) (hc : ∀ i d, p.funcs[i]? = some d → tFunc.RS wq S ((cells.drop (i * 4)).take 4) d)
    (hv : tBlock.slice.RS wq S [v5] (callB k :: fn.blocks)) (hS : ∀ g, vq.ownBlock = some g → S g) :
    tFunc.slice.RS wq S [vq] (moreP p f fn k).funcs := by
  have hl : cells.length = n * 4 := by have := ho.1; rwa [List.length_set] at this
  refine own_slice (T := tFunc) (base := base) (e := 31) (cells := cells.set (f * 4 + 3) v5) (by rw [more_len, ← hn]; exact ho) (fun i d hd => ?_) hS
  have hi : i < p.funcs.length := by rw [← more_len p f fn k]; exact (List.getElem?_eq_some_iff.1 hd).1
  have hil : (i + 1) * 4 ≤ cells.length := by omega
  rw [tFunc_size, chunk_set (by omega) hil]
  have hd' : (p.funcs.set f (moreF fn k))[i]? = some d := hd
  by_cases e : i = f
  · subst e
    rw [if_pos rfl]
    rw [List.getElem?_set_self hi] at hd'
    cases hd'
    obtain ⟨A, c, e4, h1, h2, h3, _⟩ := tFunc_R.1 (hc i fn hfn)
    rw [e4]
    obtain ⟨A5, c5, rfl⟩ := slice_form hv
    exact tFunc_R.2 ⟨A5, c5, rfl, h1, h2, h3, hv⟩
  · rw [if_neg e]
    rw [List.getElem?_set_ne (Ne.symm e)] at hd'
    exact hc i d hd'
end Mu
