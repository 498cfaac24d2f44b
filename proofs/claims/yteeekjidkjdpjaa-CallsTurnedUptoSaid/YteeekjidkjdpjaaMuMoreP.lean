/-
  Plain laws: with one call more each function reaches what it did, and depths do not sink.
  Conditions: none.
-/
import Derived.Test.YteeekjidkjdpjaaMuFollowP
import Derived.Test.YteeekjidkjdpjaaMuExample
namespace Mu
open Go

def callB (k : Int) : Block := ⟨⟨#[]⟩, [emptyIns 5 k]⟩
def moreF (fn : Func) (k : Int) : Func := ⟨fn.name, fn.args, fn.regs, callB k :: fn.blocks⟩
def moreP (p : Prog) (f : Nat) (fn : Func) (k : Int) : Prog := ⟨p.heap, p.threads, p.funcs.set f (moreF fn k)⟩

theorem more_len (p : Prog) (f : Nat) (fn : Func) (k : Int) : (moreP p f fn k).funcs.length = p.funcs.length := by simp [moreP]
theorem hasCall_more {fn : Func} {k : Int} {l : Nat} (h : hasCall fn.blocks l = true) : hasCall (moreF fn k).blocks l = true := by
  simp only [moreF, hasCall, List.any_cons, Bool.or_eq_true]
  exact .inr h
theorem hasCall_new {fn : Func} {k : Nat} : hasCall (moreF fn k).blocks k = true := by
  simp [moreF, hasCall, callB, hasIns, emptyIns]
theorem succ_more {p : Prog} {f : Nat} {fn : Func} {k : Int} (hf : p.funcs[f]? = some fn) (j l : Nat) (h : l ∈ succ p j) : l ∈ succ (moreP p f fn k) j := by
  unfold succ at *
  rw [more_len]
  by_cases e : j = f
  · subst e
    rw [hf] at h
    have hl : j < p.funcs.length := (List.getElem?_eq_some_iff.1 hf).1
    rw [show (moreP p j fn k).funcs[j]? = some (moreF fn k) from by simp [moreP, hl]]
    simp only [List.mem_filter] at h ⊢
    exact ⟨h.1, hasCall_more h.2⟩
  · rw [show (moreP p f fn k).funcs[j]? = p.funcs[j]? from by simp only [moreP]; rw [List.getElem?_set_ne (Ne.symm e)]]
    exact h
theorem succ_new {p : Prog} {f k : Nat} {fn : Func} (hf : p.funcs[f]? = some fn) (hk : k < p.funcs.length) : k ∈ succ (moreP p f fn k) f := by
  unfold succ
  rw [more_len]
  have hl : f < p.funcs.length := (List.getElem?_eq_some_iff.1 hf).1
  rw [show (moreP p f fn k).funcs[f]? = some (moreF fn k) from by simp [moreP, hl]]
  simp only [List.mem_filter]
  exact ⟨by simpa using hk, hasCall_new⟩
theorem Rch.mono {s t : Nat → List Nat} (hst : ∀ j l, l ∈ s j → l ∈ t j) {a b : Nat} (h : Rch s a b) : Rch t a b := by
  induction h with
  | one h => exact .one (hst _ _ h)
  | more _ h ih => exact .more ih (hst _ _ h)
theorem Acyc.mono {s t : Nat → List Nat} (hst : ∀ j l, l ∈ s j → l ∈ t j) {f : Nat} (h : Acyc t f) : Acyc s f := fun k hk hkk =>
  h k (hk.imp id (Rch.mono hst)) (hkk.mono hst)
theorem lng_mono {s t : Nat → List Nat} (hst : ∀ j l, l ∈ s j → l ∈ t j) : ∀ m f, lng s m f ≤ lng t m f := by
  intro m
  induction m with
  | zero => intro f; exact Nat.le_refl _
  | succ m ih =>
    intro f
    rw [lng_succ, lng_succ]
    apply maxL_le
    intro x hx
    obtain ⟨k, hk, rfl⟩ := List.mem_map.1 hx
    have h1 := ih k
    have h2 : lng t m k + 1 ≤ maxL ((t f).map fun k => lng t m k + 1) := le_maxL (List.mem_map.2 ⟨k, hst f k hk, rfl⟩)
    omega
section
variable {p : Prog} {f i : Nat} {fn : Func} (hf : p.funcs[f]? = some fn)
include hf
theorem reach_more {k : Int} {z : Int} (hi : i < p.funcs.length) (h : z ∈ reachC p i) : z ∈ reachC (moreP p f fn k) i := by
  obtain ⟨j, rfl, _⟩ := reachC_lt h
  rw [mem_reachC (by rw [more_len]; exact hi)]
  exact ((mem_reachC hi).1 h).mono (succ_more hf)
theorem reach_new {k : Nat} (hk : k < p.funcs.length) : (reachC (moreP p f fn k) f).contains (k : Int) = true := by
  rw [List.contains_iff_mem, mem_reachC (by rw [more_len]; exact (List.getElem?_eq_some_iff.1 hf).1)]
  exact .one (succ_new hf hk)
theorem depth_more {k : Int} (hi : i < p.funcs.length) (h : 0 ≤ depthC (moreP p f fn k) i) : 0 ≤ depthC p i ∧ depthC p i ≤ depthC (moreP p f fn k) i := by
  have hi' : i < (moreP p f fn k).funcs.length := by rw [more_len]; exact hi
  by_cases ha : Acyc (succ (moreP p f fn k)) i
  · have ha' := ha.mono (succ_more hf)
    rw [depthC_acyc hi' ha, depthC_acyc hi ha', more_len]
    have : lngN (succ p) p.funcs.length i ≤ lngN (succ (moreP p f fn k)) p.funcs.length i := lng_mono (succ_more hf) _ _
    omega
  · rw [depthC_cyc hi' ha] at h
    omega
end
theorem leaf_more (fn : Func) (k : Int) : leaf (moreF fn k).blocks = false := by
  simp [moreF, leaf, callB, loudIns, loud, emptyIns]
theorem bulk_more {p : Prog} {f : Nat} {fn : Func} {k : Int} (hf : p.funcs[f]? = some fn) : tProg.bulk (moreP p f fn k) ≤ tProg.bulk p + 100 := by
  have key : ∀ (l : List Func) (i : Nat), l[i]? = some fn → bulkL tFunc.bulk (l.set i (moreF fn k)) ≤ bulkL tFunc.bulk l + 100 := by
    intro l
    induction l with
    | nil => intro i h; simp at h
    | cons x l ih =>
      intro i h
      cases i with
      | zero =>
        simp at h
        subst h
        simp only [List.set_cons_zero, bulkL]
        have : tFunc.bulk (moreF x k) = tFunc.bulk x + tBlock.bulk (callB k) := by
          rw [bulk_func, bulk_func]; simp only [moreF, bulkL]; omega
        rw [this]
        have h2 : tBlock.bulk (callB k) ≤ 100 := by
          rw [bulk_block]
          simp only [callB, bulkL, bulk_ins, emptyIns]
          decide
        omega
      | succ i =>
        simp only [List.set_cons_succ, bulkL]
        have := ih i (by simpa using h)
        omega
  rw [bulk_prog, bulk_prog]
  have := key p.funcs f hf
  simp only [moreP]
  omega
end Mu
