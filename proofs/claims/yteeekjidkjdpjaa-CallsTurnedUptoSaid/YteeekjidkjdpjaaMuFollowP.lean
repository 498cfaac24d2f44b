/-
  Plain laws: what is called is reached, and what that reaches; a depth from the depths of what is called.
  Conditions: none.
-/
import Derived.Test.YteeekjidkjdpjaaMuDepthAny
import Derived.Test.YteeekjidkjdpjaaMuLeaf
namespace Mu
open Go

theorem Rch.first {sc : Nat → List Nat} {f k : Nat} (h : Rch sc f k) : ∃ s, s ∈ sc f ∧ (k = s ∨ Rch sc s k) := by
  induction h with
  | one h => exact ⟨_, h, .inl rfl⟩
  | more h1 h2 ih =>
    obtain ⟨s, hs, hk⟩ := ih
    refine ⟨s, hs, .inr ?_⟩
    rcases hk with rfl | hk
    · exact .one h2
    · exact .more hk h2
theorem depthC_acyc {p : Prog} {k : Nat} (hk : k < p.funcs.length) (h : Acyc (succ p) k) : depthC p k = (lngN (succ p) p.funcs.length k : Nat) := by
  rw [← depth_eq, depthC', if_pos ⟨by omega, by omega, (turnsB_iff (by omega)).2 (by rwa [show ((k : Int)).toNat = k from by omega])⟩, show ((k : Int)).toNat = k from by omega]
theorem depthC_cyc {p : Prog} {k : Nat} (hk : k < p.funcs.length) (h : ¬ Acyc (succ p) k) : depthC p k = -1 := by
  rw [← depth_eq, depthC', if_neg]
  rintro ⟨_, _, h3⟩
  rw [show ((k : Int)).toNat = k from by omega] at h3
  exact h ((turnsB_iff hk).1 h3)
theorem depthC_bounds {p : Prog} {k : Nat} (hk : k < p.funcs.length) : -1 ≤ depthC p k ∧ depthC p k ≤ p.funcs.length := by
  by_cases h : Acyc (succ p) k
  · have := lngN_le (succ_lt p) h
    rw [depthC_acyc hk h]; omega
  · rw [depthC_cyc hk h]; omega

def tf (p : Prog) (f i : Nat) : Bool := (reachC p f).contains (f : Int) || ((succ p f).take i).any fun k => decide (depthC p k < 0)
def df (p : Prog) (f i : Nat) : Int := ((succ p f).take i).foldl (fun (a : Int) (k : Nat) => max a (depthC p k + 1)) 0
theorem tf_zero (p : Prog) (f : Nat) : tf p f 0 = (reachC p f).contains (f : Int) := by simp [tf]
theorem df_zero (p : Prog) (f : Nat) : df p f 0 = 0 := rfl
theorem tf_step {p : Prog} {f i k : Nat} (h : (succ p f)[i]? = some k) : tf p f (i + 1) = (tf p f i || decide (depthC p k < 0)) := by
  simp only [tf, List.take_add_one, h, Option.toList_some, List.any_append, List.any_cons, List.any_nil, Bool.or_false, Bool.or_assoc]
theorem df_step {p : Prog} {f i k : Nat} (h : (succ p f)[i]? = some k) : df p f (i + 1) = max (df p f i) (depthC p k + 1) := by
  simp only [df, List.take_add_one, h, Option.toList_some, List.foldl_append, List.foldl_cons, List.foldl_nil]
theorem foldl_df {p : Prog} (l : List Nat) (hl : ∀ k ∈ l, k < p.funcs.length) : ∀ a : Int, 0 ≤ a → a ≤ p.funcs.length + 1 →
    0 ≤ l.foldl (fun (a : Int) (k : Nat) => max a (depthC p k + 1)) a ∧ l.foldl (fun (a : Int) (k : Nat) => max a (depthC p k + 1)) a ≤ p.funcs.length + 1 := by
  induction l with
  | nil => intro a h1 h2; exact ⟨h1, h2⟩
  | cons x l ih =>
    intro a h1 h2
    have := depthC_bounds (hl x (by simp))
    exact ih (fun k hk => hl k (by simp [hk])) (max a (depthC p x + 1)) (by omega) (by omega)
theorem df_bounds (p : Prog) (f i : Nat) : 0 ≤ df p f i ∧ df p f i ≤ p.funcs.length + 1 :=
  foldl_df ((succ p f).take i) (fun k hk => succ_lt p f k (List.mem_of_mem_take hk)) 0 (Int.le_refl _) (by omega)

theorem foldl_max_int (l : List Nat) (g : Nat → Int) (h : Nat → Nat) (hg : ∀ k ∈ l, g k + 1 = ((h k + 1 : Nat) : Int)) : ∀ a : Nat, l.foldl (fun a k => max a (g k + 1)) (a : Int) = (((l.map fun k => h k + 1).foldl max a : Nat) : Int) := by
  induction l with
  | nil => intro a; rfl
  | cons x l ih =>
    intro a
    simp only [List.foldl_cons, List.map_cons]
    rw [hg x (by simp), show max (a : Int) ((h x + 1 : Nat) : Int) = ((max a (h x + 1) : Nat) : Int) from by omega]
    exact ih (fun k hk => hg k (by simp [hk])) _

theorem depth_of_calls {p : Prog} {f : Nat} (hf : f < p.funcs.length) : depthC p f = if tf p f (succ p f).length then -1 else df p f (succ p f).length := by
  have hmem : (reachC p f).contains (f : Int) = true ↔ Rch (succ p) f f := by rw [List.contains_iff_mem]; exact mem_reachC hf
  by_cases ha : Acyc (succ p) f
  · have h1 : (reachC p f).contains (f : Int) = false := by
      by_cases h : (reachC p f).contains (f : Int) = true
      · exact absurd (hmem.1 h) (ha f (.inl rfl))
      · simpa using h
    have h2 : ∀ k ∈ succ p f, depthC p k = (lngN (succ p) p.funcs.length k : Nat) := fun k hk => depthC_acyc (succ_lt p f k hk) (ha.step hk)
    have h3 : tf p f (succ p f).length = false := by
      unfold tf
      rw [h1, Bool.false_or, List.take_length, List.any_eq_false]
      intro k hk
      rw [h2 k hk]
      simp
    rw [h3, if_neg (by simp), depthC_acyc hf ha, lngN_eq (succ_lt p) ha]
    unfold df maxL
    rw [List.take_length]
    exact (foldl_max_int (succ p f) (fun k => depthC p k) (fun k => lngN (succ p) p.funcs.length k) (fun k hk => by rw [h2 k hk]; omega) 0).symm
  · rw [depthC_cyc hf ha]
    have h3 : tf p f (succ p f).length = true := by
      unfold tf
      rw [List.take_length, Bool.or_eq_true, List.any_eq_true]
      by_cases hs : Rch (succ p) f f
      · exact .inl (hmem.2 hs)
      · right
        have : ∃ k, (k = f ∨ Rch (succ p) f k) ∧ Rch (succ p) k k := by
          refine Classical.byContradiction fun hc => ha fun k hk hkk => hc ⟨k, hk, hkk⟩
        obtain ⟨k, hk, hkk⟩ := this
        rcases hk with rfl | hk
        · exact absurd hkk hs
        · obtain ⟨s, hs1, hs2⟩ : ∃ s, s ∈ succ p f ∧ (k = s ∨ Rch (succ p) s k) := by
            exact hk.first
          refine ⟨s, hs1, ?_⟩
          rw [depthC_cyc (succ_lt p f s hs1) (fun hA => hA k hs2 hkk)]
          rfl
    rw [h3, if_pos rfl]

theorem calls_row {p : Prog} {q : Nat} (hq : q < p.funcs.length) : callsC p q = ofN (succ p q) := by
  rw [callsC, if_pos ⟨by omega, by omega⟩, show ((q : Int)).toNat = q from by omega]
theorem reach_row {p : Prog} {q : Nat} (hq : q < p.funcs.length) : reachAll p q = reachC p q := by
  rw [reachAll, if_pos ⟨by omega, by omega⟩, show ((q : Int)).toNat = q from by omega]
/-- what is called is reached -/
theorem called_reached {p : Prog} {f i k : Nat} (hf : f < p.funcs.length) (h : (succ p f)[i]? = some k) : (reachC p f).contains (k : Int) = true := by
  rw [List.contains_iff_mem, mem_reachC hf]
  exact .one (List.mem_of_getElem? h)
/-- what that reaches, too -/
theorem called_reaches {p : Prog} {f i k m : Nat} {z : Int} (hf : f < p.funcs.length) (h : (succ p f)[i]? = some k) (hz : (reachC p k)[m]? = some z) : (reachC p f).contains z = true := by
  have hm := List.mem_of_getElem? hz
  obtain ⟨j, rfl, _⟩ := reachC_lt hm
  have hk := succ_lt p f k (List.mem_of_getElem? h)
  rw [List.contains_iff_mem, mem_reachC hf]
  exact .head (List.mem_of_getElem? h) ((mem_reachC hk).1 hm)
theorem leaf_none {p : Prog} {f : Nat} {fn : Func} (h : p.funcs[f]? = some fn) (hl : leaf fn.blocks = true) : succ p f = [] := by
  unfold succ
  rw [h]
  show (List.range p.funcs.length).filter (hasCall fn.blocks) = []
  rw [List.filter_eq_nil_iff]
  intro k _ hc
  simp only [leaf, Bool.not_eq_true', List.any_eq_false, loudIns, Bool.not_eq_true] at hl
  simp only [hasCall, List.any_eq_true, hasIns, Bool.and_eq_true] at hc
  obtain ⟨b, hb, x, hx, h5, _⟩ := hc
  have := hl b hb x hx
  simp [loud, h5] at this
end Mu
