/-
  Plain laws: when functions stand the other way round, and calls name them so, each calls, reaches and has the depth that it had.
  Conditions: none.
-/
import Derived.Test.YteeekjidkjdpjaaMuFollowP
namespace Mu
open Go

def turnI (n : Nat) (x : Ins) : Ins := if isCall n x then { x with f := (n : Int) - 1 - x.f } else x
def turnB (n : Nat) (b : Block) : Block := ⟨b.name, b.ins.map (turnI n)⟩
def turnF (n : Nat) (f : Func) : Func := ⟨f.name, f.args, f.regs, f.blocks.map (turnB n)⟩
def turnP (p : Prog) : Prog := ⟨p.heap, [], p.funcs.reverse.map (turnF p.funcs.length)⟩
def rev (n k : Nat) : Nat := n - 1 - k

theorem rev_lt {n k : Nat} (h : k < n) : rev n k < n := by unfold rev; omega
theorem rev_rev {n k : Nat} (h : k < n) : rev n (rev n k) = k := by unfold rev; omega
theorem turn_len (p : Prog) : (turnP p).funcs.length = p.funcs.length := by simp [turnP]
theorem turn_at {p : Prog} {k : Nat} {fn : Func} (h : p.funcs[k]? = some fn) : (turnP p).funcs[rev p.funcs.length k]? = some (turnF p.funcs.length fn) := by
  have hk : k < p.funcs.length := (List.getElem?_eq_some_iff.1 h).1
  unfold turnP rev
  rw [List.getElem?_map, List.getElem?_reverse (by omega), show p.funcs.length - 1 - (p.funcs.length - 1 - k) = k from by omega, h]
  rfl

theorem hasIns_turn {n k : Nat} (hk : k < n) (l : List Ins) : hasIns (rev n k) (l.map (turnI n)) = hasIns k l := by
  unfold hasIns
  rw [List.any_map]
  congr 1
  funext x
  simp only [Function.comp]
  rcases hc : isCall n x with _ | _
  · rw [turnI, hc, if_neg (by simp)]
    by_cases h5 : x.op = 5
    · have hx : ¬ (0 ≤ x.f ∧ x.f < n) := by
        intro h
        simp [isCall, h5, h.1, h.2] at hc
      have h1 : (x.f == ((rev n k : Nat) : Int)) = false := by
        rw [beq_eq_false_iff_ne]
        have := rev_lt hk
        omega
      have h2 : (x.f == (k : Int)) = false := by
        rw [beq_eq_false_iff_ne]
        omega
      rw [h1, h2]
    · have : (x.op == 5) = false := beq_eq_false_iff_ne.2 h5
      simp [this]
  · rw [turnI, hc, if_pos rfl]
    have : ((n : Int) - 1 - x.f == ((rev n k : Nat) : Int)) = (x.f == (k : Int)) := by
      rw [Bool.eq_iff_iff, beq_iff_eq, beq_iff_eq]
      unfold rev
      omega
    simp only [this]
theorem hasCall_turn {n k : Nat} (hk : k < n) (fn : Func) : hasCall (turnF n fn).blocks (rev n k) = hasCall fn.blocks k := by
  unfold hasCall turnF
  rw [List.any_map]
  congr 1
  funext b
  exact hasIns_turn hk b.ins

/-- the row of what holds, the other way round -/
def revL (n : Nat) (l : List Nat) : List Nat := l.reverse.map (rev n)
theorem range_rev (n : Nat) : (List.range n).reverse.map (rev n) = List.range n := by
  apply List.ext_getElem?
  intro i
  by_cases hi : i < n
  · rw [List.getElem?_map, List.getElem?_reverse (by simpa using hi)]
    simp only [List.length_range]
    rw [List.getElem?_range (by omega), List.getElem?_range hi]
    show some _ = some i
    unfold rev
    congr 1
    omega
  · rw [List.getElem?_eq_none (by simp; omega), List.getElem?_eq_none (by simp; omega)]
theorem filter_rev {n : Nat} {P Q : Nat → Bool} (h : ∀ k, k < n → Q (rev n k) = P k) : (List.range n).filter Q = revL n ((List.range n).filter P) := by
  unfold revL
  conv => lhs; rw [← range_rev n, List.filter_map, List.filter_reverse]
  congr 2
  apply List.filter_congr
  intro k hk
  exact h k (by simpa using hk)

/-- what the check of two rows asks -/
def TurnedL (n : Nat) (a b : List Int) : Prop := a.length = b.length ∧ ∀ i x y, a[i]? = some x → b[b.length - 1 - i]? = some y → x = (n : Int) - 1 - y
theorem turned_ofN {n : Nat} {l : List Nat} (hl : ∀ k ∈ l, k < n) : TurnedL n (ofN l) (ofN (revL n l)) := by
  refine ⟨by simp [ofN, revL], fun i x y hx hy => ?_⟩
  have hi : i < l.length := by simpa [ofN] using (List.getElem?_eq_some_iff.1 hx).1
  simp only [ofN, revL, List.length_map, List.length_reverse] at hx hy
  rw [List.getElem?_map] at hx
  rw [List.getElem?_map, List.getElem?_map, List.getElem?_reverse (by omega), show l.length - 1 - (l.length - 1 - i) = i from by omega] at hy
  rw [List.getElem?_eq_getElem hi] at hx hy
  simp only [Option.map_some, Option.some.injEq] at hx hy
  have := hl l[i] (List.getElem_mem hi)
  subst hx
  rw [← hy]
  unfold rev
  show ((l[i] : Nat) : Int) = _ - 1 - ((n - 1 - l[i] : Nat) : Int)
  omega

section
variable {p : Prog}
theorem succ_turn {f : Nat} (hf : f < p.funcs.length) : succ (turnP p) (rev p.funcs.length f) = revL p.funcs.length (succ p f) := by
  have h : p.funcs[f]? = some p.funcs[f] := List.getElem?_eq_getElem hf
  unfold succ
  rw [turn_at h, h, turn_len]
  exact filter_rev fun k hk => hasCall_turn hk _
theorem mem_succ_turn {f k : Nat} (hf : f < p.funcs.length) (h : k ∈ succ p f) : rev p.funcs.length k ∈ succ (turnP p) (rev p.funcs.length f) := by
  rw [succ_turn hf]
  unfold revL
  exact List.mem_map.2 ⟨k, by simpa using h, rfl⟩
theorem mem_succ_back {f k : Nat} (hf : f < p.funcs.length) (h : k ∈ succ (turnP p) (rev p.funcs.length f)) : rev p.funcs.length k ∈ succ p f := by
  rw [succ_turn hf] at h
  obtain ⟨j, hj, rfl⟩ := List.mem_map.1 h
  have hj' : j ∈ succ p f := by simpa using hj
  rw [rev_rev (succ_lt p f j hj')]
  exact hj'
theorem rch_turn {f k : Nat} (hf : f < p.funcs.length) (h : Rch (succ p) f k) : Rch (succ (turnP p)) (rev p.funcs.length f) (rev p.funcs.length k) := by
  induction h with
  | one h => exact .one (mem_succ_turn hf h)
  | more h1 h2 ih => exact .more ih (mem_succ_turn (h1.lt (succ_lt p)) h2)
theorem rch_back {f k : Nat} (hf : f < p.funcs.length) (h : Rch (succ (turnP p)) (rev p.funcs.length f) k) : Rch (succ p) f (rev p.funcs.length k) := by
  have hl : ∀ k l, l ∈ succ (turnP p) k → l < p.funcs.length := fun k l h => by rw [← turn_len p]; exact succ_lt _ k l h
  induction h with
  | one h => exact .one (mem_succ_back hf h)
  | @more b c h1 h2 ih =>
    have hb := h1.lt hl
    refine .more ih (mem_succ_back (rev_lt hb) ?_)
    rw [rev_rev hb]
    exact h2
theorem reach_turn {f : Nat} (hf : f < p.funcs.length) : TurnedL p.funcs.length (reachC p f) (reachC (turnP p) (rev p.funcs.length f)) := by
  have e : (List.range (turnP p).funcs.length).filter (reachB (turnP p) (rev p.funcs.length f)) = revL p.funcs.length ((List.range p.funcs.length).filter (reachB p f)) := by
    rw [turn_len]
    refine filter_rev fun k hk => ?_
    rw [Bool.eq_iff_iff]
    have h1 : reachB p f k = true ↔ Rch (succ p) f k := rounds_end (succ_lt p) hf k
    have h2 : reachB (turnP p) (rev p.funcs.length f) (rev p.funcs.length k) = true ↔ _ := rounds_end (succ_lt (turnP p)) (by rw [turn_len]; exact rev_lt hf) _
    rw [h1, h2]
    refine ⟨fun h => ?_, rch_turn hf⟩
    have := rch_back hf h
    rwa [rev_rev hk] at this
  show TurnedL _ (ofN _) (ofN _)
  rw [e]
  exact turned_ofN fun k hk => by simpa using (List.mem_filter.1 hk).1
theorem calls_turn {f : Nat} (hf : f < p.funcs.length) : TurnedL p.funcs.length (ofN (succ p f)) (ofN (succ (turnP p) (rev p.funcs.length f))) := by
  rw [succ_turn hf]
  exact turned_ofN fun k hk => succ_lt p f k hk
theorem lng_turn : ∀ (m : Nat) {f : Nat}, f < p.funcs.length → lng (succ (turnP p)) m (rev p.funcs.length f) = lng (succ p) m f := by
  intro m
  induction m with
  | zero => intro f _; rfl
  | succ m ih =>
    intro f hf
    rw [lng_succ, lng_succ]
    apply Nat.le_antisymm
    · apply maxL_le
      intro x hx
      obtain ⟨k, hk, rfl⟩ := List.mem_map.1 hx
      have hkl : k < p.funcs.length := by rw [← turn_len p]; exact succ_lt _ _ k hk
      refine le_maxL (List.mem_map.2 ⟨rev p.funcs.length k, mem_succ_back hf hk, ?_⟩)
      rw [← ih (rev_lt hkl), rev_rev hkl]
    · apply maxL_le
      intro x hx
      obtain ⟨k, hk, rfl⟩ := List.mem_map.1 hx
      refine le_maxL (List.mem_map.2 ⟨rev p.funcs.length k, mem_succ_turn hf hk, ?_⟩)
      rw [ih (succ_lt p f k hk)]
theorem acyc_turn {f : Nat} (hf : f < p.funcs.length) : Acyc (succ (turnP p)) (rev p.funcs.length f) ↔ Acyc (succ p) f := by
  have hl : ∀ k l, l ∈ succ (turnP p) k → l < p.funcs.length := fun k l h => by rw [← turn_len p]; exact succ_lt _ k l h
  constructor
  · intro h k hk hkk
    have hkn := hkk.lt (succ_lt p)
    refine h (rev p.funcs.length k) ?_ (rch_turn hkn hkk)
    rcases hk with rfl | hk
    · exact .inl rfl
    · exact .inr (rch_turn hf hk)
  · intro h k hk hkk
    have hkn := hkk.lt hl
    refine h (rev p.funcs.length k) ?_ ?_
    · rcases hk with rfl | hk
      · left; exact rev_rev hf
      · exact .inr (rch_back hf hk)
    · refine rch_back (rev_lt hkn) ?_
      rw [rev_rev hkn]
      exact hkk
theorem depth_turn {f : Nat} (hf : f < p.funcs.length) : depthC (turnP p) ((rev p.funcs.length f : Nat) : Int) = depthC p f := by
  have hr : rev p.funcs.length f < (turnP p).funcs.length := by rw [turn_len]; exact rev_lt hf
  by_cases h : Acyc (succ p) f
  · rw [depthC_acyc hr ((acyc_turn hf).2 h), depthC_acyc hf h]
    unfold lngN
    rw [turn_len, lng_turn _ hf]
  · rw [depthC_cyc hr (fun h' => h ((acyc_turn hf).1 h')), depthC_cyc hf h]
end
theorem loud_turn (n : Nat) (x : Ins) : loud (turnI n x) = loud x := by
  unfold turnI
  split <;> rfl
theorem leaf_turn (n : Nat) (fn : Func) : leaf (turnF n fn).blocks = leaf fn.blocks := by
  unfold leaf turnF
  rw [List.any_map]
  congr 2
  funext b
  show loudIns (b.ins.map (turnI n)) = loudIns b.ins
  unfold loudIns
  rw [List.any_map]
  congr 1
  funext x
  exact loud_turn n x
theorem bulk_turnI (n : Nat) (x : Ins) : tIns.bulk (turnI n x) = tIns.bulk x := by
  rw [bulk_ins, bulk_ins]
  unfold turnI
  split <;> rfl
theorem bulkL_map {α : Type} (g : α → Nat) (f : α → α) (h : ∀ x, g (f x) = g x) (l : List α) : bulkL g (l.map f) = bulkL g l := by
  induction l with
  | nil => rfl
  | cons x l ih => simp only [List.map_cons, bulkL, h, ih]
theorem bulk_turnB (n : Nat) (x : Block) : tBlock.bulk (turnB n x) = tBlock.bulk x := by
  rw [bulk_block, bulk_block]
  simp only [turnB, bulkL_map _ _ (bulk_turnI n)]
theorem bulk_turnF (n : Nat) (x : Func) : tFunc.bulk (turnF n x) = tFunc.bulk x := by
  rw [bulk_func, bulk_func]
  simp only [turnF, bulkL_map _ _ (bulk_turnB n)]
theorem bulkL_reverse {α : Type} (g : α → Nat) (l : List α) : bulkL g l.reverse = bulkL g l := by
  induction l with
  | nil => rfl
  | cons x l ih => rw [List.reverse_cons, bulkL_append, ih]; simp only [bulkL]; omega
theorem bulk_turnP (p : Prog) : tProg.bulk (turnP p) ≤ tProg.bulk p := by
  rw [bulk_prog, bulk_prog]
  simp only [turnP, bulkL_map _ _ (bulk_turnF p.funcs.length), bulkL_reverse, bulkL]
  omega
end Mu
