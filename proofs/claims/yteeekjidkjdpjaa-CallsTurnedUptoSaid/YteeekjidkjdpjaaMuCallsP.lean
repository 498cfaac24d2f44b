/-
  Plain laws on what a function calls: the sorted and compacted row of its calls is the filtered row of all functions.
  Conditions: none.
-/
import Derived.Test.YteeekjidkjdpjaaMuGraph
import Derived.Test.YteeekjidkjdpjaaMuApi
import Derived.Lib.SlicesCompact
namespace Mu
open Go

def isCall (n : Nat) (x : Ins) : Bool := x.op == 5 && (decide (0 ≤ x.f) && decide (x.f < n))
def rawIns (n : Nat) (l : List Ins) : List Int := (l.filter (isCall n)).map (·.f)
def raw (n : Nat) (bs : List Block) : List Int := bs.flatMap fun b => rawIns n b.ins

theorem rawIns_step {n j : Nat} {l : List Ins} {x : Ins} (h : l[j]? = some x) : rawIns n (l.take (j + 1)) = rawIns n (l.take j) ++ if isCall n x then [x.f] else [] := by
  unfold rawIns
  rw [List.take_add_one, h, Option.toList_some, List.filter_append, List.map_append]
  by_cases hc : isCall n x <;> simp [hc]
theorem raw_step {n k : Nat} {bs : List Block} {b : Block} (h : bs[k]? = some b) : raw n (bs.take (k + 1)) = raw n (bs.take k) ++ rawIns n b.ins := by
  unfold raw
  rw [List.take_add_one, h, Option.toList_some, List.flatMap_append]
  simp
theorem raw_take_le {n k : Nat} {bs : List Block} : (raw n (bs.take k)).length ≤ (raw n bs).length := by
  unfold raw
  conv => rhs; rw [← List.take_append_drop k bs, List.flatMap_append, List.length_append]
  omega
theorem rawIns_take_le {n k : Nat} {l : List Ins} : (rawIns n (l.take k)).length ≤ (rawIns n l).length := by
  unfold rawIns
  conv => rhs; rw [← List.take_append_drop k l, List.filter_append, List.map_append, List.length_append]
  omega

/-! ### the canonical answers -/
def hasIns (k : Nat) (l : List Ins) : Bool := l.any fun x => x.op == 5 && x.f == k
def hasCall (bs : List Block) (k : Nat) : Bool := bs.any fun b => hasIns k b.ins
def succ (p : Prog) (f : Nat) : List Nat :=
  match p.funcs[f]? with
  | none => []
  | some fn => (List.range p.funcs.length).filter (hasCall fn.blocks)
def ofN (l : List Nat) : List Int := l.map Int.ofNat
def callsC (p : Prog) (f : Int) : List Int := if 0 ≤ f ∧ f < p.funcs.length then ofN (succ p f.toNat) else []

theorem succ_lt (p : Prog) (k l : Nat) (h : l ∈ succ p k) : l < p.funcs.length := by
  unfold succ at h
  split at h
  · cases h
  · have := (List.mem_filter.1 h).1
    simpa using this
theorem succ_length (p : Prog) (k : Nat) : (succ p k).length ≤ p.funcs.length := by
  unfold succ
  split
  · simp
  · exact Nat.le_trans (List.length_filter_le _ _) (by simp)

theorem mem_raw {n : Nat} {bs : List Block} {z : Int} : z ∈ raw n bs ↔ 0 ≤ z ∧ z < n ∧ hasCall bs z.toNat = true := by
  simp only [raw, rawIns, List.mem_flatMap, List.mem_map, List.mem_filter, isCall, hasCall, hasIns, List.any_eq_true, Bool.and_eq_true, beq_iff_eq, decide_eq_true_eq]
  constructor
  · rintro ⟨b, hb, x, ⟨hx, h5, h0, hn⟩, rfl⟩
    exact ⟨h0, hn, b, hb, x, hx, h5, by omega⟩
  · rintro ⟨h0, hn, b, hb, x, hx, h5, hf⟩
    exact ⟨b, hb, x, ⟨hx, h5, by omega, by omega⟩, by omega⟩

/-! ### strictly rising rows are what they hold -/
theorem rising_ext : ∀ {l m : List Int}, l.Pairwise (· < ·) → m.Pairwise (· < ·) → (∀ z, z ∈ l ↔ z ∈ m) → l = m := by
  intro l
  induction l with
  | nil =>
    intro m _ _ h
    cases m with
    | nil => rfl
    | cons y m => exact absurd ((h y).2 (by simp)) (by simp)
  | cons x l ih =>
    intro m hl hm h
    cases m with
    | nil => exact absurd ((h x).1 (by simp)) (by simp)
    | cons y m =>
      rw [List.pairwise_cons] at hl hm
      have hxy : x = y := by
        have h1 := (h x).1 (by simp)
        have h2 := (h y).2 (by simp)
        rcases List.mem_cons.1 h1 with e | h1
        · exact e
        · rcases List.mem_cons.1 h2 with e | h2
          · exact e.symm
          · have := hl.1 y h2
            have := hm.1 x h1
            omega
      subst hxy
      congr 1
      apply ih hl.2 hm.2
      intro z
      constructor
      · intro hz
        rcases List.mem_cons.1 ((h z).1 (by simp [hz])) with e | h1
        · subst e; have := hl.1 _ hz; omega
        · exact h1
      · intro hz
        rcases List.mem_cons.1 ((h z).2 (by simp [hz])) with e | h1
        · subst e; have := hm.1 _ hz; omega
        · exact h1

theorem rising_ofN {n : Nat} (P : Nat → Bool) : (ofN ((List.range n).filter P)).Pairwise (· < ·) := by
  unfold ofN
  rw [List.pairwise_map]
  refine (List.Pairwise.filter _ List.pairwise_lt_range).imp ?_
  intro a b h
  exact Int.ofNat_lt.2 h

/-- compact, of a sorted row: strictly rising, of the same members -/
theorem compact_sorted {zs : List Int} (h : zs.Pairwise (· ≤ ·)) : (Lib.compact zs).Pairwise (· < ·) ∧ ∀ z, z ∈ Lib.compact zs ↔ z ∈ zs := by
  have hget : ∀ j, j < zs.length → zs.toArray[j]! = zs.getD j 0 := fun j hj => by simp [getElem!_pos, hj]
  have hle : ∀ i j, i ≤ j → j < zs.length → zs.getD i 0 ≤ zs.getD j 0 := fun i j hij hj => by
    rcases Nat.eq_or_lt_of_le hij with e | hlt
    · subst e; exact Int.le_refl _
    · have := List.pairwise_iff_getElem.1 h i j (by omega) hj hlt
      simpa [List.getD, show i < zs.length by omega, hj] using this
  have hkeep : ∀ j, j < zs.length → (Lib.keeps zs.toArray j = true ↔ j = 0 ∨ zs.getD (j - 1) 0 < zs.getD j 0) := by
    intro j hj
    unfold Lib.keeps
    rw [hget j hj, hget (j - 1) (by omega)]
    by_cases hz : j = 0
    · simp [hz]
    · have := hle (j - 1) j (by omega) hj
      simp only [hz, false_or, ne_eq, decide_eq_true_eq]
      omega
  constructor
  · unfold Lib.compact Lib.compactUpTo
    rw [List.pairwise_map]
    refine List.Pairwise.imp_of_mem ?_ (List.Pairwise.filter _ List.pairwise_lt_range)
    intro a b ha hb hab
    obtain ⟨ha1, _⟩ := List.mem_filter.1 ha
    obtain ⟨hb1, hb2⟩ := List.mem_filter.1 hb
    simp only [List.mem_range] at ha1 hb1
    rw [hget a ha1, hget b hb1]
    rcases (hkeep b hb1).1 hb2 with e | e
    · omega
    · have := hle a (b - 1) (by omega) (by omega)
      omega
  · intro z
    unfold Lib.compact Lib.compactUpTo
    rw [List.mem_map]
    constructor
    · rintro ⟨j, hj, rfl⟩
      obtain ⟨hj1, _⟩ := List.mem_filter.1 hj
      simp only [List.mem_range] at hj1
      rw [hget j hj1]
      simp [List.getD, hj1]
    · intro hz
      have key : ∀ j, j < zs.length → ∃ i, i ≤ j ∧ Lib.keeps zs.toArray i = true ∧ zs.getD i 0 = zs.getD j 0 := by
        intro j
        induction j with
        | zero => intro hj; exact ⟨0, Nat.le_refl _, (hkeep 0 hj).2 (.inl rfl), rfl⟩
        | succ j ih =>
          intro hj
          by_cases hlt : zs.getD j 0 < zs.getD (j + 1) 0
          · exact ⟨j + 1, Nat.le_refl _, (hkeep _ hj).2 (.inr (by simpa using hlt)), rfl⟩
          · obtain ⟨i, h1, h2, h3⟩ := ih (by omega)
            have := hle j (j + 1) (by omega) hj
            exact ⟨i, by omega, h2, by omega⟩
      obtain ⟨j, hj, rfl⟩ := List.getElem_of_mem hz
      obtain ⟨i, h1, h2, h3⟩ := key j hj
      refine ⟨i, List.mem_filter.2 ⟨by simp; omega, h2⟩, ?_⟩
      rw [hget i (by omega), h3]
      simp [List.getD, hj]

theorem sorted_mergeSort (zs : List Int) : (zs.mergeSort fun x y => decide (x ≤ y)).Pairwise (· ≤ ·) := by
  have := List.pairwise_mergeSort (le := fun x y : Int => decide (x ≤ y)) (fun a b c h1 h2 => by simp at *; omega) (fun a b => by simp; omega) zs
  exact this.imp (by simp)

theorem calls_eq {p : Prog} {f : Nat} {fn : Func} (h : p.funcs[f]? = some fn) : Lib.compact ((raw p.funcs.length fn.blocks).mergeSort fun x y => decide (x ≤ y)) = ofN (succ p f) := by
  obtain ⟨h1, h2⟩ := compact_sorted (sorted_mergeSort (raw p.funcs.length fn.blocks))
  unfold succ
  rw [h]
  refine rising_ext h1 (rising_ofN _) fun z => ?_
  rw [h2, List.mem_mergeSort, mem_raw]
  simp only [ofN, List.mem_map, List.mem_filter, List.mem_range]
  constructor
  · rintro ⟨h0, hn, hc⟩
    exact ⟨z.toNat, ⟨by omega, hc⟩, by simp; omega⟩
  · rintro ⟨k, ⟨hk, hc⟩, rfl⟩
    exact ⟨by simp, by simpa using hk, by simpa using hc⟩
end Mu
