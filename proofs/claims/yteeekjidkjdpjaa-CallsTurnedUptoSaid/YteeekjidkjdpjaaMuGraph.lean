/-
  Plain laws on graphs: what is reached, by a worklist and by rounds; the longest ways, by rounds.
  Conditions: none; no program in sight.
-/
namespace Mu

/-- a path of one step or more, every node below n -/
inductive Rch (succ : Nat → List Nat) : Nat → Nat → Prop where
  | one {f k : Nat} : k ∈ succ f → Rch succ f k
  | more {f k l : Nat} : Rch succ f k → l ∈ succ k → Rch succ f l

variable {succ : Nat → List Nat}

theorem Rch.trans {a b c : Nat} (h : Rch succ a b) (h' : Rch succ b c) : Rch succ a c := by
  induction h' with
  | one h1 => exact .more h h1
  | more _ h1 ih => exact .more ih h1

theorem Rch.head {a b c : Nat} (h : b ∈ succ a) (h' : Rch succ b c) : Rch succ a c := (Rch.one h).trans h'

theorem Rch.cases_head {a c : Nat} (h : Rch succ a c) : c ∈ succ a ∨ ∃ b, b ∈ succ a ∧ Rch succ b c := by
  induction h with
  | one h => exact .inl h
  | more _ h1 ih =>
    rcases ih with h | ⟨b, hb, hr⟩
    · exact .inr ⟨_, h, .one h1⟩
    · exact .inr ⟨b, hb, .more hr h1⟩

theorem Rch.lt {n : Nat} (hs : ∀ k l, l ∈ succ k → l < n) {a b : Nat} (h : Rch succ a b) : b < n := by
  cases h with
  | one h => exact hs _ _ h
  | more _ h => exact hs _ _ h

/-- a set that has what f calls, and what its members call, has all that f reaches -/
theorem Rch.closed {S : Nat → Prop} {f : Nat} (h0 : ∀ k ∈ succ f, S k) (h1 : ∀ k, S k → ∀ l ∈ succ k, S l) {k : Nat} (h : Rch succ f k) : S k := by
  induction h with
  | one h => exact h0 _ h
  | more _ h ih => exact h1 _ ih _ h

theorem Rch.closed' {S : Nat → Prop} {f : Nat} (h0 : ∀ k, (S k ∨ k = f) → ∀ l ∈ succ k, S l) {k : Nat} (h : Rch succ f k) : S k :=
  h.closed (h0 f (.inr rfl)) (fun k hk => h0 k (.inl hk))

/-! ### counting members below n -/
def cnt (n : Nat) (S : Nat → Bool) : Nat := ((List.range n).filter S).length

theorem cnt_le (n : Nat) (S : Nat → Bool) : cnt n S ≤ n := by
  have := List.length_filter_le S (List.range n)
  simpa [cnt] using this

theorem cnt_succ (n : Nat) (S : Nat → Bool) : cnt (n + 1) S = cnt n S + if S n then 1 else 0 := by
  unfold cnt
  rw [List.range_succ, List.filter_append, List.length_append]
  by_cases h : S n <;> simp [h]

theorem cnt_mono {n : Nat} {S T : Nat → Bool} (h : ∀ k, k < n → S k = true → T k = true) : cnt n S ≤ cnt n T := by
  induction n with
  | zero => simp [cnt]
  | succ n ih =>
    rw [cnt_succ, cnt_succ]
    have := ih (fun k hk => h k (by omega))
    have h2 := h n (by omega)
    by_cases hS : S n <;> by_cases hT : T n <;> simp_all <;> omega

theorem cnt_lt {n : Nat} {S T : Nat → Bool} (h : ∀ k, k < n → S k = true → T k = true) {j : Nat} (hj : j < n) (hS : S j = false) (hT : T j = true) : cnt n S < cnt n T := by
  induction n with
  | zero => omega
  | succ n ih =>
    rw [cnt_succ, cnt_succ]
    by_cases e : j = n
    · subst e
      have := cnt_mono (n := j) (S := S) (T := T) (fun k hk => h k (by omega))
      simp [hS, hT]; omega
    · have := ih (fun k hk => h k (by omega)) (by omega)
      have h2 := h n (by omega)
      by_cases hS : S n <;> by_cases hT : T n <;> simp_all <;> omega

theorem cnt_full {n : Nat} {S : Nat → Bool} (h : cnt n S = n) : ∀ k, k < n → S k = true := by
  intro k hk
  by_cases hS : S k
  · exact hS
  · have := cnt_lt (n := n) (S := S) (T := fun _ => true) (fun _ _ _ => rfl) hk (by simpa using hS) rfl
    have h2 := cnt_le n (fun _ => true)
    omega

/-! ### the longest way from a node from which no node that reaches itself is reached -/
def Acyc (succ : Nat → List Nat) (f : Nat) : Prop := ∀ k, (k = f ∨ Rch succ f k) → ¬ Rch succ k k

theorem Acyc.step {f k : Nat} (h : Acyc succ f) (hk : k ∈ succ f) : Acyc succ k := fun j hj => h j (.inr (by
  rcases hj with rfl | hj
  · exact .one hk
  · exact .head hk hj))

def maxL (l : List Nat) : Nat := l.foldl max 0
theorem foldl_max (l : List Nat) : ∀ a, l.foldl max a = max a (maxL l) := by
  unfold maxL
  induction l with
  | nil => intro a; simp
  | cons x l ih => intro a; simp only [List.foldl_cons]; rw [ih, ih (max 0 x)]; omega
theorem maxL_nil : maxL [] = 0 := rfl
theorem maxL_cons (x : Nat) (l : List Nat) : maxL (x :: l) = max x (maxL l) := by
  show List.foldl max (max 0 x) l = _
  rw [foldl_max]; omega
theorem maxL_append (l m : List Nat) : maxL (l ++ m) = max (maxL l) (maxL m) := by
  induction l with
  | nil => simp [maxL_nil]
  | cons x l ih => rw [List.cons_append, maxL_cons, maxL_cons, ih]; omega
theorem le_maxL {l : List Nat} {x : Nat} (h : x ∈ l) : x ≤ maxL l := by
  induction l with
  | nil => cases h
  | cons y l ih =>
    rw [maxL_cons]
    cases h with
    | head => omega
    | tail _ h => have := ih h; omega
theorem maxL_le {l : List Nat} {b : Nat} (h : ∀ x ∈ l, x ≤ b) : maxL l ≤ b := by
  induction l with
  | nil => simp [maxL_nil]
  | cons y l ih =>
    rw [maxL_cons]
    have := h y (by simp)
    have := ih (fun x hx => h x (by simp [hx]))
    omega
theorem maxL_mem {l : List Nat} (h : l ≠ []) : maxL l ∈ l := by
  induction l with
  | nil => exact absurd rfl h
  | cons y l ih =>
    rw [maxL_cons]
    by_cases e : l = []
    · subst e; simp [maxL_nil]
    · have := ih e
      rcases Nat.le_total y (maxL l) with h | h
      · rw [Nat.max_eq_right h]; simp [this]
      · rw [Nat.max_eq_left h]; simp

/-- the longest way, by fuel -/
def lng (succ : Nat → List Nat) : Nat → Nat → Nat
  | 0, _ => 0
  | m + 1, f => maxL ((succ f).map fun k => lng succ m k + 1)

theorem lng_succ (m f : Nat) : lng succ (m + 1) f = maxL ((succ f).map fun k => lng succ m k + 1) := rfl

section
variable {n : Nat} (hs : ∀ k l, l ∈ succ k → l < n)
include hs
open Classical in
theorem reach_card_lt {f k : Nat} (h : Acyc succ f) (hk : k ∈ succ f) :
    cnt n (fun j => decide (Rch succ k j)) < cnt n (fun j => decide (Rch succ f j)) :=
  cnt_lt (fun j _ hj => by simp only [decide_eq_true_eq] at *; exact .head hk hj) (hs _ _ hk)
    (by simpa using h k (.inr (.one hk)) ) (by simpa using Rch.one hk)

open Classical in
/-- more fuel than what is reached says nothing new -/
theorem lng_stable : ∀ (m m' f : Nat), Acyc succ f → cnt n (fun j => decide (Rch succ f j)) ≤ m → cnt n (fun j => decide (Rch succ f j)) ≤ m' → lng succ m f = lng succ m' f := by
  intro m
  induction m with
  | zero =>
    intro m' f ha h h'
    cases m' with
    | zero => rfl
    | succ m' =>
      have : succ f = [] := by
        rcases hsf : succ f with _ | ⟨k, l⟩
        · rfl
        · have := reach_card_lt hs ha (show k ∈ succ f by rw [hsf]; simp)
          omega
      rw [lng_succ, this]; rfl
  | succ m ih =>
    intro m' f ha h h'
    cases m' with
    | zero =>
      have : succ f = [] := by
        rcases hsf : succ f with _ | ⟨k, l⟩
        · rfl
        · have := reach_card_lt hs ha (show k ∈ succ f by rw [hsf]; simp)
          omega
      rw [lng_succ, this]; rfl
    | succ m' =>
      rw [lng_succ, lng_succ]
      congr 1
      apply List.map_congr_left
      intro k hk
      have := reach_card_lt hs ha hk
      rw [ih m' k (ha.step hk) (by omega) (by omega)]
end

/-- the longest way -/
def lngN (succ : Nat → List Nat) (n f : Nat) : Nat := lng succ n f

section
variable {n : Nat} (hs : ∀ k l, l ∈ succ k → l < n)
include hs
theorem lngN_eq {f : Nat} (h : Acyc succ f) : lngN succ n f = maxL ((succ f).map fun k => lngN succ n k + 1) := by
  classical
  have h1 : lngN succ n f = lng succ (n + 1) f := lng_stable hs _ _ _ h (cnt_le _ _) (by have := cnt_le n (fun j => decide (Rch succ f j)); omega)
  rw [h1, lng_succ]
  rfl
theorem lngN_le {f : Nat} (h : Acyc succ f) : lngN succ n f ≤ n := by
  classical
  have key : ∀ m f, Acyc succ f → lng succ m f ≤ cnt n (fun j => decide (Rch succ f j)) := by
    intro m
    induction m with
    | zero => intro f _; exact Nat.zero_le _
    | succ m ih =>
      intro f h
      rw [lng_succ]
      apply maxL_le
      intro x hx
      obtain ⟨k, hk, rfl⟩ := List.mem_map.1 hx
      have := ih k (h.step hk)
      have := reach_card_lt hs h hk
      omega
  exact Nat.le_trans (key n f h) (cnt_le _ _)
end

/-! ### the worklist -/
def restOf (succ : Nat → List Nat) (S : Nat → Bool) : Nat → Nat
  | 0 => 0
  | n + 1 => restOf succ S n + if S n then 0 else (succ n).length

def put (S : Nat → Bool) (k : Nat) : Nat → Bool := fun j => if j = k then true else S j

theorem restOf_put {S : Nat → Bool} {k n : Nat} (hk : S k = false) : restOf succ (put S k) n + (if k < n then (succ k).length else 0) = restOf succ S n := by
  induction n with
  | zero => simp [restOf]
  | succ n ih =>
    unfold restOf
    by_cases e : n = k
    · subst e
      have : ¬ n < n := by omega
      simp [put, hk, this] at ih ⊢
      omega
    · simp only [put, e, if_false] at ih ⊢
      by_cases h : k < n
      · have : k < n + 1 := by omega
        simp only [h, this, if_true] at ih ⊢
        omega
      · have : ¬ k < n + 1 := by omega
        simp only [h, this, if_false] at ih ⊢
        omega

theorem restOf_le {S : Nat → Bool} {m : Nat} (h : ∀ k, (succ k).length ≤ m) (n : Nat) : restOf succ S n ≤ n * m := by
  induction n with
  | zero => simp [restOf]
  | succ n ih =>
    unfold restOf
    have := h n
    rw [Nat.succ_mul]
    split <;> omega

structure Bfs (succ : Nat → List Nat) (n f : Nat) (wait : List Nat) (at_ : Nat) (S : Nat → Bool) : Prop where
  le : at_ ≤ wait.length
  sound : ∀ x ∈ wait, Rch succ f x
  start : ∀ x ∈ succ f, x ∈ wait
  put_ : ∀ k, S k = true → k < n ∧ Rch succ f k ∧ ∀ l ∈ succ k, l ∈ wait
  done : ∀ j, j < at_ → ∀ x, wait[j]? = some x → S x = true
  size : wait.length + restOf succ S n = (succ f).length + restOf succ (fun _ => false) n

theorem Bfs.init (n f : Nat) : Bfs succ n f (succ f) 0 (fun _ => false) :=
  ⟨Nat.zero_le _, fun _ h => .one h, fun _ h => h, fun _ h => (Bool.false_ne_true h).elim, (fun _ h => absurd h (Nat.not_lt_zero _)), rfl⟩

theorem Bfs.old {n f : Nat} {wait : List Nat} {i : Nat} {S : Nat → Bool} (h : Bfs succ n f wait i S) {k : Nat} (hk : wait[i]? = some k) (hS : S k = true) :
    Bfs succ n f wait (i + 1) S := by
  obtain ⟨hi, he⟩ := List.getElem?_eq_some_iff.1 hk
  refine ⟨by omega, h.sound, h.start, h.put_, fun j hj x hx => ?_, h.size⟩
  by_cases e : j = i
  · subst e
    rw [hk] at hx
    injection hx with hx
    subst hx
    exact hS
  · exact h.done j (by omega) x hx

theorem Bfs.new {n f : Nat} (hs : ∀ k l, l ∈ succ k → l < n) {wait : List Nat} {i : Nat} {S : Nat → Bool} (h : Bfs succ n f wait i S) {k : Nat} (hk : wait[i]? = some k) (hS : S k = false) :
    Bfs succ n f (wait ++ succ k) (i + 1) (put S k) := by
  obtain ⟨hi, he⟩ := List.getElem?_eq_some_iff.1 hk
  have hr : Rch succ f k := h.sound k (he ▸ List.getElem_mem hi)
  have hkn : k < n := hr.lt hs
  refine ⟨by simp; omega, fun x hx => ?_, fun x hx => by simp [h.start x hx], fun j hj => ?_, fun j hj x hx => ?_, ?_⟩
  · rcases List.mem_append.1 hx with hx | hx
    · exact h.sound x hx
    · exact .more hr hx
  · unfold put at hj
    by_cases e : j = k
    · subst e
      exact ⟨hkn, hr, fun l hl => by simp [hl]⟩
    · rw [if_neg e] at hj
      obtain ⟨a, b, c⟩ := h.put_ j hj
      exact ⟨a, b, fun l hl => by simp [c l hl]⟩
  · unfold put
    by_cases e : x = k
    · simp [e]
    · rw [if_neg e]
      by_cases e' : j = i
      · subst e'
        rw [List.getElem?_append_left hi, hk] at hx
        injection hx with hx
        exact absurd hx.symm e
      · rw [List.getElem?_append_left (by omega)] at hx
        exact h.done j (by omega) x hx
  · have := restOf_put (succ := succ) (n := n) hS
    have := h.size
    simp only [hkn, if_true] at *
    simp only [List.length_append]
    omega

theorem Bfs.end_ {n f : Nat} {wait : List Nat} {S : Nat → Bool} {i : Nat} (h : Bfs succ n f wait i S) (hi : wait.length ≤ i) (k : Nat) : S k = true ↔ Rch succ f k := by
  constructor
  · intro hS; exact (h.put_ k hS).2.1
  · intro hr
    have hall : ∀ x ∈ wait, S x = true := fun x hx => by
      obtain ⟨j, hj, he⟩ := List.getElem_of_mem hx
      exact h.done j (by omega) x (by rw [List.getElem?_eq_getElem hj, he])
    exact hr.closed (S := fun k => S k = true) (fun k hk => hall k (h.start k hk)) (fun k hk l hl => hall l ((h.put_ k hk).2.2 l hl))

theorem Bfs.length_le {n f m : Nat} {wait : List Nat} {S : Nat → Bool} {i : Nat} (h : Bfs succ n f wait i S) (hm : ∀ k, (succ k).length ≤ m) : wait.length ≤ (n + 1) * m := by
  have := h.size
  have := restOf_le (succ := succ) (S := fun _ => false) hm n
  have := hm f
  rw [Nat.succ_mul]
  omega

/-! ### rounds over all nodes, each time what is called by what is there -/
/-- one visit of node k -/
def visit (succ : Nat → List Nat) (f : Nat) (S : Nat → Bool) (k : Nat) : Nat → Bool :=
  if k = f ∨ S k = true then fun j => if j ∈ succ k then true else S j else S
/-- the visits of nodes 0 .. m-1 -/
def visits (succ : Nat → List Nat) (f : Nat) (S : Nat → Bool) : Nat → Nat → Bool
  | 0 => S
  | m + 1 => visit succ f (visits succ f S m) m
/-- so many rounds -/
def rounds_ (succ : Nat → List Nat) (n f : Nat) : Nat → Nat → Bool
  | 0 => fun _ => false
  | r + 1 => visits succ f (rounds_ succ n f r) n

theorem visit_mono {f : Nat} {S : Nat → Bool} {k j : Nat} (h : S j = true) : visit succ f S k j = true := by
  unfold visit
  split
  · simp [h]
  · exact h
theorem visits_mono {f : Nat} {S : Nat → Bool} {j : Nat} (h : S j = true) (m : Nat) : visits succ f S m j = true := by
  induction m with
  | zero => exact h
  | succ m ih => exact visit_mono ih
theorem visits_mono_le {f : Nat} {S : Nat → Bool} {j m m' : Nat} (hm : m ≤ m') (h : visits succ f S m j = true) : visits succ f S m' j = true := by
  induction hm with
  | refl => exact h
  | step _ ih => exact visit_mono ih
theorem visit_sound {f : Nat} {S : Nat → Bool} (h : ∀ j, S j = true → Rch succ f j) (k j : Nat) (hj : visit succ f S k j = true) : Rch succ f j := by
  unfold visit at hj
  split at hj
  · rename_i hk
    by_cases e : j ∈ succ k
    · rcases hk with rfl | hk
      · exact .one e
      · exact .more (h k hk) e
    · simp only [e, if_false] at hj; exact h j hj
  · exact h j hj
theorem visits_sound {f : Nat} {S : Nat → Bool} (h : ∀ j, S j = true → Rch succ f j) (m j : Nat) (hj : visits succ f S m j = true) : Rch succ f j := by
  induction m generalizing j with
  | zero => exact h j hj
  | succ m ih => exact visit_sound ih m j hj
theorem rounds_sound {n f : Nat} (r j : Nat) (hj : rounds_ succ n f r j = true) : Rch succ f j := by
  induction r generalizing j with
  | zero => cases hj
  | succ r ih => exact visits_sound ih n j hj
/-- a round that adds nothing has found a closed set -/
theorem visits_closed {f n : Nat} {S : Nat → Bool} (h : ∀ j, visits succ f S n j = true → S j = true) (k : Nat) (hk : k < n) (hkS : S k = true ∨ k = f) (l : Nat) (hl : l ∈ succ k) : S l = true := by
  apply h
  have : visits succ f S (k + 1) l = true := by
    show visit succ f (visits succ f S k) k l = true
    unfold visit
    rw [if_pos (by
      rcases hkS with h | h
      · exact .inr (visits_mono h k)
      · exact .inl h)]
    simp [hl]
  exact visits_mono_le (show k + 1 ≤ n by omega) this

theorem rounds_count {n f : Nat} (hs : ∀ k l, l ∈ succ k → l < n) (hf : f < n) (r : Nat) :
    (∀ j, Rch succ f j → rounds_ succ n f r j = true) ∨ r ≤ cnt n (rounds_ succ n f r) := by
  induction r with
  | zero => exact .inr (Nat.zero_le _)
  | succ r ih =>
    rcases ih with h | h
    · exact .inl fun j hj => visits_mono (h j hj) n
    · by_cases hc : ∀ j, visits succ f (rounds_ succ n f r) n j = true → rounds_ succ n f r j = true
      · left
        intro j hj
        have hcl := visits_closed hc
        have : rounds_ succ n f r j = true := hj.closed' (S := fun k => rounds_ succ n f r k = true) (fun k hk l hl => by
          rcases hk with hk | rfl
          · exact hcl k ((rounds_sound r k hk).lt hs) (.inl hk) l hl
          · exact hcl k hf (.inr rfl) l hl)
        exact visits_mono this n
      · right
        have hc' : ∃ j, visits succ f (rounds_ succ n f r) n j = true ∧ rounds_ succ n f r j = false := by
          apply Classical.byContradiction
          intro hn
          apply hc
          intro j hj
          rcases hb : rounds_ succ n f r j with _ | _
          · exact absurd ⟨j, hj, hb⟩ hn
          · rfl
        obtain ⟨j, hj, hb⟩ := hc'
        have hjn : j < n := (rounds_sound (n := n) (r + 1) j hj).lt hs
        have := cnt_lt (n := n) (S := rounds_ succ n f r) (T := rounds_ succ n f (r + 1)) (fun k _ hk => visits_mono hk n) hjn hb hj
        omega

theorem rounds_end {n f : Nat} (hs : ∀ k l, l ∈ succ k → l < n) (hf : f < n) (j : Nat) : rounds_ succ n f n j = true ↔ Rch succ f j := by
  refine ⟨rounds_sound n j, fun hj => ?_⟩
  rcases rounds_count hs hf n with h | h
  · exact h j hj
  · exact cnt_full (Nat.le_antisymm (cnt_le _ _) h) j (hj.lt hs)

/-! ### depths by rounds -/
def relax1 (n : Nat) (d : Nat → Nat) (k : Nat) (l : Nat) : Nat → Nat := fun j => if j = k then min (max (d k) (d l + 1)) n else d j
def relaxL (n : Nat) (k : Nat) (d : Nat → Nat) (l : List Nat) : Nat → Nat := l.foldl (fun d l => relax1 n d k l) d
def relaxK (succ : Nat → List Nat) (n : Nat) (d : Nat → Nat) : Nat → Nat → Nat
  | 0 => d
  | m + 1 => relaxL n m (relaxK succ n d m) (succ m)
def relaxR (succ : Nat → List Nat) (n : Nat) : Nat → Nat → Nat
  | 0 => fun _ => 0
  | r + 1 => relaxK succ n (relaxR succ n r) n

section
variable {n : Nat}
theorem relaxL_cons (k : Nat) (d : Nat → Nat) (x : Nat) (l : List Nat) : relaxL n k d (x :: l) = relaxL n k (relax1 n d k x) l := rfl
theorem relaxL_snoc (k : Nat) (d : Nat → Nat) (x : Nat) (l : List Nat) : relaxL n k d (l ++ [x]) = relax1 n (relaxL n k d l) k x := by
  unfold relaxL; rw [List.foldl_append]; rfl
theorem relax1_cap {d : Nat → Nat} (h : ∀ j, d j ≤ n) (k l j : Nat) : relax1 n d k l j ≤ n := by
  unfold relax1; split
  · omega
  · exact h j
theorem relaxL_cap {d : Nat → Nat} (h : ∀ j, d j ≤ n) (k : Nat) (l : List Nat) : ∀ j, relaxL n k d l j ≤ n := by
  induction l generalizing d with
  | nil => exact h
  | cons x l ih => exact ih (relax1_cap h k x)
theorem relaxK_cap {d : Nat → Nat} (h : ∀ j, d j ≤ n) (m : Nat) : ∀ j, relaxK succ n d m j ≤ n := by
  induction m with
  | zero => exact h
  | succ m ih => exact relaxL_cap ih _ _
theorem relaxR_cap (r : Nat) : ∀ j, relaxR succ n r j ≤ n := by
  induction r with
  | zero => intro j; exact Nat.zero_le _
  | succ r ih => exact relaxK_cap ih _

/-- on nodes from which no circle is reached: no more than the longest way -/
def Upper (succ : Nat → List Nat) (n : Nat) (d : Nat → Nat) : Prop := ∀ k, Acyc succ k → d k ≤ lngN succ n k
theorem relax1_upper (hs : ∀ k l, l ∈ succ k → l < n) {d : Nat → Nat} (h : Upper succ n d) {k l : Nat} (hl : l ∈ succ k) : Upper succ n (relax1 n d k l) := by
  intro j hj
  unfold relax1
  split
  · rename_i e; subst e
    have h1 := h j hj
    have h2 := h l (hj.step hl)
    have h3 : lngN succ n l + 1 ≤ lngN succ n j := by
      rw [lngN_eq hs hj]
      exact le_maxL (List.mem_map.2 ⟨l, hl, rfl⟩)
    omega
  · exact h j hj
theorem relaxL_upper (hs : ∀ k l, l ∈ succ k → l < n) {d : Nat → Nat} (h : Upper succ n d) {k : Nat} {l : List Nat} (hl : ∀ x ∈ l, x ∈ succ k) : Upper succ n (relaxL n k d l) := by
  induction l generalizing d with
  | nil => exact h
  | cons x l ih => exact ih (relax1_upper hs h (hl x (by simp))) (fun y hy => hl y (by simp [hy]))
theorem relaxK_upper (hs : ∀ k l, l ∈ succ k → l < n) {d : Nat → Nat} (h : Upper succ n d) (m : Nat) : Upper succ n (relaxK succ n d m) := by
  induction m with
  | zero => exact h
  | succ m ih => exact relaxL_upper hs ih (fun _ h => h)
theorem relaxR_upper (hs : ∀ k l, l ∈ succ k → l < n) (r : Nat) : Upper succ n (relaxR succ n r) := by
  induction r with
  | zero => intro k _; exact Nat.zero_le _
  | succ r ih => exact relaxK_upper hs ih _

theorem relax1_mono {d : Nat → Nat} (h : ∀ j, d j ≤ n) (k l j : Nat) : d j ≤ relax1 n d k l j := by
  unfold relax1; split
  · rename_i e; subst e; have := h j; omega
  · exact Nat.le_refl _
theorem relaxL_mono {d : Nat → Nat} (h : ∀ j, d j ≤ n) (k : Nat) (l : List Nat) : ∀ j, d j ≤ relaxL n k d l j := by
  induction l generalizing d with
  | nil => intro j; exact Nat.le_refl _
  | cons x l ih => intro j; exact Nat.le_trans (relax1_mono h k x j) (ih (relax1_cap h k x) j)
theorem relaxL_ge {d : Nat → Nat} (h : ∀ j, d j ≤ n) (k : Nat) (l : List Nat) (x : Nat) (hx : x ∈ l) : min (d x + 1) n ≤ relaxL n k d l k := by
  induction l generalizing d with
  | nil => cases hx
  | cons y l ih =>
    cases hx with
    | head =>
      refine Nat.le_trans ?_ (relaxL_mono (relax1_cap h k x) k l k)
      unfold relax1; simp; omega
    | tail _ hx =>
      refine Nat.le_trans ?_ (ih (relax1_cap h k y) hx)
      have h1 : d x ≤ relax1 n d k y x := relax1_mono h k y x
      show min (d x + 1) n ≤ min (relax1 n d k y x + 1) n
      omega
theorem relaxL_other {d : Nat → Nat} (k : Nat) (l : List Nat) {j : Nat} (hj : j ≠ k) : relaxL n k d l j = d j := by
  induction l generalizing d with
  | nil => rfl
  | cons x l ih => rw [relaxL_cons, ih]; simp [relax1, hj]
theorem relaxK_mono {d : Nat → Nat} (h : ∀ j, d j ≤ n) (m : Nat) : ∀ j, d j ≤ relaxK succ n d m j := by
  induction m with
  | zero => intro j; exact Nat.le_refl _
  | succ m ih => intro j; exact Nat.le_trans (ih j) (relaxL_mono (relaxK_cap h m) _ _ j)
theorem relaxK_ge {d : Nat → Nat} (h : ∀ j, d j ≤ n) {m k : Nat} (hk : k < m) {x : Nat} (hx : x ∈ succ k) : min (d x + 1) n ≤ relaxK succ n d m k := by
  induction m with
  | zero => omega
  | succ m ih =>
    by_cases e : k = m
    · subst e
      refine Nat.le_trans ?_ (relaxL_ge (relaxK_cap h k) k (succ k) x hx)
      have := relaxK_mono (succ := succ) h k x
      omega
    · show _ ≤ relaxL n m (relaxK succ n d m) (succ m) k
      rw [relaxL_other m (succ m) e]
      exact ih (by omega)
theorem relaxR_lower (hs : ∀ k l, l ∈ succ k → l < n) (r : Nat) : ∀ k, k < n → Acyc succ k → min (lngN succ n k) r ≤ relaxR succ n r k := by
  induction r with
  | zero => intro k _ _; omega
  | succ r ih =>
    intro k hk ha
    rw [lngN_eq hs ha]
    show _ ≤ relaxK succ n (relaxR succ n r) n k
    by_cases e : (succ k).map (fun k => lngN succ n k + 1) = []
    · rw [e, maxL_nil]; omega
    · obtain ⟨x, hx, hm⟩ := List.mem_map.1 (maxL_mem e)
      rw [← hm]
      have h1 := ih x (hs _ _ hx) (ha.step hx)
      have h2 := relaxK_ge (n := n) (succ := succ) (d := relaxR succ n r) (relaxR_cap (succ := succ) r) hk hx
      have h3 := lngN_le hs ha
      have h4 : lngN succ n x + 1 ≤ lngN succ n k := by
        rw [lngN_eq hs ha]; exact le_maxL (List.mem_map.2 ⟨x, hx, rfl⟩)
      omega
theorem relaxR_end (hs : ∀ k l, l ∈ succ k → l < n) {k : Nat} (hk : k < n) (ha : Acyc succ k) : relaxR succ n n k = lngN succ n k := by
  have h1 := relaxR_upper hs n k ha
  have h2 := relaxR_lower hs n k hk ha
  have h3 := lngN_le hs ha
  omega
end
end Mu
