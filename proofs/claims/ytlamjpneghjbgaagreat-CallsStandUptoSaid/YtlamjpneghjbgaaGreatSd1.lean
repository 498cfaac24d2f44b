/-
  Own texts laid together, part 1: MuM, MuTy, MuApi, MuAt, MuInR, MuAbs, MuAwp, MuFn, MuOps, MuFlat, MuMem, MuOwn, MuOwn2, MuOwn3, MuOwn4, MuWalk, Shelf, MuLib, MuGraph, MuCallsP, MuBulk, MuRows, MuOwnT, MuReads, MuMisc, MuShape.
  Conditions: as each part says.
-/
import Derived.Lib.Hide
import Derived.WalkKit
import Derived.ProofKit
import Derived.Deep.Slices
import Derived.Test.YtlamjpneghjbgaaGreatRows
import Derived.RangeFuncLeaves
import Derived.RangeFuncCalls
import Derived.RangeFuncRecord
import Derived.OrdersIn
import Derived.Orders
import Derived.Deep.RegionHeld
import Derived.TacticsIn
import Derived.StillTail
import Derived.Scope
import Derived.Maps.AppendAt
import Derived.Deep.AppendLies
import Derived.RegionTactic
import Derived.Deep.Draws
import Derived.Deep.OwnRows
import Derived.Shelf.Small.Bits
import Derived.Shelf.Small.Wraps
import Derived.Shelf.Strconv.Itoa0
import Derived.Shelf.Sort.Plain
import Derived.Shelf.Slices.Turned
import Derived.Ground.Names2Prog
import Derived.Shelf.Slices.Clone
import Derived.Shelf.Slices.CompactI
import Derived.Shelf.Slices.SearchI
import Derived.Shelf.Slices.Cells
import Derived.Shelf.Slices.In.SortNone
import Derived.Test.YtlamjpneghjbgaaGreatProg
import Derived.Sort.OwnSortedInts
import Derived.Lib.SlicesCompact
import Derived.BigQuiet
import Derived.BigRegion
import Derived.Deep.RegionHeld3
import Derived.Deep.RegionLaw
import Derived.Laws.AppendOwnNone
import Derived.Maps.OwnSet
import Derived.WalkSpells
set_option linter.unusedSimpArgs false
set_option linter.unusedVariables false
section
/-
  What functions compute, as plain functions that answer once they are given rounds enough; their loops.
  Conditions: none; plain Lean.
-/
namespace Mu

/-- an answer, once there are rounds enough -/
structure M (α : Type) where
  run : Nat → Option α
  mono : ∀ n a, run n = some a → run (n + 1) = some a
namespace M
variable {α β σ ρ : Type}
/-- it answers so -/
def to (x : M α) (a : α) : Prop := ∃ n, x.run n = some a
theorem le (x : M α) {n m : Nat} {a : α} (h : n ≤ m) (hx : x.run n = some a) : x.run m = some a := by
  induction h with
  | refl => exact hx
  | step _ ih => exact x.mono _ _ ih
def ok (a : α) : M α := ⟨fun _ => some a, fun _ _ h => h⟩
def no : M α := ⟨fun _ => none, fun _ _ h => h⟩
def bnd (x : M α) (f : α → M β) : M β := ⟨fun n => (x.run n).bind fun a => (f a).run n, fun n b h => by
  cases hx : x.run n with
  | none => rw [hx] at h; cases h
  | some a =>
    rw [hx] at h
    rw [x.mono _ _ hx]
    exact (f a).mono _ _ h⟩
/-- only where that is so -/
def chk (p : Bool) (x : M α) : M α := bif p then x else no
def cnd (c : Bool) (x y : M α) : M α := bif c then x else y
/-- only when that is so, else it does not matter -/
def whn (c : Bool) (d : α) (x : M α) : M α := bif c then x else ok d
/-- what leads on, or out -/
def els (x : M (α ⊕ β)) (f : α → M β) : M β := bnd x fun | .inl a => f a | .inr b => ok b
def loopR (step : σ → M (σ ⊕ ρ)) (n : Nat) : Nat → σ → Option ρ
  | 0, _ => none
  | k + 1, s => ((step s).run n).bind fun | .inl s' => loopR step n k s' | .inr r => some r
theorem loopR_mono {step : σ → M (σ ⊕ ρ)} {n : Nat} {r : ρ} : ∀ {k : Nat} {s : σ}, loopR step n k s = some r → loopR step (n + 1) (k + 1) s = some r
  | 0, _, h => by cases h
  | k + 1, s, h => by
    unfold loopR at h ⊢
    cases hx : (step s).run n with
    | none => rw [hx] at h; cases h
    | some x =>
      rw [hx] at h
      rw [(step s).mono _ _ hx]
      cases x with
      | inl s' => exact loopR_mono (k := k) h
      | inr r' => exact h
def loop (step : σ → M (σ ⊕ ρ)) (s : σ) : M ρ := ⟨fun n => loopR step n n s, fun _ _ h => loopR_mono h⟩

theorem to_ok {a b : α} : (ok a).to b ↔ a = b := ⟨fun ⟨_, h⟩ => Option.some.inj h, fun h => ⟨0, congrArg some h⟩⟩
theorem ok_to (a : α) : (ok a).to a := to_ok.2 rfl
theorem to_no {a : α} : ¬ (no : M α).to a := fun ⟨_, h⟩ => by cases h
theorem to_bnd {x : M α} {f : α → M β} {b : β} : (bnd x f).to b ↔ ∃ a, x.to a ∧ (f a).to b := by
  constructor
  · rintro ⟨n, h⟩
    have h : (x.run n).bind (fun a => (f a).run n) = some b := h
    cases hx : x.run n with
    | none => rw [hx] at h; cases h
    | some a =>
      rw [hx] at h
      exact ⟨a, ⟨n, hx⟩, ⟨n, h⟩⟩
  · rintro ⟨a, ⟨n, hn⟩, ⟨m, hm⟩⟩
    refine ⟨max n m, ?_⟩
    show (x.run (max n m)).bind _ = _
    rw [x.le (Nat.le_max_left n m) hn]
    exact (f a).le (Nat.le_max_right n m) hm
theorem bnd_to {x : M α} {f : α → M β} {a : α} {b : β} (h : x.to a) (k : (f a).to b) : (bnd x f).to b := to_bnd.2 ⟨a, h, k⟩
theorem to_chk {p : Bool} {x : M α} {a : α} : (chk p x).to a ↔ p = true ∧ x.to a := by
  cases p
  · exact ⟨fun h => (to_no h).elim, fun h => by cases h.1⟩
  · exact ⟨fun h => ⟨rfl, h⟩, fun h => h.2⟩
theorem chk_to {p : Bool} {x : M α} {a : α} (h : p = true) (k : x.to a) : (chk p x).to a := to_chk.2 ⟨h, k⟩
theorem to_t {c : Bool} {x y : M α} {a : α} (hc : c = true) (h : (cnd c x y).to a) : x.to a := by subst hc; exact h
theorem to_f {c : Bool} {x y : M α} {a : α} (hc : c = false) (h : (cnd c x y).to a) : y.to a := by subst hc; exact h
theorem t_to {c : Bool} {x y : M α} {a : α} (hc : c = true) (h : x.to a) : (cnd c x y).to a := by subst hc; exact h
theorem f_to {c : Bool} {x y : M α} {a : α} (hc : c = false) (h : y.to a) : (cnd c x y).to a := by subst hc; exact h
theorem to_whn {c : Bool} {d : α} {x : M α} {a : α} (h : (whn c d x).to a) (hc : c = true) : x.to a := by subst hc; exact h
theorem whn_t {c : Bool} {d : α} {x : M α} {a : α} (hc : c = true) (h : x.to a) : (whn c d x).to a := by subst hc; exact h
theorem whn_f {c : Bool} {d : α} {x : M α} (hc : c = false) : (whn c d x).to d := by subst hc; exact ok_to d
/-- a loop's rounds -/
inductive Rounds (step : σ → M (σ ⊕ ρ)) : Nat → σ → ρ → Prop
  | out {k : Nat} {s : σ} {r : ρ} : (step s).to (.inr r) → Rounds step k s r
  | on {k : Nat} {s s' : σ} {r : ρ} : (step s).to (.inl s') → Rounds step k s' r → Rounds step (k + 1) s r
theorem rounds_of {step : σ → M (σ ⊕ ρ)} {n : Nat} {r : ρ} : ∀ {k : Nat} {s : σ}, loopR step n k s = some r → Rounds step k s r
  | 0, _, h => by cases h
  | k + 1, s, h => by
    unfold loopR at h
    cases hx : (step s).run n with
    | none => rw [hx] at h; cases h
    | some x =>
      rw [hx] at h
      cases x with
      | inl s' => exact .on ⟨n, hx⟩ (rounds_of (k := k) h)
      | inr r' => cases h; exact .out ⟨n, hx⟩
theorem loop_unf {step : σ → M (σ ⊕ ρ)} {s : σ} {r : ρ} {x : σ ⊕ ρ} (h : (step s).to x) (hn : ∀ s', x = .inl s' → (loop step s').to r) (hr : ∀ r', x = .inr r' → r' = r) : (loop step s).to r := by
  obtain ⟨n, hx⟩ := h
  cases x with
  | inr r' =>
    refine ⟨n + 1, ?_⟩
    show loopR step (n + 1) (n + 1) s = some r
    unfold loopR
    rw [(step s).mono _ _ hx, ← hr r' rfl]
    rfl
  | inl s' =>
    obtain ⟨m, hm⟩ := hn s' rfl
    have hm : loopR step m m s' = some r := hm
    have up : ∀ d, loopR step (m + d) (m + d) s' = some r := fun d => by
      induction d with
      | zero => exact hm
      | succ d ih => exact loopR_mono ih
    refine ⟨m + n + 1, ?_⟩
    show loopR step (m + n + 1) (m + n + 1) s = some r
    unfold loopR
    rw [(step s).le (by omega) hx]
    have hw : ∀ {k q : Nat} {s : σ}, loopR step q k s = some r → loopR step (q + 1) k s = some r := by
      intro k
      induction k with
      | zero => intro q s h; cases h
      | succ k ih =>
        intro q s h
        unfold loopR at h ⊢
        cases hx : (step s).run q with
        | none => rw [hx] at h; cases h
        | some x =>
          rw [hx] at h
          rw [(step s).mono _ _ hx]
          cases x with
          | inl s' => exact ih h
          | inr r' => exact h
    exact hw (up n)
theorem loop_in {step : σ → M (σ ⊕ ρ)} {s s' : σ} {r : ρ} (h : (step s).to (.inl s')) (k : (loop step s').to r) : (loop step s).to r := loop_unf h (fun a e => by cases e; exact k) fun a e => by cases e
theorem loop_out {step : σ → M (σ ⊕ ρ)} {s : σ} {r : ρ} (h : (step s).to (.inr r)) : (loop step s).to r := loop_unf h (fun a e => by cases e) fun a e => by cases e; rfl
theorem to_loop {step : σ → M (σ ⊕ ρ)} {s : σ} {r : ρ} : (loop step s).to r ↔ ∃ k, Rounds step k s r := by
  constructor
  · rintro ⟨n, h⟩
    exact ⟨n, rounds_of h⟩
  · rintro ⟨k, h⟩
    induction h with
    | out h => exact loop_out h
    | on h _ ih => exact loop_in h ih
/-- what holds from round to round, and falls -/
theorem loop_inv {step : σ → M (σ ⊕ ρ)} (I : σ → Prop) (mu : σ → Nat) (Q : ρ → Prop) (h : ∀ s, I s → ∃ x, (step s).to x ∧ (∀ s', x = .inl s' → I s' ∧ mu s' < mu s) ∧ ∀ r, x = .inr r → Q r) : ∀ s, I s → ∃ r, (loop step s).to r ∧ Q r := by
  intro s
  generalize hn : mu s = n
  induction n using Nat.strongRecOn generalizing s with
  | _ n ih =>
    intro hs
    obtain ⟨x, h1, h2, h3⟩ := h s hs
    cases x with
    | inr r => exact ⟨r, loop_out h1, h3 r rfl⟩
    | inl s' =>
      obtain ⟨k1, k2⟩ := h2 s' rfl
      obtain ⟨r, h4, h5⟩ := ih (mu s') (by omega) s' rfl k1
      exact ⟨r, loop_in h1 h4, h5⟩
end M
end Mu
end
section
/-
  Readings of Go data as plain Lean data: a 'Ty' says how cells in a world stand for a plain value; such a reading is kept while the blocks below a bound stay as they are.
  Conditions: none; generic, no program in sight.
-/
namespace Mu
open Go Go.RowKit Go.ChangeShapes Go.WideShapes

/-- the cells from an address on -/
def CellsAt (w : World) (b o : Nat) (cs : List Value) : Prop := ∀ j u, cs[j]? = some u → w.cell? ⟨b, o + j, none⟩ = some u

theorem CellsAt.keep {w w' : World} {b o : Nat} {cs : List Value} (h : CellsAt w b o cs) (hb : w'.heap[b]? = w.heap[b]?) : CellsAt w' b o cs :=
  fun j u hu => (World.cell?_of_block (w := w) (a := ⟨b, o + j, none⟩) hb).trans (h j u hu)

/-- a reading: the cells stand for d, and all blocks that are reached are among those of S -/
structure Ty (α : Type) where
  size : Nat
  bulk : α → Nat
  RS : World → (Nat → Prop) → List Value → α → Prop
  len : ∀ {w S cs d}, RS w S cs d → cs.length = size
  keepS : ∀ {w w' : World} {S S' : Nat → Prop} {cs d}, RS w S cs d → (∀ k, S k → w'.heap[k]? = w.heap[k]?) → (∀ k, S k → S' k) → RS w' S' cs d

variable {α β : Type}

/-- .. all blocks below B -/
def Ty.R (T : Ty α) (w : World) (B : Nat) (cs : List Value) (d : α) : Prop := T.RS w (fun k => k < B) cs d

theorem Ty.keep {T : Ty α} {w w' : World} {B B' : Nat} {cs d} (h : T.R w B cs d) (hb : ∀ k, k < B → w'.heap[k]? = w.heap[k]?) (hB : B ≤ B') : T.R w' B' cs d :=
  T.keepS h hb (fun _ hk => Nat.lt_of_lt_of_le hk hB)
theorem Ty.toR {T : Ty α} {w : World} {S : Nat → Prop} {B : Nat} {cs d} (h : T.RS w S cs d) (hB : ∀ k, S k → k < B) : T.R w B cs d := T.keepS h (fun _ _ => rfl) hB
theorem Ty.below {T : Ty α} {w w' : World} {B : Nat} {cs d} (h : T.R w B cs d) (hb : Below B w w') (hB : B ≤ w'.heap.size) : T.R w' w'.heap.size cs d :=
  T.keep h hb.block hB
/-- one element at an address -/
def Ty.AtS (T : Ty α) (w : World) (S : Nat → Prop) (b o : Nat) (d : α) : Prop := S b ∧ ∃ cs, T.RS w S cs d ∧ CellsAt w b o cs
def Ty.At (T : Ty α) (w : World) (B b o : Nat) (d : α) : Prop := T.AtS w (fun k => k < B) b o d

theorem Ty.AtS.keep {T : Ty α} {w w' : World} {S S' : Nat → Prop} {b o : Nat} {d : α} (h : T.AtS w S b o d) (hb : ∀ k, S k → w'.heap[k]? = w.heap[k]?) (hS : ∀ k, S k → S' k) : T.AtS w' S' b o d :=
  let ⟨h1, cs, h2, h3⟩ := h
  ⟨hS b h1, cs, T.keepS h2 hb hS, h3.keep (hb b h1)⟩

/-! ### integers, bools, strings -/
def Ty.int (k : IntKind) : Ty Int where
  size := 1
  bulk := fun _ => 1
  RS := fun _ _ cs d => cs = [.int k d] ∧ (Lit.int k d).wf = true
  len := by rintro _ _ _ _ ⟨rfl, _⟩; rfl
  keepS := fun h _ _ => h
def Ty.bool : Ty Bool where
  size := 1
  bulk := fun _ => 1
  RS := fun _ _ cs d => cs = [.bool d]
  len := by rintro _ _ _ _ rfl; rfl
  keepS := fun h _ _ => h
def Ty.str : Ty ByteArray where
  size := 1
  bulk := fun s => s.size + 1
  RS := fun _ _ cs d => cs = [.string d] ∧ d.size ≤ maxLen
  len := by rintro _ _ _ _ ⟨rfl, _⟩; rfl
  keepS := fun h _ _ => h

/-! ### slices -/
def bulkL (f : α → Nat) : List α → Nat
  | [] => 0
  | x :: l => f x + bulkL f l

theorem bulkL_append (f : α → Nat) (l m : List α) : bulkL f (l ++ m) = bulkL f l + bulkL f m := by
  induction l with
  | nil => simp [bulkL]
  | cons x l ih => simp only [List.cons_append, bulkL, ih]; omega
theorem bulkL_mem {f : α → Nat} {l : List α} {x : α} (h : x ∈ l) : f x ≤ bulkL f l := by
  induction l with
  | nil => cases h
  | cons y l ih =>
    unfold bulkL
    cases h with
    | head => omega
    | tail _ h => have := ih h; omega
theorem bulkL_length {f : α → Nat} (hf : ∀ x, 1 ≤ f x) (l : List α) : l.length ≤ bulkL f l := by
  induction l with
  | nil => simp [bulkL]
  | cons y l ih => unfold bulkL; have := hf y; simp only [List.length_cons]; omega

def Ty.slice (T : Ty α) : Ty (List α) where
  size := 1
  bulk := fun ds => bulkL T.bulk ds + 1
  RS := fun w S cs ds => ∃ A c, cs = [.slice A ds.length c] ∧ ds.length ≤ c ∧ (c ≤ maxLen ∧ (A = none → c = 0)) ∧ ∀ i d, ds[i]? = some d → ∃ b o, A = some ⟨b, o, none⟩ ∧ T.AtS w S b (o + i * T.size) d
  len := by rintro _ _ _ _ ⟨A, c, rfl, _⟩; rfl
  keepS := by
    rintro w w' S S' cs ds ⟨A, c, rfl, hl, hc, hi⟩ hb hS
    refine ⟨A, c, rfl, hl, hc, fun i d hd => ?_⟩
    obtain ⟨b, o, rfl, h⟩ := hi i d hd
    exact ⟨b, o, rfl, h.keep hb hS⟩

theorem Ty.slice_nilS (T : Ty α) (w : World) (S : Nat → Prop) : T.slice.RS w S [.slice none 0 0] [] := ⟨none, 0, rfl, Nat.le_refl _, ⟨Nat.zero_le _, fun _ => rfl⟩, by simp⟩
theorem Ty.slice_nil (T : Ty α) (w : World) (B : Nat) : T.slice.R w B [.slice none 0 0] [] := T.slice_nilS w _

/-! ### rows of fields -/
def Ty.none_ : Ty Unit where
  size := 0
  bulk := fun _ => 0
  RS := fun _ _ cs _ => cs = []
  len := by rintro _ _ _ _ rfl; rfl
  keepS := fun h _ _ => h
def Ty.cons (T : Ty α) (U : Ty β) : Ty (α × β) where
  size := T.size + U.size
  bulk := fun d => T.bulk d.1 + U.bulk d.2
  RS := fun w S cs d => ∃ c1 c2, cs = c1 ++ c2 ∧ T.RS w S c1 d.1 ∧ U.RS w S c2 d.2
  len := by
    rintro _ _ _ _ ⟨c1, c2, rfl, h1, h2⟩
    rw [List.length_append, T.len h1, U.len h2]
  keepS := by
    rintro w w' S S' cs d ⟨c1, c2, rfl, h1, h2⟩ hb hS
    exact ⟨c1, c2, rfl, T.keepS h1 hb hS, U.keepS h2 hb hS⟩
def Ty.via (U : Ty β) (f : β → α) (g : α → β) : Ty α where
  size := U.size
  bulk := fun d => U.bulk (g d) + 1
  RS := fun w S cs d => U.RS w S cs (g d) ∧ f (g d) = d
  len := fun h => U.len h.1
  keepS := fun h hb hS => ⟨U.keepS h.1 hb hS, h.2⟩

/-! ### what can be read is so -/
def bulkD {H : Type} : DataW H → Nat
  | .lit (.string bytes) => bytes.length + 1
  | .slice elems spare => go elems + go spare + 1
  | .agg parts => go parts + 1
  | _ => 1
where go : List (DataW H) → Nat
  | [] => 0
  | d :: r => bulkD d + go r

theorem bulkD_go_append {H : Type} (l m : List (DataW H)) : bulkD.go (l ++ m) = bulkD.go l + bulkD.go m := by
  induction l with
  | nil => simp [bulkD.go]
  | cons x l ih => simp only [List.cons_append, bulkD.go, ih]; omega

structure Opens (P : Program) (t : TypeId) (T : Ty α) : Prop where
  go : ∀ (H : Type) (enc : TypeId × Value → H) (w : World) (base : Nat) (spare : Nat → Bool) (held : Bool) (n : Nat) (cs : List Value) (x : DataW H × List MemPlace) (B : Nat),
    DataW.trod enc P w base spare held n t cs = some x → (∀ p ∈ x.2, p.block < B) → ∃ d, T.R w B cs d ∧ T.bulk d ≤ bulkD x.1

theorem opens_int {P : Program} {t : TypeId} {k : IntKind} (ht : P.underlying t = some (.int k)) : Opens P t (Ty.int k) := by
  refine ⟨fun H enc => ?_⟩
  intro w base spare held n cs x B h _
  obtain ⟨m, rfl, rfl, hw⟩ := DataW.trod_int ht h
  exact ⟨m, ⟨rfl, hw⟩, by simp [Ty.int, bulkD]⟩
theorem opens_str {P : Program} {t : TypeId} (ht : P.underlying t = some .string) : Opens P t Ty.str := by
  refine ⟨fun H enc => ?_⟩
  intro w base spare held n cs x B h _
  obtain ⟨s, rfl, rfl, hw⟩ := DataW.trod_string ht h
  refine ⟨s, ⟨rfl, hw⟩, ?_⟩
  have : s.data.toList.length = s.size := by rw [Array.length_toList]; rfl
  show s.size + 1 ≤ s.data.toList.length + 1
  omega

theorem cellsAt_of_cells? {w : World} {base n : Nat} {a : Addr} {cs : List Value} (h : w.cells? base a n = some cs) (hn : 0 < n) : a.spot = none ∧ CellsAt w a.block a.off cs := by
  obtain ⟨hb, hl, hat⟩ := World.cells?_some h
  have hs : a.spot = none := by
    have h0 := hat 0 hn
    rw [show a.add 0 = a from by simp [Addr.add]] at h0
    have hv : cs[0]? = some (cs[0]'(by omega)) := List.getElem?_eq_getElem (by omega)
    rw [hv] at h0
    unfold World.cell? at h0
    split at h0
    · split at h0
      · cases h0
      · rename_i hsp
        cases hsx : a.spot with
        | none => rfl
        | some z => simp [hsx] at hsp
    · cases h0
  refine ⟨hs, fun j u hu => ?_⟩
  have hj : j < n := by
    have := (List.getElem?_eq_some_iff.1 hu).1
    omega
  have := hat j hj
  rw [hu] at this
  rw [← this]
  congr 1
  obtain ⟨b, o, s⟩ := a
  simp only at hs
  subst hs
  unfold Addr.add
  by_cases hz : j = 0 <;> simp [hz]

theorem opens_slice {P : Program} {t e : TypeId} {T : Ty α} (ht : P.underlying t = some (.slice e)) (hC : P.cellsOf e = T.size) (hp : 0 < T.size) (he : Opens P e T) : Opens P t T.slice := by
  refine ⟨fun H enc => ?_⟩
  intro w base spare held n cs x B h hB
  rcases DataW.trod_slice ht h with ⟨rfl, rfl⟩ | ⟨a, len, cap, elems, rest, m, _, rfl, rfl, hb, hl, hm, hlen, hel, hsp, hns⟩
  · exact ⟨[], T.slice_nil w B, by simp [Ty.slice, bulkL, bulkD]⟩
  · have hone : ∀ i, i < len → ∃ d, (a.add (i * T.size)).spot = none ∧ T.At w B (a.add (i * T.size)).block (a.add (i * T.size)).off d ∧ ∃ y, elems[i]? = some y ∧ T.bulk d ≤ bulkD y.1 := by
      intro i hi
      have hi' := hel i hi
      have hy : elems[i]? = some (elems[i]'(by omega)) := List.getElem?_eq_getElem (by omega)
      rw [hy, hC] at hi'
      obtain ⟨cs', h1, h2⟩ := Option.bind_eq_some_iff.1 hi'
      obtain ⟨hs, hat⟩ := cellsAt_of_cells? h1 hp
      obtain ⟨d, hd, hbk⟩ := he.go H enc w base spare held m cs' _ B h2 (fun p hp => hB p (by
        simp only [List.mem_append, List.mem_flatMap]
        exact .inr ⟨elems[i]'(by omega), .inl (List.getElem_mem _), hp⟩))
      refine ⟨d, hs, ⟨?_, cs', hd, hat⟩, _, hy, hbk⟩
      have hblk : (a.add (i * T.size)).block = a.block := by unfold Addr.add; split <;> rfl
      rw [hblk]
      refine hB (.cell a.block a.off) ?_
      simp only [List.mem_append]
      left
      rw [hC]
      have hpos : 0 < (elems.length + rest.length) * T.size := Nat.mul_pos (by omega) hp
      exact List.mem_map.2 ⟨0, by simpa using hpos, by simp⟩
    have key : ∀ k, k ≤ len → ∃ ds : List α, ds.length = k ∧ bulkL T.bulk ds ≤ bulkD.go ((elems.take k).map (·.1)) ∧ ∀ i d, ds[i]? = some d → (a.add (i * T.size)).spot = none ∧ T.At w B (a.add (i * T.size)).block (a.add (i * T.size)).off d := by
      intro k
      induction k with
      | zero => exact fun _ => ⟨[], rfl, by simp [bulkL], by simp⟩
      | succ k ih =>
        intro hk
        obtain ⟨ds, hdl, hdb, hdi⟩ := ih (by omega)
        obtain ⟨d, hs, hat, y, hy, hbk⟩ := hone k (by omega)
        refine ⟨ds ++ [d], by simp [hdl], ?_, ?_⟩
        · rw [List.take_add_one, hy, bulkL_append]
          simp only [Option.toList_some, List.map_append, bulkD_go_append, List.map_cons, List.map_nil, bulkL, bulkD.go]
          omega
        · intro i d' hd'
          by_cases hi : i < k
          · exact hdi i d' (by rwa [List.getElem?_append_left (by omega)] at hd')
          · have hik : i = k := by
              have := (List.getElem?_eq_some_iff.1 hd').1
              simp [hdl] at this
              omega
            subst hik
            rw [List.getElem?_append_right (by omega), hdl] at hd'
            simp at hd'
            subst hd'
            exact ⟨hs, hat⟩
    obtain ⟨ds, hdl, hdb, hdi⟩ := key len (Nat.le_refl _)
    refine ⟨ds, ⟨some a, cap, by rw [hdl], by omega, ⟨hm, fun e => by cases e⟩, fun i d hd => ?_⟩, ?_⟩
    · have h0 : ∃ d0, ds[0]? = some d0 := by
        have := (List.getElem?_eq_some_iff.1 hd).1
        exact ⟨ds[0]'(by omega), List.getElem?_eq_getElem (by omega)⟩
      obtain ⟨d0, hd0⟩ := h0
      have hs0 := (hdi 0 d0 hd0).1
      obtain ⟨b, o, s⟩ := a
      have : s = none := by simpa [Addr.add] using hs0
      subst this
      refine ⟨b, o, rfl, ?_⟩
      have := (hdi i d hd).2
      rwa [add_plain] at this
    · have ht2 : elems.take len = elems := List.take_of_length_le (by omega)
      rw [ht2] at hdb
      simp only [Ty.slice, bulkD]
      omega

/-- the fields of a struct, from one on -/
structure OpensF (P : Program) (fs : List Field) (off : Nat) (U : Ty β) : Prop where
  go : ∀ (H : Type) (enc : TypeId × Value → H) (w : World) (base : Nat) (spare : Nat → Bool) (held : Bool) (n : Nat) (cs : List Value) (ys : List (DataW H × List MemPlace)) (B : Nat),
    cs.length = off + U.size → ys.length = fs.length →
    (∀ (j : Nat) (f : Field), fs[j]? = some f → DataW.trod enc P w base spare held n f.type ((cs.drop f.offset).take (P.cellsOf f.type)) = ys[j]?) →
    (∀ p ∈ ys.flatMap (·.2), p.block < B) → ∃ d, U.R w B (cs.drop off) d ∧ U.bulk d ≤ bulkD.go (ys.map (·.1))

theorem opensF_nil {P : Program} {off : Nat} : OpensF P [] off Ty.none_ := by
  refine ⟨fun H enc => ?_⟩
  intro w base spare held n cs ys B hcs hys _ _
  refine ⟨(), ?_, Nat.zero_le _⟩
  have : cs.length ≤ off := by simp [Ty.none_] at hcs; omega
  exact List.drop_eq_nil_of_le this
theorem opensF_cons {P : Program} {f : Field} {fs : List Field} {off : Nat} {T : Ty α} {U : Ty β} (ho : f.offset = off) (hC : P.cellsOf f.type = T.size) (hT : Opens P f.type T) (hU : OpensF P fs (off + T.size) U) :
    OpensF P (f :: fs) off (T.cons U) := by
  refine ⟨fun H enc => ?_⟩
  intro w base spare held n cs ys B hcs hys hf hB
  match ys, hys with
  | y :: ys, hys =>
    have h0 := hf 0 f rfl
    rw [ho, hC] at h0
    simp only [List.getElem?_cons_zero] at h0
    obtain ⟨d, hd, hbd⟩ := hT.go H enc w base spare held n _ y B h0 (fun p hp => hB p (by simp; exact .inl hp))
    obtain ⟨e, he, hbe⟩ := hU.go H enc w base spare held n cs ys B (by simp [Ty.cons] at hcs; omega) (by simpa using hys)
      (fun j g hg => by have := hf (j + 1) g (by simpa using hg); simpa using this) (fun p hp => hB p (by simp only [List.flatMap_cons, List.mem_append]; exact .inr hp))
    refine ⟨(d, e), ⟨_, _, ?_, hd, he⟩, ?_⟩
    · rw [← List.drop_drop]
      exact (List.take_append_drop T.size (cs.drop off)).symm
    · simp only [Ty.cons, List.map_cons, bulkD.go]; omega

theorem opens_struct {P : Program} {t : TypeId} {fs : List Field} {U : Ty β} {f : β → α} {g : α → β} (ht : P.underlying t = some (.struct fs.toArray)) (hC : P.cellsOf t = U.size) (hU : OpensF P fs 0 U) (hgf : ∀ b, g (f b) = b) :
    Opens P t (U.via f g) := by
  refine ⟨fun H enc => ?_⟩
  intro w base spare held n cs x B h hB
  obtain ⟨ys, m, _, rfl, hlen, hyl, hf⟩ := DataW.trod_struct ht h
  obtain ⟨d, hd, hbd⟩ := hU.go H enc w base spare held m cs ys B (by omega) (by simpa using hyl) (fun j g hg => hf j g (by simpa using hg)) hB
  refine ⟨f d, ⟨?_, by rw [hgf]⟩, ?_⟩
  · rw [hgf]; rw [List.drop_zero] at hd; exact hd
  · simp only [Ty.via, hgf, bulkD]; omega
end Mu
end
section
/-
  The data of package api as plain Lean data, and how cells stand for it.
  Conditions: none; the types' numbers are this translation's.
-/
namespace Mu
open Go Go.RowKit

structure Ins where
  op : Int
  d : Int
  a : Int
  b : Int
  n : Int
  f : Int
  args : List Int
  l1 : Int
  l2 : Int
structure Block where
  name : ByteArray
  ins : List Ins
structure Func where
  name : ByteArray
  args : Int
  regs : Int
  blocks : List Block
structure Prog where
  heap : Int
  threads : List Int
  funcs : List Func

def tInt : Ty Int := Ty.int .i64
def tIns : Ty Ins :=
  ((Ty.int .u8).cons (tInt.cons (tInt.cons (tInt.cons ((Ty.int .u32).cons (tInt.cons (tInt.slice.cons (tInt.cons (tInt.cons Ty.none_))))))))).via
    (fun x => ⟨x.1, x.2.1, x.2.2.1, x.2.2.2.1, x.2.2.2.2.1, x.2.2.2.2.2.1, x.2.2.2.2.2.2.1, x.2.2.2.2.2.2.2.1, x.2.2.2.2.2.2.2.2.1⟩)
    (fun i => (i.op, i.d, i.a, i.b, i.n, i.f, i.args, i.l1, i.l2, ()))
def tBlock : Ty Block := (Ty.str.cons (tIns.slice.cons Ty.none_)).via (fun x => ⟨x.1, x.2.1⟩) (fun b => (b.name, b.ins, ()))
def tFunc : Ty Func := (Ty.str.cons (tInt.cons (tInt.cons (tBlock.slice.cons Ty.none_)))).via (fun x => ⟨x.1, x.2.1, x.2.2.1, x.2.2.2.1⟩) (fun f => (f.name, f.args, f.regs, f.blocks, ()))
def tProg : Ty Prog := (tInt.cons (tInt.slice.cons (tFunc.slice.cons Ty.none_))).via (fun x => ⟨x.1, x.2.1, x.2.2.1⟩) (fun p => (p.heap, p.threads, p.funcs, ()))

theorem tInt_size : tInt.size = 1 := rfl
theorem tIns_size : tIns.size = 9 := rfl
theorem tBlock_size : tBlock.size = 2 := rfl
theorem tFunc_size : tFunc.size = 4 := rfl
def wfI (k : IntKind) (n : Int) : Prop := (Lit.int k n).wf = true

theorem wfI_u8 {n : Int} (h : wfI .u8 n) : 0 ≤ n ∧ n ≤ 255 := by simpa [wfI, Lit.wf, IntKind.min, IntKind.max, IntKind.signed, IntKind.bits] using h
theorem wfI_i64 {n : Int} (h : wfI .i64 n) : -9223372036854775808 ≤ n ∧ n ≤ 9223372036854775807 := by simpa [wfI, Lit.wf, IntKind.min, IntKind.max, IntKind.signed, IntKind.bits] using h

theorem tInt_R {w : World} {S : Nat → Prop} {cs : List Value} {d : Int} : tInt.RS w S cs d ↔ cs = [.int .i64 d] ∧ wfI .i64 d := Iff.rfl

/-- one instruction, written out -/
structure InsCells (w : World) (S : Nat → Prop) (cs : List Value) (x : Ins) (A : Option Addr) (c : Nat) : Prop where
  cs : cs = [.int .u8 x.op, .int .i64 x.d, .int .i64 x.a, .int .i64 x.b, .int .u32 x.n, .int .i64 x.f, .slice A x.args.length c, .int .i64 x.l1, .int .i64 x.l2]
  op : wfI .u8 x.op
  d : wfI .i64 x.d
  a : wfI .i64 x.a
  b : wfI .i64 x.b
  n : wfI .u32 x.n
  f : wfI .i64 x.f
  l1 : wfI .i64 x.l1
  l2 : wfI .i64 x.l2
  args : tInt.slice.RS w S [.slice A x.args.length c] x.args

theorem tIns_R {w : World} {S : Nat → Prop} {cs : List Value} {x : Ins} : tIns.RS w S cs x ↔ ∃ A c, InsCells w S cs x A c := by
  constructor
  · rintro ⟨⟨_, _, rfl, ⟨rfl, h0⟩, _, _, rfl, ⟨rfl, h1⟩, _, _, rfl, ⟨rfl, h2⟩, _, _, rfl, ⟨rfl, h3⟩, _, _, rfl, ⟨rfl, h4⟩, _, _, rfl, ⟨rfl, h5⟩, _, _, rfl, hs, _, _, rfl, ⟨rfl, h7⟩, _, _, rfl, ⟨rfl, h8⟩, rfl⟩, _⟩
    have hs' := hs
    obtain ⟨A, c, rfl, _⟩ := hs
    exact ⟨A, c, rfl, h0, h1, h2, h3, h4, h5, h7, h8, hs'⟩
  · rintro ⟨A, c, h⟩
    obtain ⟨rfl, h0, h1, h2, h3, h4, h5, h7, h8, hs⟩ := h
    exact ⟨⟨[_], _, rfl, ⟨rfl, h0⟩, [_], _, rfl, ⟨rfl, h1⟩, [_], _, rfl, ⟨rfl, h2⟩, [_], _, rfl, ⟨rfl, h3⟩, [_], _, rfl, ⟨rfl, h4⟩, [_], _, rfl, ⟨rfl, h5⟩, [_], _, rfl, hs, [_], _, rfl, ⟨rfl, h7⟩, [_], _, rfl, ⟨rfl, h8⟩, rfl⟩, rfl⟩

theorem tBlock_R {w : World} {S : Nat → Prop} {cs : List Value} {x : Block} : tBlock.RS w S cs x ↔ ∃ A c, cs = [.string x.name, .slice A x.ins.length c] ∧ x.name.size ≤ maxLen ∧ tIns.slice.RS w S [.slice A x.ins.length c] x.ins := by
  constructor
  · rintro ⟨⟨_, _, rfl, ⟨rfl, h0⟩, _, _, rfl, hs, rfl⟩, _⟩
    have hs' := hs
    obtain ⟨A, c, rfl, _⟩ := hs
    exact ⟨A, c, rfl, h0, hs'⟩
  · rintro ⟨A, c, rfl, h0, hs⟩
    exact ⟨⟨[_], _, rfl, ⟨rfl, h0⟩, [_], _, rfl, hs, rfl⟩, rfl⟩

theorem tFunc_R {w : World} {S : Nat → Prop} {cs : List Value} {x : Func} : tFunc.RS w S cs x ↔ ∃ A c, cs = [.string x.name, .int .i64 x.args, .int .i64 x.regs, .slice A x.blocks.length c] ∧ x.name.size ≤ maxLen ∧ wfI .i64 x.args ∧ wfI .i64 x.regs ∧ tBlock.slice.RS w S [.slice A x.blocks.length c] x.blocks := by
  constructor
  · rintro ⟨⟨_, _, rfl, ⟨rfl, h0⟩, _, _, rfl, ⟨rfl, h1⟩, _, _, rfl, ⟨rfl, h2⟩, _, _, rfl, hs, rfl⟩, _⟩
    have hs' := hs
    obtain ⟨A, c, rfl, _⟩ := hs
    exact ⟨A, c, rfl, h0, h1, h2, hs'⟩
  · rintro ⟨A, c, rfl, h0, h1, h2, hs⟩
    exact ⟨⟨[_], _, rfl, ⟨rfl, h0⟩, [_], _, rfl, ⟨rfl, h1⟩, [_], _, rfl, ⟨rfl, h2⟩, [_], _, rfl, hs, rfl⟩, rfl⟩

theorem tProg_R {w : World} {S : Nat → Prop} {cs : List Value} {x : Prog} : tProg.RS w S cs x ↔ ∃ A c A' c', cs = [.int .i64 x.heap, .slice A' x.threads.length c', .slice A x.funcs.length c] ∧ wfI .i64 x.heap ∧ tInt.slice.RS w S [.slice A' x.threads.length c'] x.threads ∧ tFunc.slice.RS w S [.slice A x.funcs.length c] x.funcs := by
  constructor
  · rintro ⟨⟨_, _, rfl, ⟨rfl, h0⟩, _, _, rfl, ht, _, _, rfl, hs, rfl⟩, _⟩
    have hs' := hs
    have ht' := ht
    obtain ⟨A, c, rfl, _⟩ := hs
    obtain ⟨A', c', rfl, _⟩ := ht
    exact ⟨A, c, A', c', rfl, h0, ht', hs'⟩
  · rintro ⟨A, c, A', c', rfl, h0, ht, hs⟩
    exact ⟨⟨[_], _, rfl, ⟨rfl, h0⟩, [_], _, rfl, ht, [_], _, rfl, hs, rfl⟩, rfl⟩

/-! ### opening -/
open Go.Proofs
theorem opens_tInt : Opens Tryz.prog 3 tInt := opens_int Tryz.underlying3
theorem opens_ints : Opens Tryz.prog 22 tInt.slice := opens_slice Tryz.underlying22 (by kernel_rfl) (by decide) opens_tInt
theorem opens_tIns : Opens Tryz.prog 40 tIns :=
  opens_struct Tryz.underlying40 (by kernel_rfl)
    (opensF_cons rfl (by kernel_rfl) (opens_int Tryz.underlying5) (opensF_cons rfl (by kernel_rfl) opens_tInt (opensF_cons rfl (by kernel_rfl) opens_tInt (opensF_cons rfl (by kernel_rfl) opens_tInt
      (opensF_cons rfl (by kernel_rfl) (opens_int Tryz.underlying38) (opensF_cons rfl (by kernel_rfl) opens_tInt (opensF_cons rfl (by kernel_rfl) opens_ints (opensF_cons rfl (by kernel_rfl) opens_tInt
        (opensF_cons rfl (by kernel_rfl) opens_tInt opensF_nil))))))))) (fun _ => rfl)
theorem opens_tBlock : Opens Tryz.prog 48 tBlock :=
  opens_struct Tryz.underlying48 (by kernel_rfl)
    (opensF_cons rfl (by kernel_rfl) (opens_str Tryz.underlying9) (opensF_cons rfl (by kernel_rfl) (opens_slice Tryz.underlying46 (by kernel_rfl) (by decide) opens_tIns) opensF_nil)) (fun _ => rfl)
theorem opens_tFunc : Opens Tryz.prog 45 tFunc :=
  opens_struct Tryz.underlying45 (by kernel_rfl)
    (opensF_cons rfl (by kernel_rfl) (opens_str Tryz.underlying9) (opensF_cons rfl (by kernel_rfl) opens_tInt (opensF_cons rfl (by kernel_rfl) opens_tInt
      (opensF_cons rfl (by kernel_rfl) (opens_slice Tryz.underlying43 (by kernel_rfl) (by decide) opens_tBlock) opensF_nil)))) (fun _ => rfl)
theorem opens_tProg : Opens Tryz.prog 25 tProg :=
  opens_struct Tryz.underlying25 (by kernel_rfl)
    (opensF_cons rfl (by kernel_rfl) opens_tInt (opensF_cons rfl (by kernel_rfl) opens_ints (opensF_cons rfl (by kernel_rfl) (opens_slice Tryz.underlying23 (by kernel_rfl) (by decide) opens_tFunc) opensF_nil))) (fun _ => rfl)
end Mu
end
section
/-
  Elements of slices of package api's types, cell by cell, in the form that a walk meets.
  Conditions: none.
-/
namespace Mu
open Go Go.RowKit

theorem slice_at {α : Type} {T : Ty α} {w : World} {S : Nat → Prop} {n c k : Nat} {A : Option Addr} {ds : List α} {x : α} (h : T.slice.RS w S [.slice A n c] ds) (hk : ds[k]? = some x) :
    ∃ b o, A = some ⟨b, o, none⟩ ∧ T.AtS w S b (o + k * T.size) x := by
  obtain ⟨A', c', e, _, _, hi⟩ := h
  simp only [List.cons.injEq, Value.slice.injEq, and_true] at e
  obtain ⟨rfl, _, _⟩ := e
  exact hi k x hk
theorem slice_len {α : Type} {T : Ty α} {w : World} {S : Nat → Prop} {n c : Nat} {A : Option Addr} {ds : List α} (h : T.slice.RS w S [.slice A n c] ds) : n = ds.length ∧ n ≤ c ∧ c ≤ maxLen := by
  obtain ⟨A', c', e, h1, h2, _⟩ := h
  simp only [List.cons.injEq, Value.slice.injEq, and_true] at e
  obtain ⟨_, rfl, rfl⟩ := e
  exact ⟨rfl, h1, h2.1⟩
theorem slice_form {α : Type} {T : Ty α} {w : World} {S : Nat → Prop} {v : Value} {ds : List α} (h : T.slice.RS w S [v] ds) : ∃ A c, v = .slice A ds.length c := by
  obtain ⟨A', c', e, h1, h2, _⟩ := h
  simp only [List.cons.injEq, and_true] at e
  exact ⟨A', c', e⟩

theorem slice_nil_at {α : Type} {T : Ty α} {w : World} {S : Nat → Prop} {n c : Nat} {ds : List α} (h : T.slice.RS w S [.slice none n c] ds) : ds = [] ∧ n = 0 ∧ c = 0 := by
  obtain ⟨A', c', e, h1, h2, _⟩ := h
  simp only [List.cons.injEq, Value.slice.injEq, and_true] at e
  obtain ⟨rfl, rfl, rfl⟩ := e
  have := h2.2 rfl
  exact ⟨List.eq_nil_of_length_eq_zero (by omega), by omega, this⟩

theorem cellsAt_0 {w : World} {b o : Nat} {v : Value} {l : List Value} (h : CellsAt w b o (v :: l)) : w.cell? ⟨b, o, none⟩ = some v := h 0 v rfl
theorem cellsAt_j {w : World} {b o : Nat} {cs : List Value} (h : CellsAt w b o cs) (j : Nat) {v : Value} (hv : cs[j]? = some v) : w.cell? ⟨b, o + j, none⟩ = some v := h j v hv

theorem int_at {w : World} {S : Nat → Prop} {n c k : Nat} {A : Option Addr} {ds : List Int} {x : Int} {kd : IntKind} (h : (Ty.int kd).slice.RS w S [.slice A n c] ds) (hk : ds[k]? = some x) :
    ∃ b o, A = some ⟨b, o, none⟩ ∧ S b ∧ w.cell? ⟨b, o + k, none⟩ = some (.int kd x) ∧ wfI kd x := by
  obtain ⟨b, o, rfl, hb, cs, ⟨rfl, hw⟩, hc⟩ := slice_at h hk
  refine ⟨b, o, rfl, hb, ?_, hw⟩
  have := cellsAt_0 hc
  rwa [show (Ty.int kd).size = 1 from rfl, Nat.mul_one] at this
theorem slices_at {α : Type} {T : Ty α} {w : World} {S : Nat → Prop} {n c k : Nat} {A : Option Addr} {ds : List (List α)} {x : List α} (h : T.slice.slice.RS w S [.slice A n c] ds) (hk : ds[k]? = some x) :
    ∃ b o A' c', A = some ⟨b, o, none⟩ ∧ S b ∧ w.cell? ⟨b, o + k, none⟩ = some (.slice A' x.length c') ∧ T.slice.RS w S [.slice A' x.length c'] x := by
  obtain ⟨b, o, rfl, hb, cs, hR, hc⟩ := slice_at h hk
  have hR' := hR
  obtain ⟨A', c', rfl, _⟩ := hR
  refine ⟨b, o, A', c', rfl, hb, ?_, hR'⟩
  have := cellsAt_0 hc
  rwa [show T.slice.size = 1 from rfl, Nat.mul_one] at this

structure InsAt (w : World) (S : Nat → Prop) (b o : Nat) (x : Ins) (A : Option Addr) (c : Nat) : Prop where
  c0 : w.cell? ⟨b, o, none⟩ = some (.int .u8 x.op)
  c1 : w.cell? ⟨b, o + 1, none⟩ = some (.int .i64 x.d)
  c2 : w.cell? ⟨b, o + 2, none⟩ = some (.int .i64 x.a)
  c3 : w.cell? ⟨b, o + 3, none⟩ = some (.int .i64 x.b)
  c4 : w.cell? ⟨b, o + 4, none⟩ = some (.int .u32 x.n)
  c5 : w.cell? ⟨b, o + 5, none⟩ = some (.int .i64 x.f)
  c6 : w.cell? ⟨b, o + 6, none⟩ = some (.slice A x.args.length c)
  c7 : w.cell? ⟨b, o + 7, none⟩ = some (.int .i64 x.l1)
  c8 : w.cell? ⟨b, o + 8, none⟩ = some (.int .i64 x.l2)
  raw : InsCells w S [.int .u8 x.op, .int .i64 x.d, .int .i64 x.a, .int .i64 x.b, .int .u32 x.n, .int .i64 x.f, .slice A x.args.length c, .int .i64 x.l1, .int .i64 x.l2] x A c

theorem ins_at {w : World} {S : Nat → Prop} {n c k : Nat} {A : Option Addr} {ds : List Ins} {x : Ins} (h : tIns.slice.RS w S [.slice A n c] ds) (hk : ds[k]? = some x) :
    ∃ b o A' c', A = some ⟨b, o, none⟩ ∧ S b ∧ InsAt w S b (o + k * 9) x A' c' := by
  obtain ⟨b, o, rfl, hb, cs, hR, hc⟩ := slice_at h hk
  obtain ⟨A', c', hI⟩ := tIns_R.1 hR
  have e := hI.cs
  subst e
  rw [tIns_size] at hc
  exact ⟨b, o, A', c', rfl, hb, cellsAt_0 hc, cellsAt_j hc 1 rfl, cellsAt_j hc 2 rfl, cellsAt_j hc 3 rfl, cellsAt_j hc 4 rfl, cellsAt_j hc 5 rfl, cellsAt_j hc 6 rfl, cellsAt_j hc 7 rfl, cellsAt_j hc 8 rfl, hI⟩

theorem block_at {w : World} {S : Nat → Prop} {n c k : Nat} {A : Option Addr} {ds : List Block} {x : Block} (h : tBlock.slice.RS w S [.slice A n c] ds) (hk : ds[k]? = some x) :
    ∃ b o A' c', A = some ⟨b, o, none⟩ ∧ S b ∧ w.cell? ⟨b, o + k * 2, none⟩ = some (.string x.name) ∧ w.cell? ⟨b, o + k * 2 + 1, none⟩ = some (.slice A' x.ins.length c') ∧ x.name.size ≤ maxLen ∧
      tIns.slice.RS w S [.slice A' x.ins.length c'] x.ins := by
  obtain ⟨b, o, rfl, hb, cs, hR, hc⟩ := slice_at h hk
  obtain ⟨A', c', rfl, h1, h2⟩ := tBlock_R.1 hR
  rw [tBlock_size] at hc
  exact ⟨b, o, A', c', rfl, hb, cellsAt_0 hc, cellsAt_j hc 1 rfl, h1, h2⟩

theorem func_at {w : World} {S : Nat → Prop} {n c k : Nat} {A : Option Addr} {ds : List Func} {x : Func} (h : tFunc.slice.RS w S [.slice A n c] ds) (hk : ds[k]? = some x) :
    ∃ b o A' c', A = some ⟨b, o, none⟩ ∧ S b ∧ w.cell? ⟨b, o + k * 4, none⟩ = some (.string x.name) ∧ w.cell? ⟨b, o + k * 4 + 1, none⟩ = some (.int .i64 x.args) ∧ w.cell? ⟨b, o + k * 4 + 2, none⟩ = some (.int .i64 x.regs) ∧
      w.cell? ⟨b, o + k * 4 + 3, none⟩ = some (.slice A' x.blocks.length c') ∧ x.name.size ≤ maxLen ∧ wfI .i64 x.args ∧ wfI .i64 x.regs ∧ tBlock.slice.RS w S [.slice A' x.blocks.length c'] x.blocks := by
  obtain ⟨b, o, rfl, hb, cs, hR, hc⟩ := slice_at h hk
  obtain ⟨A', c', rfl, h1, h2, h3, h4⟩ := tFunc_R.1 hR
  rw [tFunc_size] at hc
  exact ⟨b, o, A', c', rfl, hb, cellsAt_0 hc, cellsAt_j hc 1 rfl, cellsAt_j hc 2 rfl, cellsAt_j hc 3 rfl, h1, h2, h3, h4⟩

/-! ### rows of the call's own, read as data -/
/-- a row of the call's own, whose cells stand for data: each as that datum's reading among the blocks of S; the row's own block beside them -/
theorem own_slice {α : Type} {T : Ty α} {w : World} {base : Nat} {e : TypeId} {v : Value} {cells : List Value} {ds : List α} {S : Nat → Prop} (h : w.ownsRow base e T.size v ds.length cells)
    (hc : ∀ i d, ds[i]? = some d → T.RS w S ((cells.drop (i * T.size)).take T.size) d) (hS : ∀ g, v.ownBlock = some g → S g) : T.slice.RS w S [v] ds := by
  rcases h.2 with ⟨rfl, hn⟩ | ⟨g, cap, cur, rfl, hg, hh, h1, h2, h3, h4⟩
  · have : ds = [] := List.eq_nil_of_length_eq_zero hn
    subst this
    exact Ty.slice_nilS _ _ _
  · refine ⟨some ⟨g, 0, none⟩, cap, rfl, h1, ⟨h2, fun e => by cases e⟩, fun i d hd => ⟨g, 0, rfl, hS g rfl, _, hc i d hd, ?_⟩⟩
    intro j u hu
    have hj : j < T.size := by
      have := (List.getElem?_eq_some_iff.1 hu).1
      rw [List.length_take] at this
      omega
    rw [List.getElem?_take_of_lt hj, List.getElem?_drop] at hu
    have hcell := h.cells (g := g) rfl (i * T.size + j) u hu
    have e1 : (⟨g, 0, none⟩ : Addr).add (i * T.size + j) = ⟨g, 0 + i * T.size + j, none⟩ := by
      unfold Addr.add
      by_cases hz : i * T.size + j = 0
      · rw [if_pos hz, show 0 + i * T.size + j = 0 from by omega]
      · rw [if_neg hz, show 0 + i * T.size + j = 0 + (i * T.size + j) from by omega]
    rw [e1] at hcell
    exact hcell
theorem own_intsS {w : World} {base : Nat} {e : TypeId} {v : Value} {k : IntKind} {xs : List Int} (h : w.ownsRow base e 1 v xs.length (xs.map (Value.int k))) (hw : ∀ x ∈ xs, wfI k x) :
    (Ty.int k).slice.RS w (fun b => v.ownBlock = some b) [v] xs := by
  refine own_slice (T := Ty.int k) h (fun i d hd => ?_) (fun g hg => hg)
  have hi : i < xs.length := (List.getElem?_eq_some_iff.1 hd).1
  refine ⟨?_, hw d (List.mem_of_getElem? hd)⟩
  show ((xs.map (Value.int k)).drop (i * 1)).take 1 = _
  rw [Nat.mul_one, List.drop_eq_getElem_cons (by simpa using hi)]
  have : xs[i] = d := by
    rw [List.getElem?_eq_getElem hi] at hd
    injection hd
  simp [this]
theorem own_ints {w : World} {base : Nat} {e : TypeId} {v : Value} {k : IntKind} {xs : List Int} (h : w.ownsRow base e 1 v xs.length (xs.map (Value.int k))) (hw : ∀ x ∈ xs, wfI k x) :
    (Ty.int k).slice.R w w.heap.size [v] xs := Ty.toR (own_intsS h hw) (fun b hb => (h.lt b hb).2)
end Mu
end
section
/-
  A region that draws, inside a round of a range over a function; a function that leaves with some such loops' marks.
  Conditions: no fence.
-/
namespace Mu
open Go Go.RowKit
variable {P : Program} {Q : Exit → Act → World → Prop} {ops : Array Oper} {l n : Nat}

theorem rowsIn_of {row : String} {args : Array Value} {w : World} {R : Value → World → Prop} (h : Rows P row args w R) : RowsIn (Fence.wide.inRound l) n P row args w R :=
  fun c cs _ => let ⟨v, w', r, s⟩ := h c cs; ⟨v, w', r, stepsIn_wide.2 s⟩
theorem callsIn_of {f : FuncId} {args : Array Value} {w : World} {R : Ending → World → Prop} (h : Calls P f args w R) : CallsIn (Fence.wide.inRound l) n P f args w R :=
  CallsIn.inRound l (callsIn_wide.2 h)

theorem wpOpIn_of {i : Nat} {K K' : Act → World → Prop} {a : Act} {w : World} (hd : ∀ (o : Oper), ops[i]? = some o → ∀ c, o.op ≠ .defer c) (hQ : ¬ LetsOut Q) (hK : ∀ a w, K a w → K' a w) (h : wpOp P ops Q i K a w) :
    wpOpIn (Fence.wide.inRound l) n P ops Q i K' a w := by
  unfold wpOpIn
  unfold wpOp at h
  cases hi : ops[i]? with
  | none => rw [hi] at h; exact hK _ _ h
  | some o =>
    simp only [hi] at h ⊢
    split
    · rename_i hw
      rw [if_pos hw] at h
      rcases h with h | h
      · refine ⟨fun _ _ => trivial, ?_⟩
        rw [Oper.semAt_eq _ _ _ (hd o hi)]
        unfold Oper.wp at h
        generalize (execOp a.eval o).run P w = r at *
        cases r with
        | ok x w' =>
          cases x <;> simp only [Oper.uponIn, Oper.upon] at h ⊢
          case value => exact hK _ _ h
          case skip => exact hK _ _ h
          case defer => exact hK _ _ h
          case enter => exact ⟨fun h => (by cases h), (callsIn_of h).mono fun e w'' he => by cases e <;> first | exact hK _ _ he | exact he⟩
          case row => exact ⟨fun h => (by cases h), (rowsIn_of h).mono fun _ _ he => hK _ _ he⟩
        | halt x w' => cases x <;> simp only [Oper.uponIn, Oper.upon] at h ⊢ <;> exact h
      · exact absurd h.2 hQ
    · rename_i hw
      rw [if_neg hw] at h
      exact ⟨fun _ _ => trivial, hK _ _ h⟩

theorem wpAnyIn_of {md : Region.Mode} (hd : ∀ (i : Nat) (o : Oper), ops[i]? = some o → ∀ c, o.op ≠ .defer c) (hQ : ¬ LetsOut Q) : ∀ (fuel : Nat) (listed : Array Bool) (a : Act) (w : World),
    wpAny P md ops Q fuel listed a w → wpAnyIn (Fence.wide.inRound l) n P md ops Q fuel listed a w
  | 0, _, _, _, h => h
  | fuel + 1, _, _, _, h => ⟨h.1, fun i hi => wpOpIn_of (hd i) hQ (fun a w h => wpAnyIn_of hd hQ fuel _ a w h) (h.2 i hi)⟩

def noDefer (ops : Array Oper) : Bool := ops.all fun o => match o.op with | .defer _ => false | _ => true
theorem noDefer_spec (h : noDefer ops = true) : ∀ (i : Nat) (o : Oper), ops[i]? = some o → ∀ c, o.op ≠ .defer c := by
  intro i o hi c e
  have := Array.all_eq_true'.1 h o (Array.mem_of_getElem? hi)
  rw [e] at this
  cases this

/-- the marks of some loops over functions -/
def mark (D : Nat) : Deferred := { target := .collected D, args := #[] }

end Mu
end
section
/-
  Abstract states: what a frame's slots, and the memory of the call's own, are known to be; and that such knowledge is kept.
  Conditions: none; generic.
-/
namespace Mu
open Go Go.RowKit

/-- what is known of a value -/
inductive AV : Type 1
  | any
  | lit (v : Value)
  | bs {α : Type} (T : Ty α) (l : List α)
  | tv {α : Type} (T : Ty α) (d : α)
  | own (i ver : Nat)
  | ptr (i off : Nat)
  | rp (i ver k off : Nat)
  | bp {α : Type} (T : Ty α) (d : α) (off : Nat)
  | agg (l : List AV)
  | tup (l : List AV)
  | fn (f : FuncId) (l : List AV)

/-- some memory of the call's own, of which something is known -/
structure Res where
  /-- marks of loops over functions, the newest first -/
  mrk : List Nat
  F : Nat → Prop
  R : World → (Nat → Prop) → Prop
  keep : ∀ {w w' : World} {S S' : Nat → Prop}, R w S → (∀ k, F k → w'.heap[k]? = w.heap[k]?) → (∀ k, S k → w'.heap[k]? = w.heap[k]?) → (∀ k, S k → S' k) → R w' S'

/-- what is known of a block of the call's own -/
inductive ABlk : Type 1
  | dead
  | box (cells : List AV)
  | row (ver : Nat) (e : TypeId) {α : Type} (T : Ty α) (l : List α)
  | res (R : Res)

def ABlk.mrk : ABlk → List Deferred
  | .res R => R.mrk.map mark
  | _ => []
/-- the marks of the loops over functions that are over -/
def mkD : List ABlk → List Deferred
  | [] => []
  | b :: h => mkD h ++ b.mrk
theorem mkD_push (h : List ABlk) (b : ABlk) : mkD (h ++ [b]) = b.mrk ++ mkD h := by
  induction h with
  | nil => simp [mkD]
  | cons c h ih => simp [mkD, ih]
theorem mkD_set {h : List ABlk} {i : Nat} {b b' : ABlk} (hi : h[i]? = some b) (e : b'.mrk = b.mrk) : mkD (h.set i b') = mkD h := by
  induction h generalizing i with
  | nil => simp at hi
  | cons c h ih =>
    cases i with
    | zero =>
      simp at hi
      subst hi
      simp [mkD, e]
    | succ i =>
      simp only [List.set_cons_succ, mkD]
      rw [ih (by simpa using hi)]
def ABlk.ver : Option ABlk → Option Nat
  | some (.row ver _ _ _) => some ver
  | _ => none
def ABlk.sz : Option ABlk → Nat
  | some (.row _ _ T _) => T.size
  | _ => 0
def ABlk.isBox : Option ABlk → Bool
  | some (.box _) => true
  | _ => false
def ABlk.live : Option ABlk → Bool
  | some (.box _) => true
  | some (.row _ _ _ _) => true
  | some (.res _) => true
  | _ => false
def blkOf : Value → Option Nat
  | .pointer (some a) => some a.block
  | .slice (some a) _ _ => some a.block
  | _ => none
/-- the blocks of it -/
def ftp : Option ABlk → Value → Nat → Prop
  | some (.res R), _, g => R.F g
  | _, v, g => blkOf v = some g

mutual
def AV.rel (w : World) (S : Nat → Prop) (h : List ABlk) (ψ : Nat → Value) : AV → Value → Prop
  | .any, _ => True
  | .lit u, v => v = u
  | .bs T l, v => T.slice.RS w S [v] l
  | .tv T d, v => T.RS w S [v] d
  | .own i ver, v => i < h.length ∧ ∀ c, ABlk.ver h[i]? = some c → ver ≤ c ∧ (ver = c → v = ψ i)
  | .ptr i off, v => i < h.length ∧ (ABlk.isBox h[i]? = true → ∃ g, ψ i = .pointer (some ⟨g, 0, none⟩) ∧ v = .pointer (some ⟨g, off, none⟩))
  | .rp i ver k off, v => i < h.length ∧ ∀ c, ABlk.ver h[i]? = some c → ver ≤ c ∧ (ver = c → ∃ g n c, ψ i = .slice (some ⟨g, 0, none⟩) n c ∧ v = .pointer (some ⟨g, k * ABlk.sz h[i]? + off, none⟩))
  | .bp T d off, v => ∃ b o, v = .pointer (some ⟨b, o + off, none⟩) ∧ T.AtS w S b o d
  | .agg l, v => ∃ cs : List Value, v = .agg cs.toArray ∧ AV.relL w S h ψ l cs
  | .tup l, v => ∃ cs : List Value, v = .tuple cs.toArray ∧ AV.relL w S h ψ l cs
  | .fn f l, v => ∃ cs : List Value, v = .func (.func f) #[] cs.toArray ∧ AV.relL w S h ψ l cs
def AV.relL (w : World) (S : Nat → Prop) (h : List ABlk) (ψ : Nat → Value) : List AV → List Value → Prop
  | [], cs => cs = []
  | x :: l, cs => ∃ v vs, cs = v :: vs ∧ AV.rel w S h ψ x v ∧ AV.relL w S h ψ l vs
end

/-- what is known stays known -/
structure Ext (w : World) (S : Nat → Prop) (h : List ABlk) (ψ : Nat → Value) (w' : World) (S' : Nat → Prop) (h' : List ABlk) (ψ' : Nat → Value) : Prop where
  blk : ∀ k, S k → w'.heap[k]? = w.heap[k]?
  sub : ∀ k, S k → S' k
  len : h.length ≤ h'.length
  ver : ∀ i c', i < h.length → ABlk.ver h'[i]? = some c' → ∃ c, ABlk.ver h[i]? = some c ∧ c ≤ c' ∧ (c = c' → ψ' i = ψ i ∧ ABlk.sz h'[i]? = ABlk.sz h[i]?)
  box : ∀ i, i < h.length → ABlk.isBox h'[i]? = true → ABlk.isBox h[i]? = true ∧ ψ' i = ψ i

section
variable {w : World} {S : Nat → Prop} {h : List ABlk} {ψ : Nat → Value} {w' : World} {S' : Nat → Prop} {h' : List ABlk} {ψ' : Nat → Value}

mutual
theorem AV.rel_ext (X : Ext w S h ψ w' S' h' ψ') : ∀ (x : AV) (v : Value), AV.rel w S h ψ x v → AV.rel w' S' h' ψ' x v
  | .any, _, _ => by unfold AV.rel; trivial
  | .lit u, v, H => by unfold AV.rel at H ⊢; exact H
  | .bs T l, v, H => by unfold AV.rel at H ⊢; exact T.slice.keepS H X.blk X.sub
  | .tv T d, v, H => by unfold AV.rel at H ⊢; exact T.keepS H X.blk X.sub
  | .own i ver, v, H => by
    unfold AV.rel at H ⊢
    refine ⟨Nat.lt_of_lt_of_le H.1 X.len, fun c' hv => ?_⟩
    obtain ⟨c, h1, h2, h3⟩ := X.ver i c' H.1 hv
    obtain ⟨k1, k2⟩ := H.2 c h1
    refine ⟨Nat.le_trans k1 h2, fun e => ?_⟩
    have e1 : c = c' := by omega
    rw [(h3 e1).1]
    exact k2 (by omega)
  | .ptr i off, v, H => by
    unfold AV.rel at H ⊢
    refine ⟨Nat.lt_of_lt_of_le H.1 X.len, fun hv => ?_⟩
    obtain ⟨h1, h2⟩ := X.box i H.1 hv
    rw [h2]
    exact H.2 h1
  | .rp i ver k off, v, H => by
    unfold AV.rel at H ⊢
    refine ⟨Nat.lt_of_lt_of_le H.1 X.len, fun c' hv => ?_⟩
    obtain ⟨c, h1, h2, h3⟩ := X.ver i c' H.1 hv
    obtain ⟨k1, k2⟩ := H.2 c h1
    refine ⟨Nat.le_trans k1 h2, fun e => ?_⟩
    have e1 : c = c' := by omega
    rw [(h3 e1).1, (h3 e1).2]
    exact k2 (by omega)
  | .bp T d off, v, H => by
    unfold AV.rel at H ⊢
    obtain ⟨b, o, e, hat⟩ := H
    exact ⟨b, o, e, hat.keep X.blk X.sub⟩
  | .agg l, v, H => by
    unfold AV.rel at H ⊢
    obtain ⟨cs, e, hl⟩ := H
    exact ⟨cs, e, AV.relL_ext X l cs hl⟩
  | .tup l, v, H => by
    unfold AV.rel at H ⊢
    obtain ⟨cs, e, hl⟩ := H
    exact ⟨cs, e, AV.relL_ext X l cs hl⟩
  | .fn f l, v, H => by
    unfold AV.rel at H ⊢
    obtain ⟨cs, e, hl⟩ := H
    exact ⟨cs, e, AV.relL_ext X l cs hl⟩
theorem AV.relL_ext (X : Ext w S h ψ w' S' h' ψ') : ∀ (l : List AV) (cs : List Value), AV.relL w S h ψ l cs → AV.relL w' S' h' ψ' l cs
  | [], cs, H => by unfold AV.relL at H ⊢; exact H
  | x :: l, cs, H => by
    unfold AV.relL at H ⊢
    obtain ⟨v, vs, e, h1, h2⟩ := H
    exact ⟨v, vs, e, AV.rel_ext X x v h1, AV.relL_ext X l vs h2⟩
end

theorem relL_len : ∀ {l : List AV} {cs : List Value}, AV.relL w S h ψ l cs → cs.length = l.length
  | [], cs, H => by unfold AV.relL at H; subst H; rfl
  | x :: l, cs, H => by
    unfold AV.relL at H
    obtain ⟨v, vs, rfl, _, h2⟩ := H
    simp [relL_len h2]
theorem relL_get : ∀ {l : List AV} {cs : List Value}, AV.relL w S h ψ l cs → ∀ {i : Nat} {x : AV}, l[i]? = some x → ∃ v, cs[i]? = some v ∧ AV.rel w S h ψ x v
  | [], cs, _, i, x, hx => by simp at hx
  | y :: l, cs, H, i, x, hx => by
    unfold AV.relL at H
    obtain ⟨v, vs, rfl, h1, h2⟩ := H
    cases i with
    | zero => simp at hx; subst hx; exact ⟨v, by simp, h1⟩
    | succ i => simpa using relL_get h2 (i := i) (by simpa using hx)
theorem relL_of : ∀ {l : List AV} {cs : List Value}, cs.length = l.length → (∀ (i : Nat) (x : AV) (v : Value), l[i]? = some x → cs[i]? = some v → AV.rel w S h ψ x v) → AV.relL w S h ψ l cs
  | [], cs, hl, _ => by unfold AV.relL; exact List.eq_nil_of_length_eq_zero hl
  | y :: l, v :: vs, hl, H => by
    unfold AV.relL
    exact ⟨v, vs, rfl, H 0 y v rfl rfl, relL_of (by simpa using hl) fun i x u hx hu => H (i + 1) x u (by simpa using hx) (by simpa using hu)⟩
theorem relL_set {l : List AV} {cs : List Value} (H : AV.relL w S h ψ l cs) (i : Nat) {x : AV} {v : Value} (hv : AV.rel w S h ψ x v) : AV.relL w S h ψ (l.set i x) (cs.set i v) := by
  refine relL_of (by simp [relL_len H]) fun j y u hy hu => ?_
  by_cases hj : i = j
  · subst hj
    have h1 : i < l.length := by
      rcases Nat.lt_or_ge i l.length with h | h
      · exact h
      · simp [List.getElem?_eq_none, h] at hy
    rw [List.getElem?_set_self h1] at hy
    rw [List.getElem?_set_self (by rw [relL_len H]; exact h1)] at hu
    cases hy
    cases hu
    exact hv
  · rw [List.getElem?_set_ne hj] at hy hu
    obtain ⟨u', h1, h2⟩ := relL_get H hy
    rw [h1] at hu
    cases hu
    exact h2
theorem relL_append {l m : List AV} {cs ds : List Value} (H : AV.relL w S h ψ l cs) (G : AV.relL w S h ψ m ds) : AV.relL w S h ψ (l ++ m) (cs ++ ds) := by
  refine relL_of (by simp [relL_len H, relL_len G]) fun j y u hy hu => ?_
  by_cases hj : j < l.length
  · rw [List.getElem?_append_left hj] at hy
    rw [List.getElem?_append_left (by rw [relL_len H]; exact hj)] at hu
    obtain ⟨u', h1, h2⟩ := relL_get H hy
    rw [h1] at hu
    cases hu
    exact h2
  · rw [List.getElem?_append_right (by omega)] at hy
    rw [List.getElem?_append_right (by rw [relL_len H]; omega), relL_len H] at hu
    obtain ⟨u', h1, h2⟩ := relL_get G hy
    rw [h1] at hu
    cases hu
    exact h2
theorem relL_drop {l : List AV} {cs : List Value} (H : AV.relL w S h ψ l cs) (n : Nat) : AV.relL w S h ψ (l.drop n) (cs.drop n) := by
  refine relL_of (by simp [relL_len H]) fun j y u hy hu => ?_
  rw [List.getElem?_drop] at hy hu
  obtain ⟨u', h1, h2⟩ := relL_get H hy
  rw [h1] at hu
  cases hu
  exact h2
theorem relL_take {l : List AV} {cs : List Value} (H : AV.relL w S h ψ l cs) (n : Nat) : AV.relL w S h ψ (l.take n) (cs.take n) := by
  refine relL_of (by simp [relL_len H]) fun j y u hy hu => ?_
  rw [List.getElem?_take] at hy hu
  split at hy
  · rename_i hj
    rw [if_pos hj] at hu
    obtain ⟨u', h1, h2⟩ := relL_get H hy
    rw [h1] at hu
    cases hu
    exact h2
  · cases hy
end

/-- one block of the call's own -/
def BRel (N : Nat → Prop) (w : World) (S : Nat → Prop) (h : List ABlk) (ψ : Nat → Value) (v : Value) : ABlk → Prop
  | .dead => True
  | .box cells => ∃ g cs e, v = .pointer (some ⟨g, 0, none⟩) ∧ ¬ N g ∧ ¬ S g ∧ w.heap[g]? = some (.cells (List.toArray cs) e (0, 0)) ∧ AV.relL w S h ψ cells cs
  | .row _ e T l => ∃ cells, w.ownsRow 0 e T.size v l.length cells ∧ 0 < T.size ∧ (∀ i d, l[i]? = some d → T.RS w S ((cells.drop (i * T.size)).take T.size) d) ∧ ∀ g, v.ownBlock = some g → ¬ N g ∧ ¬ S g
  | .res R => (∀ g, R.F g → ¬ N g ∧ ¬ S g ∧ g < w.heap.size) ∧ R.R w S

/-- the frame of a call: the world at its beginning; what it may read; what it must leave -/
structure Ctx where
  w0 : World
  S0 : Nat → Prop
  N : Nat → Prop
  /-- the loop over a function, in a round of which one is -/
  rd : Option Nat
def Ctx.std (C : Ctx) : Prop := ∀ k, k < C.w0.heap.size → C.N k
/-- blocks that are left as they are -/
structure Kp (N : Nat → Prop) (w w' : World) : Prop where
  os : w'.os = w.os
  tape : w'.tape = w.tape
  output : w'.output = w.output
  size : w.heap.size ≤ w'.heap.size
  block : ∀ k, N k → w'.heap[k]? = w.heap[k]?
theorem Kp.refl (N : Nat → Prop) (w : World) : Kp N w w := ⟨rfl, rfl, rfl, Nat.le_refl _, fun _ _ => rfl⟩
theorem Kp.trans {N : Nat → Prop} {a b c : World} (h : Kp N a b) (k : Kp N b c) : Kp N a c :=
  ⟨k.os.trans h.os, k.tape.trans h.tape, k.output.trans h.output, Nat.le_trans h.size k.size, fun i hi => (k.block i hi).trans (h.block i hi)⟩
theorem Kp.of_below {N : Nat → Prop} {B : Nat} {a b : World} (h : Below B a b) (hN : ∀ k, N k → k < B) : Kp N a b := ⟨h.os, h.tape, h.output, h.size, fun k hk => h.block k (hN k hk)⟩
theorem Kp.below {N : Nat → Prop} {B : Nat} {a b : World} (h : Kp N a b) (hN : ∀ k, k < B → N k) : Below B a b := ⟨h.os, h.tape, h.output, h.size, fun k hk => h.block k (hN k hk)⟩

structure HRel (C : Ctx) (h : List ABlk) (S : Nat → Prop) (ψ : Nat → Value) (w : World) : Prop where
  bel : Kp C.N C.w0 w
  nlt : ∀ k, C.N k → k < C.w0.heap.size
  lt : ∀ k, S k → k < w.heap.size
  sub : ∀ k, C.S0 k → S k
  new : ∀ k, S k → C.S0 k ∨ C.w0.heap.size ≤ k
  blk : ∀ i b, h[i]? = some b → BRel C.N w S h ψ (ψ i) b
  dis : ∀ i j, i ≠ j → ABlk.live h[i]? = true → ABlk.live h[j]? = true → ∀ g, ftp h[i]? (ψ i) g → ¬ ftp h[j]? (ψ j) g

theorem ownBlock_blkOf {v : Value} {g : Nat} (h : v.ownBlock = some g) : blkOf v = some g := by
  cases v <;> simp [Value.ownBlock, blkOf] at h ⊢
  rename_i a _ _
  cases a <;> simp [Value.ownBlock, blkOf] at h ⊢
  exact h
theorem ownsRow_same {w w' : World} {base : Nat} {e : TypeId} {size : Nat} {v : Value} {n : Nat} {xs : List Value} (h : w.ownsRow base e size v n xs) (hb : ∀ g, blkOf v = some g → w'.heap[g]? = w.heap[g]?) : w'.ownsRow base e size v n xs := by
  obtain ⟨h1, h2⟩ := h
  refine ⟨h1, ?_⟩
  rcases h2 with h2 | ⟨g, cap, cur, rfl, hg, hh, r⟩
  · exact .inl h2
  · exact .inr ⟨g, cap, cur, rfl, hg, (hb g rfl).trans hh, r⟩
theorem BRel.keep {N : Nat → Prop} {w w' : World} {S S' : Nat → Prop} {h h' : List ABlk} {ψ ψ' : Nat → Value} {v : Value} {b : ABlk} (H : BRel N w S h ψ v b) (X : Ext w S h ψ w' S' h' ψ')
    (hb : ∀ g, ftp (some b) v g → w'.heap[g]? = w.heap[g]? ∧ (¬ S g → ¬ S' g)) : BRel N w' S' h' ψ' v b := by
  cases b with
  | dead => trivial
  | box cells =>
    obtain ⟨g, cs, e, rfl, h1, h2, h3, h4⟩ := H
    obtain ⟨k1, k2⟩ := hb g rfl
    exact ⟨g, cs, e, rfl, h1, k2 h2, k1.trans h3, AV.relL_ext X _ _ h4⟩
  | row ver e T l =>
    obtain ⟨cells, h1, h0, h2, h3⟩ := H
    refine ⟨cells, ownsRow_same h1 fun g hg => (hb g hg).1, h0, fun i d hd => T.keepS (h2 i d hd) X.blk X.sub, fun g hg => ⟨(h3 g hg).1, (hb g (ownBlock_blkOf hg)).2 (h3 g hg).2⟩⟩
  | res R =>
    obtain ⟨h1, h2⟩ := H
    refine ⟨fun g hg => ?_, R.keep h2 (fun k hk => (hb k hk).1) X.blk X.sub⟩
    obtain ⟨k1, k2, k3⟩ := h1 g hg
    obtain ⟨k4, k5⟩ := hb g hg
    refine ⟨k1, k5 k2, ?_⟩
    rw [Array.getElem?_eq_getElem k3] at k4
    exact (Array.getElem?_eq_some_iff.1 k4).1
theorem BRel.lt {N : Nat → Prop} {w : World} {S : Nat → Prop} {h : List ABlk} {ψ : Nat → Value} {v : Value} {b : ABlk} (H : BRel N w S h ψ v b) (hl : ABlk.live (some b) = true) : ∀ g, ftp (some b) v g → ¬ N g ∧ g < w.heap.size ∧ ¬ S g := by
  cases b with
  | dead => simp [ABlk.live] at hl
  | box cells =>
    obtain ⟨g, cs, e, rfl, h1, h2, h3, h4⟩ := H
    intro g' hg
    simp [ftp, blkOf] at hg
    subst hg
    exact ⟨h1, (Array.getElem?_eq_some_iff.1 h3).1, h2⟩
  | row ver e T l =>
    obtain ⟨cells, h1, h0, h2, h3⟩ := H
    intro g hg
    have hg' : v.ownBlock = some g := by
      rcases h1.2 with ⟨rfl, _⟩ | ⟨g', cap, cur, rfl, _⟩
      · simp [ftp, blkOf] at hg
      · simpa [ftp, blkOf, Value.ownBlock] using hg
    obtain ⟨k1, k2⟩ := World.ownsRow.lt h1 g hg'
    exact ⟨(h3 g hg').1, k2, (h3 g hg').2⟩
  | res R =>
    intro g hg
    obtain ⟨k1, k2, k3⟩ := H.1 g hg
    exact ⟨k1, k3, k2⟩

/-- the world grows, and what may be read with it; the blocks of the call's own stay -/
theorem Ext.grow {w w' : World} {S S' : Nat → Prop} (h : List ABlk) (ψ : Nat → Value) (hb : ∀ k, S k → w'.heap[k]? = w.heap[k]?) (hs : ∀ k, S k → S' k) : Ext w S h ψ w' S' h ψ :=
  ⟨hb, hs, Nat.le_refl _, fun _ c' _ hv => ⟨c', hv, Nat.le_refl _, fun _ => ⟨rfl, rfl⟩⟩, fun _ _ hv => ⟨hv, rfl⟩⟩
theorem HRel.grow {C : Ctx} {h : List ABlk} {S S' : Nat → Prop} {ψ : Nat → Value} {w w' : World} (H : HRel C h S ψ w) (hb : Below w.heap.size w w') (hs : ∀ k, S k → S' k) (hn : ∀ k, S' k → S k ∨ w.heap.size ≤ k) (hl : ∀ k, S' k → k < w'.heap.size) :
    HRel C h S' ψ w' := by
  refine ⟨H.bel.trans (Kp.of_below hb fun k hk => Nat.lt_of_lt_of_le (H.nlt k hk) H.bel.size), H.nlt, hl, fun k hk => hs k (H.sub k hk), fun k hk => ?_, fun i b hi => ?_, H.dis⟩
  · rcases hn k hk with h1 | h1
    · exact H.new k h1
    · exact .inr (Nat.le_trans H.bel.size h1)
  · by_cases hlv : ABlk.live (some b) = true
    · refine (H.blk i b hi).keep (Ext.grow h ψ (fun k hk => hb.block k (H.lt k hk)) hs) fun g hg => ?_
      obtain ⟨k1, k2, k3⟩ := (H.blk i b hi).lt hlv g hg
      refine ⟨hb.block g k2, fun _ hg' => ?_⟩
      rcases hn g hg' with h1 | h1
      · exact k3 h1
      · omega
    · cases b <;> simp [ABlk.live] at hlv
      trivial

structure St where
  t : List AV
  h : List ABlk
def St.rel (C : Ctx) (s : St) (a : Act) (w : World) : Prop := a.defers = mkD s.h ∧ ∃ S ψ, HRel C s.h S ψ w ∧ AV.relL w S s.h ψ s.t a.tmps.toList

def evA (t : List AV) : Operand → AV
  | .tmp i => (t[i]?).getD (.lit undef)
  | .const v => .lit v
  | .global g => .lit (.pointer (some ⟨g, 0, none⟩))
  | .func f => .lit (.func (.func f) #[] #[])
def putA (t : List AV) (dst : Option Tmp) (r : AV) : List AV :=
  match dst with
  | some d => t.set d r
  | none => t
theorem ev_rel {w : World} {S : Nat → Prop} {h : List ABlk} {ψ : Nat → Value} {t : List AV} {a : Act} (H : AV.relL w S h ψ t a.tmps.toList) (x : Operand) : AV.rel w S h ψ (evA t x) (a.eval x) := by
  cases x with
  | tmp i =>
    show AV.rel w S h ψ ((t[i]?).getD (.lit undef)) (a.tmps.getD i undef)
    rw [Array.getD_eq_getD_getElem?]
    cases hi : t[i]? with
    | none =>
      have : a.tmps[i]? = none := by
        rw [List.getElem?_eq_none_iff] at hi
        have := relL_len H
        simp at this
        rw [Array.getElem?_eq_none_iff]
        omega
      rw [this]
      simp [AV.rel]
    | some x =>
      obtain ⟨v, h1, h2⟩ := relL_get H hi
      have : a.tmps[i]? = some v := by simpa using h1
      rw [this]
      exact h2
  | const v => simp [evA, Act.eval, AV.rel]
  | global g => simp [evA, Act.eval, AV.rel]
  | func f => simp [evA, Act.eval, AV.rel]
theorem put_rel {w : World} {S : Nat → Prop} {h : List ABlk} {ψ : Nat → Value} {t : List AV} {a : Act} (H : AV.relL w S h ψ t a.tmps.toList) (d : Option Tmp) {r : AV} {v : Value} (hr : AV.rel w S h ψ r v) : AV.relL w S h ψ (putA t d r) (a.put d v).tmps.toList := by
  cases d with
  | none => exact H
  | some d =>
    unfold putA Act.put
    simp only [Array.toList_setIfInBounds]
    exact relL_set H d hr
theorem put_defers (a : Act) (d : Option Tmp) (v : Value) : (a.put d v).defers = a.defers := by cases d <;> rfl
/-! ### slots of which nothing is said -/
abbrev A2 (l : List AV) : List AV := .any :: .any :: l
abbrev A3 (l : List AV) : List AV := .any :: .any :: .any :: l
abbrev A4 (l : List AV) : List AV := .any :: .any :: .any :: .any :: l
abbrev A5 (l : List AV) : List AV := .any :: A4 l
abbrev A6 (l : List AV) : List AV := .any :: A5 l
abbrev A7 (l : List AV) : List AV := .any :: A6 l
abbrev A8 (l : List AV) : List AV := A4 (A4 l)
abbrev A9 (l : List AV) : List AV := .any :: A8 l
abbrev A10 (l : List AV) : List AV := .any :: A9 l
abbrev A20 (l : List AV) : List AV := A10 (A10 l)
abbrev A40 (l : List AV) : List AV := A20 (A20 l)
abbrev A80 (l : List AV) : List AV := A40 (A40 l)
end Mu
end
section
/-
  Walking over abstract states: the rules of the control; regions, whatever their order.
  Conditions: none; generic.
-/
namespace Mu
open Go Go.RowKit

section
variable {P : Program} {C : Ctx}

/-- no bounds; in a round, or not -/
def fnc : Option Nat → Fence
  | none => Fence.wide
  | some l => Fence.wide.inRound l
theorem fnc_fn (rd : Option Nat) (f : FuncId) : (fnc rd).fn f := by cases rd <;> trivial
theorem fnc_depth (rd : Option Nat) : (fnc rd).depth = none := by cases rd <;> rfl
theorem fnc_calls {rd : Option Nat} {n : Nat} {f : FuncId} {args : Array Value} {w : World} {R : Ending → World → Prop} (h : Calls P f args w R) : CallsIn (fnc rd) n P f args w R := by
  cases rd with
  | none => exact callsIn_wide.2 h
  | some l => exact callsIn_of h
theorem fnc_rows {rd : Option Nat} {n : Nat} {row : String} {args : Array Value} {w : World} {R : Value → World → Prop} (h : Rows P row args w R) : RowsIn (fnc rd) n P row args w R := by
  cases rd with
  | none => exact fun c cs _ => let ⟨v, w', r, s⟩ := h c cs; ⟨v, w', r, stepsIn_wide.2 s⟩
  | some l => exact rowsIn_of h
theorem fnc_oper {rd : Option Nat} {n : Nat} {o : Oper} {a : Act} {w : World} {K : Act → World → Prop} {Q : Exit → Act → World → Prop} (hd : ∀ c, o.op ≠ .defer c) (hQ : ¬ LetsOut Q) (h : o.wp P a w K Q) : o.wpIn (fnc rd) n P a w K Q := by
  refine ⟨fun _ _ => fnc_fn _ _, ?_⟩
  rw [Oper.semAt_eq _ _ _ hd]
  unfold Oper.wp at h
  generalize (execOp a.eval o).run P w = r at *
  cases r with
  | ok x w' =>
    cases x <;> simp only [Oper.uponIn, Oper.upon] at h ⊢
    case value => exact h
    case skip => exact h
    case defer => exact h
    case enter => exact ⟨fun h => (by rw [fnc_depth] at h; cases h), (fnc_calls h).mono fun e w'' he => by cases e <;> exact he⟩
    case row => exact ⟨fun h => (by rw [fnc_depth] at h; cases h), (fnc_rows h).mono fun _ _ he => he⟩
  | halt x w' => cases x <;> simp only [Oper.uponIn, Oper.upon] at h ⊢ <;> exact h
theorem fnc_region {rd : Option Nat} {n id : Nat} {ops : Array Oper} {Q : Exit → Act → World → Prop} {a : Act} {w : World} (hm : P.follows .mixedOrders = true) (hd : noDefer ops = true)
    (h : wpAny P .any ops (fun e a w => e = .normal ∧ Q e a w) ops.size (Array.replicate ops.size false) a w.drew) : (Code.region id ops true).wpIn (fnc rd) n P Q a w := by
  cases rd with
  | none => exact wpIn_wide.2 (wp_mono (wp_region_any hm h) fun e a w h => h.2)
  | some l => exact wpIn_mono (wpIn_region_any hm (wpAnyIn_of (noDefer_spec hd) (fun ⟨_, _, h⟩ => by cases h.1) _ _ _ _ h)) fun e a w h => h.2

def Awp (P : Program) (C : Ctx) (c : Code) (Q : Exit → St → Prop) (s : St) : Prop :=
  ∀ a w, s.rel C a w → c.wpIn (fnc C.rd) 4 P (fun e a' w' => ∃ s', Q e s' ∧ s'.rel C a' w') a w
theorem Awp.wp {c : Code} {Q : Exit → St → Prop} {s : St} (hr : C.rd = none) (h : Awp P C c Q s) {a : Act} {w : World} (H : s.rel C a w) : c.wp P (fun e a' w' => ∃ s', Q e s' ∧ s'.rel C a' w') a w := by
  have := h a w H
  rw [hr] at this
  exact wpIn_wide.1 this
def athen (K : St → Prop) (Q : Exit → St → Prop) : Exit → St → Prop
  | .normal, s => K s
  | e, s => Q e s
def ablock (id : Nat) (Q : Exit → St → Prop) : Exit → St → Prop
  | .exit i, s => if i = id then Q .normal s else Q (.exit i) s
  | e, s => Q e s
def ascope (Q : Exit → St → Prop) : Exit → St → Prop
  | .goto _, _ => False
  | e, s => Q e s
def St.le (C : Ctx) (s s' : St) : Prop := ∀ a w, s.rel C a w → s'.rel C a w

theorem Awp.mono {c : Code} {Q Q' : Exit → St → Prop} {s : St} (h : Awp P C c Q s) (hq : ∀ e s, Q e s → Q' e s) : Awp P C c Q' s :=
  fun a w H => wpIn_mono (h a w H) fun e _ _ ⟨s', q, r⟩ => ⟨s', hq e s' q, r⟩
theorem Awp.le {c : Code} {Q : Exit → St → Prop} {s s' : St} (hl : St.le C s s') (h : Awp P C c Q s') : Awp P C c Q s := fun a w H => h a w (hl a w H)
theorem Awp.skip {Q : Exit → St → Prop} {s : St} (h : Q .normal s) : Awp P C .skip Q s := fun _ _ H => wpIn_skip ⟨s, h, H⟩
theorem Awp.label {l : Nat} {Q : Exit → St → Prop} {s : St} (h : Q .normal s) : Awp P C (.label l) Q s := fun _ _ H => wpIn_label ⟨s, h, H⟩
theorem Awp.exit {id : Nat} {Q : Exit → St → Prop} {s : St} (h : Q (.exit id) s) : Awp P C (.exit id) Q s := fun _ _ H => wpIn_exit ⟨s, h, H⟩
theorem Awp.ret {Q : Exit → St → Prop} {s : St} (h : Q .ret s) : Awp P C .ret Q s := fun _ _ H => wpIn_ret ⟨s, h, H⟩
theorem Awp.seq {x y : Code} {Q : Exit → St → Prop} {s : St} (h : ∀ K : St → Prop, (∀ s, Awp P C y Q s → K s) → Awp P C x (athen K Q) s) : Awp P C (.seq x y) Q s := fun a w H =>
  wpIn_seq (wpIn_mono (h _ (fun _ h => h) a w H) fun e a' w' ⟨s', q, r⟩ => by
    cases e with
    | normal => exact q a' w' r
    | _ => exact ⟨s', q, r⟩)
theorem Awp.cond {k : Operand} {x y : Code} {b : Bool} {Q : Exit → St → Prop} {s : St} (hc : evA s.t k = .lit (.bool b)) (ht : b = true → Awp P C x Q s) (hf : b = false → Awp P C y Q s) : Awp P C (.cond k x y) Q s := fun a w H => by
  obtain ⟨_, S, ψ, _, hl⟩ := id H
  have := ev_rel hl k
  rw [hc] at this
  unfold AV.rel at this
  exact wpIn_cond_split this (fun e => ht e a w H) (fun e => hf e a w H)
theorem Awp.block {id : Nat} {c : Code} {Q : Exit → St → Prop} {s : St} (h : Awp P C c (ablock id Q) s) : Awp P C (.block id c) Q s := fun a w H =>
  wpIn_block (wpIn_mono (h a w H) fun e a' w' ⟨s', q, r⟩ => by
    cases e with
    | exit i =>
      by_cases hi : i = id
      · simp only [ablock, Exit.inBlock, hi, if_true] at q ⊢
        exact ⟨s', q, r⟩
      · simp only [ablock, Exit.inBlock, hi, if_false] at q ⊢
        exact ⟨s', q, r⟩
    | _ => exact ⟨s', q, r⟩)
theorem wpIn_scope_straight {F : Fence} {n : Nat} {c : Code} {Q : Exit → Act → World → Prop} {a : Act} {w : World} (h : c.wpIn F n P (Exit.noGoto Q) a w) : (Code.scope c).wpIn F n P Q a w := by
  intro b k cs hro hb hr
  obtain ⟨e, a₁, w₁, hq, harr⟩ := h b (.inScope c :: k) cs hro hb hr
  have h0 : (lone (b.atR a (.code (.scope c) :: k)) cs w).fenced P F := fenced_calm hb hr rfl
  have s0 : step P (lone (b.atR a (.code (.scope c) :: k)) cs w) = .next (lone (b.atR a (.code c :: .inScope c :: k)) cs w) := step_lone_go (by simp [stepG, stepG.exec, Frame.atR])
  have s1 : step P (lone (b.atR a₁ (.inScope c :: k)) cs w₁) = .next (lone (b.atR a₁ k) cs w₁) := step_lone_go (by simp [stepG, stepG.exec, Frame.atR])
  have h1 : (lone (b.atR a₁ (.inScope c :: k)) cs w₁).fenced P F := fenced_calm hb hr rfl
  cases e with
  | normal => exact ⟨.normal, a₁, w₁, hq, .head h0 s0 (StepsIn.trans harr (.one h1 s1))⟩
  | exit id =>
    refine ⟨.exit id, a₁, w₁, hq, fun k' hk => .head h0 s0 (harr.1 k' (by simp [exitTo, hk])), fun hr' hk => ?_⟩
    obtain ⟨k₁, h2, h3⟩ := harr.2 hr' (by simp [exitTo, hk])
    exact ⟨k₁, h2, .head h0 s0 h3⟩
  | goto l => exact hq.elim
  | ret => exact ⟨_, a₁, w₁, hq, .of_steps (.one h0 s0) harr⟩
  | panic ch => exact ⟨_, a₁, w₁, hq, .of_steps (.one h0 s0) harr⟩
  | outgrown => exact ⟨_, a₁, w₁, hq, .of_steps (.one h0 s0) harr⟩
theorem Awp.scope {c : Code} {Q : Exit → St → Prop} {s : St} (h : Awp P C c (ascope Q) s) : Awp P C (.scope c) Q s := fun a w H =>
  wpIn_scope_straight (wpIn_mono (h a w H) fun e a' w' ⟨s', q, r⟩ => by
    cases e with
    | goto l => exact q.elim
    | _ => exact ⟨s', q, r⟩)
theorem least_of {p : Nat → Prop} (h : ∃ m, p m) : ∃ m, p m ∧ ∀ k, p k → m ≤ k := by
  obtain ⟨m, hm⟩ := h
  induction m using Nat.strongRecOn with
  | _ m ih =>
    by_cases hk : ∃ k, k < m ∧ p k
    · obtain ⟨k, hkm, hpk⟩ := hk
      exact ih k hkm hpk
    · exact ⟨m, hm, fun k hpk => Nat.le_of_not_lt fun hlt => hk ⟨k, hlt, hpk⟩⟩
theorem Awp.loop {c : Code} {Q : Exit → St → Prop} {s : St} (J : Nat → St → Prop) (m : Nat) (h0 : ∃ s', St.le C s s' ∧ J m s')
    (hr : ∀ m s, J m s → Awp P C c (athen (fun s' => ∃ m', m' < m ∧ ∃ s'', St.le C s' s'' ∧ J m' s'') Q) s) : Awp P C (.loop c) Q s := fun a w H => by
  classical
  let In : Act → World → Prop := fun a w => ∃ m, ∃ s, J m s ∧ s.rel C a w
  let μ : Act → World → Nat := fun a w => if h : ∃ m, ∃ s, J m s ∧ s.rel C a w then Classical.choose (least_of h) else 0
  obtain ⟨s', hle, hJ⟩ := h0
  refine wpIn_loop In μ ⟨m, s', hJ, hle a w H⟩ fun a w hI => ?_
  have hf := (Classical.choose_spec (least_of hI)).1
  obtain ⟨s1, h1, h2⟩ := hf
  have hμ : μ a w = Classical.choose (least_of hI) := dif_pos hI
  refine wpIn_mono (hr _ s1 h1 a w h2) fun e a' w' ⟨s2, q, r⟩ => ?_
  cases e with
  | normal =>
    obtain ⟨m', hm, s3, hle3, hJ3⟩ := q
    have hI' : In a' w' := ⟨m', s3, hJ3, hle3 a' w' r⟩
    refine ⟨hI', ?_⟩
    have : μ a' w' = Classical.choose (least_of hI') := dif_pos hI'
    rw [this, hμ]
    exact Nat.lt_of_le_of_lt ((Classical.choose_spec (least_of hI')).2 _ ⟨s3, hJ3, hle3 a' w' r⟩) hm
  | _ => exact ⟨s2, q, r⟩

/-! ### operations -/
def AOp (P : Program) (C : Ctx) (o : Oper) (s : St) (K : St → Prop) : Prop :=
  ∀ (Q' : Exit → Act → World → Prop) a w, s.rel C a w → (∀ c, o.op ≠ .defer c) ∧ o.wp P a w (fun a' w' => ∃ s', K s' ∧ s'.rel C a' w') Q'
def gA (ops : Array Oper) (t : List AV) (o : Oper) : Option Bool :=
  match o.guard with
  | none => some true
  | some (j, want) =>
    match ((ops[j]?).bind (·.dst)).bind (t[·]?) with
    | some (.lit (.bool b)) => some (b == want)
    | some (.lit (.tuple _)) => some false
    | _ => none
theorem gA_wanted {ops : Array Oper} {t : List AV} {o : Oper} {b : Bool} {a : Act} {w : World} {S : Nat → Prop} {h : List ABlk} {ψ : Nat → Value} (hg : gA ops t o = some b) (hl : AV.relL w S h ψ t a.tmps.toList) :
    Region.wanted o (yielded ops a.tmps) = b := by
  unfold gA at hg
  unfold Region.wanted
  cases ho : o.guard with
  | none => simpa [ho] using hg
  | some p =>
    obtain ⟨j, want⟩ := p
    rw [ho] at hg
    simp only at hg ⊢
    unfold yielded
    cases hd : (ops[j]?).bind (·.dst) with
    | none => rw [hd] at hg; simp at hg
    | some d =>
      rw [hd] at hg
      simp only [Option.bind_some] at hg ⊢
      cases hx : t[d]? with
      | none => rw [hx] at hg; simp at hg
      | some x =>
        rw [hx] at hg
        obtain ⟨v, h1, h2⟩ := relL_get hl hx
        have h1' : a.tmps[d]? = some v := by simpa using h1
        rw [h1']
        split at hg
        · rename_i b' heq
          cases heq
          unfold AV.rel at h2
          subst h2
          simpa using hg
        · rename_i vs heq
          cases heq
          unfold AV.rel at h2
          subst h2
          simpa using hg
        · cases hg
def aSeq (P : Program) (C : Ctx) (ops : Array Oper) (K : St → Prop) : List Oper → St → Prop
  | [], s => K s
  | o :: rest, s => ∃ b, gA ops s.t o = some b ∧ (b = true → AOp P C o s (aSeq P C ops K rest)) ∧ (b = false → aSeq P C ops K rest ⟨putA s.t o.dst (.lit undef), s.h⟩)
theorem undef_rel {s : St} {a : Act} {w : World} (H : s.rel C a w) (d : Option Tmp) : St.rel C ⟨putA s.t d (.lit undef), s.h⟩ (a.put d undef) w := by
  obtain ⟨hd, S, ψ, hh, hl⟩ := H
  exact ⟨by rw [put_defers]; exact hd, S, ψ, hh, put_rel hl d (by unfold AV.rel; rfl)⟩
theorem wpList_of_aSeq {ops : Array Oper} {K : St → Prop} {Q' : Exit → Act → World → Prop} (hQ : ∀ s a w, K s → s.rel C a w → Q' .normal a w) : ∀ (l : List Oper) (s : St) (a : Act) (w : World), aSeq P C ops K l s → s.rel C a w → wpList P ops Q' l a w
  | [], s, a, w, h, H => hQ s a w h H
  | o :: rest, s, a, w, h, H => by
    obtain ⟨b, hg, ht, hf⟩ := h
    obtain ⟨_, S, ψ, _, hl⟩ := id H
    have hw := gA_wanted hg hl
    unfold wpList
    rw [hw]
    cases b with
    | true =>
      rw [if_pos rfl]
      exact .inl (Oper.wp_mono (fun a' w' ⟨s', h1, h2⟩ => wpList_of_aSeq hQ rest s' a' w' h1 h2) (ht rfl Q' a w H).2)
    | false =>
      rw [if_neg (by simp)]
      exact wpList_of_aSeq hQ rest _ _ w (hf rfl) (undef_rel H o.dst)
theorem wpListIn_of_aSeq {rd : Option Nat} {ops : Array Oper} {K : St → Prop} {Q' : Exit → Act → World → Prop} (hlo : ¬ LetsOut Q') (hQ : ∀ s a w, K s → s.rel C a w → Q' .normal a w) : ∀ (l : List Oper) (s : St) (a : Act) (w : World), aSeq P C ops K l s → s.rel C a w → wpListIn (fnc rd) 4 P ops Q' l a w
  | [], s, a, w, h, H => hQ s a w h H
  | o :: rest, s, a, w, h, H => by
    obtain ⟨b, hg, ht, hf⟩ := h
    obtain ⟨_, S, ψ, _, hl⟩ := id H
    have hw := gA_wanted hg hl
    unfold wpListIn
    rw [hw]
    cases b with
    | true =>
      rw [if_pos rfl]
      exact fnc_oper (ht rfl Q' a w H).1 hlo (Oper.wp_mono (fun a' w' ⟨s', h1, h2⟩ => wpListIn_of_aSeq hlo hQ rest s' a' w' h1 h2) (ht rfl Q' a w H).2)
    | false =>
      rw [if_neg (by simp)]
      exact ⟨fun _ _ => fnc_fn _ _, wpListIn_of_aSeq hlo hQ rest _ _ w (hf rfl) (undef_rel H o.dst)⟩
theorem Awp.region {id : Nat} {l : List Oper} {Q : Exit → St → Prop} {s : St} (h : aSeq P C l.toArray (Q .normal) l s) : Awp P C (.region id l.toArray false) Q s := fun a w H =>
  wpIn_mono (wpIn_region_lit (wpListIn_of_aSeq (Q' := fun e a' w' => e = .normal ∧ ∃ s', Q e s' ∧ s'.rel C a' w') (fun ⟨_, _, h⟩ => by cases h.1) (fun s a w h H => ⟨rfl, s, h, H⟩) l s a w h H)) fun _ _ _ h => h.2

/-! ### operations that leave the call's own memory alone -/
def Good (w : World) (S : Nat → Prop) (h : List ABlk) (ψ : Nat → Value) (r : AV) (v : Value) (w' : World) : Prop :=
  Below w.heap.size w w' ∧ ∃ S' : Nat → Prop, (∀ k, S k → S' k) ∧ (∀ k, S' k → S k ∨ w.heap.size ≤ k) ∧ (∀ k, S' k → k < w'.heap.size) ∧ AV.rel w' S' h ψ r v
def qUpon (P : Program) (w : World) (S : Nat → Prop) (h : List ABlk) (ψ : Nat → Value) (r : AV) : Result Next → Prop
  | .ok (.value v) w' => Good w S h ψ r v w'
  | .ok .skip w' => Good w S h ψ r undef w'
  | .ok (.enter f args) w1 => w1 = w ∧ Calls P f args w fun e w' => ∃ v, e = .returned v ∧ Good w S h ψ r v w'
  | _ => False
def Quiet (P : Program) (C : Ctx) (t : List AV) (h : List ABlk) (o : Oper) (r : AV) : Prop :=
  ∀ S ψ w (ρ : Operand → Value), HRel C h S ψ w → (∀ x ∈ o.op.operands, AV.rel w S h ψ (evA t x) (ρ x)) → qUpon P w S h ψ r ((execOp ρ o).run P w)
theorem Good.same {w : World} {S : Nat → Prop} {h : List ABlk} {ψ : Nat → Value} {r : AV} {v : Value} (hl : ∀ k, S k → k < w.heap.size) (hr : AV.rel w S h ψ r v) : Good w S h ψ r v w :=
  ⟨Below.refl _ _, S, fun _ h => h, fun _ h => .inl h, hl, hr⟩
theorem upon_of_q {o : Oper} {s : St} {r : AV} {a : Act} {w : World} {S : Nat → Prop} {ψ : Nat → Value} {K : Act → World → Prop} {Q' : Exit → Act → World → Prop} {res : Result Next} (hd : a.defers = mkD s.h) (H : HRel C s.h S ψ w) (hl : AV.relL w S s.h ψ s.t a.tmps.toList)
    (hq : qUpon P w S s.h ψ r res) (hK : ∀ a' w', St.rel C ⟨putA s.t o.dst r, s.h⟩ a' w' → K a' w') : o.upon P a K Q' res := by
  have key : ∀ v w', Good w S s.h ψ r v w' → K (a.put o.dst v) w' := by
    rintro v w' ⟨hb, S', h1, h2, h3, h4⟩
    have X : Ext w S s.h ψ w' S' s.h ψ := Ext.grow s.h ψ (fun k hk => hb.block k (H.lt k hk)) h1
    exact hK _ _ ⟨by rw [put_defers]; exact hd, S', ψ, H.grow hb h1 h2 h3, put_rel (AV.relL_ext X _ _ hl) o.dst h4⟩
  cases res with
  | ok n w' =>
    cases n <;> simp only [qUpon] at hq <;> simp only [Oper.upon]
    case value v => exact key v w' hq
    case skip => exact key undef w' hq
    case enter f args =>
      obtain ⟨rfl, hc⟩ := hq
      exact hc.mono fun e w'' ⟨v, he, hg⟩ => by subst he; exact key v w'' hg
  | halt x w' => simp only [qUpon] at hq
theorem qUpon_noDefer {o : Oper} {r : AV} {h : List ABlk} {w : World} {S : Nat → Prop} {ψ : Nat → Value} {ρ : Operand → Value} (hq : qUpon P w S h ψ r ((execOp ρ o).run P w)) : ∀ c, o.op ≠ .defer c := fun c e => by
  simp only [execOp, e, Sem.run_bind] at hq
  generalize (resolve ρ c o.type).run P w = x at hq
  cases x with
  | ok d w' => exact hq
  | halt x w' => exact hq
theorem AOp.quiet {o : Oper} {s : St} {r : AV} {K : St → Prop} (hq : Quiet P C s.t s.h o r) (hK : K ⟨putA s.t o.dst r, s.h⟩) : AOp P C o s K := by
  rintro Q' a w ⟨hd, S, ψ, H, hl⟩
  refine ⟨qUpon_noDefer (hq S ψ w a.eval H fun x _ => ev_rel hl x), ?_⟩
  exact upon_of_q hd H hl (hq S ψ w a.eval H fun x _ => ev_rel hl x) fun a' w' h => ⟨_, hK, h⟩

/-! ### regions that draw their order -/
section
variable {ops : Array Oper} {md : Region.Mode} {h : List ABlk}
def aYields (P : Program) (C : Ctx) (ops : Array Oper) (h : List ABlk) (o : Oper) (r : AV) (t : List AV) : Prop :=
  (gA ops t o = some true ∧ Quiet P C t h o r) ∨ (gA ops t o = some false ∧ r = .lit undef)
def aOp (P : Program) (C : Ctx) (ops : Array Oper) (h : List ABlk) (i : Nat) (K : List AV → Prop) (t : List AV) : Prop :=
  match ops[i]? with
  | none => K t
  | some o => ∃ r, aYields P C ops h o r t ∧ K (putA t o.dst r)
theorem aOp_mono {i : Nat} {t : List AV} {K K' : List AV → Prop} (hk : ∀ t, K t → K' t) (hh : aOp P C ops h i K t) : aOp P C ops h i K' t := by
  unfold aOp at *
  split
  · exact hk _ (by simpa [*] using hh)
  · rename_i o ho
    simp only [ho] at hh
    obtain ⟨r, h1, h2⟩ := hh
    exact ⟨r, h1, hk _ h2⟩
def aAny (P : Program) (C : Ctx) (md : Region.Mode) (ops : Array Oper) (h : List ABlk) (n : Nat) (L : Array Bool → List AV → Prop) : Nat → Array Bool → List AV → Prop
  | 0, listed, t => L listed t
  | f + 1, listed, t =>
    Region.ready md ops listed ≠ [] ∧ ∀ i ∈ Region.ready md ops listed, i < n ∧ aOp P C ops h i (aAny P C md ops h n L f (listed.setIfInBounds i true)) t
theorem wpOp_of_aOp {i : Nat} {t : List AV} {a : Act} {w : World} {K : List AV → Prop} {K' : Act → World → Prop} {Q' : Exit → Act → World → Prop} (H : St.rel C ⟨t, h⟩ a w) (hK : ∀ t a w, K t → St.rel C ⟨t, h⟩ a w → K' a w)
    (hh : aOp P C ops h i K t) : wpOp P ops Q' i K' a w := by
  unfold aOp at hh
  unfold wpOp
  split
  · rename_i ho; simp only [ho] at hh; exact hK _ _ _ hh H
  · rename_i o ho
    simp only [ho] at hh
    obtain ⟨r, hy, hk⟩ := hh
    obtain ⟨hd, S, ψ, hh', hl⟩ := id H
    rcases hy with ⟨hg, hq⟩ | ⟨hg, rfl⟩
    · have hw := gA_wanted hg hl
      rw [hw, if_pos rfl]
      exact .inl (upon_of_q (s := ⟨t, h⟩) hd hh' hl (hq S ψ w a.eval hh' fun x _ => ev_rel hl x) fun a' w' h => hK _ _ _ hk h)
    · have hw := gA_wanted hg hl
      rw [hw, if_neg (by simp)]
      exact hK _ _ _ hk (undef_rel H o.dst)
theorem wpAny_of_a {n g : Nat} {L : Array Bool → List AV → Prop} {Q' : Exit → Act → World → Prop} (hL : ∀ listed t a w, L listed t → St.rel C ⟨t, h⟩ a w → wpAny P md ops Q' g listed a w) :
    ∀ (f : Nat) (listed : Array Bool) (t : List AV) (a : Act) (w : World), aAny P C md ops h n L f listed t → St.rel C ⟨t, h⟩ a w → wpAny P md ops Q' (f + g) listed a w
  | 0, listed, t, a, w, hh, H => by rw [Nat.zero_add]; exact hL _ _ _ _ hh H
  | f + 1, listed, t, a, w, hh, H => by
    rw [show f + 1 + g = (f + g) + 1 by omega]
    exact ⟨fun h0 => absurd h0 hh.1, fun i hi => wpOp_of_aOp H (fun t' a' w' h' H' => wpAny_of_a hL f _ t' a' w' h' H') (hh.2 i hi).2⟩

theorem evA_put {t : List AV} {dst : Option Tmp} {r : AV} {x : Operand} (hx : ∀ d, dst = some d → x ≠ .tmp d) : evA (putA t dst r) x = evA t x := by
  cases dst with
  | none => rfl
  | some d =>
    cases x with
    | tmp i =>
      have : d ≠ i := fun e => hx d rfl (by rw [e])
      simp [evA, putA, List.getElem?_set_ne this]
    | _ => rfl
theorem quiet_put {o : Oper} {t : List AV} {dst : Option Tmp} {u r : AV} (hdst : ∀ d, dst = some d → d ∉ o.looksAt ops) : Quiet P C (putA t dst u) h o r ↔ Quiet P C t h o r := by
  have key : ∀ x ∈ o.op.operands, evA (putA t dst u) x = evA t x := fun x hx => evA_put fun d hd hxd => hdst d hd (by
    subst hxd
    exact List.mem_append_left _ (List.mem_filterMap.2 ⟨.tmp d, by simpa using hx, rfl⟩))
  constructor
  · intro H S ψ w ρ h1 h2
    exact H S ψ w ρ h1 fun x hx => by rw [key x hx]; exact h2 x hx
  · intro H S ψ w ρ h1 h2
    exact H S ψ w ρ h1 fun x hx => by rw [← key x hx]; exact h2 x hx
theorem gA_put {o : Oper} {t : List AV} {dst : Option Tmp} {u : AV} (hdst : ∀ d, dst = some d → d ∉ o.looksAt ops) : gA ops (putA t dst u) o = gA ops t o := by
  cases dst with
  | none => rfl
  | some d =>
    unfold gA
    cases hg : o.guard with
    | none => rfl
    | some p =>
      obtain ⟨j, want⟩ := p
      simp only
      cases hd : (ops[j]?).bind (·.dst) with
      | none => rfl
      | some k =>
        have : d ≠ k := fun e => hdst d rfl (by
          subst e
          unfold Oper.looksAt
          rw [hg]
          simp only
          rw [hd]
          simp)
        simp [putA, List.getElem?_set_ne this]
theorem aYields_put {o : Oper} {t : List AV} {dst : Option Tmp} {u r : AV} (hdst : ∀ d, dst = some d → d ∉ o.looksAt ops) : aYields P C ops h o r (putA t dst u) ↔ aYields P C ops h o r t := by
  unfold aYields
  rw [gA_put hdst, quiet_put hdst]
theorem putA_comm (t : List AV) {x y : Option Tmp} (v u : AV) (hne : ∀ d, x = some d → y ≠ some d) : putA (putA t x v) y u = putA (putA t y u) x v := by
  cases x with
  | none => rfl
  | some d =>
    cases y with
    | none => rfl
    | some e =>
      have : d ≠ e := fun h => hne d rfl (by rw [h])
      exact List.set_comm _ _ this
theorem aOp_put {j : Nat} {oi oj : Oper} {v : AV} (hj : ops[j]? = some oj) (hap : oi.apart ops oj = true) {K : List AV → Prop} {t : List AV} (hy : aYields P C ops h oi v t) (hh : aOp P C ops h j K (putA t oi.dst v)) :
    aOp P C ops h j (fun t' => aYields P C ops h oi v t' ∧ K (putA t' oi.dst v)) t := by
  obtain ⟨h1, h2, h3⟩ := Oper.apart_spec hap
  unfold aOp at *
  simp only [hj] at *
  obtain ⟨r, hr, hk⟩ := hh
  exact ⟨r, (aYields_put h1).1 hr, (aYields_put h3).2 hy, by rw [← putA_comm t v r h2]; exact hk⟩
theorem aAny_first {n i : Nat} {oi : Oper} {v : AV} {L : Array Bool → List AV → Prop} (hi : ops[i]? = some oi)
    (htail : ∀ listed i, HeadInv md ops n listed → i < n → listed.getD i true = false → ∀ t, n ≤ t → t ∉ Region.ready md ops listed) (hin : i < n)
    (hdone : ∀ listed t, L listed t → ∀ j ∈ Region.ready md ops listed, n ≤ j) :
    ∀ (f : Nat) (listed : Array Bool) (t : List AV), HeadInv md ops n listed →
      (∀ j oj, ops[j]? = some oj → j ≠ i → listed.getD j true = false → (∀ e ∈ oj.after, Region.binds md e = true → e.on ≠ i) → oi.apart ops oj = true) →
      i ∈ Region.ready md ops listed → aYields P C ops h oi v t →
      aAny P C md ops h n L f (listed.setIfInBounds i true) (putA t oi.dst v) → aAny P C md ops h n L (f + 1) listed t := by
  intro f
  induction f with
  | zero =>
    intro listed t inv _ hr hy H
    have hun := (mem_ready.1 hr).1
    refine ⟨fun h => (by rw [h] at hr; cases hr), fun j hj => ?_⟩
    have hjn : j < n := by
      rcases Nat.lt_or_ge j n with h | h
      · exact h
      · exact absurd hj (htail _ i inv hin hun j h)
    refine ⟨hjn, ?_⟩
    by_cases hji : j = i
    · subst hji
      unfold aOp
      simp only [hi]
      exact ⟨v, hy, H⟩
    · have := hdone _ _ H j (ready_mono hj hji)
      omega
  | succ f ih =>
    intro listed t inv hfree hr hy H
    have hun := (mem_ready.1 hr).1
    refine ⟨fun h => (by rw [h] at hr; cases hr), fun j hj => ?_⟩
    have hjn : j < n := by
      rcases Nat.lt_or_ge j n with h | h
      · exact h
      · exact absurd hj (htail _ i inv hin hun j h)
    refine ⟨hjn, ?_⟩
    by_cases hji : j = i
    · subst hji
      unfold aOp
      simp only [hi]
      exact ⟨v, hy, H⟩
    · have h1 := (H.2 j (ready_mono hj hji)).2
      obtain ⟨hjun, oj, hoj, hall⟩ := mem_ready.1 hj
      have hnot : ∀ e ∈ oj.after, Region.binds md e = true → e.on ≠ i := fun e he hb heq => by
        have h1 := hall e he hb
        rw [heq, getD_both hun] at h1
        cases h1
      have h2 := aOp_put hoj (hfree j oj hoj hji hjun hnot) hy h1
      have hfree' : ∀ k ok, ops[k]? = some ok → k ≠ i → (listed.setIfInBounds j true).getD k true = false →
          (∀ e ∈ ok.after, Region.binds md e = true → e.on ≠ i) → oi.apart ops ok = true := fun k ok hk hki hun hno => by
        refine hfree k ok hk hki ?_ hno
        by_cases hjk : j = k
        · subst hjk; exact hjun
        · rw [getD_set_ne true hjk] at hun; exact hun
      refine aOp_mono (fun a' h3 => ih (listed.setIfInBounds j true) a' (inv.set hj hjn) hfree' (ready_mono hr (Ne.symm hji)) h3.1 ?_) h2
      rw [Array.setIfInBounds_comm _ _ hji]
      exact h3.2

/-- the walk of a region's first operations, one by one as they stand -/
def aQ (P : Program) (C : Ctx) (ops : Array Oper) (h : List ABlk) (K : List AV → Prop) : List Oper → List AV → Prop
  | [], t => K t
  | o :: rest, t => ∃ r, aYields P C ops h o r t ∧ aQ P C ops h K rest (putA t o.dst r)
theorem aAny_lex {n g : Nat} {Lq : List AV → Prop} (htail : ∀ listed i, HeadInv md ops n listed → i < n → listed.getD i true = false → ∀ t, n ≤ t → t ∉ Region.ready md ops listed) :
    ∀ (l : List Oper) (k : Nat) (listed : Array Bool) (t : List AV), (∀ j, j < l.length → l[j]? = ops[k + j]?) → k + l.length = n → HeadInv md ops n listed →
    Region.lexHead md ops g l.length k listed = true → aQ P C ops h Lq l t →
    aAny P C md ops h n (fun listed' t' => Region.seqB md ops g n listed' = true ∧ Lq t') l.length listed t
  | [], k, listed, t, _, hk, _, hB, hh => by
    have : k = n := by simpa using hk
    subst this
    exact ⟨by simpa [Region.lexHead] using hB, hh⟩
  | o :: l, k, listed, t, hl, hk, inv, hB, hh => by
    have h0 : ops[k]? = some o := by simpa using (hl 0 (by simp)).symm
    simp only [List.length_cons, Region.lexHead, Bool.and_eq_true] at hB
    obtain ⟨⟨hr, hf⟩, hB'⟩ := hB
    have hkn : k < n := by simp only [List.length_cons] at hk; omega
    have hr' : k ∈ Region.ready md ops listed := by simpa using hr
    obtain ⟨v, hy, hK⟩ := hh
    exact aAny_first h0 htail hkn (fun listed' a' hL => seqB_ready hL.1) l.length listed t inv (Region.free_spec h0 hf) hr' hy
      (aAny_lex htail l (k + 1) _ _ (fun j hj => by have := hl (j + 1) (by simp; omega); simpa [Nat.add_assoc, Nat.add_comm 1 j] using this) (by simp only [List.length_cons] at hk; omega) (inv.set hr' hkn) hB' hK)
def regB (ops : Array Oper) (n : Nat) : Bool :=
  (Region.noSelect ops && noDefer ops) && decide (n ≤ ops.size) && (n == ops.size || (Region.sinkB .any ops n && Region.chainB .any ops n)) && Region.lexHead .any ops (ops.size - n) n 0 (Array.replicate ops.size false)
end
theorem Awp.draw {id : Nat} {l : List Oper} {Q : Exit → St → Prop} {s : St} (n : Nat) (hm : P.follows .mixedOrders = true) (hB : regB l.toArray n = true)
    (hh : aQ P C l.toArray s.h (fun t => aSeq P C l.toArray (Q .normal) (l.drop n) ⟨t, s.h⟩) (l.take n) s.t) : Awp P C (.region id l.toArray true) Q s := fun a w H => by
  simp only [regB, Bool.and_eq_true, decide_eq_true_eq, Bool.or_eq_true, beq_iff_eq] at hB
  obtain ⟨⟨⟨⟨hsel, hnd⟩, hn⟩, hs⟩, hlex⟩ := hB
  have hn' : n ≤ l.length := by simpa using hn
  have htl : (l.take n).length = n := by simp; omega
  have hdl : (l.drop n).length = l.toArray.size - n := by simp
  have inv0 : HeadInv .any l.toArray n (Array.replicate l.toArray.size false) :=
    ⟨by simp, fun j oj _ hl => (by rw [getD_replicate_false] at hl; cases hl), fun t _ ht => getD_in (by simpa using ht) (getD_replicate_false _ _)⟩
  have htail : ∀ (listed : Array Bool) (i : Nat), HeadInv .any l.toArray n listed → i < n → listed.getD i true = false → ∀ t, n ≤ t → t ∉ Region.ready .any l.toArray listed := by
    intro listed i inv hi hun t ht
    rcases hs with hs | ⟨hs, hc⟩
    · intro hr
      obtain ⟨_, o, ho, _⟩ := mem_ready.1 hr
      have := (Array.getElem?_eq_some_iff.1 ho).1
      omega
    · by_cases hlt : n < l.toArray.size
      · exact tail_waits hs hc hlt inv _ i rfl hi hun t ht
      · intro hr
        obtain ⟨_, o, ho, _⟩ := mem_ready.1 hr
        have := (Array.getElem?_eq_some_iff.1 ho).1
        omega
  have HH := aAny_lex (md := .any) (g := l.toArray.size - n) htail (l.take n) 0 _ s.t (fun j hj => by
    have hj' : j < n := by rw [htl] at hj; exact hj
    simp [hj']) (by simpa using htl) inv0 (by rw [htl]; exact hlex) hh
  refine fnc_region hm hnd ?_
  have H' : St.rel C ⟨s.t, s.h⟩ a { w with drawn := w.drawn + 1 } := by
    obtain ⟨hd, S, ψ, hh', hl⟩ := H
    have hb : Below w.heap.size w { w with drawn := w.drawn + 1 } := ⟨rfl, rfl, rfl, Nat.le_refl _, fun _ _ => rfl⟩
    exact ⟨hd, S, ψ, hh'.grow hb (fun _ h => h) (fun _ h => .inl h) hh'.lt, AV.relL_ext (show Ext w S s.h ψ { w with drawn := w.drawn + 1 } S s.h ψ from Ext.grow s.h ψ (fun k hk => rfl) fun _ h => h) _ _ hl⟩
  have := wpAny_of_a (Q' := fun e a' w' => e = .normal ∧ ∃ s', Q e s' ∧ s'.rel C a' w') (g := l.toArray.size - n) (fun listed t a' w' hL H' => by
    have := wpAny_of_seq (md := .any) (l.drop n) n listed a' w' (fun j => by simp [List.getElem?_drop]) (by rw [hdl]; exact hL.1) (wpList_of_aSeq (Q' := fun e a' w' => e = .normal ∧ ∃ s', Q e s' ∧ s'.rel C a' w') (fun s a w h H => ⟨rfl, s, h, H⟩) _ _ _ _ hL.2 H')
    rwa [hdl] at this) _ _ _ _ _ HH H'
  rw [htl, show n + (l.toArray.size - n) = l.toArray.size by omega] at this
  exact this
end
end Mu
end
section
/-
  Contracts over abstract values; a function's contract from its walk; a call by its contract.
  Conditions: none; generic.
-/
namespace Mu
open Go Go.RowKit

mutual
def AV.cl : AV → Bool
  | .own _ _ => false
  | .ptr _ _ => false
  | .rp _ _ _ _ => false
  | .agg l => AV.clL l
  | .tup l => AV.clL l
  | .fn _ l => AV.clL l
  | _ => true
def AV.clL : List AV → Bool
  | [] => true
  | x :: l => AV.cl x && AV.clL l
end
section
variable {w : World} {S : Nat → Prop} {h h' : List ABlk} {ψ ψ' : Nat → Value}
mutual
theorem AV.rel_cl : ∀ (x : AV) (v : Value), AV.cl x = true → AV.rel w S h ψ x v → AV.rel w S h' ψ' x v
  | .any, _, _, _ => by unfold AV.rel; trivial
  | .lit u, v, _, H => by unfold AV.rel at H ⊢; exact H
  | .bs T l, v, _, H => by unfold AV.rel at H ⊢; exact H
  | .tv T d, v, _, H => by unfold AV.rel at H ⊢; exact H
  | .own i ver, v, hc, H => by simp [AV.cl] at hc
  | .ptr i off, v, hc, H => by simp [AV.cl] at hc
  | .rp i ver k off, v, hc, H => by simp [AV.cl] at hc
  | .bp T d off, v, _, H => by unfold AV.rel at H ⊢; exact H
  | .agg l, v, hc, H => by
    unfold AV.cl at hc
    unfold AV.rel at H ⊢
    obtain ⟨cs, e, hl⟩ := H
    exact ⟨cs, e, AV.relL_cl l cs hc hl⟩
  | .tup l, v, hc, H => by
    unfold AV.cl at hc
    unfold AV.rel at H ⊢
    obtain ⟨cs, e, hl⟩ := H
    exact ⟨cs, e, AV.relL_cl l cs hc hl⟩
  | .fn f l, v, hc, H => by
    unfold AV.cl at hc
    unfold AV.rel at H ⊢
    obtain ⟨cs, e, hl⟩ := H
    exact ⟨cs, e, AV.relL_cl l cs hc hl⟩
theorem AV.relL_cl : ∀ (l : List AV) (cs : List Value), AV.clL l = true → AV.relL w S h ψ l cs → AV.relL w S h' ψ' l cs
  | [], cs, _, H => by unfold AV.relL at H ⊢; exact H
  | x :: l, cs, hc, H => by
    unfold AV.clL at hc
    rw [Bool.and_eq_true] at hc
    unfold AV.relL at H ⊢
    obtain ⟨v, vs, e, h1, h2⟩ := H
    exact ⟨v, vs, e, AV.rel_cl x v hc.1 h1, AV.relL_cl l vs hc.2 h2⟩
end
end

def ψ0 : Nat → Value := fun _ => undef
def Enters (P : Program) (f : FuncId) : Bool :=
  match P.funcs[f]? with
  | some fn => !(fn.name == "runtime.NumGoroutine") && !fn.body.isNone
  | none => false
/-- called with such values a function returns such a one, and leaves what is there as it is -/
def Fn (P : Program) (f : FuncId) (args : List AV) (r : AV) : Prop :=
  Enters P f = true ∧ ∀ (w : World) (S : Nat → Prop) (vs : List Value), (∀ k, S k → k < w.heap.size) → AV.relL w S [] ψ0 args vs →
    Calls P f vs.toArray w fun e w' => ∃ v, e = .returned v ∧ Good w S [] ψ0 r v w'

theorem relL_map {w : World} {S : Nat → Prop} {h : List ABlk} {ψ : Nat → Value} {t : List AV} {ρ : Operand → Value} : ∀ {l : List Operand}, (∀ x ∈ l, AV.rel w S h ψ (evA t x) (ρ x)) → AV.relL w S h ψ (l.map (evA t)) (l.map ρ)
  | [], _ => by unfold AV.relL; rfl
  | x :: l, H => by
    simp only [List.map_cons]
    unfold AV.relL
    exact ⟨_, _, rfl, H x (by simp), relL_map fun y hy => H y (by simp [hy])⟩
theorem run_call {P : Program} {o : Oper} {f : FuncId} {args : Array Operand} {tys : Array TypeId} (ho : o.op = .call { callee := .value (.func f), args := args, argTypes := tys }) (hE : Enters P f = true) (ρ : Operand → Value) (w : World) (hρ : ρ (.func f) = .func (.func f) #[] #[]) :
    (execOp ρ o).run P w = .ok (.enter f (args.map ρ)) w := by
  unfold Enters at hE
  cases hf : P.funcs[f]? with
  | none => rw [hf] at hE; cases hE
  | some fn =>
    rw [hf] at hE
    simp only [Bool.and_eq_true, Bool.not_eq_true'] at hE
    have h1 : ¬ fn.name = "runtime.NumGoroutine" := by simpa using hE.1
    have h2 : ¬ fn.body = none := fun e => by have := hE.2; rw [e] at this; cases this
    simp [execOp, ho, resolve, Deferred.ofValue, hρ, invoke, callFunc, hf, h1, h2]
theorem Quiet.call {P : Program} {C : Ctx} {t : List AV} {h : List ABlk} {o : Oper} {f : FuncId} {args : Array Operand} {tys : Array TypeId} {xs : List AV} {r : AV}
    (ho : o.op = .call { callee := .value (.func f), args := args, argTypes := tys }) (hF : Fn P f xs r) (hx : args.toList.map (evA t) = xs) (hc : AV.clL xs = true) (hr : AV.cl r = true) : Quiet P C t h o r := by
  intro S ψ w ρ H hρ
  have h1 : ρ (.func f) = .func (.func f) #[] #[] := by
    have := hρ (.func f) (by rw [ho]; exact Array.mem_append.2 (.inl (by simp)))
    simpa [evA, AV.rel] using this
  rw [run_call ho hF.1 ρ w h1]
  refine ⟨rfl, ?_⟩
  have h2 : AV.relL w S h ψ xs (args.toList.map ρ) := by
    rw [← hx]
    exact relL_map fun x hx' => hρ x (by rw [ho]; exact Array.mem_append.2 (.inr (Array.mem_toList_iff.1 hx')))
  have h3 := hF.2 w S (args.toList.map ρ) H.lt (AV.relL_cl _ _ hc h2)
  rw [show (args.map ρ) = (args.toList.map ρ).toArray from (by rw [← Array.toList_map])]
  refine h3.mono ?_
  rintro e w' ⟨v, he, hb, S', k1, k2, k3, k4⟩
  exact ⟨v, he, hb, S', k1, k2, k3, AV.rel_cl _ _ hr k4⟩

/-- what a result comes to, when the call is over -/
def Fin (h : List ABlk) (x r : AV) : Prop := mkD h = [] ∧
  ∀ (C : Ctx) (S : Nat → Prop) (ψ : Nat → Value) (w : World) (v : Value), C.std → HRel C h S ψ w → AV.rel w S h ψ x v →
    ∃ S' : Nat → Prop, (∀ k, S k → S' k) ∧ (∀ k, S' k → S k ∨ C.w0.heap.size ≤ k) ∧ (∀ k, S' k → k < w.heap.size) ∧ AV.rel w S' [] ψ0 r v
theorem Fin.cl {h : List ABlk} {r : AV} (hr : AV.cl r = true) (hm : mkD h = [] := by rfl) : Fin h r r := ⟨hm, fun C S ψ w v _ H hv => ⟨S, fun _ h => h, fun _ h => .inl h, H.lt, AV.rel_cl _ _ hr hv⟩⟩
theorem Fin.own {h : List ABlk} {i ver : Nat} {e : TypeId} {α : Type} {T : Ty α} {l : List α} (hi : h[i]? = some (.row ver e T l)) (hm : mkD h = [] := by rfl) : Fin h (.own i ver) (.bs T l) := ⟨hm, fun C S ψ w v hC H hv => by
  unfold AV.rel at hv
  have hv' := (hv.2 _ (by rw [hi]; rfl)).2 rfl
  subst hv'
  obtain ⟨cells, h1, h0, h2, h3⟩ := H.blk i _ hi
  refine ⟨fun k => S k ∨ (ψ i).ownBlock = some k, fun _ h => .inl h, fun k hk => ?_, fun k hk => ?_, ?_⟩
  · rcases hk with hk | hk
    · exact .inl hk
    · exact .inr (Nat.le_of_not_lt fun hlt => (h3 k hk).1 (hC k hlt))
  · rcases hk with hk | hk
    · exact H.lt k hk
    · exact (World.ownsRow.lt h1 k hk).2
  · unfold AV.rel
    exact own_slice h1 (fun i d hd => T.keepS (h2 i d hd) (fun _ _ => rfl) fun _ h => .inl h) fun g hg => .inr hg⟩
def Rets (t : Tmp) (r : AV) : Exit → St → Prop := fun e s => (e = .normal ∨ e = .ret) ∧ Fin s.h (evA s.t (.tmp t)) r
def Rets2 (t u : Tmp) (r q : AV) : Exit → St → Prop := fun e s => (e = .normal ∨ e = .ret) ∧ ∃ r' q', Fin s.h (.tup [evA s.t (.tmp t), evA s.t (.tmp u)]) (.tup [r', q']) ∧ r' = r ∧ q' = q
theorem start_rel {w : World} {S : Nat → Prop} {args : List AV} {vs : List Value} {n : Nat} (hS : ∀ k, S k → k < w.heap.size) (hr : AV.relL w S [] ψ0 args vs) :
    St.rel ⟨w, S, fun k => k < w.heap.size, none⟩ ⟨args ++ List.replicate (n - args.length) (.lit undef), []⟩ { tmps := vs.toArray ++ Array.replicate (n - vs.toArray.size) undef, defers := [] } w := by
  refine ⟨rfl, S, ψ0, ⟨Kp.refl _ _, fun _ h => h, hS, fun _ h => h, fun _ h => .inl h, fun i b hi => by simp at hi, fun i j _ hi => by simp [ABlk.live] at hi⟩, ?_⟩
  simp only [Array.toList_append, Array.toList_replicate, List.size_toArray]
  refine relL_append hr (relL_of (by simp [relL_len hr]) fun i x v hx hv => ?_)
  rw [List.getElem?_replicate] at hx hv
  split at hx <;> cases hx
  split at hv <;> cases hv
  unfold AV.rel
  rfl
theorem good_final {w : World} {S : Nat → Prop} {s : St} {w' : World} {x r : AV} {v : Value} {S1 : Nat → Prop} {ψ : Nat → Value} (H : HRel ⟨w, S, fun k => k < w.heap.size, none⟩ s.h S1 ψ w') (hf : Fin s.h x r) (hv : AV.rel w' S1 s.h ψ x v) : Good w S [] ψ0 r v w' := by
  obtain ⟨S', k1, k2, k3, k4⟩ := hf.2 _ _ _ _ _ (fun _ h => h) H hv
  refine ⟨H.bel.below fun _ h => h, S', fun k hk => k1 k (H.sub k hk), fun k hk => ?_, k3, k4⟩
  rcases k2 k hk with h1 | h1
  · exact H.new k h1
  · exact .inr h1
theorem Fn.of_awp {P : Program} {f : FuncId} {fn : Go.Func} {c : Code} {args : List AV} {r : AV} {t : Tmp} {n : Nat} (hf : P.funcs[f]? = some fn) (hb : fn.body = some c) (hE : Enters P f = true) (hres : fn.results = #[.tmp t]) (hn : fn.ntmps = n)
    (h : ∀ C : Ctx, C.std → Awp P C c (Rets t r) ⟨args ++ List.replicate (n - args.length) (.lit undef), []⟩) : Fn P f args r := by
  refine ⟨hE, fun w S vs hS hr => calls_of_wp hf hb ?_⟩
  rw [hn]
  refine wp_mono ((h ⟨w, S, fun k => k < w.heap.size, none⟩ (fun _ h => h)).wp rfl (start_rel hS hr)) ?_
  rintro e a' w' ⟨s, ⟨he, hfin⟩, hd, S1, ψ, H, hl⟩
  rw [hfin.1] at hd
  have hv := ev_rel hl (.tmp t)
  have hg := good_final H hfin hv
  have hres' : (results fn a'.tmps).run P w' = .ok (a'.eval (.tmp t)) w' := results_tmp hres _ _ _
  rcases he with rfl | rfl
  · exact ⟨hd, _, hres', _, rfl, hg⟩
  · exact ⟨hd, _, hres', _, rfl, hg⟩
theorem Fn.of_awp2 {P : Program} {f : FuncId} {fn : Go.Func} {c : Code} {args : List AV} {r q : AV} {t u : Tmp} {n : Nat} (hf : P.funcs[f]? = some fn) (hb : fn.body = some c) (hE : Enters P f = true) (hres : fn.results = #[.tmp t, .tmp u]) (hn : fn.ntmps = n)
    (h : ∀ C : Ctx, C.std → Awp P C c (Rets2 t u r q) ⟨args ++ List.replicate (n - args.length) (.lit undef), []⟩) : Fn P f args (.tup [r, q]) := by
  refine ⟨hE, fun w S vs hS hr => calls_of_wp hf hb ?_⟩
  rw [hn]
  refine wp_mono ((h ⟨w, S, fun k => k < w.heap.size, none⟩ (fun _ h => h)).wp rfl (start_rel hS hr)) ?_
  rintro e a' w' ⟨s, ⟨he, r', q', hfin, rfl, rfl⟩, hd, S1, ψ, H, hl⟩
  rw [hfin.1] at hd
  have hv : AV.rel w' S1 s.h ψ (.tup [evA s.t (.tmp t), evA s.t (.tmp u)]) (.tuple #[a'.eval (.tmp t), a'.eval (.tmp u)]) := by
    unfold AV.rel
    refine ⟨[a'.eval (.tmp t), a'.eval (.tmp u)], rfl, ?_⟩
    unfold AV.relL
    refine ⟨_, _, rfl, ev_rel hl (.tmp t), ?_⟩
    unfold AV.relL
    refine ⟨_, _, rfl, ev_rel hl (.tmp u), ?_⟩
    unfold AV.relL
    rfl
  have hg := good_final H hfin hv
  have hres' : (results fn a'.tmps).run P w' = .ok (.tuple #[a'.eval (.tmp t), a'.eval (.tmp u)]) w' := results_tmp2 hres _ _ _
  rcases he with rfl | rfl
  · exact ⟨hd, _, hres', _, rfl, hg⟩
  · exact ⟨hd, _, hres', _, rfl, hg⟩
theorem nS {P : Program} {C : Ctx} {h : List ABlk} {c : Code} {Q : Exit → St → Prop} {t t' : List AV} (ht : t = t' := by (simp only [List.length_cons, List.length_nil, Nat.reduceAdd, Nat.reduceSub, List.replicate_succ, List.replicate_zero, List.cons_append, List.nil_append]; exact rfl)) (hk : Awp P C c Q ⟨t', h⟩) : Awp P C c Q ⟨t, h⟩ := by
  subst ht
  exact hk
end Mu
end
section
/-
  Operations that leave the call's own memory alone: what each yields.
  Conditions: none; generic.
-/
namespace Mu
open Go Go.RowKit Go.ChangeShapes Go.WideShapes

/-- data's cells, written out -/
def Enc {α : Type} (T : Ty α) (enc : α → List AV) : Prop := ∀ (w : World) (S : Nat → Prop) (h : List ABlk) (ψ : Nat → Value) (cs : List Value) (d : α), T.RS w S cs d → AV.relL w S h ψ (enc d) cs
section
variable {P : Program} {C : Ctx} {t : List AV} {h : List ABlk} {o : Oper}
variable {w : World} {S : Nat → Prop} {ψ : Nat → Value}

theorem enc_int (k : IntKind) : Enc (Ty.int k) fun d => [.lit (.int k d)] := by
  rintro w S h ψ cs d ⟨rfl, _⟩
  simp [AV.relL, AV.rel]
theorem enc_bool : Enc Ty.bool fun d => [.lit (.bool d)] := by
  rintro w S h ψ cs d rfl
  simp [AV.relL, AV.rel]
theorem Quiet.of_run {r : AV} (H : ∀ S ψ w (ρ : Operand → Value), HRel C h S ψ w → (∀ x ∈ o.op.operands, AV.rel w S h ψ (evA t x) (ρ x)) → ∃ v, (execOp ρ o).run P w = .ok (.value v) w ∧ AV.rel w S h ψ r v) : Quiet P C t h o r := by
  intro S ψ w ρ h1 h2
  obtain ⟨v, e, hv⟩ := H S ψ w ρ h1 h2
  rw [e]
  exact Good.same h1.lt hv

theorem Quiet.move {x : Operand} {r : AV} (ho : o.op = .move x) (hx : evA t x = r) : Quiet P C t h o r :=
  Quiet.of_run fun S ψ w ρ _ hρ => ⟨ρ x, by simp [execOp, ho], by rw [← hx]; exact hρ x (by simp [ho, Op.operands])⟩
theorem Quiet.assign {x : Operand} {r : AV} (ho : o.op = .assign x) (hx : evA t x = r) : Quiet P C t h o r :=
  Quiet.of_run fun S ψ w ρ _ hρ => ⟨ρ x, by simp [execOp, ho], by rw [← hx]; exact hρ x (by simp [ho, Op.operands])⟩
theorem Quiet.pick {c a b : Operand} {q : Bool} {r : AV} (ho : o.op = .pick c a b) (hc : evA t c = .lit (.bool q)) (hr : (if q then evA t a else evA t b) = r) : Quiet P C t h o r :=
  Quiet.of_run fun S ψ w ρ _ hρ => by
    have h1 := hρ c (by simp [ho, Op.operands])
    have h2 := hρ a (by simp [ho, Op.operands])
    have h3 := hρ b (by simp [ho, Op.operands])
    rw [hc] at h1
    unfold AV.rel at h1
    cases q
    · exact ⟨ρ b, by simp [execOp, ho, h1, asBool], by rw [← hr]; exact h3⟩
    · exact ⟨ρ a, by simp [execOp, ho, h1, asBool], by rw [← hr]; exact h2⟩
theorem Quiet.extract {x : Operand} {j : Nat} {xs : List AV} {r : AV} (ho : o.op = .extract x j) (hx : evA t x = .tup xs) (hr : xs[j]? = some r) : Quiet P C t h o r :=
  Quiet.of_run fun S ψ w ρ _ hρ => by
    have h1 := hρ x (by simp [ho, Op.operands])
    rw [hx] at h1
    unfold AV.rel at h1
    obtain ⟨cs, e, hl⟩ := h1
    obtain ⟨v, h2, h3⟩ := relL_get hl hr
    exact ⟨v, by simp [execOp, ho, e, Instr.extract, h2], h3⟩

/-- integers -/
def intBin (op : BinOp) (k : IntKind) (a b : Int) : Option Value :=
  match op with
  | .add => some (.int k (k.wrap (a + b)))
  | .sub => some (.int k (k.wrap (a - b)))
  | .mul => some (.int k (k.wrap (a * b)))
  | .eql => some (.bool (a == b))
  | .neq => some (.bool (a != b))
  | .lss => some (.bool (decide (a < b)))
  | .leq => some (.bool (decide (a ≤ b)))
  | .gtr => some (.bool (decide (a > b)))
  | .geq => some (.bool (decide (a ≥ b)))
  | .quo => if b = 0 then none else some (.int k (k.wrap (a.tdiv b)))
  | .rem => if b = 0 then none else some (.int k (a.tmod b))
  | _ => none
theorem Quiet.bin {op : BinOp} {xt yt : TypeId} {x y : Operand} {k : IntKind} {a b : Int} {v : Value} (ho : o.op = .binOp op xt x y yt) (hx : evA t x = .lit (.int k a)) (hy : evA t y = .lit (.int k b)) (hv : intBin op k a b = some v) : Quiet P C t h o (.lit v) :=
  Quiet.of_run fun S ψ w ρ _ hρ => by
    have h1 := hρ x (by simp [ho, Op.operands])
    have h2 := hρ y (by simp [ho, Op.operands])
    rw [hx] at h1
    rw [hy] at h2
    unfold AV.rel at h1 h2
    refine ⟨v, ?_, by unfold AV.rel; rfl⟩
    cases op <;> simp only [intBin, Option.some.injEq, reduceCtorEq] at hv
    case quo =>
      split at hv <;> simp only [Option.some.injEq, reduceCtorEq] at hv
      rename_i hb
      subst hv
      simp [execOp, ho, h1, h2, eqGuard, binOp, Op.intDiv, hb]
    case rem =>
      split at hv <;> simp only [Option.some.injEq, reduceCtorEq] at hv
      rename_i hb
      subst hv
      simp [execOp, ho, h1, h2, eqGuard, binOp, Op.intDiv, hb]
    all_goals
      subst hv
      simp [execOp, ho, h1, h2, eqGuard, binOp, Op.intArith, Op.intCmp]
theorem Quiet.add64 {xt yt : TypeId} {x y : Operand} {a b : Int} (ho : o.op = .binOp .add xt x y yt) (hx : evA t x = .lit (.int .i64 a)) (hy : evA t y = .lit (.int .i64 b)) (hb : -9223372036854775808 ≤ a + b ∧ a + b ≤ 9223372036854775807) : Quiet P C t h o (.lit (.int .i64 (a + b))) := by
  have := Quiet.bin (P := P) (C := C) (h := h) ho hx hy (v := .int .i64 (a + b)) (by simp only [intBin]; rw [IntWalk.i64_in _ ⟨by omega, by omega⟩])
  exact this
theorem Quiet.bnot {xt : TypeId} {x : Operand} {b : Bool} (ho : o.op = .unOp .not xt x) (hx : evA t x = .lit (.bool b)) : Quiet P C t h o (.lit (.bool (!b))) :=
  Quiet.of_run fun S ψ w ρ _ hρ => by
    have h1 := hρ x (by simp [ho, Op.operands])
    rw [hx] at h1
    unfold AV.rel at h1
    exact ⟨_, by simp [execOp, ho, h1, Op.unary]; rfl, by unfold AV.rel; rfl⟩

/-! ### addresses -/
def aggT (P : Program) (ty : TypeId) : Option (Bool × Nat) :=
  match P.underlying ty, P.info? ty with
  | some (.struct _), some i => some (true, i.size)
  | some (.array _ _), some i => some (true, i.size)
  | some _, some i => some (false, i.size)
  | _, _ => none
theorem run_loadCells_at {b o : Nat} {cs : List Value} (w : World) (hc : ∀ j u, cs[j]? = some u → w.cell? ⟨b, o + j, none⟩ = some u) : (loadCells ⟨b, o, none⟩ cs.length).run P w = .ok cs.toArray w :=
  run_loadCells_list w _ cs fun j v hv => by
    have := hc j v hv
    unfold Addr.add
    split
    · rename_i hz
      subst hz
      exact this
    · exact this
/-- from cells in memory to what a load yields -/
theorem run_load_agg {ty : TypeId} {n b off : Nat} {cs : List Value} {w : World} (ha : aggT P ty = some (true, n)) (hn : cs.length = n) (hc : ∀ j u, cs[j]? = some u → w.cell? ⟨b, off + j, none⟩ = some u) :
    (Instr.loadAt ty (.pointer (some ⟨b, off, none⟩))).run P w = .ok (.agg cs.toArray) w := by
  have hl := run_loadCells_at (P := P) w hc
  rw [hn] at hl
  unfold aggT at ha
  split at ha <;> simp only [Option.some.injEq, Prod.mk.injEq, reduceCtorEq, Bool.true_eq_false, Bool.false_eq_true, false_and, true_and] at ha
  · rename_i h1 h2
    simp [Instr.loadAt, Instr.sureAddr, loadVar, isAgg, underlying, h1, Go.sizeOf, typeInfo, h2, ha, hl]
  · rename_i h1 h2
    simp [Instr.loadAt, Instr.sureAddr, loadVar, isAgg, underlying, h1, Go.sizeOf, typeInfo, h2, ha, hl]
theorem run_load_one {ty : TypeId} {n b off : Nat} {u : Value} {w : World} (ha : aggT P ty = some (false, n)) (hc : w.cell? ⟨b, off, none⟩ = some u) :
    (Instr.loadAt ty (.pointer (some ⟨b, off, none⟩))).run P w = .ok u w := by
  unfold aggT at ha
  split at ha <;> simp only [Option.some.injEq, Prod.mk.injEq, reduceCtorEq, Bool.true_eq_false, Bool.false_eq_true, false_and, true_and] at ha
  rename_i d i hs hi h1 h2
  have : (isAgg ty).run P w = .ok false w := by
    unfold isAgg underlying
    simp only [Sem.run_bind, run_program, Result.andThen_ok, h1]
    cases d <;> first | rfl | exact absurd rfl (hs _) | exact absurd rfl (hi _ _)
  simp [Instr.loadAt, Instr.sureAddr, loadVar, this, hc]

/-- the cells from an address on -/
def CellsOf (h : List ABlk) (x : AV) (cells : List AV) : Prop := ∀ (C : Ctx) (S : Nat → Prop) (ψ : Nat → Value) (w : World) (v : Value), HRel C h S ψ w → AV.rel w S h ψ x v →
  ∃ b off, v = .pointer (some ⟨b, off, none⟩) ∧ ∀ j y, cells[j]? = some y → ∃ u, w.cell? ⟨b, off + j, none⟩ = some u ∧ AV.rel w S h ψ y u
/-- an address so much further on -/
def Shift (h : List ABlk) (x : AV) (n : Nat) (y : AV) : Prop := ∀ (C : Ctx) (S : Nat → Prop) (ψ : Nat → Value) (w : World) (v : Value), HRel C h S ψ w → AV.rel w S h ψ x v →
  ∃ b off, v = .pointer (some ⟨b, off, none⟩) ∧ AV.rel w S h ψ y (.pointer (some ⟨b, off + n, none⟩))
theorem CellsOf.ptr {i off : Nat} {cells : List AV} (hi : h[i]? = some (.box cells)) : CellsOf h (.ptr i off) (cells.drop off) := fun C S ψ w v H hv => by
  unfold AV.rel at hv
  obtain ⟨g, h1, rfl⟩ := hv.2 (by rw [hi]; rfl)
  obtain ⟨g', cs, e, h2, _, _, h3, h4⟩ := H.blk i _ hi
  rw [h1] at h2
  cases h2
  refine ⟨g, off, rfl, fun j y hy => ?_⟩
  rw [List.getElem?_drop] at hy
  obtain ⟨u, h5, h6⟩ := relL_get h4 hy
  exact ⟨u, by simp [World.cell?, h3, h5], h6⟩
theorem Shift.ptr {i off n : Nat} {cells : List AV} (hi : h[i]? = some (.box cells)) : Shift h (.ptr i off) n (.ptr i (off + n)) := fun C S ψ w v H hv => by
  unfold AV.rel at hv ⊢
  obtain ⟨g, h1, rfl⟩ := hv.2 (by rw [hi]; rfl)
  exact ⟨g, off, rfl, hv.1, fun _ => ⟨g, h1, rfl⟩⟩
theorem CellsOf.bp {α : Type} {T : Ty α} {d : α} {off : Nat} {enc : α → List AV} (E : Enc T enc) : CellsOf h (.bp T d off) ((enc d).drop off) := fun C S ψ w v H hv => by
  unfold AV.rel at hv
  obtain ⟨b, o, rfl, hS, cs, hR, hc⟩ := hv
  refine ⟨b, o + off, rfl, fun j y hy => ?_⟩
  rw [List.getElem?_drop] at hy
  obtain ⟨u, h5, h6⟩ := relL_get (E w S h ψ cs d hR) hy
  exact ⟨u, by rw [Nat.add_assoc]; exact hc _ _ h5, h6⟩
theorem Shift.bp {α : Type} {T : Ty α} {d : α} {off n : Nat} : Shift h (.bp T d off) n (.bp T d (off + n)) := fun C S ψ w v H hv => by
  unfold AV.rel at hv
  obtain ⟨b, o, rfl, hat⟩ := hv
  exact ⟨b, o + off, rfl, by unfold AV.rel; exact ⟨b, o, by rw [Nat.add_assoc], hat⟩⟩
theorem CellsOf.rp {α : Type} {T : Ty α} {i ver k off : Nat} {e : TypeId} {l : List α} {d : α} {enc : α → List AV} (hi : h[i]? = some (.row ver e T l)) (hk : l[k]? = some d) (E : Enc T enc) : CellsOf h (.rp i ver k off) ((enc d).drop off) := fun C S ψ w v H hv => by
  unfold AV.rel at hv
  obtain ⟨g, n, c, h1, rfl⟩ := (hv.2 _ (by rw [hi]; rfl)).2 rfl
  obtain ⟨cells, h2, h0, h3, _⟩ := H.blk i _ hi
  rw [h1] at h2
  refine ⟨g, _, rfl, fun j y hy => ?_⟩
  rw [List.getElem?_drop] at hy
  obtain ⟨u, h5, h6⟩ := relL_get (E w S h ψ _ d (h3 k d hk)) hy
  have hj : off + j < T.size := by
    have := (List.getElem?_eq_some_iff.1 h5).1
    simp at this
    omega
  rw [List.getElem?_take_of_lt hj, List.getElem?_drop] at h5
  have hkl : k < l.length := (List.getElem?_eq_some_iff.1 hk).1
  have hlt : k * T.size + (off + j) < n * T.size := by
    have hn : n = l.length := by
      rcases h2.2 with ⟨e1, _⟩ | ⟨g', cap, cur, e1, _⟩
      · cases e1
      · cases e1; rfl
    have : (k + 1) * T.size ≤ n * T.size := Nat.mul_le_mul_right _ (by omega)
    rw [Nat.add_mul, Nat.one_mul] at this
    omega
  refine ⟨u, ?_, h6⟩
  have hcell := World.ownsRow.cells h2 (g := g) rfl _ _ h5
  rw [hi]
  show w.cell? ⟨g, k * T.size + off + j, none⟩ = some u
  rw [add_plain, Nat.zero_add, ← Nat.add_assoc] at hcell
  exact hcell
theorem Quiet.load1 {ty : TypeId} {x : Operand} {n : Nat} {a r : AV} {cells : List AV} (ho : o.op = .load ty x) (ha : aggT P ty = some (false, n)) (hx : evA t x = a) (hc : CellsOf h a cells) (hr : cells[0]? = some r) : Quiet P C t h o r :=
  Quiet.of_run fun S ψ w ρ H hρ => by
    have h1 := hρ x (by simp [ho, Op.operands])
    rw [hx] at h1
    obtain ⟨b, off, e, hj⟩ := hc C S ψ w _ H h1
    obtain ⟨u, h2, h3⟩ := hj 0 r hr
    exact ⟨u, by simp [execOp, ho, e, run_load_one ha (by simpa using h2)], h3⟩
theorem Quiet.loadA {ty : TypeId} {x : Operand} {n : Nat} {a : AV} {cells rs : List AV} (ho : o.op = .load ty x) (ha : aggT P ty = some (true, n)) (hx : evA t x = a) (hc : CellsOf h a cells) (hr : cells.take n = rs) (hn : rs.length = n) : Quiet P C t h o (.agg rs) :=
  Quiet.of_run fun S ψ w ρ H hρ => by
    have h1 := hρ x (by simp [ho, Op.operands])
    rw [hx] at h1
    obtain ⟨b, off, e, hj⟩ := hc C S ψ w _ H h1
    have key : ∀ m, m ≤ n → ∃ cs : List Value, cs.length = m ∧ AV.relL w S h ψ (rs.take m) cs ∧ ∀ j u, cs[j]? = some u → w.cell? ⟨b, off + j, none⟩ = some u := by
      intro m
      induction m with
      | zero => exact fun _ => ⟨[], rfl, by simp [AV.relL], by simp⟩
      | succ m ih =>
        intro hm
        obtain ⟨cs, hl, hr1, hr2⟩ := ih (by omega)
        have hy : rs[m]? = some (rs[m]'(by omega)) := List.getElem?_eq_getElem (by omega)
        have hy0 : rs[m]? = cells[m]? := by rw [← hr, List.getElem?_take_of_lt (by omega)]
        have hy' : cells[m]? = some (rs[m]'(by omega)) := hy0.symm.trans hy
        obtain ⟨u, h2, h3⟩ := hj m _ hy'
        refine ⟨cs ++ [u], by simp [hl], ?_, fun j v hv => ?_⟩
        · rw [List.take_succ_eq_append_getElem (by omega)]
          refine relL_append hr1 ?_
          unfold AV.relL
          refine ⟨u, [], rfl, h3, ?_⟩
          unfold AV.relL
          rfl
        · by_cases hjm : j < m
          · exact hr2 j v (by rwa [List.getElem?_append_left (by omega)] at hv)
          · have : j = m := by
              have := (List.getElem?_eq_some_iff.1 hv).1
              simp [hl] at this
              omega
            subst this
            rw [List.getElem?_append_right (by omega), hl] at hv
            simp at hv
            subst hv
            exact h2
    obtain ⟨cs, hl, hr1, hr2⟩ := key n (Nat.le_refl _)
    rw [List.take_of_length_le (by omega)] at hr1
    refine ⟨.agg cs.toArray, by simp [execOp, ho, e, run_load_agg ha hl hr2], ?_⟩
    unfold AV.rel
    exact ⟨cs, rfl, hr1⟩

def fieldOff (P : Program) (st : TypeId) (j : Nat) : Option Nat :=
  match P.underlying st with
  | some (.struct fs) =>
    match fs[j]? with
    | some f => match P.info? f.type with
      | some i => if i.size = 0 then none else some f.offset
      | none => none
    | none => none
  | _ => none
theorem run_fieldAt {st : TypeId} {j n b off : Nat} {w : World} (hf : fieldOff P st j = some n) : (Instr.fieldAt st (.pointer (some ⟨b, off, none⟩)) j).run P w = .ok (.pointer (some ⟨b, off + n, none⟩)) w := by
  unfold fieldOff at hf
  split at hf <;> try (cases hf; done)
  rename_i fs h1
  split at hf <;> try (cases hf; done)
  rename_i f h2
  split at hf <;> try (cases hf; done)
  rename_i i h3
  split at hf <;> try (cases hf; done)
  rename_i h4
  cases hf
  simp [Instr.fieldAt, underlying, h1, h2, Instr.sureAddr, fieldPlace, Go.sizeOf, typeInfo, h3, h4, add_plain]
theorem Quiet.fieldAddr {st : TypeId} {x : Operand} {j n : Nat} {a r : AV} (ho : o.op = .fieldAddr st x j) (hf : fieldOff P st j = some n) (hx : evA t x = a) (hs : Shift h a n r) : Quiet P C t h o r :=
  Quiet.of_run fun S ψ w ρ H hρ => by
    have h1 := hρ x (by simp [ho, Op.operands])
    rw [hx] at h1
    obtain ⟨b, off, e, hr⟩ := hs C S ψ w _ H h1
    exact ⟨_, by simp [execOp, ho, e, run_fieldAt hf], hr⟩

def elemSz (P : Program) (ty : TypeId) : Option Nat :=
  match P.underlying ty with
  | some (.slice e) => (P.info? e).map (·.size)
  | _ => none
theorem run_indexAt_sl {ty : TypeId} {sz b off n c k : Nat} {ik : IntKind} {w : World} (hs : elemSz P ty = some sz) (hk : k < n) : (Instr.indexAt ty (.slice (some ⟨b, off, none⟩) n c) (.int ik (k : Int))).run P w = .ok (.pointer (some ⟨b, off + k * sz, none⟩)) w := by
  unfold elemSz at hs
  split at hs <;> try (cases hs; done)
  rename_i e h1
  cases h2 : P.info? e with
  | none => rw [h2] at hs; cases hs
  | some i =>
    rw [h2] at hs
    simp only [Option.map_some, Option.some.injEq] at hs
    have h3 : (0 : Int) ≤ (k : Int) ∧ (k : Int) < (n : Int) := by omega
    simp [Instr.indexAt, asIntOf, underlying, h1, Go.sizeOf, typeInfo, h2, hs, add_plain, hk]
theorem Quiet.index_bs {ty : TypeId} {x y : Operand} {ik : IntKind} {n : Int} {α : Type} {T : Ty α} {l : List α} {d : α} (ho : o.op = .indexAddr ty x y) (hs : elemSz P ty = some T.size) (hx : evA t x = .bs T l) (hy : evA t y = .lit (.int ik n)) (h0 : 0 ≤ n) (hd : l[n.toNat]? = some d) :
    Quiet P C t h o (.bp T d 0) :=
  Quiet.of_run fun S ψ w ρ H hρ => by
    have h1 := hρ x (by simp [ho, Op.operands])
    have h2 := hρ y (by simp [ho, Op.operands])
    rw [hx] at h1
    rw [hy] at h2
    unfold AV.rel at h1 h2
    obtain ⟨A, c, e, hc, -, hi⟩ := h1
    obtain ⟨b, off, rfl, hat⟩ := hi _ _ hd
    have hk : n.toNat < l.length := (List.getElem?_eq_some_iff.1 hd).1
    have hn : n = (n.toNat : Int) := by omega
    simp only [List.cons.injEq, and_true] at e
    have hr := run_indexAt_sl (P := P) (w := w) (b := b) (off := off) (c := c) (ik := ik) hs hk
    rw [← hn] at hr
    refine ⟨_, by simp [execOp, ho, e, h2, hr]; rfl, ?_⟩
    unfold AV.rel
    exact ⟨b, _, rfl, hat⟩
theorem Quiet.index_own {ty : TypeId} {x y : Operand} {ik : IntKind} {n : Int} {i ver : Nat} {e : TypeId} {α : Type} {T : Ty α} {l : List α} (ho : o.op = .indexAddr ty x y) (hx : evA t x = .own i ver) (hi : h[i]? = some (.row ver e T l)) (hs : elemSz P ty = some T.size)
    (hy : evA t y = .lit (.int ik n)) (h0 : 0 ≤ n) (hk : n.toNat < l.length) : Quiet P C t h o (.rp i ver n.toNat 0) :=
  Quiet.of_run fun S ψ w ρ H hρ => by
    have h1 := hρ x (by simp [ho, Op.operands])
    have h2 := hρ y (by simp [ho, Op.operands])
    rw [hx] at h1
    rw [hy] at h2
    unfold AV.rel at h1 h2
    have h3 := (h1.2 _ (by rw [hi]; rfl)).2 rfl
    obtain ⟨cells, hown, h0', -, -⟩ := H.blk i _ hi
    rcases hown.2 with ⟨e1, e2⟩ | ⟨g, cap, cur, e1, -⟩
    · omega
    · have hn : n = (n.toNat : Int) := by omega
      have hr := run_indexAt_sl (P := P) (w := w) (b := g) (off := 0) (n := l.length) (c := cap) (ik := ik) hs hk
      rw [← hn] at hr
      rw [e1] at h3
      refine ⟨_, by simp [execOp, ho, h3, h2, hr]; rfl, ?_⟩
      unfold AV.rel
      refine ⟨h1.1, fun c' hc' => ⟨(h1.2 c' hc').1, fun _ => ⟨g, l.length, cap, e1, ?_⟩⟩⟩
      rw [hi]
      show _ = Value.pointer (some ⟨g, n.toNat * T.size + 0, none⟩)
      simp
def isSlice (P : Program) (ty : TypeId) : Bool :=
  match P.underlying ty with
  | some (.slice _) => true
  | _ => false
theorem run_len {ty ty' : TypeId} {a : Option Addr} {n c : Nat} {w : World} (hs : isSlice P ty = true) : (Builtin.len_ #[ty] ty' #[.slice a n c]).run P w = .ok (.int .i64 (n : Int)) w := by
  unfold isSlice at hs
  split at hs <;> try (cases hs; done)
  rename_i e h1
  simp [Builtin.len_, underlying, h1, goInt]
theorem Quiet.len_bs {ty : TypeId} {x : Operand} {α : Type} {T : Ty α} {l : List α} (ho : o.op = .call { callee := .builtin .len, args := #[x], argTypes := #[ty] }) (hs : isSlice P ty = true) (hx : evA t x = .bs T l) : Quiet P C t h o (.lit (.int .i64 (l.length : Int))) :=
  Quiet.of_run fun S ψ w ρ H hρ => by
    have h1 := hρ x (by simp [ho, Op.operands, Call.operands])
    rw [hx] at h1
    unfold AV.rel at h1
    obtain ⟨A, c, e, -⟩ := h1
    simp only [List.cons.injEq, and_true] at e
    refine ⟨_, by simp [execOp, ho, resolve, invoke, builtin, e, run_len hs]; rfl, ?_⟩
    unfold AV.rel
    rfl
theorem Quiet.len_own {ty : TypeId} {x : Operand} {i ver : Nat} {e : TypeId} {α : Type} {T : Ty α} {l : List α} (ho : o.op = .call { callee := .builtin .len, args := #[x], argTypes := #[ty] }) (hx : evA t x = .own i ver) (hi : h[i]? = some (.row ver e T l)) (hs : isSlice P ty = true) : Quiet P C t h o (.lit (.int .i64 (l.length : Int))) :=
  Quiet.of_run fun S ψ w ρ H hρ => by
    have h1 := hρ x (by simp [ho, Op.operands, Call.operands])
    rw [hx] at h1
    unfold AV.rel at h1
    have h3 := (h1.2 _ (by rw [hi]; rfl)).2 rfl
    obtain ⟨cells, hown, h0', -, -⟩ := H.blk i _ hi
    rcases hown.2 with ⟨e1, e2⟩ | ⟨g, cap, cur, e1, -⟩
    · rw [e1] at h3
      refine ⟨_, by simp [execOp, ho, resolve, invoke, builtin, h3, run_len hs]; rfl, ?_⟩
      unfold AV.rel
      rw [e2]
      rfl
    · rw [e1] at h3
      refine ⟨_, by simp [execOp, ho, resolve, invoke, builtin, h3, run_len hs]; rfl, ?_⟩
      unfold AV.rel
      rfl
theorem Quiet.len_lit {ty : TypeId} {x : Operand} {a : Option Addr} {n c : Nat} (ho : o.op = .call { callee := .builtin .len, args := #[x], argTypes := #[ty] }) (hx : evA t x = .lit (.slice a n c)) (hs : isSlice P ty = true) : Quiet P C t h o (.lit (.int .i64 (n : Int))) :=
  Quiet.of_run fun S ψ w ρ H hρ => by
    have h1 := hρ x (by simp [ho, Op.operands, Call.operands])
    rw [hx] at h1
    unfold AV.rel at h1
    refine ⟨_, by simp [execOp, ho, resolve, invoke, builtin, h1, run_len hs]; rfl, ?_⟩
    unfold AV.rel
    rfl
theorem Quiet.max2 {tys : Array TypeId} {x y : Operand} {k : IntKind} {a b : Int} (ho : o.op = .call { callee := .builtin .max, args := #[x, y], argTypes := tys }) (hx : evA t x = .lit (.int k a)) (hy : evA t y = .lit (.int k b)) : Quiet P C t h o (.lit (.int k (if b > a then b else a))) :=
  Quiet.of_run fun S ψ w ρ H hρ => by
    have h1 := hρ x (by simp [ho, Op.operands, Call.operands])
    have h2 := hρ y (by simp [ho, Op.operands, Call.operands])
    rw [hx] at h1
    rw [hy] at h2
    unfold AV.rel at h1 h2
    refine ⟨_, by simp [execOp, ho, resolve, invoke, builtin, h1, h2, Builtin.max_, Builtin.max2]; rfl, ?_⟩
    unfold AV.rel
    rfl
theorem Quiet.min2 {tys : Array TypeId} {x y : Operand} {k : IntKind} {a b : Int} (ho : o.op = .call { callee := .builtin .min, args := #[x, y], argTypes := tys }) (hx : evA t x = .lit (.int k a)) (hy : evA t y = .lit (.int k b)) : Quiet P C t h o (.lit (.int k (if b < a then b else a))) :=
  Quiet.of_run fun S ψ w ρ H hρ => by
    have h1 := hρ x (by simp [ho, Op.operands, Call.operands])
    have h2 := hρ y (by simp [ho, Op.operands, Call.operands])
    rw [hx] at h1
    rw [hy] at h2
    unfold AV.rel at h1 h2
    refine ⟨_, by simp [execOp, ho, resolve, invoke, builtin, h1, h2, Builtin.min_, Builtin.min2]; rfl, ?_⟩
    unfold AV.rel
    rfl
end
end Mu
end
section
/-
  A slice that is read, as one row of cells; a row of the call's own with one element turned.
  Conditions: none.
-/
namespace Mu
open Go Go.RowKit

theorem chunk_left {cells cs : List Value} {m i sz : Nat} (hl : cells.length = m * sz) (hi : i < m) : ((cells ++ cs).drop (i * sz)).take sz = (cells.drop (i * sz)).take sz := by
  have h1 : (i + 1) * sz ≤ m * sz := Nat.mul_le_mul (by omega) (Nat.le_refl _)
  rw [Nat.succ_mul] at h1
  rw [List.drop_append_of_le_length (by omega), List.take_append_of_le_length (by rw [List.length_drop]; omega)]
theorem chunk_last {cells cs : List Value} {m sz : Nat} (hl : cells.length = m * sz) (hc : cs.length = sz) : ((cells ++ cs).drop (m * sz)).take sz = cs := by
  rw [← hl, List.drop_left, ← hc, List.take_length]

theorem slice_cells {α : Type} {T : Ty α} {w : World} {S : Nat → Prop} {A : Option Addr} {n c : Nat} {ds : List α} (h : T.slice.RS w S [.slice A n c] ds) (h1 : ∀ cs d, T.RS w S cs d → ∀ u ∈ cs, u.oneCell' = true) :
    ∃ cells : List Value, cells.length = n * T.size ∧ (∀ b o, A = some ⟨b, o, none⟩ → ∀ j u, cells[j]? = some u → w.cell? ⟨b, o + j, none⟩ = some u) ∧
      (∀ i d, ds[i]? = some d → T.RS w S ((cells.drop (i * T.size)).take T.size) d) ∧ ∀ u ∈ cells, u.oneCell' = true := by
  obtain ⟨hn, _, _⟩ := slice_len h
  have key : ∀ m, m ≤ ds.length → ∃ cells : List Value, cells.length = m * T.size ∧ (∀ b o, A = some ⟨b, o, none⟩ → ∀ j u, cells[j]? = some u → w.cell? ⟨b, o + j, none⟩ = some u) ∧
      (∀ i d, i < m → ds[i]? = some d → T.RS w S ((cells.drop (i * T.size)).take T.size) d) ∧ ∀ u ∈ cells, u.oneCell' = true := by
    intro m
    induction m with
    | zero => intro _; exact ⟨[], by simp, by simp, by simp, by simp⟩
    | succ m ih =>
      intro hm
      obtain ⟨cells, hl, hc, hr, ho⟩ := ih (by omega)
      have hd : ds[m]? = some ds[m] := List.getElem?_eq_getElem (by omega)
      obtain ⟨b, o, rfl, _, cs, hR, hC⟩ := slice_at h hd
      have hcs := T.len hR
      refine ⟨cells ++ cs, by rw [List.length_append, hl, hcs, Nat.succ_mul], ?_, ?_, ?_⟩
      · intro b' o' e j u hu
        cases e
        rw [List.getElem?_append] at hu
        by_cases hj : j < cells.length
        · rw [if_pos hj] at hu
          exact hc b o rfl j u hu
        · rw [if_neg hj] at hu
          have := hC _ u hu
          rw [show o + m * T.size + (j - cells.length) = o + j from by omega] at this
          exact this
      · intro i d hi hdi
        by_cases e : i = m
        · subst e
          rw [hd] at hdi
          cases hdi
          rw [chunk_last hl hcs]
          exact hR
        · rw [chunk_left hl (by omega)]
          exact hr i d (by omega) hdi
      · intro u hu
        rcases List.mem_append.1 hu with hu | hu
        · exact ho u hu
        · exact h1 _ _ hR u hu
  obtain ⟨cells, hl, hc, hr, ho⟩ := key ds.length (Nat.le_refl _)
  exact ⟨cells, by rw [hn]; exact hl, hc, fun i d hd => hr i d (List.getElem?_eq_some_iff.1 hd).1 hd, ho⟩

end Mu
end
section
/-
  append onto a row of the call's own, whatever the source (nil too), in a plain region and in one that draws its order; a row that a literal makes; blocks known whole.
  Conditions: none; generic, no program in sight.
-/
namespace Mu
open Go Go.RowKit

/-- the cells of a source -/
structure Src (w : World) (size : Nat) (A : Option Addr) (m : Nat) (news : List Value) : Prop where
  len : news.length = m * size
  cells : ∀ j u, news[j]? = some u → ∃ ad, A = some ad ∧ w.cell? (ad.add j) = some u

theorem src_row {w : World} {B : Nat} {cs : Array Value} {t : TypeId} {fr : Nat × Nat} {size m : Nat} (h : w.heap[B]? = some (.cells cs t fr)) (hl : cs.size = m * size) : Src w size (some ⟨B, 0, none⟩) m cs.toList :=
  ⟨by simpa using hl, fun j u hu => ⟨_, rfl, World.news_of_block h j u hu⟩⟩

section
variable {P : Program} {w : World}
theorem run_more {base : Nat} {t ty e : TypeId} {i : TypeInfo} {z : Value} {size bytes : Nat} (ht : P.underlying t = some (.slice e)) (hi : P.info? e = some i) (hz : i.zero = some z)
    (hsize : i.size = size) (hby : i.bytes = bytes) (hzs : z.cells.size = size) (hsz : 0 < size)
    {v : Value} {n : Nat} {xs : List Value} (hown : w.ownsRow base e size v n xs) {A : Option Addr} {m c : Nat} {news : List Value} (hs : Src w size A m news) (h1 : ∀ u ∈ news, u.oneCell' = true)
    (h63 : n + m ≤ maxLen) (hbytes : (n + m) * bytes ≤ 140737488355328) (hbase : base ≤ w.heap.size) :
    ∃ v' w', (Builtin.append_ #[t, t] ty #[v, .slice A m c]).run P w = .ok v' w' ∧ w'.ownsRow base e size v' (n + m) (xs ++ news) ∧ w.grownBy w' v.ownBlock ∧ (v'.ownBlock = v.ownBlock ∨ v'.ownBlock = some w.heap.size) := by
  have key : ∀ c, (Builtin.append_ #[t, t] ty #[v, .slice none 0 c]).run P w = .ok v w := by
    intro c
    rcases hown.2 with ⟨rfl, rfl⟩ | ⟨g, cap, cur, rfl, _, _, hnc, _⟩
    · simp [Builtin.append_, run_underlying ht, Go.sizeOf, typeInfo, hi, Builtin.lenOf, Builtin.firstCells]
    · simp [Builtin.append_, run_underlying ht, Go.sizeOf, typeInfo, hi, Builtin.lenOf, Builtin.firstCells, hnc, storeCells]
  rcases A with _ | ad
  · have hn : news = [] := by
      rcases news with _ | ⟨u, l⟩
      · rfl
      · obtain ⟨ad, e, _⟩ := hs.cells 0 u rfl
        cases e
    subst hn
    have hm : m = 0 := by
      have := hs.len
      rcases Nat.eq_zero_or_pos m with h | h
      · exact h
      · have := Nat.mul_pos h hsz
        simp at *
        omega
    subst hm
    exact ⟨v, w, key c, by simpa using hown, World.grownBy.refl w _, .inl rfl⟩
  · obtain ⟨v', w', hr, h2, h3, _, h5⟩ := run_append_own_at (P := P) w base t ty e i z size bytes ht hi hz hsize hby hzs hsz v n xs hown ad m c news hs.len
      (fun j u hu => by obtain ⟨ad', e', hc⟩ := hs.cells j u hu; cases e'; exact hc) h1 h63 hbytes hbase
    exact ⟨v', w', hr, h2, h3, h5⟩

theorem wp_more {o : Oper} {a : Act} {K : Act → World → Prop} {Q : Exit → Act → World → Prop} (s x : Operand) (t : TypeId)
    (ho : o.op = .call { callee := .builtin .append, args := #[s, x], argTypes := #[t, t] }) (base : Nat) (e : TypeId) (i : TypeInfo) (z : Value) (size bytes : Nat)
    (ht : P.underlying t = some (.slice e)) (hi : P.info? e = some i) (hz : i.zero = some z) (hsize : i.size = size) (hby : i.bytes = bytes) (hzs : z.cells.size = size) (hsz : 0 < size)
    {v : Value} {n : Nat} {xs : List Value} (hs : a.eval s = v) (hown : w.ownsRow base e size v n xs) {A : Option Addr} {m c : Nat} {news : List Value} (hx : a.eval x = .slice A m c)
    (hr : Src w size A m news) (h1 : ∀ u ∈ news, u.oneCell' = true) (h63 : n + m ≤ maxLen) (hbytes : (n + m) * bytes ≤ 140737488355328) (hbase : base ≤ w.heap.size)
    (h : ∀ v' w', w'.ownsRow base e size v' (n + m) (xs ++ news) → w.grownBy w' v.ownBlock → (v'.ownBlock = v.ownBlock ∨ v'.ownBlock = some w.heap.size) → K (a.put o.dst v') w') : o.wp P a w K Q := by
  obtain ⟨v', w', hrun, h2, h3, h4⟩ := run_more (P := P) (ty := o.type) (c := c) ht hi hz hsize hby hzs hsz hown hr h1 h63 hbytes hbase
  unfold Oper.wp execOp
  simp only [ho, resolve, invoke, builtin, Sem.run_bind, Sem.run_pure, Result.andThen_ok, List.map_toArray, List.map_cons, List.map_nil, hs, hx, hrun]
  exact h v' w' h2 h3 h4

theorem list_more {ops : Array Oper} {rest : List Oper} {o : Oper} {a : Act} {Q : Exit → Act → World → Prop} (hgd : o.guard = none) (s x : Operand) (t : TypeId)
    (ho : o.op = .call { callee := .builtin .append, args := #[s, x], argTypes := #[t, t] }) (base : Nat) (e : TypeId) (i : TypeInfo) (z : Value) (size bytes : Nat)
    (ht : P.underlying t = some (.slice e)) (hi : P.info? e = some i) (hz : i.zero = some z) (hsize : i.size = size) (hby : i.bytes = bytes) (hzs : z.cells.size = size) (hsz : 0 < size)
    {v : Value} {n : Nat} {xs : List Value} (hs : a.eval s = v) (hown : w.ownsRow base e size v n xs) {A : Option Addr} {m c : Nat} {news : List Value} (hx : a.eval x = .slice A m c)
    (hr : Src w size A m news) (h1 : ∀ u ∈ news, u.oneCell' = true) (h63 : n + m ≤ maxLen) (hbytes : (n + m) * bytes ≤ 140737488355328) (hbase : base ≤ w.heap.size)
    (h : ∀ v' w', w'.ownsRow base e size v' (n + m) (xs ++ news) → w.grownBy w' v.ownBlock → (v'.ownBlock = v.ownBlock ∨ v'.ownBlock = some w.heap.size) → wpList P ops Q rest (a.put o.dst v') w') : wpList P ops Q (o :: rest) a w :=
  wpList_plain hgd fun _ hK => wp_more s x t ho base e i z size bytes ht hi hz hsize hby hzs hsz hs hown hx hr h1 h63 hbytes hbase fun v' w' h2 h3 h4 => hK _ _ (h v' w' h2 h3 h4)

end

/-- a row that a literal has just made -/
theorem row_lit {w : World} {base sz n g : Nat} {e : TypeId} {cs : List Value} (hg : w.heap[g]? = some (.cells cs.toArray e (0, 0))) (hb : base ≤ g) (hn : cs.length = n * sz) (hm : n ≤ maxLen) :
    w.ownsRow base e sz (.slice (some ⟨g, 0, none⟩) n n) n cs :=
  ⟨by simpa using hn, .inr ⟨_, n, _, rfl, hb, hg, Nat.le_refl _, hm, by simp [hn], by simp [← hn]⟩⟩
theorem box_alloc {w : World} {B : Nat} {c : Array Value} {t : TypeId} {fr : Nat × Nat} (h : w.heap[B]? = some (.cells c t fr)) (o : Obj) : (w.alloc o).heap[B]? = some (.cells c t fr) :=
  (Below.heap_alloc w o B (by rcases Nat.lt_or_ge B w.heap.size with hl | hg; exact hl; rw [Array.getElem?_eq_none hg] at h; cases h)).trans h
/-- a slice that is read, as a source of cells -/
theorem slice_src {α : Type} {T : Ty α} {w : World} {S : Nat → Prop} {A : Option Addr} {n c : Nat} {ds : List α} (h : T.slice.RS w S [.slice A n c] ds) (h1 : ∀ cs d, T.RS w S cs d → ∀ u ∈ cs, u.oneCell' = true) :
    ∃ cells : List Value, cells.length = n * T.size ∧ (∀ w' : World, (∀ k, S k → w'.heap[k]? = w.heap[k]?) → Src w' T.size A n cells) ∧ (∀ i d, ds[i]? = some d → T.RS w S ((cells.drop (i * T.size)).take T.size) d) ∧ ∀ u ∈ cells, u.oneCell' = true := by
  obtain ⟨cells, hl, hc, hr, ho⟩ := slice_cells h h1
  refine ⟨cells, hl, fun w' hk => ⟨hl, fun j u hu => ?_⟩, hr, ho⟩
  have hj : j < n * T.size := by
    rw [← hl]
    exact (List.getElem?_eq_some_iff.1 hu).1
  have hn : 0 < ds.length := by
    rw [← (slice_len h).1]
    rcases Nat.eq_zero_or_pos n with e | e
    · rw [e] at hj; simp at hj
    · exact e
  obtain ⟨b, o, rfl, hS, _⟩ := slice_at h (List.getElem?_eq_getElem hn)
  refine ⟨_, rfl, ?_⟩
  rw [Go.WideShapes.add_plain]
  exact (World.cell?_of_block (w := w) (a := ⟨b, o + j, none⟩) (hk b hS)).trans (hc b o rfl j u hu)
section
variable {g : Nat} {w w1 w2 : World}
end
end Mu
end
section
/-
  Operations on the call's own memory, over abstract states.
  Conditions: none; generic.
-/
namespace Mu
open Go Go.RowKit Go.ChangeShapes Go.WideShapes

section
variable {C : Ctx} {h : List ABlk} {S : Nat → Prop} {ψ : Nat → Value} {w w' : World}

def ψset (ψ : Nat → Value) (i : Nat) (v : Value) : Nat → Value := fun j => if j = i then v else ψ j
theorem ψset_self {ψ : Nat → Value} {i : Nat} {v : Value} : ψset ψ i v i = v := if_pos rfl
theorem ψset_ne {ψ : Nat → Value} {i j : Nat} {v : Value} (hne : j ≠ i) : ψset ψ i v j = ψ j := if_neg hne
theorem live_some {h : List ABlk} {i : Nat} (hl : ABlk.live h[i]? = true) : ∃ b, h[i]? = some b := by
  cases hb : h[i]? with
  | none => rw [hb] at hl; simp [ABlk.live] at hl
  | some b => exact ⟨b, rfl⟩

theorem Ext.push (b : ABlk) (v : Value) (hb : ∀ k, S k → w'.heap[k]? = w.heap[k]?) : Ext w S h ψ w' S (h ++ [b]) (ψset ψ h.length v) := by
  refine ⟨hb, fun _ h => h, by simp, fun i c' hi hv => ?_, fun i hi hv => ?_⟩
  · rw [List.getElem?_append_left hi] at hv
    refine ⟨c', hv, Nat.le_refl _, fun _ => ⟨ψset_ne (by omega), ?_⟩⟩
    rw [List.getElem?_append_left hi]
  · rw [List.getElem?_append_left hi] at hv
    exact ⟨hv, ψset_ne (by omega)⟩
theorem HRel.push {b : ABlk} {v : Value} (H : HRel C h S ψ w) (hb : Below w.heap.size w w') (hB : BRel C.N w' S (h ++ [b]) (ψset ψ h.length v) v b) (hn : ∀ g, ftp (some b) v g → w.heap.size ≤ g) :
    HRel C (h ++ [b]) S (ψset ψ h.length v) w' := by
  have X : Ext w S h ψ w' S (h ++ [b]) (ψset ψ h.length v) := Ext.push b v fun k hk => hb.block k (H.lt k hk)
  have hold : ∀ i c, i < h.length → (h ++ [b])[i]? = some c → h[i]? = some c := fun i c hi hc => by rwa [List.getElem?_append_left hi] at hc
  have hlt : ∀ i, i < h.length → ABlk.live h[i]? = true → ∀ g, ftp h[i]? (ψ i) g → g < w.heap.size := fun i hi hl g hg => by
    obtain ⟨c, hc⟩ := live_some hl
    rw [hc] at hg
    exact ((H.blk i c hc).lt (by rw [← hc]; exact hl) g hg).2.1
  refine ⟨H.bel.trans (Kp.of_below hb fun k hk => Nat.lt_of_lt_of_le (H.nlt k hk) H.bel.size), H.nlt, fun k hk => Nat.lt_of_lt_of_le (H.lt k hk) hb.size, H.sub, H.new, fun i c hc => ?_, fun i j hij hi hj g hg hg' => ?_⟩
  · by_cases hi : i < h.length
    · have hc' := hold i c hi hc
      rw [ψset_ne (by omega)]
      by_cases hlv : ABlk.live (some c) = true
      · exact (H.blk i c hc').keep X fun g hg => ⟨hb.block g ((H.blk i c hc').lt hlv g hg).2.1, fun h => h⟩
      · cases c <;> simp [ABlk.live] at hlv
        trivial
    · have hi' : i = h.length := by
        have := (List.getElem?_eq_some_iff.1 hc).1
        simp at this
        omega
      subst hi'
      simp at hc
      subst hc
      rw [ψset_self]
      exact hB
  · have hil : i < h.length + 1 := by
      obtain ⟨c, hc⟩ := live_some hi
      have := (List.getElem?_eq_some_iff.1 hc).1
      simpa using this
    have hjl : j < h.length + 1 := by
      obtain ⟨c, hc⟩ := live_some hj
      have := (List.getElem?_eq_some_iff.1 hc).1
      simpa using this
    by_cases h1 : i < h.length
    · rw [ψset_ne (by omega), List.getElem?_append_left h1] at hg
      rw [List.getElem?_append_left h1] at hi
      by_cases h2 : j < h.length
      · rw [ψset_ne (by omega), List.getElem?_append_left h2] at hg'
        rw [List.getElem?_append_left h2] at hj
        exact H.dis i j hij hi hj g hg hg'
      · have : j = h.length := by omega
        subst this
        rw [ψset_self, List.getElem?_concat_length] at hg'
        have := hlt i h1 hi g hg
        have := hn g hg'
        omega
    · have : i = h.length := by omega
      subst this
      rw [ψset_self, List.getElem?_concat_length] at hg
      have h2 : j < h.length := by omega
      rw [ψset_ne (by omega), List.getElem?_append_left h2] at hg'
      rw [List.getElem?_append_left h2] at hj
      have := hlt j h2 hj g hg'
      have := hn g hg
      omega
theorem Ext.set {i : Nat} {b b' : ABlk} {v' : Value} (hb : ∀ k, S k → w'.heap[k]? = w.heap[k]?) (hi : h[i]? = some b)
    (hv : ∀ c', ABlk.ver (some b') = some c' → ∃ c, ABlk.ver (some b) = some c ∧ c ≤ c' ∧ (c = c' → v' = ψ i ∧ ABlk.sz (some b') = ABlk.sz (some b)))
    (hx : ABlk.isBox (some b') = true → ABlk.isBox (some b) = true ∧ v' = ψ i) : Ext w S h ψ w' S (h.set i b') (ψset ψ i v') := by
  have hil := (List.getElem?_eq_some_iff.1 hi).1
  refine ⟨hb, fun _ h => h, by simp, fun j c' hj hc => ?_, fun j hj hc => ?_⟩
  · by_cases hji : j = i
    · subst hji
      rw [List.getElem?_set_self hil] at hc ⊢
      obtain ⟨c, h1, h2, h3⟩ := hv c' hc
      rw [hi]
      exact ⟨c, h1, h2, fun e => ⟨by rw [ψset_self]; exact (h3 e).1, (h3 e).2⟩⟩
    · rw [List.getElem?_set_ne (Ne.symm hji)] at hc ⊢
      exact ⟨c', hc, Nat.le_refl _, fun _ => ⟨ψset_ne hji, rfl⟩⟩
  · by_cases hji : j = i
    · subst hji
      rw [List.getElem?_set_self hil] at hc
      rw [hi, ψset_self]
      exact hx hc
    · rw [List.getElem?_set_ne (Ne.symm hji)] at hc
      exact ⟨hc, ψset_ne hji⟩
/-- only such blocks are changed; others may be new -/
structure Gr (F : Nat → Prop) (w w' : World) : Prop where
  os : w'.os = w.os
  tape : w'.tape = w.tape
  output : w'.output = w.output
  size : w.heap.size ≤ w'.heap.size
  block : ∀ k, k < w.heap.size → ¬ F k → w'.heap[k]? = w.heap[k]?
theorem Gr.of_grownBy {w w' : World} {o : Option Nat} (h : w.grownBy w' o) : Gr (fun g => o = some g) w w' := ⟨h.os, h.tape, h.output, h.size, fun k hk hn => h.block k hk fun e => hn e.symm⟩
theorem HRel.set {i : Nat} {b b' : ABlk} {v' : Value} (H : HRel C h S ψ w) (hi : h[i]? = some b) (hlive : ABlk.live (some b) = true) (hg : Gr (ftp (some b) (ψ i)) w w') (X : Ext w S h ψ w' S (h.set i b') (ψset ψ i v'))
    (hB : BRel C.N w' S (h.set i b') (ψset ψ i v') v' b') (hn : ∀ g, ftp (some b') v' g → ftp (some b) (ψ i) g ∨ w.heap.size ≤ g) : HRel C (h.set i b') S (ψset ψ i v') w' := by
  have hil := (List.getElem?_eq_some_iff.1 hi).1
  have hbi := (H.blk i b hi).lt hlive
  refine ⟨H.bel.trans ⟨hg.os, hg.tape, hg.output, hg.size, fun k hk => hg.block k (Nat.lt_of_lt_of_le (H.nlt k hk) H.bel.size) fun e => (hbi k e).1 hk⟩, H.nlt, fun k hk => Nat.lt_of_lt_of_le (H.lt k hk) hg.size, H.sub, H.new, fun j c hc => ?_, fun j k hjk hj hk g hgj hgk => ?_⟩
  · by_cases hji : j = i
    · subst hji
      rw [List.getElem?_set_self hil] at hc
      cases hc
      rw [ψset_self]
      exact hB
    · rw [List.getElem?_set_ne (Ne.symm hji)] at hc
      rw [ψset_ne hji]
      by_cases hlv : ABlk.live (some c) = true
      · refine (H.blk j c hc).keep X fun g hgg => ⟨hg.block g ((H.blk j c hc).lt hlv g hgg).2.1 fun e => ?_, fun h => h⟩
        exact H.dis j i hji (by rw [hc]; exact hlv) (by rw [hi]; exact hlive) g (by rw [hc]; exact hgg) (by rw [hi]; exact e)
      · cases c <;> simp [ABlk.live] at hlv
        trivial
  · have key : ∀ j k, j ≠ i → k = i → ABlk.live (h.set i b')[j]? = true → ftp (h.set i b')[j]? (ψset ψ i v' j) g → ftp (h.set i b')[k]? (ψset ψ i v' k) g → False := by
      intro j k hji hki hj hgj hgk
      subst hki
      rw [ψset_ne hji, List.getElem?_set_ne (Ne.symm hji)] at hgj
      rw [ψset_self, List.getElem?_set_self hil] at hgk
      rw [List.getElem?_set_ne (Ne.symm hji)] at hj
      rcases hn g hgk with h1 | h1
      · exact H.dis j k hji hj (by rw [hi]; exact hlive) g hgj (by rw [hi]; exact h1)
      · obtain ⟨c, hc⟩ := live_some hj
        rw [hc] at hgj
        have := ((H.blk j c hc).lt (by rw [← hc]; exact hj) g hgj).2.1
        omega
    by_cases hji : j = i
    · exact key k j (by omega) hji hk hgk hgj
    · by_cases hki : k = i
      · exact key j k hji hki hj hgj hgk
      · rw [ψset_ne hji, List.getElem?_set_ne (Ne.symm hji)] at hgj
        rw [ψset_ne hki, List.getElem?_set_ne (Ne.symm hki)] at hgk
        rw [List.getElem?_set_ne (Ne.symm hji)] at hj
        rw [List.getElem?_set_ne (Ne.symm hki)] at hk
        exact H.dis j k hjk hj hk g hgj hgk
end

section
variable {P : Program} {C : Ctx} {s : St} {o : Oper} {K : St → Prop}

/-- a value's cells -/
def Parts (h : List ABlk) (x : AV) (cells : List AV) : Prop := ∀ (C : Ctx) (S : Nat → Prop) (ψ : Nat → Value) (w : World) (v : Value), HRel C h S ψ w → AV.rel w S h ψ x v →
  AV.relL w S h ψ cells v.cells.toList ∧ ∀ u ∈ v.cells.toList, u.oneCell' = true
def One (h : List ABlk) (x : AV) : Prop := ∀ (C : Ctx) (S : Nat → Prop) (ψ : Nat → Value) (w : World) (v : Value), HRel C h S ψ w → AV.rel w S h ψ x v → v.oneCell' = true
theorem cells_one {v : Value} (hv : v.oneCell' = true) : v.cells = #[v] := by cases v <;> simp [Value.cells, Value.oneCell'] at hv ⊢
theorem One.lit {h : List ABlk} {v : Value} (hv : v.oneCell' = true) : One h (.lit v) := fun C S ψ w u H hu => by unfold AV.rel at hu; rw [hu]; exact hv
theorem One.bs {h : List ABlk} {α : Type} {T : Ty α} {l : List α} : One h (.bs T l) := fun C S ψ w u H hu => by
  unfold AV.rel at hu
  obtain ⟨A, c, e, _⟩ := hu
  simp only [List.cons.injEq, and_true] at e
  rw [e]
  rfl
theorem Parts.one {h : List ABlk} {x : AV} (hx : One h x) : Parts h x [x] := fun C S ψ w v H hv => by
  have h1 := hx C S ψ w v H hv
  rw [cells_one h1]
  refine ⟨?_, fun u hu => ?_⟩
  · unfold AV.relL
    refine ⟨v, [], rfl, hv, ?_⟩
    unfold AV.relL
    rfl
  · simp at hu; subst hu; exact h1
theorem Parts.agg {h : List ABlk} {l : List AV} (hx : ∀ x ∈ l, One h x) : Parts h (.agg l) l := fun C S ψ w v H hv => by
  unfold AV.rel at hv
  obtain ⟨cs, rfl, hl⟩ := hv
  refine ⟨hl, fun u hu => ?_⟩
  obtain ⟨j, hj⟩ := List.mem_iff_getElem?.1 hu
  have hj' : cs[j]? = some u := hj
  have hlt : j < l.length := by rw [← relL_len hl]; exact (List.getElem?_eq_some_iff.1 hj').1
  obtain ⟨u', h1, h2⟩ := relL_get hl (List.getElem?_eq_getElem hlt)
  rw [hj'] at h1
  cases h1
  exact hx _ (List.getElem_mem _) C S ψ w u H h2
/-- .. where the cells need not be one each -/
def Parts0 (h : List ABlk) (x : AV) (cells : List AV) : Prop := ∀ (C : Ctx) (S : Nat → Prop) (ψ : Nat → Value) (w : World) (v : Value), HRel C h S ψ w → AV.rel w S h ψ x v → AV.relL w S h ψ cells v.cells.toList
theorem Parts0.agg {h : List ABlk} {l : List AV} : Parts0 h (.agg l) l := fun C S ψ w v H hv => by
  unfold AV.rel at hv
  obtain ⟨cs, rfl, hl⟩ := hv
  exact hl

theorem st_push {a : Act} {w w' : World} {S : Nat → Prop} {ψ : Nat → Value} {b : ABlk} {v : Value} {r : AV} {dst : Option Tmp} (hd : a.defers = mkD s.h) (hl : AV.relL w S s.h ψ s.t a.tmps.toList) (H' : HRel C (s.h ++ [b]) S (ψset ψ s.h.length v) w')
    (X : Ext w S s.h ψ w' S (s.h ++ [b]) (ψset ψ s.h.length v)) (hr : AV.rel w' S (s.h ++ [b]) (ψset ψ s.h.length v) r v) (hm : b.mrk = [] := by rfl) : St.rel C ⟨putA s.t dst r, s.h ++ [b]⟩ (a.put dst v) w' :=
  ⟨by rw [put_defers, mkD_push, hm]; exact hd, S, _, H', put_rel (AV.relL_ext X _ _ hl) dst hr⟩
theorem AOp.box_run {r : Result Next} {cs : List Value} {e : TypeId} {cells : List AV} {a : Act} {w : World} {S : Nat → Prop} {ψ : Nat → Value} {Q' : Exit → Act → World → Prop} (hd : a.defers = mkD s.h) (H : HRel C s.h S ψ w) (hl : AV.relL w S s.h ψ s.t a.tmps.toList)
    (hr : r = .ok (.value (.pointer (some ⟨w.heap.size, 0, none⟩))) (w.alloc (.cells cs.toArray e))) (hc : AV.relL w S s.h ψ cells cs) (hK : K ⟨putA s.t o.dst (.ptr s.h.length 0), s.h ++ [.box cells]⟩) :
    o.upon P a (fun a' w' => ∃ s', K s' ∧ s'.rel C a' w') Q' r := by
  subst hr
  have hb : Below w.heap.size w (w.alloc (.cells cs.toArray e)) := (Below.refl _ _).alloc (Nat.le_refl _) _
  have X : Ext w S s.h ψ (w.alloc (.cells cs.toArray e)) S (s.h ++ [.box cells]) (ψset ψ s.h.length (.pointer (some ⟨w.heap.size, 0, none⟩))) := Ext.push _ _ fun k hk => hb.block k (H.lt k hk)
  have hB : BRel C.N (w.alloc (.cells cs.toArray e)) S (s.h ++ [.box cells]) (ψset ψ s.h.length (.pointer (some ⟨w.heap.size, 0, none⟩))) (.pointer (some ⟨w.heap.size, 0, none⟩)) (.box cells) :=
    ⟨w.heap.size, cs, e, rfl, fun hN => by have := H.nlt _ hN; have := H.bel.size; omega, fun hS => by have := H.lt _ hS; omega, heap_alloc_new w _, AV.relL_ext X _ _ hc⟩
  refine ⟨_, hK, st_push hd hl (H.push hb hB fun g hg => by simp [ftp, blkOf] at hg; omega) X ?_⟩
  unfold AV.rel
  exact ⟨by simp, fun _ => ⟨w.heap.size, ψset_self, rfl⟩⟩
theorem AOp.box {elem : TypeId} {x : Operand} {cells : List AV} (ho : o.op = .box elem x) (hp : Parts0 s.h (evA s.t x) cells) (hK : K ⟨putA s.t o.dst (.ptr s.h.length 0), s.h ++ [.box cells]⟩) : AOp P C o s K := by
  rintro Q' a w ⟨hd, S, ψ, H, hl⟩
  refine ⟨fun c e => (by rw [ho] at e; cases e), ?_⟩
  have hx := ev_rel hl x
  unfold Oper.wp
  refine AOp.box_run (cs := (a.eval x).cells.toList) (e := elem) hd H hl ?_ (hp C S ψ w _ H hx) hK
  simp [execOp, ho, Instr.box, newVar, newRow]
theorem relL_lits {w : World} {S : Nat → Prop} {h : List ABlk} {ψ : Nat → Value} (l : List Value) : AV.relL w S h ψ (l.map .lit) l :=
  relL_of (by simp) fun i x v hx hv => by
    rw [List.getElem?_map, hv] at hx
    cases hx
    unfold AV.rel
    rfl
def zeroCells? (P : Program) (t : TypeId) : Option (List Value) := ((P.info? t).bind (·.zero)).map fun z => z.cells.toList
theorem AOp.alloc {elem : TypeId} {zs : List Value} (ho : o.op = .alloc elem) (hz : zeroCells? P elem = some zs) (hK : K ⟨putA s.t o.dst (.ptr s.h.length 0), s.h ++ [.box (zs.map .lit)]⟩) : AOp P C o s K := by
  rintro Q' a w ⟨hd, S, ψ, H, hl⟩
  refine ⟨fun c e => (by rw [ho] at e; cases e), ?_⟩
  unfold zeroCells? at hz
  obtain ⟨z, hz1, rfl⟩ := Option.map_eq_some_iff.1 hz
  obtain ⟨i, hi, hz2⟩ := Option.bind_eq_some_iff.1 hz1
  unfold Oper.wp
  refine AOp.box_run (cs := z.cells.toList) (e := elem) hd H hl ?_ (relL_lits _) hK
  simp [execOp, ho, Instr.alloc, zeroValue, typeInfo, hi, hz2, newVar, newRow]
end
end Mu
end
section
/-
  Stores, appends, rows that are made, over abstract states; what may be forgotten.
  Conditions: none; generic.
-/
namespace Mu
open Go Go.RowKit Go.ChangeShapes Go.WideShapes

section
variable {P : Program} {C : Ctx} {s : St} {o : Oper} {K : St → Prop}

theorem st_set {a : Act} {w w' : World} {S : Nat → Prop} {ψ : Nat → Value} {i : Nat} {b b' : ABlk} {v' v : Value} {r : AV} {dst : Option Tmp} (hi : s.h[i]? = some b) (hd : a.defers = mkD s.h) (hl : AV.relL w S s.h ψ s.t a.tmps.toList) (H' : HRel C (s.h.set i b') S (ψset ψ i v') w')
    (X : Ext w S s.h ψ w' S (s.h.set i b') (ψset ψ i v')) (hr : AV.rel w' S (s.h.set i b') (ψset ψ i v') r v) (hm : b'.mrk = b.mrk := by rfl) : St.rel C ⟨putA s.t dst r, s.h.set i b'⟩ (a.put dst v) w' :=
  ⟨by rw [put_defers, mkD_set hi hm]; exact hd, S, _, H', put_rel (AV.relL_ext X _ _ hl) dst hr⟩
theorem grown_setRow (w : World) (g : Nat) (cs : Array Value) : w.grownBy (w.setRow g cs) (some g) :=
  ⟨rfl, rfl, rfl, by simp, fun k _ hk => setRow_other w g k cs fun e => hk (by rw [e])⟩
def sizeT (P : Program) (ty : TypeId) : Option Nat := (P.info? ty).map (·.size)
theorem run_storeAt {ty : TypeId} {g off : Nat} {cur : Array Value} {e : TypeId} {v : Value} {w : World} (hs : sizeT P ty = some v.cells.toList.length) (hg : w.heap[g]? = some (.cells cur e (0, 0))) (hle : off + v.cells.toList.length ≤ cur.size) (h1 : ∀ u ∈ v.cells.toList, u.oneCell' = true) :
    (Instr.storeAt ty (.pointer (some ⟨g, off, none⟩)) v).run P w = .ok () (w.setRow g (cur.toList.take off ++ v.cells.toList ++ cur.toList.drop (off + v.cells.toList.length)).toArray) := by
  unfold sizeT at hs
  obtain ⟨i, hi, hsz⟩ := Option.map_eq_some_iff.1 hs
  have hr := run_storeCells_at (P := P) g off e v.cells.toList 0 cur w hg (by simpa using hle) h1
  simp only [Nat.add_zero] at hr
  have hz : v.cells.size = i.size := by rw [hsz]; simp
  simp [Instr.storeAt, Instr.sureAddr, storeVar, Go.sizeOf, typeInfo, hi, hz, hr]

theorem AOp.storeBox {ty : TypeId} {x y : Operand} {i off : Nat} {cells new : List AV} (ho : o.op = .store ty x y) (hx : evA s.t x = .ptr i off) (hi : s.h[i]? = some (.box cells)) (hp : Parts s.h (evA s.t y) new) (hs : sizeT P ty = some new.length) (hle : off + new.length ≤ cells.length)
    (hK : K ⟨putA s.t o.dst (.lit undef), s.h.set i (.box (cells.take off ++ new ++ cells.drop (off + new.length)))⟩) : AOp P C o s K := by
  rintro Q' a w ⟨hd, S, ψ, H, hl⟩
  refine ⟨fun c e => (by rw [ho] at e; cases e), ?_⟩
  have hx' := ev_rel hl x
  have hy' := ev_rel hl y
  rw [hx] at hx'
  unfold AV.rel at hx'
  obtain ⟨g, e1, e2⟩ := hx'.2 (by rw [hi]; rfl)
  obtain ⟨g', cs, e, e3, hN, hS, hg, hcs⟩ := H.blk i _ hi
  rw [e1] at e3
  cases e3
  obtain ⟨hn, h1⟩ := hp C S ψ w _ H hy'
  have hnl := relL_len hn
  have hcl := relL_len hcs
  have hr := run_storeAt (P := P) (ty := ty) (v := a.eval y) (off := off) (w := w) (by rw [hs, hnl]) hg (by rw [hnl, List.size_toArray, hcl]; exact hle) h1
  rw [hnl] at hr
  have hgr := grown_setRow w g (cs.take off ++ (a.eval y).cells.toList ++ cs.drop (off + new.length)).toArray
  have hblk : ∀ k, S k → (w.setRow g (cs.take off ++ (a.eval y).cells.toList ++ cs.drop (off + new.length)).toArray).heap[k]? = w.heap[k]? := fun k hk => setRow_other _ _ _ _ fun e => hS (by rw [← e]; exact hk)
  have X : Ext w S s.h ψ _ S (s.h.set i (.box (cells.take off ++ new ++ cells.drop (off + new.length)))) (ψset ψ i (ψ i)) := Ext.set hblk hi (fun c' hc => by simp [ABlk.ver] at hc) fun _ => ⟨rfl, rfl⟩
  have hB : BRel C.N (w.setRow g (cs.take off ++ (a.eval y).cells.toList ++ cs.drop (off + new.length)).toArray) S (s.h.set i (.box (cells.take off ++ new ++ cells.drop (off + new.length)))) (ψset ψ i (ψ i)) (ψ i) (.box (cells.take off ++ new ++ cells.drop (off + new.length))) :=
    ⟨g, _, e, e1, hN, hS, setRow_heap w g _ _ e _ hg, AV.relL_ext X _ _ (relL_append (relL_append (relL_take hcs off) hn) (relL_drop hcs _))⟩
  unfold Oper.wp
  simp only [execOp, ho, e2, Sem.run_bind, hr, Result.andThen_ok, Sem.run_pure, Oper.upon]
  refine ⟨_, hK, st_set hi hd hl (H.set hi rfl (by rw [e1]; exact Gr.of_grownBy hgr) X hB fun g' hg' => .inl hg') X ?_⟩
  unfold AV.rel
  rfl

/-- what becomes of an element's reading when cells of it are written -/
def RowUpd (h : List ABlk) {α : Type} (T : Ty α) (d : α) (off : Nat) (x : AV) (n : Nat) (d' : α) : Prop :=
  ∀ (C : Ctx) (S : Nat → Prop) (ψ : Nat → Value) (w : World) (v : Value) (cs : List Value), HRel C h S ψ w → AV.rel w S h ψ x v → T.RS w S cs d →
    v.cells.toList.length = n ∧ off + n ≤ T.size ∧ (∀ u ∈ v.cells.toList, u.oneCell' = true) ∧ T.RS w S (cs.take off ++ v.cells.toList ++ cs.drop (off + n)) d'
theorem splice_at {cells new : List Value} {k sz off n : Nat} (hn : new.length = n) (ho : off + n ≤ sz) (hk : k * sz + sz ≤ cells.length) :
    (((cells.take (k * sz + off) ++ new ++ cells.drop (k * sz + off + n)).drop (k * sz)).take sz) = ((cells.drop (k * sz)).take sz).take off ++ new ++ ((cells.drop (k * sz)).take sz).drop (off + n) := by
  apply List.ext_getElem?
  intro j
  have hl1 : (cells.take (k * sz + off)).length = k * sz + off := by simp; omega
  have hl2 : (((cells.drop (k * sz)).take sz).take off).length = off := by simp; omega
  by_cases hj : j < sz
  · rw [List.getElem?_take_of_lt hj, List.getElem?_drop]
    by_cases h1 : j < off
    · rw [List.getElem?_append_left (by simp; omega), List.getElem?_append_left (by omega), List.getElem?_append_left (by simp; omega), List.getElem?_append_left (by omega), List.getElem?_take_of_lt (by omega), List.getElem?_take_of_lt h1, List.getElem?_take_of_lt hj, List.getElem?_drop]
    · by_cases h2 : j < off + n
      · rw [List.getElem?_append_left (by simp; omega), List.getElem?_append_right (by omega), List.getElem?_append_left (by simp; omega), List.getElem?_append_right (by omega), hl1, hl2]
        congr 1
        omega
      · rw [List.getElem?_append_right (by simp; omega), List.getElem?_append_right (by simp; omega), List.getElem?_drop, List.getElem?_drop, List.getElem?_take_of_lt (by simp; omega), List.getElem?_drop]
        congr 1
        simp
        omega
  · rw [List.getElem?_eq_none (by simp; omega), List.getElem?_eq_none (by simp; omega)]
theorem splice_ne {cells new : List Value} {k sz off n i : Nat} (hn : new.length = n) (ho : off + n ≤ sz) (hk : k * sz + sz ≤ cells.length) (hi : i ≠ k) :
    (((cells.take (k * sz + off) ++ new ++ cells.drop (k * sz + off + n)).drop (i * sz)).take sz) = ((cells.drop (i * sz)).take sz) := by
  apply List.ext_getElem?
  intro j
  have hl1 : (cells.take (k * sz + off)).length = k * sz + off := by simp; omega
  by_cases hj : j < sz
  · rw [List.getElem?_take_of_lt hj, List.getElem?_take_of_lt hj, List.getElem?_drop, List.getElem?_drop]
    have : i * sz + j < k * sz + off ∨ k * sz + off + n ≤ i * sz + j := by
      rcases Nat.lt_or_gt_of_ne hi with h1 | h1
      · left
        have : (i + 1) * sz ≤ k * sz := Nat.mul_le_mul_right _ h1
        rw [Nat.add_mul, Nat.one_mul] at this
        omega
      · right
        have : (k + 1) * sz ≤ i * sz := Nat.mul_le_mul_right _ h1
        rw [Nat.add_mul, Nat.one_mul] at this
        omega
    rcases this with h1 | h1
    · rw [List.getElem?_append_left (by simp; omega), List.getElem?_append_left (by omega), List.getElem?_take_of_lt h1]
    · rw [List.getElem?_append_right (by simp; omega), List.getElem?_drop]
      congr 1
      simp
      omega
  · rw [List.getElem?_eq_none (by simp; omega), List.getElem?_eq_none (by simp; omega)]

end
end Mu
end
section
/-
  Appends, rows that are made or written out, over abstract states; what may be forgotten; calls that change a row of the caller's.
  Conditions: none; generic.
-/
namespace Mu
open Go Go.RowKit Go.ChangeShapes Go.WideShapes

section
variable {P : Program} {C : Ctx} {s : St} {o : Oper} {K : St → Prop}

def One1 {α : Type} (T : Ty α) : Prop := ∀ (w : World) (S : Nat → Prop) (cs : List Value) (d : α), T.RS w S cs d → ∀ u ∈ cs, u.oneCell' = true
theorem one1_int {k : IntKind} : One1 (Ty.int k) := by
  rintro w S cs d ⟨rfl, _⟩ u hu
  simp at hu
  subst hu
  rfl
theorem one1_bool : One1 Ty.bool := by
  rintro w S cs d rfl u hu
  simp at hu
  subst hu
  rfl
theorem one1_of_enc {α : Type} {T : Ty α} {enc : α → List AV} (E : Enc T enc) (h : ∀ d x, x ∈ enc d → (∃ v : Value, x = .lit v ∧ v.oneCell' = true) ∨ ∃ (β : Type) (U : Ty β) (l : List β), x = .bs U l) : One1 T := by
  intro w S cs d H u hu
  have hl := E w S [] ψ0 cs d H
  obtain ⟨j, hj⟩ := List.mem_iff_getElem?.1 hu
  have hlt : j < (enc d).length := by rw [← relL_len hl]; exact (List.getElem?_eq_some_iff.1 hj).1
  obtain ⟨u', h1, h2⟩ := relL_get hl (List.getElem?_eq_getElem hlt)
  rw [hj] at h1
  cases h1
  rcases h d _ (List.getElem_mem hlt) with ⟨v, e, hv⟩ | ⟨β, U, l, e⟩
  · rw [e] at h2
    unfold AV.rel at h2
    rw [h2]
    exact hv
  · rw [e] at h2
    unfold AV.rel at h2
    obtain ⟨A, c, e', _⟩ := h2
    simp only [List.cons.injEq, and_true] at e'
    rw [e']
    rfl

/-- a slice's element: its type, its size, its bytes -/
def rowTy (P : Program) (ty : TypeId) : Option (TypeId × Nat × Nat) :=
  match P.underlying ty with
  | some (.slice e) => (P.info? e).bind fun i => i.zero.bind fun z => if z.cells.size = i.size then some (e, i.size, i.bytes) else none
  | _ => none
theorem rowTy_spec {ty e : TypeId} {sz bytes : Nat} (h : rowTy P ty = some (e, sz, bytes)) : P.underlying ty = some (.slice e) ∧ ∃ i z, P.info? e = some i ∧ i.zero = some z ∧ i.size = sz ∧ i.bytes = bytes ∧ z.cells.size = sz := by
  unfold rowTy at h
  split at h <;> try (cases h; done)
  rename_i e' h1
  obtain ⟨i, hi, h2⟩ := Option.bind_eq_some_iff.1 h
  obtain ⟨z, hz, h3⟩ := Option.bind_eq_some_iff.1 h2
  split at h3 <;> try (cases h3; done)
  rename_i h4
  cases h3
  exact ⟨h1, i, z, hi, hz, rfl, rfl, h4⟩

theorem join_left {cells news : List Value} {n sz i : Nat} (hc : cells.length = n * sz) (hi : i < n) : (((cells ++ news).drop (i * sz)).take sz) = (cells.drop (i * sz)).take sz := by
  have : (i + 1) * sz ≤ n * sz := Nat.mul_le_mul_right _ hi
  rw [Nat.add_mul, Nat.one_mul] at this
  rw [List.drop_append_of_le_length (by omega), List.take_append_of_le_length (by simp; omega)]
theorem join_right {cells news : List Value} {n sz j : Nat} (hc : cells.length = n * sz) : (((cells ++ news).drop ((n + j) * sz)).take sz) = (news.drop (j * sz)).take sz := by
  rw [Nat.add_mul, ← hc, List.drop_append, List.drop_eq_nil_of_le (by omega)]
  simp

theorem AOp.append {ty : TypeId} {x y : Operand} {i ver : Nat} {e : TypeId} {bytes : Nat} {α : Type} {T : Ty α} {l l2 : List α} (ho : o.op = .call { callee := .builtin .append, args := #[x, y], argTypes := #[ty, ty] }) (hT : rowTy P ty = some (e, T.size, bytes))
    (hx : evA s.t x = .own i ver) (hi : s.h[i]? = some (.row ver e T l)) (hy : evA s.t y = .bs T l2) (h1T : One1 T) (hlen : l.length + l2.length ≤ maxLen) (hbytes : (l.length + l2.length) * bytes ≤ 140737488355328)
    (hK : K ⟨putA s.t o.dst (.own i (ver + 1)), s.h.set i (.row (ver + 1) e T (l ++ l2))⟩) : AOp P C o s K := by
  rintro Q' a w ⟨hd, S, ψ, H, hl⟩
  refine ⟨fun c e => (by rw [ho] at e; cases e), ?_⟩
  have hx' := ev_rel hl x
  have hy' := ev_rel hl y
  rw [hx] at hx'
  rw [hy] at hy'
  unfold AV.rel at hx' hy'
  have hv := (hx'.2 _ (by rw [hi]; rfl)).2 rfl
  obtain ⟨cells, hown, h0, hR, hNS⟩ := H.blk i _ hi
  obtain ⟨h1, ti, z, h2, h3, h4, h5, h6⟩ := rowTy_spec hT
  obtain ⟨A, c, hyv⟩ := slice_form hy'
  rw [hyv] at hy'
  obtain ⟨news, hnl, hsrc, hnR, hn1⟩ := slice_src hy' fun cs d hcs => h1T _ _ _ _ hcs
  refine wp_more (P := P) x y ty ho 0 e ti z T.size bytes h1 h2 h3 h4 h5 h6 h0 hv hown hyv (hsrc w fun _ _ => rfl) hn1 hlen hbytes (Nat.zero_le _) fun v' w' hown' hgr hb' => ?_
  have hbv : ∀ g, blkOf v' = some g → v'.ownBlock = some g := fun g hg => by
    rcases hown'.2 with ⟨e1, _⟩ | ⟨g', cap, cur, e1, _⟩
    · rw [e1] at hg; simp [blkOf] at hg
    · rw [e1] at hg ⊢; simpa [blkOf, Value.ownBlock] using hg
  have hbψ : (ψ i).ownBlock = blkOf (ψ i) := by
    rcases hown.2 with ⟨e1, _⟩ | ⟨g', cap, cur, e1, _⟩ <;> rw [e1] <;> rfl
  have hblk : ∀ k, S k → w'.heap[k]? = w.heap[k]? := fun k hk => hgr.block k (H.lt k hk) fun e => (hNS k e.symm).2 hk
  have X : Ext w S s.h ψ w' S (s.h.set i (.row (ver + 1) e T (l ++ l2))) (ψset ψ i v') := Ext.set hblk hi (fun c' hc => by
    simp only [ABlk.ver, Option.some.injEq] at hc
    exact ⟨ver, rfl, by omega, fun e => by omega⟩) fun h => by simp [ABlk.isBox] at h
  have hNew : ∀ g, v'.ownBlock = some g → ¬ C.N g ∧ ¬ S g := fun g hg => by
    rcases hb' with e1 | e1
    · rw [e1] at hg
      exact hNS g hg
    · rw [e1] at hg
      cases hg
      exact ⟨fun hN => by have := H.nlt _ hN; have := H.bel.size; omega, fun hS => by have := H.lt _ hS; omega⟩
  have hB : BRel C.N w' S (s.h.set i (.row (ver + 1) e T (l ++ l2))) (ψset ψ i v') v' (.row (ver + 1) e T (l ++ l2)) := by
    refine ⟨cells ++ news, by rw [List.length_append]; exact hown', h0, fun j d hj => ?_, hNew⟩
    by_cases hjl : j < l.length
    · rw [List.getElem?_append_left hjl] at hj
      rw [join_left hown.1 hjl]
      exact T.keepS (hR j d hj) hblk fun _ h => h
    · rw [List.getElem?_append_right (by omega)] at hj
      obtain ⟨m, rfl⟩ : ∃ m, j = l.length + m := ⟨j - l.length, by omega⟩
      rw [join_right hown.1]
      exact T.keepS (hnR m d (by simpa using hj)) hblk fun _ h => h
  refine ⟨_, hK, st_set hi hd hl (H.set hi rfl (Gr.of_grownBy (by rw [← hbψ]; exact hgr)) X hB fun g hg => ?_) X ?_⟩
  · have hg' := hbv g hg
    rcases hb' with e1 | e1
    · left; show blkOf (ψ i) = some g; rw [← hbψ, ← e1]; exact hg'
    · right
      rw [e1] at hg'
      cases hg'
      exact Nat.le_refl _
  · unfold AV.rel
    refine ⟨by simp [(List.getElem?_eq_some_iff.1 hi).1], fun c' hc' => ?_⟩
    rw [List.getElem?_set_self (List.getElem?_eq_some_iff.1 hi).1] at hc'
    simp only [ABlk.ver, Option.some.injEq] at hc'
    exact ⟨by omega, fun _ => by rw [ψset_self]⟩

/-! ### rows that are made -/
theorem AOp.newRow {r : Result Next} {n cap : Nat} {e : TypeId} {α : Type} {T : Ty α} {l : List α} {cells : List Value} {a : Act} {w w' : World} {S : Nat → Prop} {ψ : Nat → Value} {Q' : Exit → Act → World → Prop} (hd : a.defers = mkD s.h) (H : HRel C s.h S ψ w) (hl : AV.relL w S s.h ψ s.t a.tmps.toList)
    (hr : r = .ok (.value (.slice (some ⟨w.heap.size, 0, none⟩) n cap)) w') (hb : Below w.heap.size w w') (hown : w'.ownsRow 0 e T.size (.slice (some ⟨w.heap.size, 0, none⟩) n cap) l.length cells) (h0 : 0 < T.size)
    (hR : ∀ i d, l[i]? = some d → T.RS w' S ((cells.drop (i * T.size)).take T.size) d) (hK : K ⟨putA s.t o.dst (.own s.h.length 0), s.h ++ [.row 0 e T l]⟩) :
    o.upon P a (fun a' w' => ∃ s', K s' ∧ s'.rel C a' w') Q' r := by
  subst hr
  have X : Ext w S s.h ψ w' S (s.h ++ [.row 0 e T l]) (ψset ψ s.h.length (.slice (some ⟨w.heap.size, 0, none⟩) n cap)) := Ext.push _ _ fun k hk => hb.block k (H.lt k hk)
  have hB : BRel C.N w' S (s.h ++ [.row 0 e T l]) (ψset ψ s.h.length (.slice (some ⟨w.heap.size, 0, none⟩) n cap)) (.slice (some ⟨w.heap.size, 0, none⟩) n cap) (.row 0 e T l) :=
    ⟨cells, hown, h0, hR, fun g hg => by
      obtain rfl : w.heap.size = g := by simpa [Value.ownBlock] using hg
      exact ⟨fun hN => by have := H.nlt _ hN; have := H.bel.size; omega, fun hS => by have := H.lt _ hS; omega⟩⟩
  refine ⟨_, hK, st_push hd hl (H.push hb hB fun g hg => by simp [ftp, blkOf] at hg; omega) X ?_⟩
  unfold AV.rel
  refine ⟨by simp, fun c' hc' => ?_⟩
  rw [List.getElem?_append_right (Nat.le_refl _)] at hc'
  simp [ABlk.ver] at hc'
  exact ⟨by omega, fun _ => ψset_self.symm⟩
/-- a one-cell type's zero -/
def zeroOne (P : Program) (ty : TypeId) : Option (TypeId × Value × Nat) :=
  match P.underlying ty with
  | some (.slice e) => (P.info? e).bind fun i => i.zero.bind fun z => if i.size = 1 ∧ z.oneCell' = true then some (e, z, i.bytes) else none
  | _ => none
theorem made_rep1 (z : Value) (n : Nat) : madeCells #[z] n = (List.replicate n z).toArray := by
  apply Array.ext
  · simp [madeCells]
  · intro i h1 h2
    simp [madeCells, Nat.mod_one]
/-! ### rows that are written out -/
/-- a value that reads as a datum -/
def Fit (h : List ABlk) {α : Type} (T : Ty α) (x : AV) (d : α) : Prop := ∀ (C : Ctx) (S : Nat → Prop) (ψ : Nat → Value) (w : World) (v : Value), HRel C h S ψ w → AV.rel w S h ψ x v → T.RS w S v.cells.toList d
theorem Fit.int {h : List ABlk} {k : IntKind} {n : Int} (hn : wfI k n) : Fit h (Ty.int k) (.lit (.int k n)) n := fun C S ψ w v H hv => by
  unfold AV.rel at hv
  subst hv
  exact ⟨rfl, hn⟩
theorem Fit.bool {h : List ABlk} {b : Bool} : Fit h Ty.bool (.lit (.bool b)) b := fun C S ψ w v H hv => by
  unfold AV.rel at hv
  subst hv
  rfl
theorem RowUpd.fit {h : List ABlk} {α : Type} {T : Ty α} {d d' : α} {x : AV} (hf : Fit h T x d') (h1 : One1 T) : RowUpd h T d 0 x T.size d' := fun C S ψ w v cs H hv hcs => by
  have hr := hf C S ψ w v H hv
  have hl := T.len hr
  refine ⟨hl, by omega, h1 _ _ _ _ hr, ?_⟩
  rw [List.take_zero, List.nil_append, List.drop_eq_nil_of_le (by rw [T.len hcs]; omega), List.append_nil]
  exact hr
inductive Fits (h : List ABlk) {α : Type} (T : Ty α) : List AV → List α → Prop
  | nil : Fits h T [] []
  | cons {x : AV} {d : α} {xs : List AV} {ds : List α} (hx : Fit h T x d) (hs : Fits h T xs ds) : Fits h T (x :: xs) (d :: ds)

theorem setMany : ∀ (vs : List Value) (A M B : List Value) (off k : Nat), M.length = vs.length → off + k = A.length →
    (vs.zipIdx k).foldl (fun (cs : Array Value) (p : Value × Nat) => cs.setIfInBounds (off + p.2) p.1) (A ++ M ++ B).toArray = (A ++ vs ++ B).toArray
  | [], A, M, B, off, k, hM, hk => by
    have : M = [] := List.eq_nil_of_length_eq_zero (by simpa using hM)
    subst this
    simp
  | v :: vs, A, m :: M, B, off, k, hM, hk => by
    have ih := setMany vs (A ++ [v]) M B off (k + 1) (by simpa using hM) (by simp; omega)
    simp only [List.zipIdx_cons, List.foldl_cons]
    rw [show ((A ++ (m :: M) ++ B).toArray.setIfInBounds (off + k) v) = (A ++ [v] ++ M ++ B).toArray from by
      rw [List.setIfInBounds_toArray, hk]
      congr 1
      simp]
    rw [ih]
    simp
theorem fill_all {sz : Nat} : ∀ (vs : List Value) (k : Nat) (A B : List Value), A.length = k * sz → B.length = vs.length * sz → (∀ v ∈ vs, v.cells.size = sz) →
    Instr.fill (fun i => some (i * sz, sz)) (A ++ B).toArray ((vs.zipIdx k).map fun p => (p.2, p.1)) = some (A ++ vs.flatMap fun v => v.cells.toList).toArray
  | [], k, A, B, hA, hB, _ => by
    have : B = [] := List.eq_nil_of_length_eq_zero (by simpa using hB)
    subst this
    simp [Instr.fill]
  | v :: vs, k, A, B, hA, hB, hv => by
    have h1 := hv v (by simp)
    have hB' : B.length = sz + vs.length * sz := by rw [hB, List.length_cons, Nat.add_mul, Nat.one_mul]; omega
    simp only [List.zipIdx_cons, List.map_cons, Instr.fill]
    have hc : ¬ ((decide (v.cells.size ≠ sz) || decide (k * sz + v.cells.size > (A ++ B).toArray.size)) = true) := by
      simp [h1]
      omega
    rw [if_neg hc]
    have e : (A ++ B) = A ++ B.take sz ++ B.drop sz := by rw [List.append_assoc, List.take_append_drop]
    have hs := setMany v.cells.toList A (B.take sz) (B.drop sz) (k * sz) 0 (by simp [h1]; omega) (by omega)
    have hz : v.cells.zipIdx.foldl (fun cs (c, j) => cs.setIfInBounds (k * sz + j) c) (A ++ B).toArray = (A ++ v.cells.toList ++ B.drop sz).toArray := by
      rw [e, ← hs, ← Array.foldl_toList, Array.toList_zipIdx]
    rw [hz, fill_all vs (k + 1) (A ++ v.cells.toList) (B.drop sz) (by simp [h1, hA, Nat.add_mul]) (by simp [hB']) fun u hu => hv u (by simp [hu])]
    simp

def numbered (xs : List Operand) : Array (Nat × Operand) := (xs.zipIdx.map fun p => (p.2, p.1)).toArray
theorem run_lit {ty e : TypeId} {sz bytes : Nat} {vs : List Value} {w : World} (hT : rowTy P ty = some (e, sz, bytes)) (hn : vs.length * sz ≤ 16777216) (hv : ∀ v ∈ vs, v.cells.size = sz) :
    (Instr.buildSlice ty vs.length (vs.zipIdx.map fun p => (p.2, p.1)).toArray).run P w = .ok (.slice (some ⟨w.heap.size, 0, none⟩) vs.length vs.length) (w.alloc (.cells (vs.flatMap fun v => v.cells.toList).toArray e)) := by
  obtain ⟨h1, i, z, h2, h3, h4, h5, h6⟩ := rowTy_spec hT
  have hfill : ∀ c : Array Value, c.size = vs.length * sz → Instr.fill (fun i => some (i * sz, sz)) c (vs.zipIdx.map fun p => (p.2, p.1)) = some (vs.flatMap fun v => v.cells.toList).toArray := fun c hc => by
    have := fill_all (sz := sz) vs 0 [] c.toList (by simp) (by simpa using hc) hv
    simpa using this
  have hlt : ¬ vs.length * sz > 2 ^ 24 := by simp; omega
  unfold Instr.buildSlice
  simp only [underlying, Sem.run_bind, run_program, Result.andThen_ok, h1, Sem.run_pure, Go.sizeOf, typeInfo, h2, h4, hlt, if_false]
  by_cases hz : vs.length * sz = 0
  · simp only [hz, if_true, pure_bind]
    rw [hfill _ (by simp [hz])]
    simp [newRow]
  · simp only [hz, if_false, zeroValue, typeInfo, Sem.run_bind, run_program, Result.andThen_ok, h2, h3, Sem.run_pure]
    rw [hfill _ (by simp)]
    simp [newRow]
theorem fits_cells {h : List ABlk} {α : Type} {T : Ty α} {C : Ctx} {S : Nat → Prop} {ψ : Nat → Value} {w : World} (H : HRel C h S ψ w) : ∀ {xs : List AV} {ds : List α} {vs : List Value}, Fits h T xs ds → AV.relL w S h ψ xs vs →
    vs.length = ds.length ∧ (∀ v ∈ vs, v.cells.size = T.size) ∧ (vs.flatMap fun v => v.cells.toList).length = ds.length * T.size ∧ ∀ i d, ds[i]? = some d → T.RS w S (((vs.flatMap fun v => v.cells.toList).drop (i * T.size)).take T.size) d
  | [], ds, vs, hf, hr => by
    cases hf
    unfold AV.relL at hr
    subst hr
    simp
  | x :: xs, ds, vs, hf, hr => by
    cases hf with
    | cons hx hs =>
      unfold AV.relL at hr
      obtain ⟨v, vs', rfl, h1, h2⟩ := hr
      obtain ⟨k1, k2, k3, k4⟩ := fits_cells H hs h2
      have hv := hx C S ψ w v H h1
      have hvl : v.cells.size = T.size := by have := T.len hv; simpa using this
      have hfl : ((v :: vs').flatMap fun v => v.cells.toList) = v.cells.toList ++ vs'.flatMap fun v => v.cells.toList := by simp
      rw [hfl]
      refine ⟨by simp [k1], fun u hu => ?_, by simp [hvl, k3, Nat.add_mul]; omega, fun i d hd => ?_⟩
      · rcases List.mem_cons.1 hu with rfl | hu
        · exact hvl
        · exact k2 u hu
      · cases i with
        | zero =>
          simp only [List.getElem?_cons_zero, Option.some.injEq] at hd
          subst hd
          rw [Nat.zero_mul, List.drop_zero, List.take_append_of_le_length (by simp [hvl]), List.take_of_length_le (by simp [hvl])]
          exact hv
        | succ i =>
          have := join_right (news := vs'.flatMap fun v => v.cells.toList) (n := 1) (j := i) (sz := T.size) (cells := v.cells.toList) (by simp [hvl])
          rw [show (i + 1) * T.size = (1 + i) * T.size from by rw [Nat.add_comm], this]
          exact k4 i d (by simpa using hd)
theorem run_buildOp {ty : TypeId} {xs : List Operand} {ρ : Operand → Value} {w : World} (ho : o.op = .buildSlice ty xs.length (numbered xs)) : (execOp ρ o).run P w = ((Instr.buildSlice ty (xs.map ρ).length ((xs.map ρ).zipIdx.map fun p => (p.2, p.1)).toArray).run P w).andThen fun v w' => .ok (.value v) w' := by
  have e : (numbered xs).map (fun p : Nat × Operand => (p.1, ρ p.2)) = ((xs.map ρ).zipIdx.map fun p => (p.2, p.1)).toArray := by
    unfold numbered
    simp [List.zipIdx_map]
  simp only [execOp, ho, Sem.run_bind, Sem.run_pure, List.length_map]
  rw [← e]
/-- a literal that is only read from now on -/
theorem Quiet.lit {t : List AV} {h : List ABlk} {ty e : TypeId} {bytes n : Nat} {parts : Array (Nat × Operand)} {xs : List Operand} {α : Type} {T : Ty α} {ds : List α} (ho : o.op = .buildSlice ty n parts) (hp : parts = numbered xs) (hn : n = xs.length)
    (hT : rowTy P ty = some (e, T.size, bytes)) (h0 : 0 < T.size) (hsz : n * T.size ≤ 16777216) (hf : Fits h T (xs.map (evA t)) ds) : Quiet P C t h o (.bs T ds) := by
  subst hp hn
  intro S ψ w ρ H hρ
  have hrel : AV.relL w S h ψ (xs.map (evA t)) (xs.map ρ) := relL_map fun x hx => hρ x (by
    rw [ho]
    simp only [Op.operands, numbered, List.map_map]
    refine List.mem_toArray.2 (List.mem_map.2 ?_)
    obtain ⟨j, hj⟩ := List.mem_iff_getElem?.1 hx
    exact ⟨(x, j), by rw [List.mem_zipIdx_iff_getElem?]; exact hj, rfl⟩)
  obtain ⟨k1, k2, k3, k4⟩ := fits_cells H hf hrel
  have hds : ds.length = xs.length := by rw [← k1]; simp
  rw [run_buildOp ho, run_lit hT (by rw [List.length_map]; exact hsz) k2]
  have hb : Below w.heap.size w (w.alloc (.cells ((xs.map ρ).flatMap fun v => v.cells.toList).toArray e)) := (Below.refl _ _).alloc (Nat.le_refl _) _
  refine ⟨hb, fun k => S k ∨ k = w.heap.size, fun k hk => .inl hk, fun k hk => hk.imp id fun e => by omega, fun k hk => ?_, ?_⟩
  · rcases hk with hk | hk
    · have := H.lt k hk; simp; omega
    · simp; omega
  · unfold AV.rel
    have hmx : xs.length ≤ maxLen := by
      have : xs.length * 1 ≤ xs.length * T.size := Nat.mul_le_mul_left _ h0
      unfold maxLen
      omega
    refine own_slice (base := 0) (e := e) (cells := (xs.map ρ).flatMap fun v => v.cells.toList) ?_ (fun i d hd => T.keepS (k4 i d hd) (fun k hk => hb.block k (H.lt k hk)) fun _ h => .inl h) fun g hg => .inr (by simpa [Value.ownBlock] using hg.symm)
    rw [hds]
    exact row_lit (heap_alloc_new w _) (Nat.zero_le _) (by rw [k3, hds]) hmx |> fun h => by simpa using h
theorem AOp.lit {ty e : TypeId} {bytes n : Nat} {parts : Array (Nat × Operand)} {xs : List Operand} {α : Type} {T : Ty α} {ds : List α} (ho : o.op = .buildSlice ty n parts) (hp : parts = numbered xs) (hn : n = xs.length)
    (hT : rowTy P ty = some (e, T.size, bytes)) (h0 : 0 < T.size) (hsz : n * T.size ≤ 16777216) (hf : Fits s.h T (xs.map (evA s.t)) ds) (hK : K ⟨putA s.t o.dst (.own s.h.length 0), s.h ++ [.row 0 e T ds]⟩) : AOp P C o s K := by
  subst hp hn
  rintro Q' a w ⟨hd, S, ψ, H, hl⟩
  refine ⟨fun c e => (by rw [ho] at e; cases e), ?_⟩
  have hrel : AV.relL w S s.h ψ (xs.map (evA s.t)) (xs.map a.eval) := relL_map fun x _ => ev_rel hl x
  obtain ⟨k1, k2, k3, k4⟩ := fits_cells H hf hrel
  have hds : ds.length = xs.length := by rw [← k1]; simp
  unfold Oper.wp
  rw [run_buildOp ho, run_lit hT (by rw [List.length_map]; exact hsz) k2]
  have hb : Below w.heap.size w (w.alloc (.cells ((xs.map a.eval).flatMap fun v => v.cells.toList).toArray e)) := (Below.refl _ _).alloc (Nat.le_refl _) _
  have hmx : xs.length ≤ maxLen := by
    have : xs.length * 1 ≤ xs.length * T.size := Nat.mul_le_mul_left _ h0
    unfold maxLen
    omega
  refine AOp.newRow (T := T) (l := ds) (e := e) (cells := (xs.map a.eval).flatMap fun v => v.cells.toList) (n := xs.length) (cap := xs.length) (w' := w.alloc (.cells ((xs.map a.eval).flatMap fun v => v.cells.toList).toArray e)) hd H hl ?_ hb ?_ h0 (fun i d hd => T.keepS (k4 i d hd) (fun k hk => hb.block k (H.lt k hk)) fun _ h => h) hK
  · simp
  · rw [hds]
    exact row_lit (heap_alloc_new w _) (Nat.zero_le _) (by rw [k3, hds]) hmx
end
end Mu
end
section
/-
  What may be forgotten of an abstract state; nil rows; rows that are only read from now on; calls that change a row of the caller's.
  Conditions: none; generic.
-/
namespace Mu
open Go Go.RowKit Go.ChangeShapes Go.WideShapes

theorem St.le.refl {C : Ctx} {s : St} : St.le C s s := fun _ _ h => h
theorem St.le.trans {C : Ctx} {s s' s'' : St} (h : St.le C s s') (h' : St.le C s' s'') : St.le C s s'' := fun a w H => h' a w (h a w H)

mutual
def AV.bd (n : Nat) : AV → Bool
  | .own i _ => decide (i < n)
  | .ptr i _ => decide (i < n)
  | .rp i _ _ _ => decide (i < n)
  | .agg l => AV.bdL n l
  | .tup l => AV.bdL n l
  | .fn _ l => AV.bdL n l
  | _ => true
def AV.bdL (n : Nat) : List AV → Bool
  | [] => true
  | x :: l => AV.bd n x && AV.bdL n l
end
/-- blocks are forgotten -/
structure Cut (h h' : List ABlk) : Prop where
  len : h'.length ≤ h.length
  blk : ∀ (i : Nat) (b : ABlk), h'[i]? = some b → b = .dead ∨ h[i]? = some b
section
variable {w : World} {S : Nat → Prop} {h h' : List ABlk} {ψ : Nat → Value}
theorem Cut.ver (hc : Cut h h') {i c : Nat} (hv : ABlk.ver h'[i]? = some c) : ABlk.ver h[i]? = some c ∧ ABlk.sz h'[i]? = ABlk.sz h[i]? := by
  cases hb : h'[i]? with
  | none => rw [hb] at hv; simp [ABlk.ver] at hv
  | some b =>
    rcases hc.blk i b hb with rfl | h1
    · rw [hb] at hv; simp [ABlk.ver] at hv
    · rw [h1, ← hb]; exact ⟨hv, rfl⟩
theorem Cut.box (hc : Cut h h') {i : Nat} (hv : ABlk.isBox h'[i]? = true) : ABlk.isBox h[i]? = true := by
  cases hb : h'[i]? with
  | none => rw [hb] at hv; simp [ABlk.isBox] at hv
  | some b =>
    rcases hc.blk i b hb with rfl | h1
    · rw [hb] at hv; simp [ABlk.isBox] at hv
    · rw [h1, ← hb]; exact hv
theorem Cut.live (hc : Cut h h') {i : Nat} (hv : ABlk.live h'[i]? = true) : ABlk.live h[i]? = true := by
  cases hb : h'[i]? with
  | none => rw [hb] at hv; simp [ABlk.live] at hv
  | some b =>
    rcases hc.blk i b hb with rfl | h1
    · rw [hb] at hv; simp [ABlk.live] at hv
    · rw [h1, ← hb]; exact hv
theorem Cut.same (hc : Cut h h') {i : Nat} (hv : ABlk.live h'[i]? = true) : h'[i]? = h[i]? := by
  cases hb : h'[i]? with
  | none => rw [hb] at hv; simp [ABlk.live] at hv
  | some b =>
    rcases hc.blk i b hb with rfl | h1
    · rw [hb] at hv; simp [ABlk.live] at hv
    · rw [h1]
mutual
theorem AV.rel_cut (hc : Cut h h') : ∀ (x : AV) (v : Value), AV.bd h'.length x = true → AV.rel w S h ψ x v → AV.rel w S h' ψ x v
  | .any, _, _, _ => by unfold AV.rel; trivial
  | .lit u, v, _, H => by unfold AV.rel at H ⊢; exact H
  | .bs T l, v, _, H => by unfold AV.rel at H ⊢; exact H
  | .tv T d, v, _, H => by unfold AV.rel at H ⊢; exact H
  | .own i ver, v, hb, H => by
    unfold AV.bd at hb
    unfold AV.rel at H ⊢
    exact ⟨by simpa using hb, fun c hv => H.2 c (hc.ver hv).1⟩
  | .ptr i off, v, hb, H => by
    unfold AV.bd at hb
    unfold AV.rel at H ⊢
    exact ⟨by simpa using hb, fun hv => H.2 (hc.box hv)⟩
  | .rp i ver k off, v, hb, H => by
    unfold AV.bd at hb
    unfold AV.rel at H ⊢
    refine ⟨by simpa using hb, fun c hv => ?_⟩
    rw [(hc.ver hv).2]
    exact H.2 c (hc.ver hv).1
  | .bp T d off, v, _, H => by unfold AV.rel at H ⊢; exact H
  | .agg l, v, hb, H => by
    unfold AV.bd at hb
    unfold AV.rel at H ⊢
    obtain ⟨cs, e, hl⟩ := H
    exact ⟨cs, e, AV.relL_cut hc l cs hb hl⟩
  | .tup l, v, hb, H => by
    unfold AV.bd at hb
    unfold AV.rel at H ⊢
    obtain ⟨cs, e, hl⟩ := H
    exact ⟨cs, e, AV.relL_cut hc l cs hb hl⟩
  | .fn f l, v, hb, H => by
    unfold AV.bd at hb
    unfold AV.rel at H ⊢
    obtain ⟨cs, e, hl⟩ := H
    exact ⟨cs, e, AV.relL_cut hc l cs hb hl⟩
theorem AV.relL_cut (hc : Cut h h') : ∀ (l : List AV) (cs : List Value), AV.bdL h'.length l = true → AV.relL w S h ψ l cs → AV.relL w S h' ψ l cs
  | [], cs, _, H => by unfold AV.relL at H ⊢; exact H
  | x :: l, cs, hb, H => by
    unfold AV.bdL at hb
    rw [Bool.and_eq_true] at hb
    unfold AV.relL at H ⊢
    obtain ⟨v, vs, e, h1, h2⟩ := H
    exact ⟨v, vs, e, AV.rel_cut hc x v hb.1 h1, AV.relL_cut hc l vs hb.2 h2⟩
end
end
def boxBd (n : Nat) : ABlk → Bool
  | .box cells => AV.bdL n cells
  | _ => true
/-- slots are forgotten -/
inductive Fgt (n : Nat) : List AV → List AV → Prop
  | nil : Fgt n [] []
  | any {x : AV} {t t' : List AV} (h : Fgt n t t') : Fgt n (x :: t) (.any :: t')
  | keep {x : AV} {t t' : List AV} (hx : AV.bd n x = true) (h : Fgt n t t') : Fgt n (x :: t) (x :: t')
theorem Fgt.rel {w : World} {S : Nat → Prop} {h h' : List ABlk} {ψ : Nat → Value} (hc : Cut h h') {t t' : List AV} (hf : Fgt h'.length t t') : ∀ {cs : List Value}, AV.relL w S h ψ t cs → AV.relL w S h' ψ t' cs := by
  induction hf with
  | nil => intro cs H; unfold AV.relL at H ⊢; exact H
  | any _ ih =>
    intro cs H
    unfold AV.relL at H ⊢
    obtain ⟨v, vs, e, _, h2⟩ := H
    exact ⟨v, vs, e, by unfold AV.rel; trivial, ih h2⟩
  | keep hx _ ih =>
    intro cs H
    unfold AV.relL at H ⊢
    obtain ⟨v, vs, e, h1, h2⟩ := H
    exact ⟨v, vs, e, AV.rel_cut hc _ _ hx h1, ih h2⟩
theorem St.le_cut {C : Ctx} {t t' : List AV} {h h' : List ABlk} (hc : Cut h h') (hb : ∀ b ∈ h', boxBd h'.length b = true) (hf : Fgt h'.length t t') (hm : mkD h' = mkD h := by rfl) : St.le C ⟨t, h⟩ ⟨t', h'⟩ := fun a w ⟨hd, S, ψ, H, hl⟩ => by
  refine ⟨hd.trans hm.symm, S, ψ, ⟨H.bel, H.nlt, H.lt, H.sub, H.new, fun i b hi => ?_, fun i j hij h1 h2 => by rw [hc.same h1, hc.same h2]; exact H.dis i j hij (hc.live h1) (hc.live h2)⟩, hf.rel hc hl⟩
  rcases hc.blk i b hi with rfl | h1
  · trivial
  · have hB := H.blk i b h1
    cases b with
    | dead => trivial
    | box cells =>
      obtain ⟨g, cs, e, k1, k2, k3, k4, k5⟩ := hB
      exact ⟨g, cs, e, k1, k2, k3, k4, AV.relL_cut hc _ _ (hb _ (List.mem_of_getElem? hi)) k5⟩
    | row ver e T l => exact hB
    | res R => exact hB
theorem Cut.refl (h : List ABlk) : Cut h h := ⟨Nat.le_refl _, fun _ _ h => .inr h⟩
theorem Cut.cons {b : ABlk} {h h' : List ABlk} (hc : Cut h h') : Cut (b :: h) (b :: h') := ⟨by have := hc.len; simp; omega, fun i c hi => by
  cases i with
  | zero => exact .inr hi
  | succ i => exact hc.blk i c (by simpa using hi)⟩
theorem Cut.dead {b : ABlk} {h h' : List ABlk} (hc : Cut h h') : Cut (b :: h) (.dead :: h') := ⟨by have := hc.len; simp; omega, fun i c hi => by
  cases i with
  | zero => exact .inl (by simpa using hi.symm)
  | succ i => exact hc.blk i c (by simpa using hi)⟩
theorem Cut.nil (h : List ABlk) : Cut h [] := ⟨Nat.zero_le _, fun i c hi => by simp at hi⟩

/-- a nil slice is an empty row -/
theorem St.le_nil {C : Ctx} {t : List AV} {h : List ABlk} (j : Nat) (e : TypeId) {α : Type} (T : Ty α) (hj : t[j]? = some (.lit (.slice none 0 0))) (h0 : 0 < T.size) : St.le C ⟨t, h⟩ ⟨t.set j (.own h.length 0), h ++ [.row 0 e T []]⟩ := fun a w ⟨hd, S, ψ, H, hl⟩ => by
  have X : Ext w S h ψ w S (h ++ [.row 0 e T []]) (ψset ψ h.length (.slice none 0 0)) := Ext.push _ _ fun _ _ => rfl
  have hB : BRel C.N w S (h ++ [.row 0 e T []]) (ψset ψ h.length (.slice none 0 0)) (.slice none 0 0) (.row 0 e T []) :=
    ⟨[], World.ownsRow_nil _ _ _ _, h0, fun i d hi => by simp at hi, fun g hg => by simp [Value.ownBlock] at hg⟩
  obtain ⟨v, h1, h2⟩ := relL_get hl hj
  unfold AV.rel at h2
  subst h2
  refine ⟨by rw [hd]; show mkD h = mkD (h ++ [_]); rw [mkD_push]; rfl, S, _, H.push (Below.refl _ _) hB (fun g hg => by simp [ftp, blkOf] at hg), ?_⟩
  have h3 := relL_set (AV.relL_ext X _ _ hl) j (x := .own h.length 0) (v := .slice none 0 0) (by
    unfold AV.rel
    refine ⟨by simp, fun c' hc' => ?_⟩
    rw [List.getElem?_append_right (Nat.le_refl _)] at hc'
    simp [ABlk.ver] at hc'
    exact ⟨by omega, fun _ => ψset_self.symm⟩)
  have h4 : a.tmps.toList.set j (.slice none 0 0) = a.tmps.toList := by
    have hjl := (List.getElem?_eq_some_iff.1 h1).1
    apply List.ext_getElem?
    intro k
    by_cases hk : j = k
    · subst hk; rw [List.getElem?_set_self hjl, h1]
    · rw [List.getElem?_set_ne hk]
  rw [h4] at h3
  exact h3

/-! ### from now on a row is only read -/
mutual
def AV.fz (i ver : Nat) (r : AV) : AV → AV
  | .own j v => if j = i ∧ v = ver then r else .own j v
  | .agg l => .agg (AV.fzL i ver r l)
  | .tup l => .tup (AV.fzL i ver r l)
  | .fn f l => .fn f (AV.fzL i ver r l)
  | x => x
def AV.fzL (i ver : Nat) (r : AV) : List AV → List AV
  | [] => []
  | x :: l => AV.fz i ver r x :: AV.fzL i ver r l
end
def ABlk.fz (i ver : Nat) (r : AV) : ABlk → ABlk
  | .box cells => .box (AV.fzL i ver r cells)
  | b => b
def fzH (i ver : Nat) (r : AV) (h : List ABlk) : List ABlk := (h.map (ABlk.fz i ver r)).set i .dead
section
variable {w : World} {S : Nat → Prop} {h : List ABlk} {ψ : Nat → Value}
theorem fzH_ver {i ver j c : Nat} {r : AV} (hv : ABlk.ver (fzH i ver r h)[j]? = some c) : j ≠ i ∧ ABlk.ver h[j]? = some c ∧ ABlk.sz (fzH i ver r h)[j]? = ABlk.sz h[j]? := by
  unfold fzH at *
  by_cases hj : j = i
  · subst hj
    exfalso
    by_cases hl : j < (h.map (ABlk.fz j ver r)).length
    · rw [List.getElem?_set_self hl] at hv; simp [ABlk.ver] at hv
    · rw [List.getElem?_eq_none (by simpa using hl)] at hv; simp [ABlk.ver] at hv
  · rw [List.getElem?_set_ne (Ne.symm hj), List.getElem?_map] at hv ⊢
    cases hb : h[j]? with
    | none => rw [hb] at hv; simp [ABlk.ver] at hv
    | some b => rw [hb] at hv; cases b <;> simp [ABlk.fz, ABlk.ver, ABlk.sz] at hv ⊢ <;> exact ⟨hj, hv⟩
theorem fzH_box {i ver j : Nat} {r : AV} (hv : ABlk.isBox (fzH i ver r h)[j]? = true) : ABlk.isBox h[j]? = true := by
  unfold fzH at hv
  by_cases hj : j = i
  · subst hj
    exfalso
    by_cases hl : j < (h.map (ABlk.fz j ver r)).length
    · rw [List.getElem?_set_self hl] at hv; simp [ABlk.isBox] at hv
    · rw [List.getElem?_eq_none (by simpa using hl)] at hv; simp [ABlk.isBox] at hv
  · rw [List.getElem?_set_ne (Ne.symm hj), List.getElem?_map] at hv
    cases hb : h[j]? with
    | none => rw [hb] at hv; simp [ABlk.isBox] at hv
    | some b => rw [hb] at hv; cases b <;> simp [ABlk.fz, ABlk.isBox] at hv ⊢
theorem fzH_ftp {i ver j : Nat} {r : AV} {v : Value} {g : Nat} (hv : ABlk.live (fzH i ver r h)[j]? = true) (hg : ftp (fzH i ver r h)[j]? v g) : ftp h[j]? v g := by
  unfold fzH at hv hg
  by_cases hj : j = i
  · subst hj
    exfalso
    by_cases hl : j < (h.map (ABlk.fz j ver r)).length
    · rw [List.getElem?_set_self hl] at hv; simp [ABlk.live] at hv
    · rw [List.getElem?_eq_none (by simpa using hl)] at hv; simp [ABlk.live] at hv
  · rw [List.getElem?_set_ne (Ne.symm hj), List.getElem?_map] at hv hg
    cases hb : h[j]? with
    | none => rw [hb] at hv; simp [ABlk.live] at hv
    | some b => rw [hb] at hg; cases b <;> simpa [ABlk.fz, ftp] using hg
theorem fzH_mk {i ver : Nat} {r : AV} {b : ABlk} (hi : h[i]? = some b) (hb : b.mrk = []) : mkD (fzH i ver r h) = mkD h := by
  have e : ∀ l : List ABlk, mkD (l.map (ABlk.fz i ver r)) = mkD l := fun l => by
    induction l with
    | nil => rfl
    | cons c l ih =>
      simp only [List.map_cons, mkD, ih]
      cases c <;> rfl
  unfold fzH
  rw [mkD_set (b := b.fz i ver r) (by rw [List.getElem?_map, hi]; rfl) (by cases b <;> simp_all [ABlk.fz, ABlk.mrk]), e]
theorem fzH_len {i ver : Nat} {r : AV} : (fzH i ver r h).length = h.length := by simp [fzH]
mutual
theorem AV.rel_fz {i ver : Nat} {r : AV} {S' : Nat → Prop} (hS : ∀ k, S k → S' k) (hr : ∀ v, AV.rel w S h ψ (.own i ver) v → AV.rel w S' (fzH i ver r h) ψ r v) : ∀ (x : AV) (v : Value), AV.rel w S h ψ x v → AV.rel w S' (fzH i ver r h) ψ (AV.fz i ver r x) v
  | .any, _, _ => by unfold AV.fz AV.rel; trivial
  | .lit u, v, H => by unfold AV.fz; unfold AV.rel at H ⊢; exact H
  | .bs T l, v, H => by unfold AV.fz; unfold AV.rel at H ⊢; exact T.slice.keepS H (fun _ _ => rfl) hS
  | .tv T d, v, H => by unfold AV.fz; unfold AV.rel at H ⊢; exact T.keepS H (fun _ _ => rfl) hS
  | .own j c, v, H => by
    unfold AV.fz
    split
    · rename_i e
      obtain ⟨rfl, rfl⟩ := e
      exact hr v H
    · unfold AV.rel at H ⊢
      exact ⟨by rw [fzH_len]; exact H.1, fun c' hv => H.2 c' (fzH_ver hv).2.1⟩
  | .ptr j off, v, H => by
    unfold AV.fz
    unfold AV.rel at H ⊢
    exact ⟨by rw [fzH_len]; exact H.1, fun hv => H.2 (fzH_box hv)⟩
  | .rp j c k off, v, H => by
    unfold AV.fz
    unfold AV.rel at H ⊢
    refine ⟨by rw [fzH_len]; exact H.1, fun c' hv => ?_⟩
    rw [(fzH_ver hv).2.2]
    exact H.2 c' (fzH_ver hv).2.1
  | .bp T d off, v, H => by
    unfold AV.fz
    unfold AV.rel at H ⊢
    obtain ⟨b, o, e, hat⟩ := H
    exact ⟨b, o, e, hat.keep (fun _ _ => rfl) hS⟩
  | .agg l, v, H => by
    unfold AV.fz
    unfold AV.rel at H ⊢
    obtain ⟨cs, e, hl⟩ := H
    exact ⟨cs, e, AV.relL_fz hS hr l cs hl⟩
  | .tup l, v, H => by
    unfold AV.fz
    unfold AV.rel at H ⊢
    obtain ⟨cs, e, hl⟩ := H
    exact ⟨cs, e, AV.relL_fz hS hr l cs hl⟩
  | .fn f l, v, H => by
    unfold AV.fz
    unfold AV.rel at H ⊢
    obtain ⟨cs, e, hl⟩ := H
    exact ⟨cs, e, AV.relL_fz hS hr l cs hl⟩
theorem AV.relL_fz {i ver : Nat} {r : AV} {S' : Nat → Prop} (hS : ∀ k, S k → S' k) (hr : ∀ v, AV.rel w S h ψ (.own i ver) v → AV.rel w S' (fzH i ver r h) ψ r v) : ∀ (l : List AV) (cs : List Value), AV.relL w S h ψ l cs → AV.relL w S' (fzH i ver r h) ψ (AV.fzL i ver r l) cs
  | [], cs, H => by unfold AV.fzL; unfold AV.relL at H ⊢; exact H
  | x :: l, cs, H => by
    unfold AV.fzL
    unfold AV.relL at H ⊢
    obtain ⟨v, vs, e, h1, h2⟩ := H
    exact ⟨v, vs, e, AV.rel_fz hS hr x v h1, AV.relL_fz hS hr l vs h2⟩
end
end
theorem St.le_fz {C : Ctx} (hC : C.std) {t : List AV} {h : List ABlk} (i : Nat) {ver : Nat} {e : TypeId} {α : Type} {T : Ty α} {l : List α} (hi : h[i]? = some (.row ver e T l)) : St.le C ⟨t, h⟩ ⟨AV.fzL i ver (.bs T l) t, fzH i ver (.bs T l) h⟩ := fun a w ⟨hd, S, ψ, H, hl⟩ => by
  obtain ⟨cells, hown, h0, hR, hNS⟩ := H.blk i _ hi
  have hil := (List.getElem?_eq_some_iff.1 hi).1
  have hS : ∀ k, S k → (S k ∨ (ψ i).ownBlock = some k) := fun k hk => .inl hk
  have hr : ∀ v, AV.rel w S h ψ (.own i ver) v → AV.rel w (fun k => S k ∨ (ψ i).ownBlock = some k) (fzH i ver (.bs T l) h) ψ (.bs T l) v := fun v hv => by
    unfold AV.rel at hv ⊢
    have := (hv.2 _ (by rw [hi]; rfl)).2 rfl
    subst this
    exact own_slice hown (fun i d hd => T.keepS (hR i d hd) (fun _ _ => rfl) hS) fun g hg => .inr hg
  have hbψ : ∀ g, (ψ i).ownBlock = some g → blkOf (ψ i) = some g := fun g hg => ownBlock_blkOf hg
  refine ⟨hd.trans (fzH_mk hi rfl).symm, fun k => S k ∨ (ψ i).ownBlock = some k, ψ, ⟨H.bel, H.nlt, fun k hk => ?_, fun k hk => .inl (H.sub k hk), fun k hk => ?_, fun j b hj => ?_, fun j k hjk hj hk => ?_⟩, AV.relL_fz hS hr _ _ hl⟩
  · rcases hk with hk | hk
    · exact H.lt k hk
    · exact (World.ownsRow.lt hown k hk).2
  · rcases hk with hk | hk
    · exact H.new k hk
    · exact .inr (Nat.le_of_not_lt fun hlt => (hNS k hk).1 (hC k hlt))
  · by_cases hji : j = i
    · subst hji
      unfold fzH at hj
      rw [List.getElem?_set_self (by simpa using hil)] at hj
      cases hj
      trivial
    · have hj' := hj
      unfold fzH at hj'
      rw [List.getElem?_set_ne (Ne.symm hji), List.getElem?_map] at hj'
      obtain ⟨b0, hb0, rfl⟩ := Option.map_eq_some_iff.1 hj'
      have hB := H.blk j b0 hb0
      have hdis : ABlk.live (some b0) = true → ∀ g, ftp (some b0) (ψ j) g → (ψ i).ownBlock ≠ some g := fun hlv g hg e => H.dis j i hji (by rw [hb0]; exact hlv) (by rw [hi]; rfl) g (by rw [hb0]; exact hg) (by rw [hi]; exact hbψ g e)
      cases b0 with
      | dead => trivial
      | box cells' =>
        obtain ⟨g, cs, e', k1, k2, k3, k4, k5⟩ := hB
        exact ⟨g, cs, e', k1, k2, fun hk => hk.elim k3 (hdis rfl g (by rw [k1]; rfl)), k4, AV.relL_fz hS hr _ _ k5⟩
      | row v' e' T' l' =>
        obtain ⟨cells', k1, k2, k3, k4⟩ := hB
        exact ⟨cells', k1, k2, fun i d hd => T'.keepS (k3 i d hd) (fun _ _ => rfl) hS, fun g hg => ⟨(k4 g hg).1, fun hk => hk.elim (k4 g hg).2 (hdis rfl g (ownBlock_blkOf hg))⟩⟩
      | res R =>
        obtain ⟨k1, k2⟩ := hB
        exact ⟨fun g hg => ⟨(k1 g hg).1, fun hk => hk.elim (k1 g hg).2.1 (hdis rfl g hg), (k1 g hg).2.2⟩, R.keep k2 (fun _ _ => rfl) (fun _ _ => rfl) hS⟩
  · have key : ∀ j, ABlk.live (fzH i ver (.bs T l) h)[j]? = true → ABlk.live h[j]? = true := fun j hj => by
      unfold fzH at hj
      by_cases hji : j = i
      · subst hji; rw [List.getElem?_set_self (by simpa using hil)] at hj; simp [ABlk.live] at hj
      · rw [List.getElem?_set_ne (Ne.symm hji), List.getElem?_map] at hj
        cases hb : h[j]? with
        | none => rw [hb] at hj; simp [ABlk.live] at hj
        | some b => rw [hb] at hj; cases b <;> simp [ABlk.fz, ABlk.live] at hj ⊢
    exact fun g h1 h2 => H.dis j k hjk (key j hj) (key k hk) g (fzH_ftp hj h1) (fzH_ftp hk h2)
end Mu
end
section
/-
  Steps of a walk over abstract states, ready for use; what the program's types are.
  Conditions: none; the types' numbers are this translation's.
-/
namespace Mu
open Go Go.RowKit Go.ChangeShapes Go.WideShapes Go.Proofs

class AG (P : Program) (ty : TypeId) (b : outParam Bool) (n : outParam Nat) : Prop where
  eq : aggT P ty = some (b, n)
class FO (P : Program) (st : TypeId) (j : Nat) (n : outParam Nat) : Prop where
  eq : fieldOff P st j = some n
class ES (P : Program) (ty : TypeId) (n : outParam Nat) : Prop where
  eq : elemSz P ty = some n
class SL (P : Program) (ty : TypeId) : Prop where
  eq : isSlice P ty = true
class RT (P : Program) (ty : TypeId) (e : outParam TypeId) (n bytes : outParam Nat) : Prop where
  eq : rowTy P ty = some (e, n, bytes)
class SZ (P : Program) (ty : TypeId) (n : outParam Nat) : Prop where
  eq : sizeT P ty = some n
class TyOf (P : Program) (e : TypeId) (α : outParam Type) (T : outParam (Ty α)) : Prop where
  eq : True
class ZC (P : Program) (ty : TypeId) (zs : outParam (List Value)) : Prop where
  eq : zeroCells? P ty = some zs
class EncOf {α : Type} (T : Ty α) (enc : outParam (α → List AV)) : Prop where
  ok : Enc T enc
  one : One1 T
  pos : 0 < T.size

section
variable {P : Program} {C : Ctx} {s : St} {o : Oper} {K : St → Prop} {t : List AV} {h : List ABlk} {ops : Array Oper} {rest : List Oper}
theorem aSeq_q {r : AV} {K : St → Prop} (hg : gA ops t o = some true) (hq : Quiet P C t h o r) (hk : aSeq P C ops K rest ⟨putA t o.dst r, h⟩) : aSeq P C ops K (o :: rest) ⟨t, h⟩ :=
  ⟨true, hg, fun _ => AOp.quiet hq hk, fun e => by cases e⟩
theorem aSeq_skip {K : St → Prop} (hg : gA ops t o = some false) (hk : aSeq P C ops K rest ⟨putA t o.dst (.lit undef), h⟩) : aSeq P C ops K (o :: rest) ⟨t, h⟩ :=
  ⟨false, hg, (fun e => by cases e), fun _ => hk⟩
theorem aSeq_t {K : St → Prop} {s : St} (hg : gA ops s.t o = some true) (hq : AOp P C o s (aSeq P C ops K rest)) : aSeq P C ops K (o :: rest) s :=
  ⟨true, hg, fun _ => hq, fun e => by cases e⟩
theorem AOp.q {r : AV} {K : St → Prop} (hq : Quiet P C t h o r) (hk : K ⟨putA t o.dst r, h⟩) : AOp P C o ⟨t, h⟩ K := AOp.quiet hq hk
theorem aQ_q {r : AV} {K : List AV → Prop} (hg : gA ops t o = some true) (hq : Quiet P C t h o r) (hk : aQ P C ops h K rest (putA t o.dst r)) : aQ P C ops h K (o :: rest) t := ⟨r, .inl ⟨hg, hq⟩, hk⟩
/-- a piece whose ways meet again -/
theorem Awp.seqc {x y : Code} {Q : Exit → St → Prop} {s : St} (M : St) (h1 : Awp P C x (athen (fun s' => St.le C s' M) fun _ _ => False) s) (h2 : Awp P C y Q M) : Awp P C (.seq x y) Q s :=
  Awp.seq fun K hK => h1.mono fun e s' hq => by
    cases e with
    | normal => exact hK _ (h2.le hq)
    | _ => exact hq.elim
theorem Awp.via {c : Code} {Q : Exit → St → Prop} {s : St} (M : St) (h1 : St.le C s M) (h2 : Awp P C c Q M) : Awp P C c Q s := h2.le h1
def litBs : AV → Bool
  | .lit v => v.oneCell'
  | .bs _ _ => true
  | _ => false
theorem One.litBs {x : AV} (hx : Mu.litBs x = true) : One h x := by
  cases x <;> simp [Mu.litBs] at hx
  · exact One.lit hx
  · exact One.bs
theorem Parts.aggB {l : List AV} (hl : l.all Mu.litBs = true) : Parts h (.agg l) l := Parts.agg fun x hx => One.litBs (List.all_eq_true.1 hl x hx)
theorem AOp.al {elem : TypeId} {zs : List Value} {K : St → Prop} [ZC P elem zs] (ho : o.op = .alloc elem) (hK : K ⟨putA t o.dst (.ptr h.length 0), h ++ [.box (zs.map .lit)]⟩) : AOp P C o ⟨t, h⟩ K := AOp.alloc (s := ⟨t, h⟩) ho ZC.eq hK
theorem athen_n {K : St → Prop} {Q : Exit → St → Prop} {s : St} (hk : K s) : athen K Q .normal s := hk
def bdH (h : List ABlk) : Bool := h.all (boxBd h.length)
theorem St.le_t {t t' : List AV} {h : List ABlk} (hb : bdH h = true) (hf : Fgt h.length t t') : St.le C ⟨t, h⟩ ⟨t', h⟩ := St.le_cut (Cut.refl h) (fun b hm => List.all_eq_true.1 hb b hm) hf rfl
theorem St.le_c {t t' : List AV} {h h' : List ABlk} (hc : Cut h h') (hb : bdH h' = true) (hf : Fgt h'.length t t') (hm : mkD h' = mkD h := by rfl) : St.le C ⟨t, h⟩ ⟨t', h'⟩ := St.le_cut hc (fun b hm => List.all_eq_true.1 hb b hm) hf hm
theorem Awp.loopF {c : Code} {Q : Exit → St → Prop} {s : St} {β : Type} (F : β → St) (I : β → Prop) (μ : β → Nat) (b0 : β) (hI : I b0) (h0 : St.le C s (F b0))
    (hr : ∀ b, I b → Awp P C c (athen (fun s' => ∃ b', I b' ∧ μ b' < μ b ∧ St.le C s' (F b')) Q) (F b)) : Awp P C (.loop c) Q s :=
  Awp.loop (fun m s => ∃ b, I b ∧ m = μ b ∧ s = F b) (μ b0) ⟨_, h0, b0, hI, rfl, rfl⟩ fun m s ⟨b, hb, hm, hs⟩ => by
    subst hm hs
    refine (hr b hb).mono fun e s' hq => ?_
    cases e with
    | normal =>
      obtain ⟨b', h1, h2, h3⟩ := hq
      exact ⟨μ b', h2, F b', h3, b', h1, rfl, rfl⟩
    | _ => exact hq
theorem Quiet.load_ptr {ty : TypeId} {x : Operand} {n i off : Nat} {r : AV} {cells : List AV} [AG P ty false n] (ho : o.op = .load ty x) (hx : evA t x = .ptr i off) (hi : h[i]? = some (.box cells)) (hr : (cells.drop off)[0]? = some r) : Quiet P C t h o r :=
  Quiet.load1 ho AG.eq hx (CellsOf.ptr hi) hr
theorem Quiet.load_rp {ty : TypeId} {x : Operand} {n i ver k off : Nat} {e : TypeId} {r : AV} {α : Type} {T : Ty α} {l : List α} {d : α} {enc : α → List AV} [AG P ty false n] [EncOf T enc] (ho : o.op = .load ty x) (hx : evA t x = .rp i ver k off) (hi : h[i]? = some (.row ver e T l)) (hk : l[k]? = some d)
    (hr : ((enc d).drop off)[0]? = some r) : Quiet P C t h o r :=
  Quiet.load1 ho AG.eq hx (CellsOf.rp hi hk EncOf.ok) hr
theorem Quiet.loadA_ptr {ty : TypeId} {x : Operand} {n i off : Nat} {cells : List AV} [AG P ty true n] (ho : o.op = .load ty x) (hx : evA t x = .ptr i off) (hi : h[i]? = some (.box cells)) (hn : ((cells.drop off).take n).length = n) : Quiet P C t h o (.agg ((cells.drop off).take n)) :=
  Quiet.loadA ho AG.eq hx (CellsOf.ptr hi) rfl hn
theorem Quiet.loadA_bp {ty : TypeId} {x : Operand} {n off : Nat} {α : Type} {T : Ty α} {d : α} {enc : α → List AV} [AG P ty true n] [EncOf T enc] (ho : o.op = .load ty x) (hx : evA t x = .bp T d off) (hn : (((enc d).drop off).take n).length = n) : Quiet P C t h o (.agg (((enc d).drop off).take n)) :=
  Quiet.loadA ho AG.eq hx (CellsOf.bp EncOf.ok) rfl hn
theorem Quiet.fa_ptr {st : TypeId} {x : Operand} {j n i off : Nat} {cells : List AV} [FO P st j n] (ho : o.op = .fieldAddr st x j) (hx : evA t x = .ptr i off) (hi : h[i]? = some (.box cells)) : Quiet P C t h o (.ptr i (off + n)) :=
  Quiet.fieldAddr ho FO.eq hx (Shift.ptr hi)
theorem Quiet.fa_bp {st : TypeId} {x : Operand} {j n off : Nat} {α : Type} {T : Ty α} {d : α} [FO P st j n] (ho : o.op = .fieldAddr st x j) (hx : evA t x = .bp T d off) : Quiet P C t h o (.bp T d (off + n)) :=
  Quiet.fieldAddr ho FO.eq hx Shift.bp
theorem Quiet.ixi {ty : TypeId} {x y : Operand} {ik : IntKind} {m : Int} {n : Nat} {α : Type} {T : Ty α} {l : List α} {d : α} [ES P ty n] (ho : o.op = .indexAddr ty x y) (hx : evA t x = .bs T l) (hy : evA t y = .lit (.int ik m)) (hs : T.size = n) (h0 : 0 ≤ m) (hd : l[m.toNat]? = some d) : Quiet P C t h o (.bp T d 0) :=
  Quiet.index_bs ho (by rw [hs]; exact ES.eq) hx hy h0 hd
theorem Quiet.ixo {ty : TypeId} {x y : Operand} {ik : IntKind} {k n i ver : Nat} {e : TypeId} {α : Type} {T : Ty α} {l : List α} [ES P ty n] (ho : o.op = .indexAddr ty x y) (hx : evA t x = .own i ver) (hi : h[i]? = some (.row ver e T l)) (hy : evA t y = .lit (.int ik (k : Int))) (hs : T.size = n) (hk : k < l.length) :
    Quiet P C t h o (.rp i ver k 0) := by
  have := Quiet.index_own (P := P) (C := C) (h := h) ho hx hi (by rw [hs]; exact ES.eq) hy (by omega) (by simpa using hk)
  simpa using this
theorem Quiet.ixoi {ty : TypeId} {x y : Operand} {ik : IntKind} {m : Int} {n i ver : Nat} {e : TypeId} {α : Type} {T : Ty α} {l : List α} [ES P ty n] (ho : o.op = .indexAddr ty x y) (hx : evA t x = .own i ver) (hi : h[i]? = some (.row ver e T l)) (hy : evA t y = .lit (.int ik m)) (hs : T.size = n) (h0 : 0 ≤ m) (hk : m.toNat < l.length) :
    Quiet P C t h o (.rp i ver m.toNat 0) := Quiet.index_own ho hx hi (by rw [hs]; exact ES.eq) hy h0 hk
theorem Quiet.ln {ty : TypeId} {x : Operand} {α : Type} {T : Ty α} {l : List α} [SL P ty] (ho : o.op = .call { callee := .builtin .len, args := #[x], argTypes := #[ty] }) (hx : evA t x = .bs T l) : Quiet P C t h o (.lit (.int .i64 (l.length : Int))) := Quiet.len_bs ho SL.eq hx
theorem Quiet.lno {ty : TypeId} {x : Operand} {i ver : Nat} {e : TypeId} {α : Type} {T : Ty α} {l : List α} [SL P ty] (ho : o.op = .call { callee := .builtin .len, args := #[x], argTypes := #[ty] }) (hx : evA t x = .own i ver) (hi : h[i]? = some (.row ver e T l)) : Quiet P C t h o (.lit (.int .i64 (l.length : Int))) := Quiet.len_own ho hx hi SL.eq
theorem Quiet.lnl {ty : TypeId} {x : Operand} {a : Option Addr} {n c : Nat} [SL P ty] (ho : o.op = .call { callee := .builtin .len, args := #[x], argTypes := #[ty] }) (hx : evA t x = .lit (.slice a n c)) : Quiet P C t h o (.lit (.int .i64 (n : Int))) := Quiet.len_lit ho hx SL.eq
theorem AOp.stBox {ty : TypeId} {x y : Operand} {i off n : Nat} {cells new : List AV} [SZ P ty n] (ho : o.op = .store ty x y) (hx : evA t x = .ptr i off) (hi : h[i]? = some (.box cells)) (hp : Parts h (evA t y) new) (hs : n = new.length) (hle : off + new.length ≤ cells.length)
    (hK : K ⟨putA t o.dst (.lit undef), h.set i (.box (cells.take off ++ new ++ cells.drop (off + new.length)))⟩) : AOp P C o ⟨t, h⟩ K := AOp.storeBox (s := ⟨t, h⟩) ho hx hi hp (by rw [← hs]; exact SZ.eq) hle hK
theorem AOp.app {ty : TypeId} {x y : Operand} {i ver : Nat} {e : TypeId} {bytes n : Nat} {α : Type} {T : Ty α} {l l2 : List α} {enc : α → List AV} [RT P ty e n bytes] [EncOf T enc] (ho : o.op = .call { callee := .builtin .append, args := #[x, y], argTypes := #[ty, ty] })
    (hx : evA t x = .own i ver) (hi : h[i]? = some (.row ver e T l)) (hy : evA t y = .bs T l2) (hs : T.size = n) (hlen : l.length + l2.length ≤ maxLen) (hbytes : (l.length + l2.length) * bytes ≤ 140737488355328)
    (hK : K ⟨putA t o.dst (.own i (ver + 1)), h.set i (.row (ver + 1) e T (l ++ l2))⟩) : AOp P C o ⟨t, h⟩ K := AOp.append (s := ⟨t, h⟩) ho (by rw [hs]; exact RT.eq) hx hi hy EncOf.one hlen hbytes hK
theorem Quiet.lt {ty e : TypeId} {bytes n m : Nat} {parts : Array (Nat × Operand)} {xs : List Operand} {α : Type} {T : Ty α} {ds : List α} {enc : α → List AV} [RT P ty e m bytes] [EncOf T enc] (ho : o.op = .buildSlice ty n parts) (hp : parts = numbered xs) (hn : n = xs.length)
    (hs : T.size = m) (hsz : n * T.size ≤ 16777216) (hf : Fits h T (xs.map (evA t)) ds) : Quiet P C t h o (.bs T ds) := Quiet.lit ho hp hn (by rw [hs]; exact RT.eq) (EncOf.pos (T := T) (enc := enc)) hsz hf
end

section
variable {P : Program} {C : Ctx} {o : Oper} {t : List AV} {h : List ABlk}
theorem Quiet.lt1 {ty e : TypeId} {bytes n m : Nat} {parts : Array (Nat × Operand)} {x : Operand} {α : Type} {T : Ty α} {d : α} {enc : α → List AV} [RT P ty e m bytes] [TyOf P e α T] [EncOf T enc] (ho : o.op = .buildSlice ty n parts) (hp : parts = #[(0, x)]) (hn : n = 1)
    (hs : T.size = m) (hsz : T.size ≤ 16777216) (hf : Fit h T (evA t x) d) : Quiet P C t h o (.bs T [d]) := Quiet.lt (xs := [x]) ho hp hn hs (by subst hn; omega) (.cons hf .nil)
end
instance inMuWalk103 (k : IntKind) : EncOf (Ty.int k) fun d => [.lit (.int k d)] := ⟨enc_int k, one1_int, Nat.zero_lt_one⟩
instance inMuWalk1 : EncOf tInt fun d => [.lit (.int .i64 d)] := ⟨enc_int .i64, one1_int, by decide⟩
instance inMuWalk2 : EncOf Ty.bool fun d => [.lit (.bool d)] := ⟨enc_bool, one1_bool, by decide⟩
@[reducible] def encIns (x : Ins) : List AV := [.lit (.int .u8 x.op), .lit (.int .i64 x.d), .lit (.int .i64 x.a), .lit (.int .i64 x.b), .lit (.int .u32 x.n), .lit (.int .i64 x.f), .bs tInt x.args, .lit (.int .i64 x.l1), .lit (.int .i64 x.l2)]
@[reducible] def encBlock (x : Block) : List AV := [.lit (.string x.name), .bs tIns x.ins]
@[reducible] def encFunc (x : Func) : List AV := [.lit (.string x.name), .lit (.int .i64 x.args), .lit (.int .i64 x.regs), .bs tBlock x.blocks]
@[reducible] def encProg (x : Prog) : List AV := [.lit (.int .i64 x.heap), .bs tInt x.threads, .bs tFunc x.funcs]
theorem enc_ins : Enc tIns encIns := by
  intro w S h ψ cs d H
  obtain ⟨A, c, hI⟩ := tIns_R.1 H
  rw [hI.cs]
  have ha := hI.args
  simp only [encIns, AV.relL, AV.rel]
  exact ⟨_, _, rfl, rfl, _, _, rfl, rfl, _, _, rfl, rfl, _, _, rfl, rfl, _, _, rfl, rfl, _, _, rfl, rfl, _, _, rfl, ha, _, _, rfl, rfl, _, _, rfl, rfl, rfl⟩
theorem enc_block : Enc tBlock encBlock := by
  intro w S h ψ cs d H
  obtain ⟨A, c, rfl, _, hs⟩ := tBlock_R.1 H
  simp only [encBlock, AV.relL, AV.rel]
  exact ⟨_, _, rfl, rfl, _, _, rfl, hs, rfl⟩
theorem enc_func : Enc tFunc encFunc := by
  intro w S h ψ cs d H
  obtain ⟨A, c, rfl, _, _, _, hs⟩ := tFunc_R.1 H
  simp only [encFunc, AV.relL, AV.rel]
  exact ⟨_, _, rfl, rfl, _, _, rfl, rfl, _, _, rfl, rfl, _, _, rfl, hs, rfl⟩
theorem enc_prog : Enc tProg encProg := by
  intro w S h ψ cs d H
  obtain ⟨A, c, A', c', rfl, _, ht, hs⟩ := tProg_R.1 H
  simp only [encProg, AV.relL, AV.rel]
  exact ⟨_, _, rfl, rfl, _, _, rfl, ht, _, _, rfl, hs, rfl⟩
theorem one1_ins : One1 tIns := one1_of_enc enc_ins fun d x hx => by
  simp only [encIns, List.mem_cons, List.not_mem_nil, or_false] at hx
  rcases hx with rfl | rfl | rfl | rfl | rfl | rfl | rfl | rfl | rfl <;> first | exact .inl ⟨_, rfl, rfl⟩ | exact .inr ⟨_, _, _, rfl⟩
theorem one1_block : One1 tBlock := one1_of_enc enc_block fun d x hx => by
  simp only [encBlock, List.mem_cons, List.not_mem_nil, or_false] at hx
  rcases hx with rfl | rfl <;> first | exact .inl ⟨_, rfl, rfl⟩ | exact .inr ⟨_, _, _, rfl⟩
theorem one1_func : One1 tFunc := one1_of_enc enc_func fun d x hx => by
  simp only [encFunc, List.mem_cons, List.not_mem_nil, or_false] at hx
  rcases hx with rfl | rfl | rfl | rfl <;> first | exact .inl ⟨_, rfl, rfl⟩ | exact .inr ⟨_, _, _, rfl⟩
theorem one1_prog : One1 tProg := one1_of_enc enc_prog fun d x hx => by
  simp only [encProg, List.mem_cons, List.not_mem_nil, or_false] at hx
  rcases hx with rfl | rfl | rfl <;> first | exact .inl ⟨_, rfl, rfl⟩ | exact .inr ⟨_, _, _, rfl⟩
instance inMuWalk4 : EncOf tIns encIns := ⟨enc_ins, one1_ins, by decide⟩
instance inMuWalk5 : EncOf tBlock encBlock := ⟨enc_block, one1_block, by decide⟩
instance inMuWalk6 : EncOf tFunc encFunc := ⟨enc_func, one1_func, by decide⟩
instance inMuWalk7 : EncOf tProg encProg := ⟨enc_prog, one1_prog, by decide⟩

instance inMuWalk8 : AG Tryz.prog 3 false 1 := ⟨by kernel_rfl⟩
instance inMuWalk9 : SZ Tryz.prog 3 1 := ⟨by kernel_rfl⟩
instance inMuWalk10 : AG Tryz.prog 4 false 1 := ⟨by kernel_rfl⟩
instance inMuWalk11 : SZ Tryz.prog 4 1 := ⟨by kernel_rfl⟩
instance inMuWalk12 : AG Tryz.prog 5 false 1 := ⟨by kernel_rfl⟩
instance inMuWalk14 : AG Tryz.prog 38 false 1 := ⟨by kernel_rfl⟩
instance inMuWalk15 : SZ Tryz.prog 38 1 := ⟨by kernel_rfl⟩
instance inMuWalk16 : AG Tryz.prog 9 false 1 := ⟨by kernel_rfl⟩
instance inMuWalk18 : AG Tryz.prog 22 false 1 := ⟨by kernel_rfl⟩
instance inMuWalk19 : SZ Tryz.prog 22 1 := ⟨by kernel_rfl⟩
instance inMuWalk20 : ES Tryz.prog 22 1 := ⟨by kernel_rfl⟩
instance inMuWalk21 : SL Tryz.prog 22 := ⟨by kernel_rfl⟩
instance inMuWalk22 : RT Tryz.prog 22 3 1 8 := ⟨by kernel_rfl⟩
instance inMuWalk28 : AG Tryz.prog 46 false 1 := ⟨by kernel_rfl⟩
instance inMuWalk29 : SZ Tryz.prog 46 1 := ⟨by kernel_rfl⟩
instance inMuWalk30 : ES Tryz.prog 46 9 := ⟨by kernel_rfl⟩
instance inMuWalk31 : SL Tryz.prog 46 := ⟨by kernel_rfl⟩
instance inMuWalk32 : RT Tryz.prog 46 40 9 88 := ⟨by kernel_rfl⟩
instance inMuWalk33 : AG Tryz.prog 43 false 1 := ⟨by kernel_rfl⟩
instance inMuWalk34 : SZ Tryz.prog 43 1 := ⟨by kernel_rfl⟩
instance inMuWalk35 : ES Tryz.prog 43 2 := ⟨by kernel_rfl⟩
instance inMuWalk36 : SL Tryz.prog 43 := ⟨by kernel_rfl⟩
instance inMuWalk37 : RT Tryz.prog 43 48 2 40 := ⟨by kernel_rfl⟩
instance inMuWalk38 : AG Tryz.prog 23 false 1 := ⟨by kernel_rfl⟩
instance inMuWalk39 : SZ Tryz.prog 23 1 := ⟨by kernel_rfl⟩
instance inMuWalk40 : ES Tryz.prog 23 4 := ⟨by kernel_rfl⟩
instance inMuWalk41 : SL Tryz.prog 23 := ⟨by kernel_rfl⟩
instance inMuWalk42 : RT Tryz.prog 23 45 4 56 := ⟨by kernel_rfl⟩
instance inMuWalk58 : AG Tryz.prog 40 true 9 := ⟨by kernel_rfl⟩
instance inMuWalk59 : SZ Tryz.prog 40 9 := ⟨by kernel_rfl⟩
instance inMuWalk60 : AG Tryz.prog 48 true 2 := ⟨by kernel_rfl⟩
instance inMuWalk61 : SZ Tryz.prog 48 2 := ⟨by kernel_rfl⟩
instance inMuWalk62 : AG Tryz.prog 45 true 4 := ⟨by kernel_rfl⟩
instance inMuWalk63 : SZ Tryz.prog 45 4 := ⟨by kernel_rfl⟩
instance inMuWalk64 : AG Tryz.prog 25 true 3 := ⟨by kernel_rfl⟩
instance inMuWalk65 : SZ Tryz.prog 25 3 := ⟨by kernel_rfl⟩
instance inMuWalk66 : TyOf Tryz.prog 3 _ tInt := ⟨trivial⟩
instance inMuWalk69 : TyOf Tryz.prog 38 _ (Ty.int .u32) := ⟨trivial⟩
instance inMuWalk79 : ZC Tryz.prog 40 [.int .u8 0, .int .i64 0, .int .i64 0, .int .i64 0, .int .u32 0, .int .i64 0, .slice none 0 0, .int .i64 0, .int .i64 0] := ⟨by kernel_rfl⟩
instance inMuWalk80 : ZC Tryz.prog 48 [.string ⟨#[]⟩, .slice none 0 0] := ⟨by kernel_rfl⟩
instance inMuWalk81 : ZC Tryz.prog 45 [.string ⟨#[]⟩, .int .i64 0, .int .i64 0, .slice none 0 0] := ⟨by kernel_rfl⟩
instance inMuWalk82 : ZC Tryz.prog 25 [.int .i64 0, .slice none 0 0, .slice none 0 0] := ⟨by kernel_rfl⟩
instance inMuWalk85 : FO Tryz.prog 40 0 0 := ⟨by kernel_rfl⟩
instance inMuWalk86 : FO Tryz.prog 40 1 1 := ⟨by kernel_rfl⟩
instance inMuWalk87 : FO Tryz.prog 40 2 2 := ⟨by kernel_rfl⟩
instance inMuWalk88 : FO Tryz.prog 40 3 3 := ⟨by kernel_rfl⟩
instance inMuWalk89 : FO Tryz.prog 40 4 4 := ⟨by kernel_rfl⟩
instance inMuWalk90 : FO Tryz.prog 40 5 5 := ⟨by kernel_rfl⟩
instance inMuWalk91 : FO Tryz.prog 40 6 6 := ⟨by kernel_rfl⟩
instance inMuWalk92 : FO Tryz.prog 40 7 7 := ⟨by kernel_rfl⟩
instance inMuWalk93 : FO Tryz.prog 40 8 8 := ⟨by kernel_rfl⟩
instance inMuWalk94 : FO Tryz.prog 48 0 0 := ⟨by kernel_rfl⟩
instance inMuWalk95 : FO Tryz.prog 48 1 1 := ⟨by kernel_rfl⟩
instance inMuWalk96 : FO Tryz.prog 45 0 0 := ⟨by kernel_rfl⟩
instance inMuWalk97 : FO Tryz.prog 45 1 1 := ⟨by kernel_rfl⟩
instance inMuWalk98 : FO Tryz.prog 45 2 2 := ⟨by kernel_rfl⟩
instance inMuWalk99 : FO Tryz.prog 45 3 3 := ⟨by kernel_rfl⟩
instance inMuWalk100 : FO Tryz.prog 25 0 0 := ⟨by kernel_rfl⟩
instance inMuWalk101 : FO Tryz.prog 25 1 1 := ⟨by kernel_rfl⟩
instance inMuWalk102 : FO Tryz.prog 25 2 2 := ⟨by kernel_rfl⟩
end Mu
end
section
/-
  DERIVED: THE SHELF's CONTRACTS AT THIS DUMP, IN PLAIN WORDS (tools/lay-plain.mjs out of 'TryShelf.lean', which tools/lay-shelf.mjs wrote): THE SAME DECLARATIONS UNDER THE SAME NAMES: 'import', 'namespace', 'open', 'def', 'theorem' AND NOTHING ELSE: no command of the shelf's: FOR A HAND-IN. Each laying: the table of numbers ('.._ren') and one theorem, a field a fact of the dump's own or the kernel's comparison; each contract: ONE APPLICATION.
-/
namespace Go.Proofs
open Go.Shelf
def Tryz.lays189_ren : Go.Shelf.Ren := ⟨fun | 189 => 88 | 125 => 148 | 257 => 147 | 128 => 194 | 129 => 195 | 294 => 185 | 295 => 186 | 296 => 187 | 297 => 188 | 298 => 189 | 299 => 190 | 216 => 191 | 300 => 192 | 301 => 193 | 328 => 211 | 329 => 212 | 330 => 213 | 331 => 214 | 332 => 215 | 215 => 183 | 343 => 248 | n => n, fun | 28 => 22 | 3 => 3 | 46 => 202 | 0 => 0 | 51 => 38 | 53 => 237 | 4 => 4 | 183 => 230 | 182 => 229 | 131 => 160 | 5 => 5 | 9 => 9 | 218 => 259 | 222 => 263 | 228 => 278 | 229 => 279 | n => n, fun | n => n⟩
theorem Tryz.lays189 : Go.Proofs.Lays.n189 Tryz.prog Tryz.lays189_ren := {
  mixed := by kernel_rfl
  f125 := Tryz.func148.trans (congrArg some (by kernel_rfl))
  f128 := Tryz.func194.trans (congrArg some (by kernel_rfl))
  f129 := Tryz.func195.trans (congrArg some (by kernel_rfl))
  f189 := Tryz.func88.trans (congrArg some (by kernel_rfl))
  f215 := Tryz.func183.trans (congrArg some (by kernel_rfl))
  f216 := Tryz.func191.trans (congrArg some (by kernel_rfl))
  f257 := Tryz.func147.trans (congrArg some (by kernel_rfl))
  f294 := Tryz.func185.trans (congrArg some (by kernel_rfl))
  f295 := Tryz.func186.trans (congrArg some (by kernel_rfl))
  f296 := Tryz.func187.trans (congrArg some (by kernel_rfl))
  f297 := Tryz.func188.trans (congrArg some (by kernel_rfl))
  f298 := Tryz.func189.trans (congrArg some (by kernel_rfl))
  f299 := Tryz.func190.trans (congrArg some (by kernel_rfl))
  f300 := Tryz.func192.trans (congrArg some (by kernel_rfl))
  f301 := Tryz.func193.trans (congrArg some (by kernel_rfl))
  f328 := Tryz.func211.trans (congrArg some (by kernel_rfl))
  f329 := Tryz.func212.trans (congrArg some (by kernel_rfl))
  f330 := Tryz.func213.trans (congrArg some (by kernel_rfl))
  f331 := Tryz.func214.trans (congrArg some (by kernel_rfl))
  f332 := Tryz.func215.trans (congrArg some (by kernel_rfl))
  f343 := Tryz.func248.trans (congrArg some (by kernel_rfl))
  t0 := Tryz.underlying0
  a0 := Tryz.isAgg0
  z0 := Tryz.sizeOf0
  v0 := Tryz.zeroValue0
  t3 := Tryz.underlying3
  a3 := Tryz.isAgg3
  z3 := Tryz.sizeOf3
  v3 := Tryz.zeroValue3
  t4 := Tryz.underlying4
  a4 := Tryz.isAgg4
  z4 := Tryz.sizeOf4
  v4 := Tryz.zeroValue4
  t5 := Tryz.underlying5
  a5 := Tryz.isAgg5
  z5 := Tryz.sizeOf5
  v5 := Tryz.zeroValue5
  t9 := Tryz.underlying9
  a9 := Tryz.isAgg9
  z9 := Tryz.sizeOf9
  v9 := Tryz.zeroValue9
  t28 := Tryz.underlying22
  a28 := Tryz.isAgg22
  z28 := Tryz.sizeOf22
  v28 := Tryz.zeroValue22
  t46 := Tryz.underlying202
  a46 := Tryz.isAgg202
  z46 := Tryz.sizeOf202
  v46 := Tryz.zeroValue202
  t51 := Tryz.underlying38
  a51 := Tryz.isAgg38
  z51 := Tryz.sizeOf38
  v51 := Tryz.zeroValue38
  t53 := Tryz.underlying237
  a53 := Tryz.isAgg237
  z53 := Tryz.sizeOf237
  v53 := Tryz.zeroValue237
  t131 := Tryz.underlying160
  a131 := Tryz.isAgg160
  z131 := Tryz.sizeOf160
  v131 := Tryz.zeroValue160
  t182 := Tryz.underlying229
  a182 := Tryz.isAgg229
  z182 := Tryz.sizeOf229
  v182 := Tryz.zeroValue229
  t183 := Tryz.underlying230
  a183 := Tryz.isAgg230
  z183 := Tryz.sizeOf230
  v183 := Tryz.zeroValue230
  t218 := Tryz.underlying259
  a218 := Tryz.isAgg259
  z218 := Tryz.sizeOf259
  v218 := Tryz.zeroValue259
  t222 := Tryz.underlying263
  a222 := Tryz.isAgg263
  z222 := Tryz.sizeOf263
  v222 := Tryz.zeroValue263
  t228 := Tryz.underlying278
  a228 := Tryz.isAgg278
  z228 := Tryz.sizeOf278
  v228 := Tryz.zeroValue278
  t229 := Tryz.underlying279
  a229 := Tryz.isAgg279
  z229 := Tryz.sizeOf279
  v229 := Tryz.zeroValue279 }
open Go.Sort Go.RowKit in
theorem Tryz.slices_Sort_int (blk off cap : Nat) (zs : List Int) (w : World) (hH : Holds (Value.int .i64) w blk off zs.toArray) (hblk : blk < w.heap.size) (hsz : zs.length < 4611686018427387904) :
    Calls Tryz.prog 88 #[.slice (some ⟨blk, off, none⟩) zs.length cap] w fun e w' =>
      e = .returned (.tuple #[]) ∧ ∃ n os, w' = grow (putRow (Value.int .i64) (Sort.ahead w n) blk off (zs.mergeSort fun x y => decide (x ≤ y)).toArray) os := Any.slices_Sort_int Tryz.lays189 blk off cap zs w hH hblk hsz
def Tryz.lays107_ren : Go.Shelf.Ren := ⟨fun | 107 => 45 | 108 => 102 | n => n, fun | 28 => 22 | 3 => 3 | 4 => 4 | 0 => 0 | n => n, fun | n => n⟩
theorem Tryz.lays107 : Go.Proofs.Lays.n107 Tryz.prog Tryz.lays107_ren := {
  mixed := by kernel_rfl
  f107 := Tryz.func45.trans (congrArg some (by kernel_rfl))
  f108 := Tryz.func102.trans (congrArg some (by kernel_rfl))
  t0 := Tryz.underlying0
  a0 := Tryz.isAgg0
  z0 := Tryz.sizeOf0
  v0 := Tryz.zeroValue0
  t3 := Tryz.underlying3
  a3 := Tryz.isAgg3
  z3 := Tryz.sizeOf3
  v3 := Tryz.zeroValue3
  t4 := Tryz.underlying4
  a4 := Tryz.isAgg4
  z4 := Tryz.sizeOf4
  v4 := Tryz.zeroValue4
  t28 := Tryz.underlying22
  a28 := Tryz.isAgg22
  z28 := Tryz.sizeOf22
  v28 := Tryz.zeroValue22 }
open Go.Lib in
/-- slices.Contains at []int: "Contains reports whether v is present in s.": IT RETURNS 'elements.contains v'; the world is as it was. ITS CALLEE slices.Index IS MET BY ITS OWN CONTRACT OFF THE SHELF (lay that first): no loop is walked here. (LAID: no walk: one application.) -/
theorem Tryz.slices_Contains_int (b off n c : Nat) (zs : List Int) (x : Int) (w : World) (hz : n ≤ zs.length) (hbig : n ≤ 9223372036854775807) (hc : ∀ j, j < zs.length → w.cell? ⟨b, off + j, none⟩ = some (.int .i64 (zs.getD j 0))) :
    Calls Tryz.prog 45 #[.slice (some ⟨b, off, none⟩) n c, .int .i64 x] w fun e w' => e = .returned (.bool ((zs.take n).contains x)) ∧ w' = w := Any.slices_Contains_int Tryz.lays107 b off n c zs x w hz hbig hc
open Go.Lib in
/-- The same at a slice of length 0, a nil one too. (LAID: no walk: one application.) -/
theorem Tryz.slices_Contains_int_empty (a : Option Addr) (c : Nat) (x : Int) (w : World) :
    Calls Tryz.prog 45 #[.slice a 0 c, .int .i64 x] w fun e w' => e = .returned (.bool false) ∧ w' = w := Any.slices_Contains_int_empty Tryz.lays107 a c x w
def Tryz.laysNm215_ren : Go.Shelf.Ren := ⟨fun | 15 => 95 | n => n, fun | 22 => 22 | 3 => 3 | 4 => 4 | n => n, fun | n => n⟩
theorem Tryz.laysNm215 : Go.Proofs.Lays2.n15 Tryz.prog Tryz.laysNm215_ren := {
  mixed := by kernel_rfl
  f15 := Tryz.func95.trans (congrArg some (by kernel_rfl))
  t3 := Tryz.underlying3
  a3 := Tryz.isAgg3
  z3 := Tryz.sizeOf3
  v3 := Tryz.zeroValue3
  t4 := Tryz.underlying4
  a4 := Tryz.isAgg4
  z4 := Tryz.sizeOf4
  v4 := Tryz.zeroValue4
  t22 := Tryz.underlying22
  a22 := Tryz.isAgg22
  z22 := Tryz.sizeOf22
  v22 := Tryz.zeroValue22
  i3 := by kernel_rfl }
open Go.RowKit Go.Lib in
/-- slices.Clone at []int: "Clone returns a copy of the slice. The elements are copied using assignment, so this is a shallow clone. The result may have additional unused capacity. The result preserves the nilness of s.": OF A SLICE THAT IS NOT nil IT RETURNS A SLICE THAT IS NOT nil, OF THE SAME ELEMENTS, IN MEMORY OF THE CALL's OWN: in the how-to's words (6f): 'w'.ownsRow B e 1 v' n cells': v' begins at the head of a row among the blocks from B on (B: the heap's size at the call), not frozen, whose first cells are the elements · 'Below B w w'': below B all is as it was. The capacity is whatever the run-time gives. 'zs': what the cells behind the slice's address hold; 'zs.take n': its elements. (LAID: no walk: one application.) -/
theorem Tryz.slices_Clone_int (b off n c : Nat) (zs : List Int) (w : World) (hz : n ≤ zs.length) (hbig : n * 8 ≤ 140737488355328) (hc : ∀ j, j < zs.length → w.cell? ⟨b, off + j, none⟩ = some (.int .i64 (zs.getD j 0))) :
    Calls Tryz.prog 95 #[.slice (some ⟨b, off, none⟩) n c] w fun e w' => ∃ v', e = .returned v' ∧ w'.ownsRow w.heap.size 3 1 v' n ((zs.take n).map (Value.int .i64)) ∧ v' ≠ .slice none 0 0 ∧ Below w.heap.size w w' := Any.slices_Clone_int Tryz.laysNm215 b off n c zs w hz hbig hc
open Go.RowKit Go.Lib in
/-- The same at nil: nil comes back; the world is as it was. (LAID: no walk: one application.) -/
theorem Tryz.slices_Clone_int_nil (n c : Nat) (w : World) :
    Calls Tryz.prog 95 #[.slice none n c] w fun e w' => e = .returned (.slice none 0 0) ∧ w' = w := Any.slices_Clone_int_nil Tryz.laysNm215 n c w
open Go.RowKit Go.Lib in
/-- The same at a slice of length 0 that is not nil, WHATEVER ITS ADDRESS (no cell is asked for): a slice that is not nil and owns nothing comes back. (LAID: no walk: one application.) -/
theorem Tryz.slices_Clone_int_zero (a : Addr) (c : Nat) (w : World) :
    Calls Tryz.prog 95 #[.slice (some a) 0 c] w fun e w' => ∃ v', e = .returned v' ∧ w'.ownsRow w.heap.size 3 1 v' 0 [] ∧ v' ≠ .slice none 0 0 ∧ Below w.heap.size w w' := Any.slices_Clone_int_zero Tryz.laysNm215 a c w
def Tryz.laysNm220_ren : Go.Shelf.Ren := ⟨fun | 20 => 89 | n => n, fun | 22 => 22 | 3 => 3 | 4 => 4 | 0 => 0 | n => n, fun | n => n⟩
theorem Tryz.laysNm220 : Go.Proofs.Lays2.n20 Tryz.prog Tryz.laysNm220_ren := {
  mixed := by kernel_rfl
  f20 := Tryz.func89.trans (congrArg some (by kernel_rfl))
  t0 := Tryz.underlying0
  a0 := Tryz.isAgg0
  z0 := Tryz.sizeOf0
  v0 := Tryz.zeroValue0
  t3 := Tryz.underlying3
  a3 := Tryz.isAgg3
  z3 := Tryz.sizeOf3
  v3 := Tryz.zeroValue3
  t4 := Tryz.underlying4
  a4 := Tryz.isAgg4
  z4 := Tryz.sizeOf4
  v4 := Tryz.zeroValue4
  t22 := Tryz.underlying22
  a22 := Tryz.isAgg22
  z22 := Tryz.sizeOf22
  v22 := Tryz.zeroValue22
  i3 := by kernel_rfl }
open Go.RowKit Go.Lib Go.Sort in
/-- slices.Compact at []int: "Compact replaces consecutive runs of equal elements with a single copy. This is like the uniq command found on Unix. Compact modifies the contents of the slice s and returns the modified slice, which may have a smaller length. Compact zeroes the elements between the new length and the original length. The result preserves the nilness of s.": IT RETURNS THE SLICE CUT TO 'Lib.compact zs'; ITS CELLS HOLD 'Lib.compact zs', THEN ZERO VALUES up to the old length; all else is as it was, but for the count of draws. IN THE WORDS OF slices.Sort's CONTRACT ('Holds', 'putRow'): so the everyday 'slices.Sort(xs); xs = slices.Compact(xs)' goes from the one contract to the other. It asks 'zs.length ≤ cap' (every slice's: the reslicing 's[:k]' looks at it). Length 0, nil: '.._empty'. (LAID: no walk: one application.) -/
theorem Tryz.slices_Compact_int (blk off cap : Nat) (zs : List Int) (w : World) (hH : Holds (Value.int .i64) w blk off zs.toArray) (hsz : zs.length ≤ 9223372036854775807) (hcap : zs.length ≤ cap) :
    Calls Tryz.prog 89 #[.slice (some ⟨blk, off, none⟩) zs.length cap] w fun e w' => e = .returned (.slice (some ⟨blk, off, none⟩) (Lib.compact zs).length cap) ∧ ∃ q, w' = putRow (Value.int .i64) (Sort.ahead w q) blk off (Lib.compact zs ++ List.replicate (zs.length - (Lib.compact zs).length) 0).toArray := Any.slices_Compact_int Tryz.laysNm220 blk off cap zs w hH hsz hcap
open Go.RowKit Go.Lib Go.Sort in
/-- The same at a slice of length 0, a nil one too: it comes back as it is. (LAID: no walk: one application.) -/
theorem Tryz.slices_Compact_int_empty (a : Option Addr) (cap : Nat) (w : World) :
    Calls Tryz.prog 89 #[.slice a 0 cap] w fun e w' => e = .returned (.slice a 0 cap) ∧ w' = w := Any.slices_Compact_int_empty Tryz.laysNm220 a cap w
open Go.RowKit Go.Sort in
/-- .. and plain. (LAID: no walk: one application.) -/
theorem Tryz.slices_Sort_int_none (p : Option Addr) (cap : Nat) (w : World) :
    Calls Tryz.prog 88 #[.slice p 0 cap] w fun e w' => e = .returned (.tuple #[]) ∧ w' = w := Any.slices_Sort_int_none Tryz.lays189 p cap w
end Go.Proofs
end
section
/-
  The library's functions on rows of integers of the call's own: sort, compact; contains, clone on rows that are read.
  Conditions: the rows' lengths fit.
-/
namespace Mu
open Go Go.RowKit Go.Proofs Go.Sort

theorem holds_ints {w : World} {g : Nat} {e : TypeId} {cur : Array Value} {zs : List Int} (hb : w.heap[g]? = some (.cells cur e (0, 0))) (h4 : cur.toList.take (zs.length * 1) = zs.map (Value.int .i64)) :
    Holds (Value.int .i64) w g 0 zs.toArray := by
  intro j hj
  have hj' : j < zs.length := by simpa using hj
  have h5 : cur[j]? = some (.int .i64 zs[j]) := by
    have : (cur.toList.take (zs.length * 1))[j]? = some (.int .i64 zs[j]) := by rw [h4]; simp [hj']
    rw [List.getElem?_take_of_lt (by omega)] at this
    simpa using this
  refine ⟨?_, by simp [World.frozen?, hb]⟩
  have e1 : zs.toArray[j]! = zs[j] := by simp [getElem!_pos, hj']
  rw [e1, Nat.zero_add]
  simp [World.cell?, hb, h5]

/-- a row of ints of the call's own -/
def OwnI (w : World) (base : Nat) (v : Value) (l : List Int) : Prop := w.ownsRow base 3 1 v l.length (l.map (Value.int .i64))

theorem OwnI.of {w : World} {base n : Nat} {v : Value} {l : List Int} {cs : List Value} (h : w.ownsRow base 3 1 v n cs) (hn : n = l.length) (hc : cs = l.map (Value.int .i64)) : OwnI w base v l := by
  subst hn hc
  exact h
theorem OwnI.alloc {w : World} {base : Nat} {v : Value} {l : List Int} (h : OwnI w base v l) (o : Obj) : OwnI (w.alloc o) base v l := World.ownsRow.alloc h o
theorem OwnI.nil (w : World) (base : Nat) : OwnI w base (.slice none 0 0) [] := World.ownsRow_nil _ _ _ _
theorem OwnI.base {w : World} {base base' : Nat} {v : Value} {l : List Int} (h : OwnI w base v l) (hb : base' ≤ base) : OwnI w base' v l := by
  obtain ⟨h1, h2⟩ := h
  refine ⟨h1, ?_⟩
  rcases h2 with h2 | ⟨g, cap, cur, hv, hg, r⟩
  · exact .inl h2
  · exact .inr ⟨g, cap, cur, hv, by omega, r⟩
theorem OwnI.kept {w w' : World} {base : Nat} {v : Value} {l : List Int} (h : OwnI w base v l) (hb : Below w.heap.size w w') : OwnI w' base v l := by
  obtain ⟨h1, h2⟩ := h
  refine ⟨h1, ?_⟩
  rcases h2 with h2 | ⟨g, cap, cur, hv, hg, hh, r⟩
  · exact .inl h2
  · exact .inr ⟨g, cap, cur, hv, hg, (hb.block g (Array.getElem?_eq_some_iff.1 hh).1).trans hh, r⟩
theorem OwnI.lt {w : World} {base : Nat} {v : Value} {l : List Int} (h : OwnI w base v l) : ∀ k, v.ownBlock = some k → base ≤ k ∧ k < w.heap.size := World.ownsRow.lt h
theorem OwnI.grown {w w' w0 : World} {base : Nat} {v : Value} {l : List Int} (h : OwnI w base v l) (hb : Below base w0 w) (hs : base ≤ w.heap.size) (hg : w.grownBy w' v.ownBlock) : Below base w0 w' :=
  hb.grown hg hs (fun q hq => (h.lt q hq).1)
theorem OwnI.read {w : World} {base : Nat} {v : Value} {l : List Int} (h : OwnI w base v l) (hw : ∀ x ∈ l, wfI .i64 x) : (Ty.int .i64).slice.R w w.heap.size [v] l := own_ints h hw
theorem int_info : (Tryz.prog.info? 3).map (fun i => (i.zero, i.size, i.bytes)) = some (some (.int .i64 0), 1, 8) := by kernel_rfl

theorem clone_any {v : Value} {xs : List Int} {w : World} (h : (Ty.int .i64).slice.R w w.heap.size [v] xs) (hn : xs.length ≤ 2147483648) :
    Calls Tryz.prog 95 #[v] w fun e w' => ∃ v', e = .returned v' ∧ OwnI w' w.heap.size v' xs ∧ Below w.heap.size w w' := by
  obtain ⟨A, c, rfl⟩ := slice_form h
  rcases A with _ | ad
  · obtain ⟨rfl, _, rfl⟩ := slice_nil_at h
    refine (Tryz.slices_Clone_int_nil _ _ _).mono fun e w' ⟨he, hw⟩ => ?_
    subst hw
    exact ⟨_, he, OwnI.nil _ _, Below.refl _ _⟩
  · by_cases hz : xs = []
    · subst hz
      refine (Tryz.slices_Clone_int_zero ad c w).mono fun e w' ⟨v', he, ho, _, hb⟩ => ?_
      exact ⟨v', he, ho, hb⟩
    · have hpos : 0 < xs.length := List.length_pos_iff.2 hz
      obtain ⟨b, o, e, _⟩ := int_at h (List.getElem?_eq_getElem hpos)
      cases e
      refine (Tryz.slices_Clone_int b o xs.length c xs w (Nat.le_refl _) (by omega) (fun j hj => ?_)).mono fun e w' ⟨v', he, ho, _, hb⟩ => ?_
      · obtain ⟨b', o', e', _, hc, _⟩ := int_at h (List.getElem?_eq_getElem hj)
        cases e'
        rw [hc]
        simp [List.getD, hj]
      · rw [List.take_length] at ho
        exact ⟨v', he, ho, hb⟩

theorem sort_own {base : Nat} {v : Value} {zs : List Int} {w : World} (hown : OwnI w base v zs) (hn : zs.length ≤ 2147483648) :
    Calls Tryz.prog 88 #[v] w fun e w' => e = .returned (.tuple #[]) ∧ OwnI w' base v (zs.mergeSort fun x y => decide (x ≤ y)) ∧ w.grownBy w' v.ownBlock := by
  rcases hown.2 with ⟨rfl, h0⟩ | ⟨g, cap, cur, rfl, hbase, hb, h1, h2, h3, h4⟩
  · have : zs = [] := List.eq_nil_of_length_eq_zero h0
    subst this
    refine (Tryz.slices_Sort_int_none _ _ _).mono fun e w' ⟨he, hw⟩ => ?_
    subst hw
    exact ⟨he, by simpa using hown, World.grownBy.refl _ _⟩
  · have hgl : g < w.heap.size := (Array.getElem?_eq_some_iff.1 hb).1
    refine (Tryz.slices_Sort_int g 0 cap zs w (holds_ints hb h4) hgl (by omega)).mono fun e w' ⟨he, nn, os, hw⟩ => ?_
    subst hw
    exact ⟨he, .of (ownsRow_sortedI (by simp) hbase hb h1 h2 h3) (by simp) rfl, grownBy_sortedI _⟩

theorem compact_own {base : Nat} {v : Value} {zs : List Int} {w : World} (hown : OwnI w base v zs) (hn : zs.length ≤ 2147483648) :
    Calls Tryz.prog 89 #[v] w fun e w' => ∃ v', e = .returned v' ∧ OwnI w' base v' (Lib.compact zs) ∧ w.grownBy w' v.ownBlock ∧ v'.ownBlock = v.ownBlock := by
  rcases hown.2 with ⟨rfl, h0⟩ | ⟨g, cap, cur, rfl, hbase, hb, h1, h2, h3, h4⟩
  · have : zs = [] := List.eq_nil_of_length_eq_zero h0
    subst this
    refine (Tryz.slices_Compact_int_empty _ _ _).mono fun e w' ⟨he, hw⟩ => ?_
    subst hw
    exact ⟨_, he, by simpa [Lib.compact, Lib.compactUpTo] using hown, World.grownBy.refl _ _, rfl⟩
  · have hlen : (Lib.compact zs).length ≤ zs.length := by
      unfold Lib.compact Lib.compactUpTo
      rw [List.length_map]
      exact Nat.le_trans (List.length_filter_le _ _) (by simp)
    refine (Tryz.slices_Compact_int g 0 cap zs w (holds_ints hb h4) (by omega) h1).mono fun e w' ⟨he, nn, hw⟩ => ?_
    subst hw
    refine ⟨_, he, ?_, ?_, rfl⟩
    · have hr := ownsRow_sortedI (os := #[]) (n := nn) (ts := Lib.compact zs ++ List.replicate (zs.length - (Lib.compact zs).length) 0) (ss := zs) (by simp; omega) hbase hb h1 h2 h3
      rw [grow_empty] at hr
      rcases hr.2 with ⟨h0, _⟩ | ⟨g', cap', cur', hv, hg', hh', k1, k2, k3, k4⟩
      · cases h0
      · cases hv
        refine ⟨by simp, .inr ⟨g, cap, cur', rfl, hg', hh', by omega, k2, k3, ?_⟩⟩
        have e2 := congrArg (List.take (Lib.compact zs).length) k4
        rw [List.take_take, Nat.mul_one, Nat.min_eq_left hlen, ← List.map_take, List.take_left' rfl] at e2
        rw [Nat.mul_one]
        exact e2
    · have hg := grownBy_sortedI (w := w) (g := g) (n := nn) (os := #[]) (Lib.compact zs ++ List.replicate (zs.length - (Lib.compact zs).length) 0).toArray
      rw [grow_empty] at hg
      exact hg
end Mu
end
section
/-
  Plain laws on graphs: what is reached, by a worklist and by rounds; the longest ways, by rounds.
  Conditions: none; no program in sight.
-/
namespace Mu

/-- a path of one step or more, every node below n -/
inductive Rch (succ : Nat → List Nat) : Nat → Nat → Prop where
  | one {f k : Nat} : k ∈ succ f → Rch succ f k
  | more {f k l : Nat} : Rch succ f k → l ∈ succ k → Rch succ f l

variable {succ : Nat → List Nat}

theorem Rch.trans {a b c : Nat} (h : Rch succ a b) (h' : Rch succ b c) : Rch succ a c := by
  induction h' with
  | one h1 => exact .more h h1
  | more _ h1 ih => exact .more ih h1

theorem Rch.head {a b c : Nat} (h : b ∈ succ a) (h' : Rch succ b c) : Rch succ a c := (Rch.one h).trans h'

theorem Rch.lt {n : Nat} (hs : ∀ k l, l ∈ succ k → l < n) {a b : Nat} (h : Rch succ a b) : b < n := by
  cases h with
  | one h => exact hs _ _ h
  | more _ h => exact hs _ _ h

/-- a set that has what f calls, and what its members call, has all that f reaches -/
theorem Rch.closed {S : Nat → Prop} {f : Nat} (h0 : ∀ k ∈ succ f, S k) (h1 : ∀ k, S k → ∀ l ∈ succ k, S l) {k : Nat} (h : Rch succ f k) : S k := by
  induction h with
  | one h => exact h0 _ h
  | more _ h ih => exact h1 _ ih _ h

theorem Rch.closed' {S : Nat → Prop} {f : Nat} (h0 : ∀ k, (S k ∨ k = f) → ∀ l ∈ succ k, S l) {k : Nat} (h : Rch succ f k) : S k :=
  h.closed (h0 f (.inr rfl)) (fun k hk => h0 k (.inl hk))

/-! ### counting members below n -/
def cnt (n : Nat) (S : Nat → Bool) : Nat := ((List.range n).filter S).length

theorem cnt_le (n : Nat) (S : Nat → Bool) : cnt n S ≤ n := by
  have := List.length_filter_le S (List.range n)
  simpa [cnt] using this

theorem cnt_succ (n : Nat) (S : Nat → Bool) : cnt (n + 1) S = cnt n S + if S n then 1 else 0 := by
  unfold cnt
  rw [List.range_succ, List.filter_append, List.length_append]
  by_cases h : S n <;> simp [h]

theorem cnt_mono {n : Nat} {S T : Nat → Bool} (h : ∀ k, k < n → S k = true → T k = true) : cnt n S ≤ cnt n T := by
  induction n with
  | zero => simp [cnt]
  | succ n ih =>
    rw [cnt_succ, cnt_succ]
    have := ih (fun k hk => h k (by omega))
    have h2 := h n (by omega)
    by_cases hS : S n <;> by_cases hT : T n <;> simp_all <;> omega

theorem cnt_lt {n : Nat} {S T : Nat → Bool} (h : ∀ k, k < n → S k = true → T k = true) {j : Nat} (hj : j < n) (hS : S j = false) (hT : T j = true) : cnt n S < cnt n T := by
  induction n with
  | zero => omega
  | succ n ih =>
    rw [cnt_succ, cnt_succ]
    by_cases e : j = n
    · subst e
      have := cnt_mono (n := j) (S := S) (T := T) (fun k hk => h k (by omega))
      simp [hS, hT]; omega
    · have := ih (fun k hk => h k (by omega)) (by omega)
      have h2 := h n (by omega)
      by_cases hS : S n <;> by_cases hT : T n <;> simp_all <;> omega

theorem cnt_full {n : Nat} {S : Nat → Bool} (h : cnt n S = n) : ∀ k, k < n → S k = true := by
  intro k hk
  by_cases hS : S k
  · exact hS
  · have := cnt_lt (n := n) (S := S) (T := fun _ => true) (fun _ _ _ => rfl) hk (by simpa using hS) rfl
    have h2 := cnt_le n (fun _ => true)
    omega

/-! ### the longest way from a node from which no node that reaches itself is reached -/
def Acyc (succ : Nat → List Nat) (f : Nat) : Prop := ∀ k, (k = f ∨ Rch succ f k) → ¬ Rch succ k k

theorem Acyc.step {f k : Nat} (h : Acyc succ f) (hk : k ∈ succ f) : Acyc succ k := fun j hj => h j (.inr (by
  rcases hj with rfl | hj
  · exact .one hk
  · exact .head hk hj))

def maxL (l : List Nat) : Nat := l.foldl max 0
theorem foldl_max (l : List Nat) : ∀ a, l.foldl max a = max a (maxL l) := by
  unfold maxL
  induction l with
  | nil => intro a; simp
  | cons x l ih => intro a; simp only [List.foldl_cons]; rw [ih, ih (max 0 x)]; omega
theorem maxL_nil : maxL [] = 0 := rfl
theorem maxL_cons (x : Nat) (l : List Nat) : maxL (x :: l) = max x (maxL l) := by
  show List.foldl max (max 0 x) l = _
  rw [foldl_max]; omega
theorem maxL_append (l m : List Nat) : maxL (l ++ m) = max (maxL l) (maxL m) := by
  induction l with
  | nil => simp [maxL_nil]
  | cons x l ih => rw [List.cons_append, maxL_cons, maxL_cons, ih]; omega
theorem le_maxL {l : List Nat} {x : Nat} (h : x ∈ l) : x ≤ maxL l := by
  induction l with
  | nil => cases h
  | cons y l ih =>
    rw [maxL_cons]
    cases h with
    | head => omega
    | tail _ h => have := ih h; omega
theorem maxL_le {l : List Nat} {b : Nat} (h : ∀ x ∈ l, x ≤ b) : maxL l ≤ b := by
  induction l with
  | nil => simp [maxL_nil]
  | cons y l ih =>
    rw [maxL_cons]
    have := h y (by simp)
    have := ih (fun x hx => h x (by simp [hx]))
    omega
theorem maxL_mem {l : List Nat} (h : l ≠ []) : maxL l ∈ l := by
  induction l with
  | nil => exact absurd rfl h
  | cons y l ih =>
    rw [maxL_cons]
    by_cases e : l = []
    · subst e; simp [maxL_nil]
    · have := ih e
      rcases Nat.le_total y (maxL l) with h | h
      · rw [Nat.max_eq_right h]; simp [this]
      · rw [Nat.max_eq_left h]; simp

/-- the longest way, by fuel -/
def lng (succ : Nat → List Nat) : Nat → Nat → Nat
  | 0, _ => 0
  | m + 1, f => maxL ((succ f).map fun k => lng succ m k + 1)

theorem lng_succ (m f : Nat) : lng succ (m + 1) f = maxL ((succ f).map fun k => lng succ m k + 1) := rfl

section
variable {n : Nat} (hs : ∀ k l, l ∈ succ k → l < n)
include hs
open Classical in
theorem reach_card_lt {f k : Nat} (h : Acyc succ f) (hk : k ∈ succ f) :
    cnt n (fun j => decide (Rch succ k j)) < cnt n (fun j => decide (Rch succ f j)) :=
  cnt_lt (fun j _ hj => by simp only [decide_eq_true_eq] at *; exact .head hk hj) (hs _ _ hk)
    (by simpa using h k (.inr (.one hk)) ) (by simpa using Rch.one hk)

open Classical in
/-- more fuel than what is reached says nothing new -/
theorem lng_stable : ∀ (m m' f : Nat), Acyc succ f → cnt n (fun j => decide (Rch succ f j)) ≤ m → cnt n (fun j => decide (Rch succ f j)) ≤ m' → lng succ m f = lng succ m' f := by
  intro m
  induction m with
  | zero =>
    intro m' f ha h h'
    cases m' with
    | zero => rfl
    | succ m' =>
      have : succ f = [] := by
        rcases hsf : succ f with _ | ⟨k, l⟩
        · rfl
        · have := reach_card_lt hs ha (show k ∈ succ f by rw [hsf]; simp)
          omega
      rw [lng_succ, this]; rfl
  | succ m ih =>
    intro m' f ha h h'
    cases m' with
    | zero =>
      have : succ f = [] := by
        rcases hsf : succ f with _ | ⟨k, l⟩
        · rfl
        · have := reach_card_lt hs ha (show k ∈ succ f by rw [hsf]; simp)
          omega
      rw [lng_succ, this]; rfl
    | succ m' =>
      rw [lng_succ, lng_succ]
      congr 1
      apply List.map_congr_left
      intro k hk
      have := reach_card_lt hs ha hk
      rw [ih m' k (ha.step hk) (by omega) (by omega)]
end

/-- the longest way -/
def lngN (succ : Nat → List Nat) (n f : Nat) : Nat := lng succ n f

section
variable {n : Nat} (hs : ∀ k l, l ∈ succ k → l < n)
include hs
theorem lngN_eq {f : Nat} (h : Acyc succ f) : lngN succ n f = maxL ((succ f).map fun k => lngN succ n k + 1) := by
  classical
  have h1 : lngN succ n f = lng succ (n + 1) f := lng_stable hs _ _ _ h (cnt_le _ _) (by have := cnt_le n (fun j => decide (Rch succ f j)); omega)
  rw [h1, lng_succ]
  rfl
theorem lngN_le {f : Nat} (h : Acyc succ f) : lngN succ n f ≤ n := by
  classical
  have key : ∀ m f, Acyc succ f → lng succ m f ≤ cnt n (fun j => decide (Rch succ f j)) := by
    intro m
    induction m with
    | zero => intro f _; exact Nat.zero_le _
    | succ m ih =>
      intro f h
      rw [lng_succ]
      apply maxL_le
      intro x hx
      obtain ⟨k, hk, rfl⟩ := List.mem_map.1 hx
      have := ih k (h.step hk)
      have := reach_card_lt hs h hk
      omega
  exact Nat.le_trans (key n f h) (cnt_le _ _)
end

/-! ### the worklist -/
def restOf (succ : Nat → List Nat) (S : Nat → Bool) : Nat → Nat
  | 0 => 0
  | n + 1 => restOf succ S n + if S n then 0 else (succ n).length

def put (S : Nat → Bool) (k : Nat) : Nat → Bool := fun j => if j = k then true else S j

theorem restOf_put {S : Nat → Bool} {k n : Nat} (hk : S k = false) : restOf succ (put S k) n + (if k < n then (succ k).length else 0) = restOf succ S n := by
  induction n with
  | zero => simp [restOf]
  | succ n ih =>
    unfold restOf
    by_cases e : n = k
    · subst e
      have : ¬ n < n := by omega
      simp [put, hk, this] at ih ⊢
      omega
    · simp only [put, e, if_false] at ih ⊢
      by_cases h : k < n
      · have : k < n + 1 := by omega
        simp only [h, this, if_true] at ih ⊢
        omega
      · have : ¬ k < n + 1 := by omega
        simp only [h, this, if_false] at ih ⊢
        omega

theorem restOf_le {S : Nat → Bool} {m : Nat} (h : ∀ k, (succ k).length ≤ m) (n : Nat) : restOf succ S n ≤ n * m := by
  induction n with
  | zero => simp [restOf]
  | succ n ih =>
    unfold restOf
    have := h n
    rw [Nat.succ_mul]
    split <;> omega

structure Bfs (succ : Nat → List Nat) (n f : Nat) (wait : List Nat) (at_ : Nat) (S : Nat → Bool) : Prop where
  le : at_ ≤ wait.length
  sound : ∀ x ∈ wait, Rch succ f x
  start : ∀ x ∈ succ f, x ∈ wait
  put_ : ∀ k, S k = true → k < n ∧ Rch succ f k ∧ ∀ l ∈ succ k, l ∈ wait
  done : ∀ j, j < at_ → ∀ x, wait[j]? = some x → S x = true
  size : wait.length + restOf succ S n = (succ f).length + restOf succ (fun _ => false) n

theorem Bfs.init (n f : Nat) : Bfs succ n f (succ f) 0 (fun _ => false) :=
  ⟨Nat.zero_le _, fun _ h => .one h, fun _ h => h, fun _ h => (Bool.false_ne_true h).elim, (fun _ h => absurd h (Nat.not_lt_zero _)), rfl⟩

theorem Bfs.old {n f : Nat} {wait : List Nat} {i : Nat} {S : Nat → Bool} (h : Bfs succ n f wait i S) {k : Nat} (hk : wait[i]? = some k) (hS : S k = true) :
    Bfs succ n f wait (i + 1) S := by
  obtain ⟨hi, he⟩ := List.getElem?_eq_some_iff.1 hk
  refine ⟨by omega, h.sound, h.start, h.put_, fun j hj x hx => ?_, h.size⟩
  by_cases e : j = i
  · subst e
    rw [hk] at hx
    injection hx with hx
    subst hx
    exact hS
  · exact h.done j (by omega) x hx

theorem Bfs.new {n f : Nat} (hs : ∀ k l, l ∈ succ k → l < n) {wait : List Nat} {i : Nat} {S : Nat → Bool} (h : Bfs succ n f wait i S) {k : Nat} (hk : wait[i]? = some k) (hS : S k = false) :
    Bfs succ n f (wait ++ succ k) (i + 1) (put S k) := by
  obtain ⟨hi, he⟩ := List.getElem?_eq_some_iff.1 hk
  have hr : Rch succ f k := h.sound k (he ▸ List.getElem_mem hi)
  have hkn : k < n := hr.lt hs
  refine ⟨by simp; omega, fun x hx => ?_, fun x hx => by simp [h.start x hx], fun j hj => ?_, fun j hj x hx => ?_, ?_⟩
  · rcases List.mem_append.1 hx with hx | hx
    · exact h.sound x hx
    · exact .more hr hx
  · unfold put at hj
    by_cases e : j = k
    · subst e
      exact ⟨hkn, hr, fun l hl => by simp [hl]⟩
    · rw [if_neg e] at hj
      obtain ⟨a, b, c⟩ := h.put_ j hj
      exact ⟨a, b, fun l hl => by simp [c l hl]⟩
  · unfold put
    by_cases e : x = k
    · simp [e]
    · rw [if_neg e]
      by_cases e' : j = i
      · subst e'
        rw [List.getElem?_append_left hi, hk] at hx
        injection hx with hx
        exact absurd hx.symm e
      · rw [List.getElem?_append_left (by omega)] at hx
        exact h.done j (by omega) x hx
  · have := restOf_put (succ := succ) (n := n) hS
    have := h.size
    simp only [hkn, if_true] at *
    simp only [List.length_append]
    omega

theorem Bfs.end_ {n f : Nat} {wait : List Nat} {S : Nat → Bool} {i : Nat} (h : Bfs succ n f wait i S) (hi : wait.length ≤ i) (k : Nat) : S k = true ↔ Rch succ f k := by
  constructor
  · intro hS; exact (h.put_ k hS).2.1
  · intro hr
    have hall : ∀ x ∈ wait, S x = true := fun x hx => by
      obtain ⟨j, hj, he⟩ := List.getElem_of_mem hx
      exact h.done j (by omega) x (by rw [List.getElem?_eq_getElem hj, he])
    exact hr.closed (S := fun k => S k = true) (fun k hk => hall k (h.start k hk)) (fun k hk l hl => hall l ((h.put_ k hk).2.2 l hl))

theorem Bfs.length_le {n f m : Nat} {wait : List Nat} {S : Nat → Bool} {i : Nat} (h : Bfs succ n f wait i S) (hm : ∀ k, (succ k).length ≤ m) : wait.length ≤ (n + 1) * m := by
  have := h.size
  have := restOf_le (succ := succ) (S := fun _ => false) hm n
  have := hm f
  rw [Nat.succ_mul]
  omega

/-! ### rounds over all nodes, each time what is called by what is there -/
/-- one visit of node k -/
def visit (succ : Nat → List Nat) (f : Nat) (S : Nat → Bool) (k : Nat) : Nat → Bool :=
  if k = f ∨ S k = true then fun j => if j ∈ succ k then true else S j else S
/-- the visits of nodes 0 .. m-1 -/
def visits (succ : Nat → List Nat) (f : Nat) (S : Nat → Bool) : Nat → Nat → Bool
  | 0 => S
  | m + 1 => visit succ f (visits succ f S m) m
/-- so many rounds -/
def rounds_ (succ : Nat → List Nat) (n f : Nat) : Nat → Nat → Bool
  | 0 => fun _ => false
  | r + 1 => visits succ f (rounds_ succ n f r) n

theorem visit_mono {f : Nat} {S : Nat → Bool} {k j : Nat} (h : S j = true) : visit succ f S k j = true := by
  unfold visit
  split
  · simp [h]
  · exact h
theorem visits_mono {f : Nat} {S : Nat → Bool} {j : Nat} (h : S j = true) (m : Nat) : visits succ f S m j = true := by
  induction m with
  | zero => exact h
  | succ m ih => exact visit_mono ih
theorem visits_mono_le {f : Nat} {S : Nat → Bool} {j m m' : Nat} (hm : m ≤ m') (h : visits succ f S m j = true) : visits succ f S m' j = true := by
  induction hm with
  | refl => exact h
  | step _ ih => exact visit_mono ih
theorem visit_sound {f : Nat} {S : Nat → Bool} (h : ∀ j, S j = true → Rch succ f j) (k j : Nat) (hj : visit succ f S k j = true) : Rch succ f j := by
  unfold visit at hj
  split at hj
  · rename_i hk
    by_cases e : j ∈ succ k
    · rcases hk with rfl | hk
      · exact .one e
      · exact .more (h k hk) e
    · simp only [e, if_false] at hj; exact h j hj
  · exact h j hj
theorem visits_sound {f : Nat} {S : Nat → Bool} (h : ∀ j, S j = true → Rch succ f j) (m j : Nat) (hj : visits succ f S m j = true) : Rch succ f j := by
  induction m generalizing j with
  | zero => exact h j hj
  | succ m ih => exact visit_sound ih m j hj
theorem rounds_sound {n f : Nat} (r j : Nat) (hj : rounds_ succ n f r j = true) : Rch succ f j := by
  induction r generalizing j with
  | zero => cases hj
  | succ r ih => exact visits_sound ih n j hj
/-- a round that adds nothing has found a closed set -/
theorem visits_closed {f n : Nat} {S : Nat → Bool} (h : ∀ j, visits succ f S n j = true → S j = true) (k : Nat) (hk : k < n) (hkS : S k = true ∨ k = f) (l : Nat) (hl : l ∈ succ k) : S l = true := by
  apply h
  have : visits succ f S (k + 1) l = true := by
    show visit succ f (visits succ f S k) k l = true
    unfold visit
    rw [if_pos (by
      rcases hkS with h | h
      · exact .inr (visits_mono h k)
      · exact .inl h)]
    simp [hl]
  exact visits_mono_le (show k + 1 ≤ n by omega) this

theorem rounds_count {n f : Nat} (hs : ∀ k l, l ∈ succ k → l < n) (hf : f < n) (r : Nat) :
    (∀ j, Rch succ f j → rounds_ succ n f r j = true) ∨ r ≤ cnt n (rounds_ succ n f r) := by
  induction r with
  | zero => exact .inr (Nat.zero_le _)
  | succ r ih =>
    rcases ih with h | h
    · exact .inl fun j hj => visits_mono (h j hj) n
    · by_cases hc : ∀ j, visits succ f (rounds_ succ n f r) n j = true → rounds_ succ n f r j = true
      · left
        intro j hj
        have hcl := visits_closed hc
        have : rounds_ succ n f r j = true := hj.closed' (S := fun k => rounds_ succ n f r k = true) (fun k hk l hl => by
          rcases hk with hk | rfl
          · exact hcl k ((rounds_sound r k hk).lt hs) (.inl hk) l hl
          · exact hcl k hf (.inr rfl) l hl)
        exact visits_mono this n
      · right
        have hc' : ∃ j, visits succ f (rounds_ succ n f r) n j = true ∧ rounds_ succ n f r j = false := by
          apply Classical.byContradiction
          intro hn
          apply hc
          intro j hj
          rcases hb : rounds_ succ n f r j with _ | _
          · exact absurd ⟨j, hj, hb⟩ hn
          · rfl
        obtain ⟨j, hj, hb⟩ := hc'
        have hjn : j < n := (rounds_sound (n := n) (r + 1) j hj).lt hs
        have := cnt_lt (n := n) (S := rounds_ succ n f r) (T := rounds_ succ n f (r + 1)) (fun k _ hk => visits_mono hk n) hjn hb hj
        omega

theorem rounds_end {n f : Nat} (hs : ∀ k l, l ∈ succ k → l < n) (hf : f < n) (j : Nat) : rounds_ succ n f n j = true ↔ Rch succ f j := by
  refine ⟨rounds_sound n j, fun hj => ?_⟩
  rcases rounds_count hs hf n with h | h
  · exact h j hj
  · exact cnt_full (Nat.le_antisymm (cnt_le _ _) h) j (hj.lt hs)

/-! ### depths by rounds -/
def relax1 (n : Nat) (d : Nat → Nat) (k : Nat) (l : Nat) : Nat → Nat := fun j => if j = k then min (max (d k) (d l + 1)) n else d j
def relaxL (n : Nat) (k : Nat) (d : Nat → Nat) (l : List Nat) : Nat → Nat := l.foldl (fun d l => relax1 n d k l) d
def relaxK (succ : Nat → List Nat) (n : Nat) (d : Nat → Nat) : Nat → Nat → Nat
  | 0 => d
  | m + 1 => relaxL n m (relaxK succ n d m) (succ m)
def relaxR (succ : Nat → List Nat) (n : Nat) : Nat → Nat → Nat
  | 0 => fun _ => 0
  | r + 1 => relaxK succ n (relaxR succ n r) n

section
variable {n : Nat}
theorem relaxL_cons (k : Nat) (d : Nat → Nat) (x : Nat) (l : List Nat) : relaxL n k d (x :: l) = relaxL n k (relax1 n d k x) l := rfl
theorem relax1_cap {d : Nat → Nat} (h : ∀ j, d j ≤ n) (k l j : Nat) : relax1 n d k l j ≤ n := by
  unfold relax1; split
  · omega
  · exact h j
theorem relaxL_cap {d : Nat → Nat} (h : ∀ j, d j ≤ n) (k : Nat) (l : List Nat) : ∀ j, relaxL n k d l j ≤ n := by
  induction l generalizing d with
  | nil => exact h
  | cons x l ih => exact ih (relax1_cap h k x)
theorem relaxK_cap {d : Nat → Nat} (h : ∀ j, d j ≤ n) (m : Nat) : ∀ j, relaxK succ n d m j ≤ n := by
  induction m with
  | zero => exact h
  | succ m ih => exact relaxL_cap ih _ _
theorem relaxR_cap (r : Nat) : ∀ j, relaxR succ n r j ≤ n := by
  induction r with
  | zero => intro j; exact Nat.zero_le _
  | succ r ih => exact relaxK_cap ih _

/-- on nodes from which no circle is reached: no more than the longest way -/
def Upper (succ : Nat → List Nat) (n : Nat) (d : Nat → Nat) : Prop := ∀ k, Acyc succ k → d k ≤ lngN succ n k
theorem relax1_upper (hs : ∀ k l, l ∈ succ k → l < n) {d : Nat → Nat} (h : Upper succ n d) {k l : Nat} (hl : l ∈ succ k) : Upper succ n (relax1 n d k l) := by
  intro j hj
  unfold relax1
  split
  · rename_i e; subst e
    have h1 := h j hj
    have h2 := h l (hj.step hl)
    have h3 : lngN succ n l + 1 ≤ lngN succ n j := by
      rw [lngN_eq hs hj]
      exact le_maxL (List.mem_map.2 ⟨l, hl, rfl⟩)
    omega
  · exact h j hj
theorem relaxL_upper (hs : ∀ k l, l ∈ succ k → l < n) {d : Nat → Nat} (h : Upper succ n d) {k : Nat} {l : List Nat} (hl : ∀ x ∈ l, x ∈ succ k) : Upper succ n (relaxL n k d l) := by
  induction l generalizing d with
  | nil => exact h
  | cons x l ih => exact ih (relax1_upper hs h (hl x (by simp))) (fun y hy => hl y (by simp [hy]))
theorem relaxK_upper (hs : ∀ k l, l ∈ succ k → l < n) {d : Nat → Nat} (h : Upper succ n d) (m : Nat) : Upper succ n (relaxK succ n d m) := by
  induction m with
  | zero => exact h
  | succ m ih => exact relaxL_upper hs ih (fun _ h => h)
theorem relaxR_upper (hs : ∀ k l, l ∈ succ k → l < n) (r : Nat) : Upper succ n (relaxR succ n r) := by
  induction r with
  | zero => intro k _; exact Nat.zero_le _
  | succ r ih => exact relaxK_upper hs ih _

theorem relax1_mono {d : Nat → Nat} (h : ∀ j, d j ≤ n) (k l j : Nat) : d j ≤ relax1 n d k l j := by
  unfold relax1; split
  · rename_i e; subst e; have := h j; omega
  · exact Nat.le_refl _
theorem relaxL_mono {d : Nat → Nat} (h : ∀ j, d j ≤ n) (k : Nat) (l : List Nat) : ∀ j, d j ≤ relaxL n k d l j := by
  induction l generalizing d with
  | nil => intro j; exact Nat.le_refl _
  | cons x l ih => intro j; exact Nat.le_trans (relax1_mono h k x j) (ih (relax1_cap h k x) j)
theorem relaxL_ge {d : Nat → Nat} (h : ∀ j, d j ≤ n) (k : Nat) (l : List Nat) (x : Nat) (hx : x ∈ l) : min (d x + 1) n ≤ relaxL n k d l k := by
  induction l generalizing d with
  | nil => cases hx
  | cons y l ih =>
    cases hx with
    | head =>
      refine Nat.le_trans ?_ (relaxL_mono (relax1_cap h k x) k l k)
      unfold relax1; simp; omega
    | tail _ hx =>
      refine Nat.le_trans ?_ (ih (relax1_cap h k y) hx)
      have h1 : d x ≤ relax1 n d k y x := relax1_mono h k y x
      show min (d x + 1) n ≤ min (relax1 n d k y x + 1) n
      omega
theorem relaxL_other {d : Nat → Nat} (k : Nat) (l : List Nat) {j : Nat} (hj : j ≠ k) : relaxL n k d l j = d j := by
  induction l generalizing d with
  | nil => rfl
  | cons x l ih => rw [relaxL_cons, ih]; simp [relax1, hj]
theorem relaxK_mono {d : Nat → Nat} (h : ∀ j, d j ≤ n) (m : Nat) : ∀ j, d j ≤ relaxK succ n d m j := by
  induction m with
  | zero => intro j; exact Nat.le_refl _
  | succ m ih => intro j; exact Nat.le_trans (ih j) (relaxL_mono (relaxK_cap h m) _ _ j)
theorem relaxK_ge {d : Nat → Nat} (h : ∀ j, d j ≤ n) {m k : Nat} (hk : k < m) {x : Nat} (hx : x ∈ succ k) : min (d x + 1) n ≤ relaxK succ n d m k := by
  induction m with
  | zero => omega
  | succ m ih =>
    by_cases e : k = m
    · subst e
      refine Nat.le_trans ?_ (relaxL_ge (relaxK_cap h k) k (succ k) x hx)
      have := relaxK_mono (succ := succ) h k x
      omega
    · show _ ≤ relaxL n m (relaxK succ n d m) (succ m) k
      rw [relaxL_other m (succ m) e]
      exact ih (by omega)
theorem relaxR_lower (hs : ∀ k l, l ∈ succ k → l < n) (r : Nat) : ∀ k, k < n → Acyc succ k → min (lngN succ n k) r ≤ relaxR succ n r k := by
  induction r with
  | zero => intro k _ _; omega
  | succ r ih =>
    intro k hk ha
    rw [lngN_eq hs ha]
    show _ ≤ relaxK succ n (relaxR succ n r) n k
    by_cases e : (succ k).map (fun k => lngN succ n k + 1) = []
    · rw [e, maxL_nil]; omega
    · obtain ⟨x, hx, hm⟩ := List.mem_map.1 (maxL_mem e)
      rw [← hm]
      have h1 := ih x (hs _ _ hx) (ha.step hx)
      have h2 := relaxK_ge (n := n) (succ := succ) (d := relaxR succ n r) (relaxR_cap (succ := succ) r) hk hx
      have h3 := lngN_le hs ha
      have h4 : lngN succ n x + 1 ≤ lngN succ n k := by
        rw [lngN_eq hs ha]; exact le_maxL (List.mem_map.2 ⟨x, hx, rfl⟩)
      omega
theorem relaxR_end (hs : ∀ k l, l ∈ succ k → l < n) {k : Nat} (hk : k < n) (ha : Acyc succ k) : relaxR succ n n k = lngN succ n k := by
  have h1 := relaxR_upper hs n k ha
  have h2 := relaxR_lower hs n k hk ha
  have h3 := lngN_le hs ha
  omega
end
end Mu
end
section
/-
  Plain laws on what a function calls: the sorted and compacted row of its calls is the filtered row of all functions.
  Conditions: none.
-/
namespace Mu
open Go

def isCall (n : Nat) (x : Ins) : Bool := x.op == 5 && (decide (0 ≤ x.f) && decide (x.f < n))
def rawIns (n : Nat) (l : List Ins) : List Int := (l.filter (isCall n)).map (·.f)
def raw (n : Nat) (bs : List Block) : List Int := bs.flatMap fun b => rawIns n b.ins

theorem rawIns_step {n j : Nat} {l : List Ins} {x : Ins} (h : l[j]? = some x) : rawIns n (l.take (j + 1)) = rawIns n (l.take j) ++ if isCall n x then [x.f] else [] := by
  unfold rawIns
  rw [List.take_add_one, h, Option.toList_some, List.filter_append, List.map_append]
  by_cases hc : isCall n x <;> simp [hc]
theorem raw_step {n k : Nat} {bs : List Block} {b : Block} (h : bs[k]? = some b) : raw n (bs.take (k + 1)) = raw n (bs.take k) ++ rawIns n b.ins := by
  unfold raw
  rw [List.take_add_one, h, Option.toList_some, List.flatMap_append]
  simp
theorem raw_take_le {n k : Nat} {bs : List Block} : (raw n (bs.take k)).length ≤ (raw n bs).length := by
  unfold raw
  conv => rhs; rw [← List.take_append_drop k bs, List.flatMap_append, List.length_append]
  omega
theorem rawIns_take_le {n k : Nat} {l : List Ins} : (rawIns n (l.take k)).length ≤ (rawIns n l).length := by
  unfold rawIns
  conv => rhs; rw [← List.take_append_drop k l, List.filter_append, List.map_append, List.length_append]
  omega

/-! ### the canonical answers -/
def hasIns (k : Nat) (l : List Ins) : Bool := l.any fun x => x.op == 5 && x.f == k
def hasCall (bs : List Block) (k : Nat) : Bool := bs.any fun b => hasIns k b.ins
def succ (p : Prog) (f : Nat) : List Nat :=
  match p.funcs[f]? with
  | none => []
  | some fn => (List.range p.funcs.length).filter (hasCall fn.blocks)
def ofN (l : List Nat) : List Int := l.map Int.ofNat
def callsC (p : Prog) (f : Int) : List Int := if 0 ≤ f ∧ f < p.funcs.length then ofN (succ p f.toNat) else []

theorem succ_lt (p : Prog) (k l : Nat) (h : l ∈ succ p k) : l < p.funcs.length := by
  unfold succ at h
  split at h
  · cases h
  · have := (List.mem_filter.1 h).1
    simpa using this
theorem succ_length (p : Prog) (k : Nat) : (succ p k).length ≤ p.funcs.length := by
  unfold succ
  split
  · simp
  · exact Nat.le_trans (List.length_filter_le _ _) (by simp)

theorem mem_raw {n : Nat} {bs : List Block} {z : Int} : z ∈ raw n bs ↔ 0 ≤ z ∧ z < n ∧ hasCall bs z.toNat = true := by
  simp only [raw, rawIns, List.mem_flatMap, List.mem_map, List.mem_filter, isCall, hasCall, hasIns, List.any_eq_true, Bool.and_eq_true, beq_iff_eq, decide_eq_true_eq]
  constructor
  · rintro ⟨b, hb, x, ⟨hx, h5, h0, hn⟩, rfl⟩
    exact ⟨h0, hn, b, hb, x, hx, h5, by omega⟩
  · rintro ⟨h0, hn, b, hb, x, hx, h5, hf⟩
    exact ⟨b, hb, x, ⟨hx, h5, by omega, by omega⟩, by omega⟩

/-! ### strictly rising rows are what they hold -/
theorem rising_ext : ∀ {l m : List Int}, l.Pairwise (· < ·) → m.Pairwise (· < ·) → (∀ z, z ∈ l ↔ z ∈ m) → l = m := by
  intro l
  induction l with
  | nil =>
    intro m _ _ h
    cases m with
    | nil => rfl
    | cons y m => exact absurd ((h y).2 (by simp)) (by simp)
  | cons x l ih =>
    intro m hl hm h
    cases m with
    | nil => exact absurd ((h x).1 (by simp)) (by simp)
    | cons y m =>
      rw [List.pairwise_cons] at hl hm
      have hxy : x = y := by
        have h1 := (h x).1 (by simp)
        have h2 := (h y).2 (by simp)
        rcases List.mem_cons.1 h1 with e | h1
        · exact e
        · rcases List.mem_cons.1 h2 with e | h2
          · exact e.symm
          · have := hl.1 y h2
            have := hm.1 x h1
            omega
      subst hxy
      congr 1
      apply ih hl.2 hm.2
      intro z
      constructor
      · intro hz
        rcases List.mem_cons.1 ((h z).1 (by simp [hz])) with e | h1
        · subst e; have := hl.1 _ hz; omega
        · exact h1
      · intro hz
        rcases List.mem_cons.1 ((h z).2 (by simp [hz])) with e | h1
        · subst e; have := hm.1 _ hz; omega
        · exact h1

theorem rising_ofN {n : Nat} (P : Nat → Bool) : (ofN ((List.range n).filter P)).Pairwise (· < ·) := by
  unfold ofN
  rw [List.pairwise_map]
  refine (List.Pairwise.filter _ List.pairwise_lt_range).imp ?_
  intro a b h
  exact Int.ofNat_lt.2 h

/-- compact, of a sorted row: strictly rising, of the same members -/
theorem compact_sorted {zs : List Int} (h : zs.Pairwise (· ≤ ·)) : (Lib.compact zs).Pairwise (· < ·) ∧ ∀ z, z ∈ Lib.compact zs ↔ z ∈ zs := by
  have hget : ∀ j, j < zs.length → zs.toArray[j]! = zs.getD j 0 := fun j hj => by simp [getElem!_pos, hj]
  have hle : ∀ i j, i ≤ j → j < zs.length → zs.getD i 0 ≤ zs.getD j 0 := fun i j hij hj => by
    rcases Nat.eq_or_lt_of_le hij with e | hlt
    · subst e; exact Int.le_refl _
    · have := List.pairwise_iff_getElem.1 h i j (by omega) hj hlt
      simpa [List.getD, show i < zs.length by omega, hj] using this
  have hkeep : ∀ j, j < zs.length → (Lib.keeps zs.toArray j = true ↔ j = 0 ∨ zs.getD (j - 1) 0 < zs.getD j 0) := by
    intro j hj
    unfold Lib.keeps
    rw [hget j hj, hget (j - 1) (by omega)]
    by_cases hz : j = 0
    · simp [hz]
    · have := hle (j - 1) j (by omega) hj
      simp only [hz, false_or, ne_eq, decide_eq_true_eq]
      omega
  constructor
  · unfold Lib.compact Lib.compactUpTo
    rw [List.pairwise_map]
    refine List.Pairwise.imp_of_mem ?_ (List.Pairwise.filter _ List.pairwise_lt_range)
    intro a b ha hb hab
    obtain ⟨ha1, _⟩ := List.mem_filter.1 ha
    obtain ⟨hb1, hb2⟩ := List.mem_filter.1 hb
    simp only [List.mem_range] at ha1 hb1
    rw [hget a ha1, hget b hb1]
    rcases (hkeep b hb1).1 hb2 with e | e
    · omega
    · have := hle a (b - 1) (by omega) (by omega)
      omega
  · intro z
    unfold Lib.compact Lib.compactUpTo
    rw [List.mem_map]
    constructor
    · rintro ⟨j, hj, rfl⟩
      obtain ⟨hj1, _⟩ := List.mem_filter.1 hj
      simp only [List.mem_range] at hj1
      rw [hget j hj1]
      simp [List.getD, hj1]
    · intro hz
      have key : ∀ j, j < zs.length → ∃ i, i ≤ j ∧ Lib.keeps zs.toArray i = true ∧ zs.getD i 0 = zs.getD j 0 := by
        intro j
        induction j with
        | zero => intro hj; exact ⟨0, Nat.le_refl _, (hkeep 0 hj).2 (.inl rfl), rfl⟩
        | succ j ih =>
          intro hj
          by_cases hlt : zs.getD j 0 < zs.getD (j + 1) 0
          · exact ⟨j + 1, Nat.le_refl _, (hkeep _ hj).2 (.inr (by simpa using hlt)), rfl⟩
          · obtain ⟨i, h1, h2, h3⟩ := ih (by omega)
            have := hle j (j + 1) (by omega) hj
            exact ⟨i, by omega, h2, by omega⟩
      obtain ⟨j, hj, rfl⟩ := List.getElem_of_mem hz
      obtain ⟨i, h1, h2, h3⟩ := key j hj
      refine ⟨i, List.mem_filter.2 ⟨by simp; omega, h2⟩, ?_⟩
      rw [hget i (by omega), h3]
      simp [List.getD, hj]

theorem sorted_mergeSort (zs : List Int) : (zs.mergeSort fun x y => decide (x ≤ y)).Pairwise (· ≤ ·) := by
  have := List.pairwise_mergeSort (le := fun x y : Int => decide (x ≤ y)) (fun a b c h1 h2 => by simp at *; omega) (fun a b => by simp; omega) zs
  exact this.imp (by simp)

theorem calls_eq {p : Prog} {f : Nat} {fn : Func} (h : p.funcs[f]? = some fn) : Lib.compact ((raw p.funcs.length fn.blocks).mergeSort fun x y => decide (x ≤ y)) = ofN (succ p f) := by
  obtain ⟨h1, h2⟩ := compact_sorted (sorted_mergeSort (raw p.funcs.length fn.blocks))
  unfold succ
  rw [h]
  refine rising_ext h1 (rising_ofN _) fun z => ?_
  rw [h2, List.mem_mergeSort, mem_raw]
  simp only [ofN, List.mem_map, List.mem_filter, List.mem_range]
  constructor
  · rintro ⟨h0, hn, hc⟩
    exact ⟨z.toNat, ⟨by omega, hc⟩, by simp; omega⟩
  · rintro ⟨k, ⟨hk, hc⟩, rfl⟩
    exact ⟨by simp, by simpa using hk, by simpa using hc⟩
end Mu
end
section
/-
  How much there may be of each part, by the whole's bulk; and what a world keeps of what was boxed.
  Conditions: none.
-/
namespace Mu
open Go Go.RowKit

theorem one_int (x : Int) : 1 ≤ tInt.bulk x := Nat.le_refl _
theorem one_ins (x : Ins) : 1 ≤ tIns.bulk x := by simp only [tIns, Ty.via]; omega
theorem one_block (x : Block) : 1 ≤ tBlock.bulk x := by simp only [tBlock, Ty.via]; omega
theorem one_func (x : Func) : 1 ≤ tFunc.bulk x := by simp only [tFunc, Ty.via]; omega

theorem bulk_prog (p : Prog) : tProg.bulk p = bulkL tInt.bulk p.threads + bulkL tFunc.bulk p.funcs + 4 := by
  simp only [tProg, Ty.via, Ty.cons, Ty.slice, tInt, Ty.int, Ty.none_]; omega
theorem bulk_func (p : Func) : tFunc.bulk p = p.name.size + bulkL tBlock.bulk p.blocks + 5 := by
  simp only [tFunc, Ty.via, Ty.cons, Ty.slice, tInt, Ty.int, Ty.none_, Ty.str]; omega
theorem bulk_block (p : Block) : tBlock.bulk p = p.name.size + bulkL tIns.bulk p.ins + 3 := by
  simp only [tBlock, Ty.via, Ty.cons, Ty.slice, Ty.none_, Ty.str]; omega
theorem bulk_ins (p : Ins) : tIns.bulk p = bulkL tInt.bulk p.args + 10 := by
  simp only [tIns, Ty.via, Ty.cons, Ty.slice, tInt, Ty.int, Ty.none_]; omega

theorem prog_funcs_le (p : Prog) : p.funcs.length ≤ tProg.bulk p := by
  have := bulkL_length one_func p.funcs
  rw [bulk_prog]; omega
theorem prog_threads_le (p : Prog) : p.threads.length ≤ tProg.bulk p := by
  have := bulkL_length one_int p.threads
  rw [bulk_prog]; omega
theorem prog_func_le {p : Prog} {fn : Func} (h : fn ∈ p.funcs) : tFunc.bulk fn ≤ tProg.bulk p := by
  have := bulkL_mem (f := tFunc.bulk) h
  rw [bulk_prog]; omega
theorem func_blocks_le (p : Func) : p.blocks.length ≤ tFunc.bulk p := by
  have := bulkL_length one_block p.blocks
  rw [bulk_func]; omega
theorem func_block_le {p : Func} {b : Block} (h : b ∈ p.blocks) : tBlock.bulk b ≤ tFunc.bulk p := by
  have := bulkL_mem (f := tBlock.bulk) h
  rw [bulk_func]; omega
theorem block_ins_le (p : Block) : p.ins.length ≤ tBlock.bulk p := by
  have := bulkL_length one_ins p.ins
  rw [bulk_block]; omega
theorem block_in_le {p : Block} {x : Ins} (h : x ∈ p.ins) : tIns.bulk x ≤ tBlock.bulk p := by
  have := bulkL_mem (f := tIns.bulk) h
  rw [bulk_block]; omega
theorem ins_args_le (p : Ins) : p.args.length ≤ tIns.bulk p := by
  have := bulkL_length one_int p.args
  rw [bulk_ins]; omega
theorem rawIns_le (n : Nat) (l : List Ins) : (rawIns n l).length ≤ l.length := by
  unfold rawIns
  rw [List.length_map]
  exact List.length_filter_le _ _
theorem raw_le_bulk (n : Nat) (bs : List Block) : (raw n bs).length ≤ bulkL tBlock.bulk bs := by
  induction bs with
  | nil => simp [raw, bulkL]
  | cons b bs ih =>
    have h1 := rawIns_le n b.ins
    have h2 := block_ins_le b
    simp only [raw, List.flatMap_cons, List.length_append, bulkL] at ih ⊢
    omega
theorem raw_le (n : Nat) (p : Func) : (raw n p.blocks).length ≤ tFunc.bulk p := by
  have := raw_le_bulk n p.blocks
  rw [bulk_func]; omega

theorem bdrew {B : Nat} {a w : World} (h : Below B a w) (n : Nat) : Below B a (w.drewN n) := ⟨h.os, h.tape, h.output, h.size, h.block⟩
theorem ret_bool {a b : Bool} (h : a = b) : Ending.returned (.bool a) = .returned (.bool b) := by rw [h]
theorem ret_int {k : IntKind} {a b : Int} (h : a = b) : Ending.returned (.int k a) = .returned (.int k b) := by rw [h]

/-- what stays readable behind a box -/
theorem boxed {w wr : World} {cs : List Value} {T : TypeId} (h : Below (w.heap.size + 1) (w.alloc (.cells cs.toArray T)) wr) :
    (∀ a : Addr, a.block < w.heap.size → wr.cell? a = w.cell? a) ∧ (∀ j v, cs[j]? = some v → wr.cell? ⟨w.heap.size, j, none⟩ = some v) ∧ w.heap.size < wr.heap.size ∧ Below w.heap.size w wr := by
  have h0 : Below w.heap.size w (w.alloc (.cells cs.toArray T)) := (Below.refl _ _).alloc (Nat.le_refl _) _
  have hb : Below w.heap.size w wr := h0.trans (h.mono (by omega))
  refine ⟨fun a ha => hb.cell ha, fun j v hv => ?_, ?_, hb⟩
  · rw [h.cell (p := ⟨w.heap.size, j, none⟩) (by show w.heap.size < _; omega)]
    have e := cell_of_row _ _ j _ _ _ (heap_alloc_new w (.cells cs.toArray T))
    rw [e]
    simpa using hv
  · have h1 : (w.alloc (.cells cs.toArray T)).heap.size = w.heap.size + 1 := by simp
    have := h.size
    omega
end Mu
end
section
/-
  Rows of rows of numbers, of the call's own.
  Conditions: none.
-/
namespace Mu
open Go Go.RowKit Go.Proofs

/-- a row of rows of ints, the call's own from 'base' on; the inner rows lie beside the outer one -/
def OwnS (w : World) (base : Nat) (v : Value) (ls : List (List Int)) : Prop :=
  ∃ cells, w.ownsRow base 22 1 v ls.length cells ∧ ∀ (i : Nat) (l : List Int), ls[i]? = some l → ∃ u, cells[i]? = some u ∧ tInt.slice.RS w (fun b => base ≤ b ∧ b < w.heap.size ∧ v.ownBlock ≠ some b) [u] l

theorem OwnS.nil (w : World) (base : Nat) : OwnS w base (.slice none 0 0) [] := ⟨[], World.ownsRow_nil _ _ _ _, by simp⟩

theorem ownsRow_keep {w w' : World} {base n size : Nat} {e : TypeId} {v : Value} {xs : List Value} (h : w.ownsRow base e size v n xs) (hk : ∀ g, v.ownBlock = some g → w'.heap[g]? = w.heap[g]?) : w'.ownsRow base e size v n xs := by
  obtain ⟨h1, h2⟩ := h
  refine ⟨h1, ?_⟩
  rcases h2 with h2 | ⟨g, cap, cur, rfl, hg, hh, r⟩
  · exact .inl h2
  · exact .inr ⟨g, cap, cur, rfl, hg, (hk g rfl).trans hh, r⟩

theorem OwnS.keep {w w' : World} {base : Nat} {v : Value} {ls : List (List Int)} (h : OwnS w base v ls) (hk : ∀ k, base ≤ k → k < w.heap.size → w'.heap[k]? = w.heap[k]?) (hs : w.heap.size ≤ w'.heap.size) : OwnS w' base v ls := by
  obtain ⟨cells, ho, hi⟩ := h
  refine ⟨cells, ownsRow_keep ho (fun g hg => hk g (ho.lt g hg).1 (ho.lt g hg).2), fun i l hl => ?_⟩
  obtain ⟨u, hu, hR⟩ := hi i l hl
  exact ⟨u, hu, Ty.keepS _ hR (fun k hk' => hk k hk'.1 hk'.2.1) (fun k hk' => ⟨hk'.1, by omega, hk'.2.2⟩)⟩
theorem OwnS.setCell {w : World} {base : Nat} {v : Value} {ls : List (List Int)} (h : OwnS w base v ls) {a : Addr} (ha : a.block < base) (u : Value) : OwnS (w.setCell a u) base v ls :=
  h.keep (fun k hk _ => Below.heap_setCell _ _ _ _ (by omega)) (by simp [World.setCell])
theorem OwnS.lt {w : World} {base : Nat} {v : Value} {ls : List (List Int)} (h : OwnS w base v ls) : ∀ k, v.ownBlock = some k → base ≤ k ∧ k < w.heap.size := by
  obtain ⟨cells, ho, _⟩ := h
  exact ho.lt

/-- one row more: it lies in the own memory of a callee; then the append -/
theorem OwnS.snoc {w w1 w2 : World} {base g cap : Nat} {v u : Value} {ls : List (List Int)} {l : List Int} {cells : List Value} {n : Nat} (ho : w.ownsRow base 22 1 v ls.length cells)
    (hi : ∀ (i : Nat) (l : List Int), ls[i]? = some l → ∃ u, cells[i]? = some u ∧ tInt.slice.RS w (fun b => base ≤ b ∧ b < w.heap.size ∧ v.ownBlock ≠ some b) [u] l)
    (hb1 : Below w.heap.size w w1) (hu : OwnI w1 w.heap.size u l) (hw : ∀ x ∈ l, wfI .i64 x) (hbase : base ≤ w.heap.size)
    (ho2 : w2.ownsRow base 22 1 (.slice (some ⟨g, 0, none⟩) n cap) n (cells ++ [u])) (hn : n = ls.length + 1) (hgr : w1.grownBy w2 v.ownBlock) (hg : v.ownBlock = some g ∨ w1.heap.size ≤ g) :
    OwnS w2 base (.slice (some ⟨g, 0, none⟩) n cap) (ls ++ [l]) := by
  have hlen : cells.length = ls.length := by have := ho.1; omega
  refine ⟨cells ++ [u], by rw [List.length_append, List.length_singleton, ← hn]; exact ho2, fun i l' hl' => ?_⟩
  by_cases hlt : i < ls.length
  · rw [List.getElem?_append_left hlt] at hl'
    obtain ⟨u', hu', hR⟩ := hi i l' hl'
    refine ⟨u', by rw [List.getElem?_append_left (by omega)]; exact hu', Ty.keepS _ hR (fun k hk => ?_) (fun k hk => ?_)⟩
    · rw [hgr.block k (by have := hb1.size; omega) (fun e => hk.2.2 e.symm), hb1.block k hk.2.1]
    · refine ⟨hk.1, by have := hb1.size; have := hgr.size; omega, ?_⟩
      simp only [Value.ownBlock, ne_eq, Option.some.injEq]
      rintro rfl
      rcases hg with hg | hg
      · exact hk.2.2 hg
      · have := hb1.size; omega
  · have hil : i = ls.length := by
      have := (List.getElem?_eq_some_iff.1 hl').1
      simp at this
      omega
    subst hil
    rw [List.getElem?_append_right (Nat.le_refl _)] at hl'
    simp at hl'
    subst hl'
    refine ⟨u, by rw [List.getElem?_append_right (by omega)]; simp [hlen], Ty.keepS _ (own_intsS hu hw) (fun k hk => ?_) (fun k hk => ?_)⟩
    · have h1 := hu.lt k hk
      refine hgr.block k h1.2 (fun e => ?_)
      have := ho.lt k e.symm
      omega
    · have h1 := hu.lt k hk
      refine ⟨by omega, by have := hgr.size; omega, ?_⟩
      simp only [Value.ownBlock, ne_eq, Option.some.injEq]
      rintro rfl
      rcases hg with hg | hg
      · have := ho.lt _ hg; omega
      · omega

/-- .. read as data -/
theorem OwnS.read {w : World} {base : Nat} {v : Value} {ls : List (List Int)} (h : OwnS w base v ls) : tInt.slice.slice.RS w (fun b => base ≤ b ∧ b < w.heap.size) [v] ls := by
  obtain ⟨cells, ho, hi⟩ := h
  refine own_slice (T := tInt.slice) ho (fun i d hd => ?_) (fun g hg => ho.lt g hg)
  obtain ⟨u, hu, hR⟩ := hi i d hd
  have : ((cells.drop (i * tInt.slice.size)).take tInt.slice.size) = [u] := by
    show (cells.drop (i * 1)).take 1 = _
    obtain ⟨hi', he⟩ := List.getElem?_eq_some_iff.1 hu
    rw [Nat.mul_one, List.drop_eq_getElem_cons hi', he]
    simp
  rw [this]
  exact Ty.keepS _ hR (fun _ _ => rfl) (fun k hk => ⟨hk.1, hk.2.1⟩)
end Mu
end
section
/-
  Rows of the call's own whose elements are readings: grown by one, read as a slice.
  Conditions: none.
-/
namespace Mu
open Go Go.RowKit
variable {α : Type}

section
variable {T : Ty α} {e : TypeId} {w w' w2 X : World} {base : Nat} {v v' : Value} {ds : List α} {S S' : Nat → Prop}
end
end Mu
end
section
/-
  What an instruction reads and writes: muntinref14.Has, in, Reads, Writes; shape.Reads, Writes.
  Conditions: an instruction's arguments are at most 2^21.
-/
namespace Mu
open Go Go.RowKit Go.Proofs

/-- which letters an instruction of an operation has -/
def hasS (op : Int) : List UInt8 :=
  if op = 0 then [100, 110] else if op = 1 then [100, 97, 98, 110] else if op = 2 then [100, 97] else if op = 3 then [100, 97] else if op = 4 then [97, 98] else if op = 5 then [100, 102, 120]
  else if op = 6 then [97] else if op = 7 then [] else if op = 8 then [108] else if op = 9 then [97, 108, 109] else if op = 10 then [97] else []
def readsC (x : Ins) : List Int := (if (hasS x.op).contains 97 then [x.a] else []) ++ (if (hasS x.op).contains 98 then [x.b] else []) ++ (if (hasS x.op).contains 120 then x.args else [])
def writesB (x : Ins) : Bool := (hasS x.op).contains 100

end Mu
end
section
/-
  Odds and ends: a box, and what stays readable behind it; the form of rows of integers.
  Conditions: none.
-/
namespace Mu
open Go Go.RowKit Go.Proofs

/-- w' is what calls made of w0, in which cs were boxed -/
def Bx (w0 : World) (cs : List Value) (T : TypeId) (w' : World) : Prop := Below (w0.heap.size + 1) (w0.alloc (.cells cs.toArray T)) w'
section
variable {w0 w' w'' : World} {cs : List Value} {T : TypeId}
theorem Bx.refl : Bx w0 cs T (w0.alloc (.cells cs.toArray T)) := Below.refl _ _
theorem Bx.cell (h : Bx w0 cs T w') {j : Nat} {v : Value} (hv : cs[j]? = some v) : w'.cell? ⟨w0.heap.size, j, none⟩ = some v := (boxed h).2.1 j v hv
theorem Bx.far (h : Bx w0 cs T w') {a : Addr} (ha : a.block < w0.heap.size) : w'.cell? a = w0.cell? a := (boxed h).1 a ha
theorem Bx.lt (h : Bx w0 cs T w') : w0.heap.size < w'.heap.size := (boxed h).2.2.1
theorem Bx.below (h : Bx w0 cs T w') : Below w0.heap.size w0 w' := (boxed h).2.2.2
theorem Bx.call (h : Bx w0 cs T w') (hb : Below w'.heap.size w' w'') : Bx w0 cs T w'' := Below.trans h (hb.mono h.lt)
theorem Bx.alloc (h : Bx w0 cs T w') (o : Obj) : Bx w0 cs T (w'.alloc o) := Below.alloc h h.lt o
theorem Bx.drew (h : Bx w0 cs T w') : Bx w0 cs T w'.drew := ⟨h.os, h.tape, h.output, h.size, h.block⟩
theorem Bx.R {α : Type} {U : Ty α} {us : List Value} {d : α} (h : Bx w0 cs T w') (hR : U.R w0 w0.heap.size us d) : U.R w' w'.heap.size us d := Ty.below hR h.below h.below.size
end

theorem one_max : 1 ≤ maxLen := by decide

theorem grown_trans {a b c : World} {row : Option Nat} (h : a.grownBy b row) (k : b.grownBy c row) : a.grownBy c row :=
  ⟨k.os.trans h.os, k.tape.trans h.tape, k.output.trans h.output, Nat.le_trans h.size k.size, fun i hi hr => (k.block i (Nat.lt_of_lt_of_le hi h.size) hr).trans (h.block i hi hr)⟩

theorem own_form {w : World} {base : Nat} {v : Value} {l : List Int} (h : OwnI w base v l) : ∃ A c, v = .slice A l.length c := by
  rcases h.2 with ⟨rfl, h0⟩ | ⟨g, cap, cur, rfl, _⟩
  · rw [h0]; exact ⟨_, _, rfl⟩
  · exact ⟨_, _, rfl⟩

theorem slc_info : (Tryz.prog.info? 22).map (fun i => (i.zero, i.size, i.bytes)) = some (some (.slice none 0 0), 1, 24) := by kernel_rfl

theorem own_cell {w : World} {base g cap n : Nat} {l : List Int} {i : Nat} {z : Int} (h : OwnI w base (.slice (some ⟨g, 0, none⟩) n cap) l) (hz : l[i]? = some z) : w.cell? ⟨g, i, none⟩ = some (.int .i64 z) := by
  have hi := (List.getElem?_eq_some_iff.1 hz).1
  rcases h.2 with ⟨h0, _⟩ | ⟨g', cap', cur, e, _, hh, _, _, _, h4⟩
  · cases h0
  · cases e
    have h5 := h.cells (g := g) rfl i (.int .i64 z) (by simp [hz])
    have e1 : (⟨g, 0, none⟩ : Addr).add i = ⟨g, i, none⟩ := by
      unfold Addr.add
      by_cases hz : i = 0 <;> simp [hz]
    rwa [e1] at h5

theorem own_form' {w : World} {base : Nat} {v : Value} {l : List Int} (h : OwnI w base v l) (hp : 0 < l.length) : ∃ g c, v = .slice (some ⟨g, 0, none⟩) l.length c ∧ base ≤ g ∧ g < w.heap.size := by
  rcases h.2 with ⟨rfl, h0⟩ | ⟨g, cap, cur, rfl, hg, hh, _⟩
  · omega
  · exact ⟨g, cap, rfl, hg, (Array.getElem?_eq_some_iff.1 hh).1⟩
end Mu
end
section
/-
  muntinref14.Writes; shape.Reads, shape.Writes, walked.
  Conditions: an instruction's arguments are at most 2^21.
-/
namespace Mu
open Go Go.RowKit Go.Proofs

/-- the register that is written, and whether one is -/
def writesV (x : Ins) : Value := if writesB x then .tuple #[.int .i64 x.d, .bool true] else .tuple #[.int .i64 0, .bool false]
section
variable {w w' : World} {cs : List Value} {T : TypeId}
end
theorem writesV_yes {x : Ins} (h : writesB x = true) : writesV x = .tuple #[.int .i64 x.d, .bool true] := by unfold writesV; rw [if_pos h]
theorem writesV_no {x : Ins} (h : writesB x = false) : writesV x = .tuple #[.int .i64 0, .bool false] := by unfold writesV; rw [if_neg (by simp [h])]

set_option maxHeartbeats 2000000 in
theorem shape_writes (x : Ins) (w : World) (cs : List Value) (hR : tIns.R w w.heap.size cs x) :
    Calls Tryz.prog 120 #[.agg cs.toArray] w fun e w' => e = .returned (writesV x) ∧ Below w.heap.size w w' := by
  obtain ⟨A, c, hI⟩ := tIns_R.1 hR
  obtain ⟨rfl, hop, _, _, _, _, _, _, _, _⟩ := hI
  obtain ⟨h0, h255⟩ := wfI_u8 hop
  clear hR
  have hc : (x.op = 0 ∨ x.op = 1 ∨ x.op = 2 ∨ x.op = 3 ∨ x.op = 5) ∨ (x.op ≠ 0 ∧ x.op ≠ 1 ∧ x.op ≠ 2 ∧ x.op ≠ 3 ∧ x.op ≠ 5) := by omega
  rcases hc with hc | ⟨n0, n1, n2, n3, n5⟩
  · have HQ : Hid (writesB x = true) := by
      show _ = _
      unfold writesB hasS
      rcases hc with h | h | h | h | h <;> rw [h] <;> decide
    rcases hc with h | h | h | h | h
    all_goals
      rw [h]
      go_enter Tryz.func120, Tryz.ntmps120
      go_wp2_with fail
      go_ret2
      exact ⟨by rw [writesV_yes HQ.out]; rfl, (Below.refl _ _).alloc (Nat.le_refl _) _⟩
  · have HQ : Hid (writesB x = false) := by
      show _ = _
      unfold writesB hasS
      rw [if_neg n0, if_neg n1, if_neg n2, if_neg n3]
      by_cases h4 : x.op = 4
      · rw [h4]; decide
      · rw [if_neg h4, if_neg n5]
        repeat' split
        all_goals decide
    have e0 : (x.op == 0) = false := beq_eq_false_iff_ne.2 n0
    have e1 : (x.op == 1) = false := beq_eq_false_iff_ne.2 n1
    have e2 : (x.op == 2) = false := beq_eq_false_iff_ne.2 n2
    have e3 : (x.op == 3) = false := beq_eq_false_iff_ne.2 n3
    have e5 : (x.op == 5) = false := beq_eq_false_iff_ne.2 n5
    clear n0 n1 n2 n3 n5
    go_enter Tryz.func120, Tryz.ntmps120
    go_wp2_with fail
    go_ret2
    exact ⟨by rw [writesV_no HQ.out]; rfl, (Below.refl _ _).alloc (Nat.le_refl _) _⟩

theorem one_row (w : World) (o : Obj) (a : Value) : ((w.alloc o).alloc (.cells #[a] 3)).ownsRow (w.heap.size + 1) 3 1 (.slice (some ⟨w.heap.size + 1, 0, none⟩) 1 1) 1 [a] := by
  have h := heap_alloc_new (w.alloc o) (.cells #[a] 3)
  rw [show (w.alloc o).heap.size = w.heap.size + 1 from by simp] at h
  exact row_lit (cs := [a]) h (Nat.le_refl _) rfl one_max
theorem two_rows (w : World) (o : Obj) (a b : Value) : (((w.alloc o).alloc (.cells #[b] 3)).alloc (.cells #[a] 3)).ownsRow (w.heap.size + 1) 3 1 (.slice (some ⟨w.heap.size + 1 + 1, 0, none⟩) 1 1) 1 [a] ∧
    Src (((w.alloc o).alloc (.cells #[b] 3)).alloc (.cells #[a] 3)) 1 (some ⟨w.heap.size + 1, 0, none⟩) 1 [b] := by
  have h := heap_alloc_new ((w.alloc o).alloc (.cells #[b] 3)) (.cells #[a] 3)
  rw [show ((w.alloc o).alloc (.cells #[b] 3)).heap.size = w.heap.size + 1 + 1 from by simp] at h
  have h2 := heap_alloc_new (w.alloc o) (.cells #[b] 3)
  rw [show (w.alloc o).heap.size = w.heap.size + 1 from by simp] at h2
  exact ⟨row_lit (cs := [a]) h (by omega) rfl one_max, src_row (cs := #[b]) (box_alloc h2 _) rfl⟩

set_option maxRecDepth 100000 in
set_option maxHeartbeats 2000000 in
theorem shape_reads (x : Ins) (w : World) (cs : List Value) (hR : tIns.R w w.heap.size cs x) (hl : x.args.length ≤ 2097152) :
    Calls Tryz.prog 161 #[.agg cs.toArray] w fun e w' => ∃ v, e = .returned v ∧ OwnI w' w.heap.size v (readsC x) ∧ Below w.heap.size w w' := by
  obtain ⟨A, c, hI⟩ := tIns_R.1 hR
  obtain ⟨rfl, hop, _, _, _, _, _, _, _, hA⟩ := hI
  obtain ⟨h0, h255⟩ := wfI_u8 hop
  obtain ⟨i0, hi, hz0, hz1, hz2⟩ := info_parts int_info
  have hb0 : Hid (Below w.heap.size w (w.alloc (.cells #[.int .u8 x.op, .int .i64 x.d, .int .i64 x.a, .int .i64 x.b, .int .u32 x.n, .int .i64 x.f, .slice A x.args.length c, .int .i64 x.l1, .int .i64 x.l2] 40))) := (Below.refl _ _).alloc (Nat.le_refl _) _
  have HA : Hid (tInt.slice.R (w.alloc (.cells #[.int .u8 x.op, .int .i64 x.d, .int .i64 x.a, .int .i64 x.b, .int .u32 x.n, .int .i64 x.f, .slice A x.args.length c, .int .i64 x.l1, .int .i64 x.l2] 40)) (w.alloc (.cells #[.int .u8 x.op, .int .i64 x.d, .int .i64 x.a, .int .i64 x.b, .int .u32 x.n, .int .i64 x.f, .slice A x.args.length c, .int .i64 x.l1, .int .i64 x.l2] 40)).heap.size [.slice A x.args.length c] x.args) := Ty.below hA hb0.out hb0.out.size
  clear hR hA
  have hc : (x.op = 1 ∨ x.op = 4) ∨ (x.op = 2 ∨ x.op = 3 ∨ x.op = 6 ∨ x.op = 9 ∨ x.op = 10) ∨ x.op = 5 ∨ (x.op = 0 ∨ x.op = 7 ∨ x.op = 8) ∨ 11 ≤ x.op := by omega
  rcases hc with hc | hc | hc | hc | hc
  · have HQ : Hid (readsC x = [x.a, x.b]) := by
      show _ = _
      unfold readsC hasS
      rcases hc with h | h <;> rw [h] <;> rfl
    rcases hc with h | h
    all_goals
      rw [h] at hb0 HA ⊢
      go_enter Tryz.func161, Tryz.ntmps161
      go_wp2_with (at_builtin; refine list_more rfl (.tmp 22) (.tmp 23) _ rfl (w.heap.size + 1) 3 i0 _ 1 8 Tryz.underlying22 hi hz0 hz1 hz2 rfl (by decide) rfl (two_rows _ _ _ _).1 rfl (two_rows _ _ _ _).2 (by simp [Value.oneCell']) (by unfold maxLen; omega) (by omega) (by simp) ?_)
      intro v2 w2 ho2 hg2 _
      have hbn : Hid (Below w.heap.size w w2) := ((hb0.out.alloc (by simp) _).alloc (by simp; omega) _).grown hg2 (by simp; omega) (fun q hq => by simp [Value.ownBlock] at hq; omega)
      have HO := Lib.hid ho2
      clear ho2 hg2
      go_wp2_with fail
      go_ret
      exact ⟨_, rfl, by rw [HQ.out]; exact OwnI.base (OwnI.of HO.out rfl rfl) (by omega), hbn.out⟩
  · have HQ : Hid (readsC x = [x.a]) := by
      show _ = _
      unfold readsC hasS
      rcases hc with h | h | h | h | h <;> rw [h] <;> rfl
    rcases hc with h | h | h | h | h
    all_goals
      rw [h] at hb0 HA ⊢
      go_enter Tryz.func161, Tryz.ntmps161
      have hbn : Hid (Below w.heap.size w _) := hb0.out.alloc (by simp) (.cells #[.int .i64 x.a] 3)
      go_wp2_with fail
      go_ret
      exact ⟨_, rfl, by rw [HQ.out]; exact OwnI.base (OwnI.of (one_row _ _ _) rfl rfl) (by omega), hbn.out⟩
  · have HQ : Hid (readsC x = x.args) := by
      show _ = _
      unfold readsC hasS
      rw [hc]
      rfl
    rw [hc] at hb0 HA ⊢
    go_enter Tryz.func161, Tryz.ntmps161
    go_wp2_with fail
    refine (clone_any HA.out (by omega)).mono ?_
    rintro e w1 ⟨v, rfl, ho, hb⟩
    have HO := Lib.hid ho
    have HB := Lib.hid hb
    clear ho hb
    go_wp2_with fail
    go_ret
    exact ⟨_, rfl, by rw [HQ.out]; exact HO.out.base (by simp), hb0.out.trans (HB.out.mono hb0.out.size)⟩
  · have HQ : Hid (readsC x = []) := by
      show _ = _
      unfold readsC hasS
      rcases hc with h | h | h <;> rw [h] <;> rfl
    rcases hc with h | h | h
    all_goals
      rw [h] at hb0 HA ⊢
      go_enter Tryz.func161, Tryz.ntmps161
      go_wp2_with fail
      go_ret
      exact ⟨_, rfl, by rw [HQ.out]; exact OwnI.nil _ _, hb0.out⟩
  · have HQ : Hid (readsC x = []) := by
      show _ = _
      have e : hasS x.op = [] := by
        unfold hasS
        repeat rw [if_neg (by omega)]
      unfold readsC
      rw [e]
      rfl
    have e1 : (x.op == 1) = false := beq_eq_false_iff_ne.2 (by omega)
    have e2 : (x.op == 2) = false := beq_eq_false_iff_ne.2 (by omega)
    have e3 : (x.op == 3) = false := beq_eq_false_iff_ne.2 (by omega)
    have e4 : (x.op == 4) = false := beq_eq_false_iff_ne.2 (by omega)
    have e5 : (x.op == 5) = false := beq_eq_false_iff_ne.2 (by omega)
    have e6 : (x.op == 6) = false := beq_eq_false_iff_ne.2 (by omega)
    have e9 : (x.op == 9) = false := beq_eq_false_iff_ne.2 (by omega)
    have e10 : (x.op == 10) = false := beq_eq_false_iff_ne.2 (by omega)
    go_enter Tryz.func161, Tryz.ntmps161
    go_wp2_with fail
    go_ret
    exact ⟨_, rfl, by rw [HQ.out]; exact OwnI.nil _ _, hb0.out⟩
end Mu
end
