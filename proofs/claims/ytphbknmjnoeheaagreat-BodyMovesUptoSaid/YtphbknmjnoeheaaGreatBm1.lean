/-
  Own texts laid together, part 1: MuM, MuTy, MuApi, MuAt, MuInR, MuAbs, MuAwp, MuFn, MuOps, MuFlat, MuMem, MuOwn, MuOwn2, MuOwn3, MuOwn4, MuWalk, Shelf, MuLib, MuGraph, MuCallsP, MuBulk, MuRows, MuOwnT, MuReads, MuMisc, MuReads2, MuShape, MuSame, MuFlowP, MuGoes, MuNext, MuOk, MuBuild, MuDraw, MuRowFn, MuDrawT, MuDrawF, MuRes, MuRange, MuFnM, MuLitR, MuSlice, MuStep, MuFull, MuCond, MuStr, MuBytes, MuTab, MuOwnG, MuClo, MuLine, MuMark, MuZeros, MuFnC2, MuBoxRow, MuLift, MuArr, MuEqS, MuLiftA.
  Conditions: as each part says.
-/
import Derived.Lib.Hide
import Derived.WalkKit
import Derived.ProofKit
import Derived.Deep.Slices
import Derived.Test.YtphbknmjnoeheaaGreatRows
import Derived.RangeFuncLeaves
import Derived.RangeFuncCalls
import Derived.RangeFuncRecord
import Derived.OrdersIn
import Derived.Orders
import Derived.Deep.RegionHeld
import Derived.TacticsIn
import Derived.StillTail
import Derived.Scope
import Derived.Maps.AppendAt
import Derived.Deep.AppendLies
import Derived.RegionTactic
import Derived.Deep.Draws
import Derived.Deep.OwnRows
import Derived.Shelf.Small.Bits
import Derived.Shelf.Small.Wraps
import Derived.Shelf.Strconv.Itoa0
import Derived.Shelf.Sort.Plain
import Derived.Shelf.Slices.Turned
import Derived.Ground.Names2Prog
import Derived.Shelf.Slices.Clone
import Derived.Shelf.Slices.CompactI
import Derived.Shelf.Slices.SearchI
import Derived.Shelf.Slices.Cells
import Derived.Shelf.Slices.In.SortNone
import Derived.Test.YtphbknmjnoeheaaGreatProg
import Derived.Sort.OwnSortedInts
import Derived.Lib.SlicesCompact
import Derived.BigQuiet
import Derived.BigRegion
import Derived.Deep.RegionHeld3
import Derived.Deep.RegionLaw
import Derived.Laws.AppendOwnNone
import Derived.Maps.OwnSet
import Derived.WalkSpells
import Derived.RangeFuncNested
import Derived.RangeFuncBound
import Derived.Shelf.Abstract
import Derived.Shelf.RegionOpen
import Derived.OwnWalkIn
import Derived.TacticsInMore
import Derived.LoopNIn
import Derived.LoopIn
import Derived.RangeFuncBox
import Derived.RangeFuncWrites
import Derived.Deep.Upon
import Derived.Laws.Strings3
import Derived.Laws.IdiomStrings
import Derived.Laws.StructEq
import Derived.Deep.Onto
import Derived.Lib.AppendZeros
section
/-
  What functions compute, as plain functions that answer once they are given rounds enough; their loops.
  Conditions: none; plain Lean.
-/
namespace Mu

/-- an answer, once there are rounds enough -/
structure M (α : Type) where
  run : Nat → Option α
  mono : ∀ n a, run n = some a → run (n + 1) = some a
namespace M
variable {α β σ ρ : Type}
/-- it answers so -/
def to (x : M α) (a : α) : Prop := ∃ n, x.run n = some a
theorem le (x : M α) {n m : Nat} {a : α} (h : n ≤ m) (hx : x.run n = some a) : x.run m = some a := by
  induction h with
  | refl => exact hx
  | step _ ih => exact x.mono _ _ ih
def ok (a : α) : M α := ⟨fun _ => some a, fun _ _ h => h⟩
def no : M α := ⟨fun _ => none, fun _ _ h => h⟩
def bnd (x : M α) (f : α → M β) : M β := ⟨fun n => (x.run n).bind fun a => (f a).run n, fun n b h => by
  cases hx : x.run n with
  | none => rw [hx] at h; cases h
  | some a =>
    rw [hx] at h
    rw [x.mono _ _ hx]
    exact (f a).mono _ _ h⟩
/-- only where that is so -/
def chk (p : Bool) (x : M α) : M α := bif p then x else no
def cnd (c : Bool) (x y : M α) : M α := bif c then x else y
/-- only when that is so, else it does not matter -/
def whn (c : Bool) (d : α) (x : M α) : M α := bif c then x else ok d
/-- what leads on, or out -/
def els (x : M (α ⊕ β)) (f : α → M β) : M β := bnd x fun | .inl a => f a | .inr b => ok b
def loopR (step : σ → M (σ ⊕ ρ)) (n : Nat) : Nat → σ → Option ρ
  | 0, _ => none
  | k + 1, s => ((step s).run n).bind fun | .inl s' => loopR step n k s' | .inr r => some r
theorem loopR_mono {step : σ → M (σ ⊕ ρ)} {n : Nat} {r : ρ} : ∀ {k : Nat} {s : σ}, loopR step n k s = some r → loopR step (n + 1) (k + 1) s = some r
  | 0, _, h => by cases h
  | k + 1, s, h => by
    unfold loopR at h ⊢
    cases hx : (step s).run n with
    | none => rw [hx] at h; cases h
    | some x =>
      rw [hx] at h
      rw [(step s).mono _ _ hx]
      cases x with
      | inl s' => exact loopR_mono (k := k) h
      | inr r' => exact h
def loop (step : σ → M (σ ⊕ ρ)) (s : σ) : M ρ := ⟨fun n => loopR step n n s, fun _ _ h => loopR_mono h⟩

theorem to_ok {a b : α} : (ok a).to b ↔ a = b := ⟨fun ⟨_, h⟩ => Option.some.inj h, fun h => ⟨0, congrArg some h⟩⟩
theorem ok_to (a : α) : (ok a).to a := to_ok.2 rfl
theorem to_no {a : α} : ¬ (no : M α).to a := fun ⟨_, h⟩ => by cases h
theorem to_bnd {x : M α} {f : α → M β} {b : β} : (bnd x f).to b ↔ ∃ a, x.to a ∧ (f a).to b := by
  constructor
  · rintro ⟨n, h⟩
    have h : (x.run n).bind (fun a => (f a).run n) = some b := h
    cases hx : x.run n with
    | none => rw [hx] at h; cases h
    | some a =>
      rw [hx] at h
      exact ⟨a, ⟨n, hx⟩, ⟨n, h⟩⟩
  · rintro ⟨a, ⟨n, hn⟩, ⟨m, hm⟩⟩
    refine ⟨max n m, ?_⟩
    show (x.run (max n m)).bind _ = _
    rw [x.le (Nat.le_max_left n m) hn]
    exact (f a).le (Nat.le_max_right n m) hm
theorem bnd_to {x : M α} {f : α → M β} {a : α} {b : β} (h : x.to a) (k : (f a).to b) : (bnd x f).to b := to_bnd.2 ⟨a, h, k⟩
theorem to_chk {p : Bool} {x : M α} {a : α} : (chk p x).to a ↔ p = true ∧ x.to a := by
  cases p
  · exact ⟨fun h => (to_no h).elim, fun h => by cases h.1⟩
  · exact ⟨fun h => ⟨rfl, h⟩, fun h => h.2⟩
theorem chk_to {p : Bool} {x : M α} {a : α} (h : p = true) (k : x.to a) : (chk p x).to a := to_chk.2 ⟨h, k⟩
theorem to_t {c : Bool} {x y : M α} {a : α} (hc : c = true) (h : (cnd c x y).to a) : x.to a := by subst hc; exact h
theorem to_f {c : Bool} {x y : M α} {a : α} (hc : c = false) (h : (cnd c x y).to a) : y.to a := by subst hc; exact h
theorem t_to {c : Bool} {x y : M α} {a : α} (hc : c = true) (h : x.to a) : (cnd c x y).to a := by subst hc; exact h
theorem f_to {c : Bool} {x y : M α} {a : α} (hc : c = false) (h : y.to a) : (cnd c x y).to a := by subst hc; exact h
theorem to_whn {c : Bool} {d : α} {x : M α} {a : α} (h : (whn c d x).to a) (hc : c = true) : x.to a := by subst hc; exact h
theorem whn_t {c : Bool} {d : α} {x : M α} {a : α} (hc : c = true) (h : x.to a) : (whn c d x).to a := by subst hc; exact h
theorem to_els {x : M (α ⊕ β)} {f : α → M β} {b : β} (h : (els x f).to b) : ∃ z, x.to z ∧ (∀ a, z = .inl a → (f a).to b) ∧ ∀ b', z = .inr b' → b' = b := by
  obtain ⟨z, h1, h2⟩ := to_bnd.1 h
  refine ⟨z, h1, fun a e => ?_, fun b' e => ?_⟩
  · subst e; exact h2
  · subst e; exact to_ok.1 h2
theorem els_l {x : M (α ⊕ β)} {f : α → M β} {a : α} {b : β} (h : x.to (.inl a)) (k : (f a).to b) : (els x f).to b := to_bnd.2 ⟨.inl a, h, k⟩
theorem els_r {x : M (α ⊕ β)} {f : α → M β} {b : β} (h : x.to (.inr b)) : (els x f).to b := to_bnd.2 ⟨.inr b, h, ok_to b⟩

/-- a loop's rounds -/
inductive Rounds (step : σ → M (σ ⊕ ρ)) : Nat → σ → ρ → Prop
  | out {k : Nat} {s : σ} {r : ρ} : (step s).to (.inr r) → Rounds step k s r
  | on {k : Nat} {s s' : σ} {r : ρ} : (step s).to (.inl s') → Rounds step k s' r → Rounds step (k + 1) s r
theorem rounds_of {step : σ → M (σ ⊕ ρ)} {n : Nat} {r : ρ} : ∀ {k : Nat} {s : σ}, loopR step n k s = some r → Rounds step k s r
  | 0, _, h => by cases h
  | k + 1, s, h => by
    unfold loopR at h
    cases hx : (step s).run n with
    | none => rw [hx] at h; cases h
    | some x =>
      rw [hx] at h
      cases x with
      | inl s' => exact .on ⟨n, hx⟩ (rounds_of (k := k) h)
      | inr r' => cases h; exact .out ⟨n, hx⟩
theorem loop_unf {step : σ → M (σ ⊕ ρ)} {s : σ} {r : ρ} {x : σ ⊕ ρ} (h : (step s).to x) (hn : ∀ s', x = .inl s' → (loop step s').to r) (hr : ∀ r', x = .inr r' → r' = r) : (loop step s).to r := by
  obtain ⟨n, hx⟩ := h
  cases x with
  | inr r' =>
    refine ⟨n + 1, ?_⟩
    show loopR step (n + 1) (n + 1) s = some r
    unfold loopR
    rw [(step s).mono _ _ hx, ← hr r' rfl]
    rfl
  | inl s' =>
    obtain ⟨m, hm⟩ := hn s' rfl
    have hm : loopR step m m s' = some r := hm
    have up : ∀ d, loopR step (m + d) (m + d) s' = some r := fun d => by
      induction d with
      | zero => exact hm
      | succ d ih => exact loopR_mono ih
    refine ⟨m + n + 1, ?_⟩
    show loopR step (m + n + 1) (m + n + 1) s = some r
    unfold loopR
    rw [(step s).le (by omega) hx]
    have hw : ∀ {k q : Nat} {s : σ}, loopR step q k s = some r → loopR step (q + 1) k s = some r := by
      intro k
      induction k with
      | zero => intro q s h; cases h
      | succ k ih =>
        intro q s h
        unfold loopR at h ⊢
        cases hx : (step s).run q with
        | none => rw [hx] at h; cases h
        | some x =>
          rw [hx] at h
          rw [(step s).mono _ _ hx]
          cases x with
          | inl s' => exact ih h
          | inr r' => exact h
    exact hw (up n)
theorem loop_in {step : σ → M (σ ⊕ ρ)} {s s' : σ} {r : ρ} (h : (step s).to (.inl s')) (k : (loop step s').to r) : (loop step s).to r := loop_unf h (fun a e => by cases e; exact k) fun a e => by cases e
theorem loop_out {step : σ → M (σ ⊕ ρ)} {s : σ} {r : ρ} (h : (step s).to (.inr r)) : (loop step s).to r := loop_unf h (fun a e => by cases e) fun a e => by cases e; rfl
theorem to_loop {step : σ → M (σ ⊕ ρ)} {s : σ} {r : ρ} : (loop step s).to r ↔ ∃ k, Rounds step k s r := by
  constructor
  · rintro ⟨n, h⟩
    exact ⟨n, rounds_of h⟩
  · rintro ⟨k, h⟩
    induction h with
    | out h => exact loop_out h
    | on h _ ih => exact loop_in h ih
/-- from round to round -/
theorem loop_for {step : σ → M (σ ⊕ ρ)} (F : Nat → σ) (n : Nat) {r : ρ} (hs : ∀ k, k < n → (step (F k)).to (.inl (F (k + 1)))) (ho : (step (F n)).to (.inr r)) : ∀ {j : Nat}, j ≤ n → (loop step (F j)).to r := by
  intro j hj
  obtain ⟨d, rfl⟩ : ∃ d, n = j + d := ⟨n - j, by omega⟩
  induction d generalizing j with
  | zero => exact loop_out ho
  | succ d ih =>
    refine loop_in (hs j (by omega)) (ih (j := j + 1) ?_ ?_ ?_)
    · intro k hk
      exact hs k (by omega)
    · have e : j + 1 + d = j + (d + 1) := by omega
      rw [e]
      exact ho
    · omega
end M
end Mu
end
section
/-
  Readings of Go data as plain Lean data: a 'Ty' says how cells in a world stand for a plain value; such a reading is kept while the blocks below a bound stay as they are.
  Conditions: none; generic, no program in sight.
-/
namespace Mu
open Go Go.RowKit Go.ChangeShapes Go.WideShapes

/-- the cells from an address on -/
def CellsAt (w : World) (b o : Nat) (cs : List Value) : Prop := ∀ j u, cs[j]? = some u → w.cell? ⟨b, o + j, none⟩ = some u

theorem CellsAt.keep {w w' : World} {b o : Nat} {cs : List Value} (h : CellsAt w b o cs) (hb : w'.heap[b]? = w.heap[b]?) : CellsAt w' b o cs :=
  fun j u hu => (World.cell?_of_block (w := w) (a := ⟨b, o + j, none⟩) hb).trans (h j u hu)

/-- a reading: the cells stand for d, and all blocks that are reached are among those of S -/
structure Ty (α : Type) where
  size : Nat
  bulk : α → Nat
  RS : World → (Nat → Prop) → List Value → α → Prop
  len : ∀ {w S cs d}, RS w S cs d → cs.length = size
  keepS : ∀ {w w' : World} {S S' : Nat → Prop} {cs d}, RS w S cs d → (∀ k, S k → w'.heap[k]? = w.heap[k]?) → (∀ k, S k → S' k) → RS w' S' cs d

variable {α β : Type}

/-- .. all blocks below B -/
def Ty.R (T : Ty α) (w : World) (B : Nat) (cs : List Value) (d : α) : Prop := T.RS w (fun k => k < B) cs d

/-- one element at an address -/
def Ty.AtS (T : Ty α) (w : World) (S : Nat → Prop) (b o : Nat) (d : α) : Prop := S b ∧ ∃ cs, T.RS w S cs d ∧ CellsAt w b o cs
def Ty.At (T : Ty α) (w : World) (B b o : Nat) (d : α) : Prop := T.AtS w (fun k => k < B) b o d

theorem Ty.AtS.keep {T : Ty α} {w w' : World} {S S' : Nat → Prop} {b o : Nat} {d : α} (h : T.AtS w S b o d) (hb : ∀ k, S k → w'.heap[k]? = w.heap[k]?) (hS : ∀ k, S k → S' k) : T.AtS w' S' b o d :=
  let ⟨h1, cs, h2, h3⟩ := h
  ⟨hS b h1, cs, T.keepS h2 hb hS, h3.keep (hb b h1)⟩

/-! ### integers, bools, strings -/
def Ty.int (k : IntKind) : Ty Int where
  size := 1
  bulk := fun _ => 1
  RS := fun _ _ cs d => cs = [.int k d] ∧ (Lit.int k d).wf = true
  len := by rintro _ _ _ _ ⟨rfl, _⟩; rfl
  keepS := fun h _ _ => h
/-! ### slices -/
def bulkL (f : α → Nat) : List α → Nat
  | [] => 0
  | x :: l => f x + bulkL f l

theorem bulkL_append (f : α → Nat) (l m : List α) : bulkL f (l ++ m) = bulkL f l + bulkL f m := by
  induction l with
  | nil => simp [bulkL]
  | cons x l ih => simp only [List.cons_append, bulkL, ih]; omega
def Ty.slice (T : Ty α) : Ty (List α) where
  size := 1
  bulk := fun ds => bulkL T.bulk ds + 1
  RS := fun w S cs ds => ∃ A c, cs = [.slice A ds.length c] ∧ ds.length ≤ c ∧ (c ≤ maxLen ∧ (A = none → c = 0)) ∧ ∀ i d, ds[i]? = some d → ∃ b o, A = some ⟨b, o, none⟩ ∧ T.AtS w S b (o + i * T.size) d
  len := by rintro _ _ _ _ ⟨A, c, rfl, _⟩; rfl
  keepS := by
    rintro w w' S S' cs ds ⟨A, c, rfl, hl, hc, hi⟩ hb hS
    refine ⟨A, c, rfl, hl, hc, fun i d hd => ?_⟩
    obtain ⟨b, o, rfl, h⟩ := hi i d hd
    exact ⟨b, o, rfl, h.keep hb hS⟩

theorem Ty.slice_nilS (T : Ty α) (w : World) (S : Nat → Prop) : T.slice.RS w S [.slice none 0 0] [] := ⟨none, 0, rfl, Nat.le_refl _, ⟨Nat.zero_le _, fun _ => rfl⟩, by simp⟩
theorem Ty.slice_nil (T : Ty α) (w : World) (B : Nat) : T.slice.R w B [.slice none 0 0] [] := T.slice_nilS w _

/-! ### rows of fields -/
def Ty.none_ : Ty Unit where
  size := 0
  bulk := fun _ => 0
  RS := fun _ _ cs _ => cs = []
  len := by rintro _ _ _ _ rfl; rfl
  keepS := fun h _ _ => h
def Ty.cons (T : Ty α) (U : Ty β) : Ty (α × β) where
  size := T.size + U.size
  bulk := fun d => T.bulk d.1 + U.bulk d.2
  RS := fun w S cs d => ∃ c1 c2, cs = c1 ++ c2 ∧ T.RS w S c1 d.1 ∧ U.RS w S c2 d.2
  len := by
    rintro _ _ _ _ ⟨c1, c2, rfl, h1, h2⟩
    rw [List.length_append, T.len h1, U.len h2]
  keepS := by
    rintro w w' S S' cs d ⟨c1, c2, rfl, h1, h2⟩ hb hS
    exact ⟨c1, c2, rfl, T.keepS h1 hb hS, U.keepS h2 hb hS⟩
def Ty.via (U : Ty β) (f : β → α) (g : α → β) : Ty α where
  size := U.size
  bulk := fun d => U.bulk (g d) + 1
  RS := fun w S cs d => U.RS w S cs (g d) ∧ f (g d) = d
  len := fun h => U.len h.1
  keepS := fun h hb hS => ⟨U.keepS h.1 hb hS, h.2⟩

/-! ### what can be read is so -/
def bulkD {H : Type} : DataW H → Nat
  | .lit (.string bytes) => bytes.length + 1
  | .slice elems spare => go elems + go spare + 1
  | .agg parts => go parts + 1
  | _ => 1
where go : List (DataW H) → Nat
  | [] => 0
  | d :: r => bulkD d + go r

theorem bulkD_go_append {H : Type} (l m : List (DataW H)) : bulkD.go (l ++ m) = bulkD.go l + bulkD.go m := by
  induction l with
  | nil => simp [bulkD.go]
  | cons x l ih => simp only [List.cons_append, bulkD.go, ih]; omega

structure Opens (P : Program) (t : TypeId) (T : Ty α) : Prop where
  go : ∀ (H : Type) (enc : TypeId × Value → H) (w : World) (base : Nat) (spare : Nat → Bool) (held : Bool) (n : Nat) (cs : List Value) (x : DataW H × List MemPlace) (B : Nat),
    DataW.trod enc P w base spare held n t cs = some x → (∀ p ∈ x.2, p.block < B) → ∃ d, T.R w B cs d ∧ T.bulk d ≤ bulkD x.1

theorem opens_int {P : Program} {t : TypeId} {k : IntKind} (ht : P.underlying t = some (.int k)) : Opens P t (Ty.int k) := by
  refine ⟨fun H enc => ?_⟩
  intro w base spare held n cs x B h _
  obtain ⟨m, rfl, rfl, hw⟩ := DataW.trod_int ht h
  exact ⟨m, ⟨rfl, hw⟩, by simp [Ty.int, bulkD]⟩
theorem cellsAt_of_cells? {w : World} {base n : Nat} {a : Addr} {cs : List Value} (h : w.cells? base a n = some cs) (hn : 0 < n) : a.spot = none ∧ CellsAt w a.block a.off cs := by
  obtain ⟨hb, hl, hat⟩ := World.cells?_some h
  have hs : a.spot = none := by
    have h0 := hat 0 hn
    rw [show a.add 0 = a from by simp [Addr.add]] at h0
    have hv : cs[0]? = some (cs[0]'(by omega)) := List.getElem?_eq_getElem (by omega)
    rw [hv] at h0
    unfold World.cell? at h0
    split at h0
    · split at h0
      · cases h0
      · rename_i hsp
        cases hsx : a.spot with
        | none => rfl
        | some z => simp [hsx] at hsp
    · cases h0
  refine ⟨hs, fun j u hu => ?_⟩
  have hj : j < n := by
    have := (List.getElem?_eq_some_iff.1 hu).1
    omega
  have := hat j hj
  rw [hu] at this
  rw [← this]
  congr 1
  obtain ⟨b, o, s⟩ := a
  simp only at hs
  subst hs
  unfold Addr.add
  by_cases hz : j = 0 <;> simp [hz]

theorem opens_slice {P : Program} {t e : TypeId} {T : Ty α} (ht : P.underlying t = some (.slice e)) (hC : P.cellsOf e = T.size) (hp : 0 < T.size) (he : Opens P e T) : Opens P t T.slice := by
  refine ⟨fun H enc => ?_⟩
  intro w base spare held n cs x B h hB
  rcases DataW.trod_slice ht h with ⟨rfl, rfl⟩ | ⟨a, len, cap, elems, rest, m, _, rfl, rfl, hb, hl, hm, hlen, hel, hsp, hns⟩
  · exact ⟨[], T.slice_nil w B, by simp [Ty.slice, bulkL, bulkD]⟩
  · have hone : ∀ i, i < len → ∃ d, (a.add (i * T.size)).spot = none ∧ T.At w B (a.add (i * T.size)).block (a.add (i * T.size)).off d ∧ ∃ y, elems[i]? = some y ∧ T.bulk d ≤ bulkD y.1 := by
      intro i hi
      have hi' := hel i hi
      have hy : elems[i]? = some (elems[i]'(by omega)) := List.getElem?_eq_getElem (by omega)
      rw [hy, hC] at hi'
      obtain ⟨cs', h1, h2⟩ := Option.bind_eq_some_iff.1 hi'
      obtain ⟨hs, hat⟩ := cellsAt_of_cells? h1 hp
      obtain ⟨d, hd, hbk⟩ := he.go H enc w base spare held m cs' _ B h2 (fun p hp => hB p (by
        simp only [List.mem_append, List.mem_flatMap]
        exact .inr ⟨elems[i]'(by omega), .inl (List.getElem_mem _), hp⟩))
      refine ⟨d, hs, ⟨?_, cs', hd, hat⟩, _, hy, hbk⟩
      have hblk : (a.add (i * T.size)).block = a.block := by unfold Addr.add; split <;> rfl
      rw [hblk]
      refine hB (.cell a.block a.off) ?_
      simp only [List.mem_append]
      left
      rw [hC]
      have hpos : 0 < (elems.length + rest.length) * T.size := Nat.mul_pos (by omega) hp
      exact List.mem_map.2 ⟨0, by simpa using hpos, by simp⟩
    have key : ∀ k, k ≤ len → ∃ ds : List α, ds.length = k ∧ bulkL T.bulk ds ≤ bulkD.go ((elems.take k).map (·.1)) ∧ ∀ i d, ds[i]? = some d → (a.add (i * T.size)).spot = none ∧ T.At w B (a.add (i * T.size)).block (a.add (i * T.size)).off d := by
      intro k
      induction k with
      | zero => exact fun _ => ⟨[], rfl, by simp [bulkL], by simp⟩
      | succ k ih =>
        intro hk
        obtain ⟨ds, hdl, hdb, hdi⟩ := ih (by omega)
        obtain ⟨d, hs, hat, y, hy, hbk⟩ := hone k (by omega)
        refine ⟨ds ++ [d], by simp [hdl], ?_, ?_⟩
        · rw [List.take_add_one, hy, bulkL_append]
          simp only [Option.toList_some, List.map_append, bulkD_go_append, List.map_cons, List.map_nil, bulkL, bulkD.go]
          omega
        · intro i d' hd'
          by_cases hi : i < k
          · exact hdi i d' (by rwa [List.getElem?_append_left (by omega)] at hd')
          · have hik : i = k := by
              have := (List.getElem?_eq_some_iff.1 hd').1
              simp [hdl] at this
              omega
            subst hik
            rw [List.getElem?_append_right (by omega), hdl] at hd'
            simp at hd'
            subst hd'
            exact ⟨hs, hat⟩
    obtain ⟨ds, hdl, hdb, hdi⟩ := key len (Nat.le_refl _)
    refine ⟨ds, ⟨some a, cap, by rw [hdl], by omega, ⟨hm, fun e => by cases e⟩, fun i d hd => ?_⟩, ?_⟩
    · have h0 : ∃ d0, ds[0]? = some d0 := by
        have := (List.getElem?_eq_some_iff.1 hd).1
        exact ⟨ds[0]'(by omega), List.getElem?_eq_getElem (by omega)⟩
      obtain ⟨d0, hd0⟩ := h0
      have hs0 := (hdi 0 d0 hd0).1
      obtain ⟨b, o, s⟩ := a
      have : s = none := by simpa [Addr.add] using hs0
      subst this
      refine ⟨b, o, rfl, ?_⟩
      have := (hdi i d hd).2
      rwa [add_plain] at this
    · have ht2 : elems.take len = elems := List.take_of_length_le (by omega)
      rw [ht2] at hdb
      simp only [Ty.slice, bulkD]
      omega

/-- the fields of a struct, from one on -/
structure OpensF (P : Program) (fs : List Field) (off : Nat) (U : Ty β) : Prop where
  go : ∀ (H : Type) (enc : TypeId × Value → H) (w : World) (base : Nat) (spare : Nat → Bool) (held : Bool) (n : Nat) (cs : List Value) (ys : List (DataW H × List MemPlace)) (B : Nat),
    cs.length = off + U.size → ys.length = fs.length →
    (∀ (j : Nat) (f : Field), fs[j]? = some f → DataW.trod enc P w base spare held n f.type ((cs.drop f.offset).take (P.cellsOf f.type)) = ys[j]?) →
    (∀ p ∈ ys.flatMap (·.2), p.block < B) → ∃ d, U.R w B (cs.drop off) d ∧ U.bulk d ≤ bulkD.go (ys.map (·.1))

theorem opensF_nil {P : Program} {off : Nat} : OpensF P [] off Ty.none_ := by
  refine ⟨fun H enc => ?_⟩
  intro w base spare held n cs ys B hcs hys _ _
  refine ⟨(), ?_, Nat.zero_le _⟩
  have : cs.length ≤ off := by simp [Ty.none_] at hcs; omega
  exact List.drop_eq_nil_of_le this
theorem opensF_cons {P : Program} {f : Field} {fs : List Field} {off : Nat} {T : Ty α} {U : Ty β} (ho : f.offset = off) (hC : P.cellsOf f.type = T.size) (hT : Opens P f.type T) (hU : OpensF P fs (off + T.size) U) :
    OpensF P (f :: fs) off (T.cons U) := by
  refine ⟨fun H enc => ?_⟩
  intro w base spare held n cs ys B hcs hys hf hB
  match ys, hys with
  | y :: ys, hys =>
    have h0 := hf 0 f rfl
    rw [ho, hC] at h0
    simp only [List.getElem?_cons_zero] at h0
    obtain ⟨d, hd, hbd⟩ := hT.go H enc w base spare held n _ y B h0 (fun p hp => hB p (by simp; exact .inl hp))
    obtain ⟨e, he, hbe⟩ := hU.go H enc w base spare held n cs ys B (by simp [Ty.cons] at hcs; omega) (by simpa using hys)
      (fun j g hg => by have := hf (j + 1) g (by simpa using hg); simpa using this) (fun p hp => hB p (by simp only [List.flatMap_cons, List.mem_append]; exact .inr hp))
    refine ⟨(d, e), ⟨_, _, ?_, hd, he⟩, ?_⟩
    · rw [← List.drop_drop]
      exact (List.take_append_drop T.size (cs.drop off)).symm
    · simp only [Ty.cons, List.map_cons, bulkD.go]; omega

theorem opens_struct {P : Program} {t : TypeId} {fs : List Field} {U : Ty β} {f : β → α} {g : α → β} (ht : P.underlying t = some (.struct fs.toArray)) (hC : P.cellsOf t = U.size) (hU : OpensF P fs 0 U) (hgf : ∀ b, g (f b) = b) :
    Opens P t (U.via f g) := by
  refine ⟨fun H enc => ?_⟩
  intro w base spare held n cs x B h hB
  obtain ⟨ys, m, _, rfl, hlen, hyl, hf⟩ := DataW.trod_struct ht h
  obtain ⟨d, hd, hbd⟩ := hU.go H enc w base spare held m cs ys B (by omega) (by simpa using hyl) (fun j g hg => hf j g (by simpa using hg)) hB
  refine ⟨f d, ⟨?_, by rw [hgf]⟩, ?_⟩
  · rw [hgf]; rw [List.drop_zero] at hd; exact hd
  · simp only [Ty.via, hgf, bulkD]; omega
end Mu
end
section
/-
  The data of package api as plain Lean data, and how cells stand for it.
  Conditions: none; the types' numbers are this translation's.
-/
namespace Mu
open Go Go.RowKit

def tInt : Ty Int := Ty.int .i64
def wfI (k : IntKind) (n : Int) : Prop := (Lit.int k n).wf = true

/-! ### opening -/
open Go.Proofs
end Mu
end
section
/-
  Elements of slices of package api's types, cell by cell, in the form that a walk meets.
  Conditions: none.
-/
namespace Mu
open Go Go.RowKit

theorem slice_at {α : Type} {T : Ty α} {w : World} {S : Nat → Prop} {n c k : Nat} {A : Option Addr} {ds : List α} {x : α} (h : T.slice.RS w S [.slice A n c] ds) (hk : ds[k]? = some x) :
    ∃ b o, A = some ⟨b, o, none⟩ ∧ T.AtS w S b (o + k * T.size) x := by
  obtain ⟨A', c', e, _, _, hi⟩ := h
  simp only [List.cons.injEq, Value.slice.injEq, and_true] at e
  obtain ⟨rfl, _, _⟩ := e
  exact hi k x hk
theorem slice_len {α : Type} {T : Ty α} {w : World} {S : Nat → Prop} {n c : Nat} {A : Option Addr} {ds : List α} (h : T.slice.RS w S [.slice A n c] ds) : n = ds.length ∧ n ≤ c ∧ c ≤ maxLen := by
  obtain ⟨A', c', e, h1, h2, _⟩ := h
  simp only [List.cons.injEq, Value.slice.injEq, and_true] at e
  obtain ⟨_, rfl, rfl⟩ := e
  exact ⟨rfl, h1, h2.1⟩
theorem slice_form {α : Type} {T : Ty α} {w : World} {S : Nat → Prop} {v : Value} {ds : List α} (h : T.slice.RS w S [v] ds) : ∃ A c, v = .slice A ds.length c := by
  obtain ⟨A', c', e, h1, h2, _⟩ := h
  simp only [List.cons.injEq, and_true] at e
  exact ⟨A', c', e⟩

/-! ### rows of the call's own, read as data -/
/-- a row of the call's own, whose cells stand for data: each as that datum's reading among the blocks of S; the row's own block beside them -/
theorem own_slice {α : Type} {T : Ty α} {w : World} {base : Nat} {e : TypeId} {v : Value} {cells : List Value} {ds : List α} {S : Nat → Prop} (h : w.ownsRow base e T.size v ds.length cells)
    (hc : ∀ i d, ds[i]? = some d → T.RS w S ((cells.drop (i * T.size)).take T.size) d) (hS : ∀ g, v.ownBlock = some g → S g) : T.slice.RS w S [v] ds := by
  rcases h.2 with ⟨rfl, hn⟩ | ⟨g, cap, cur, rfl, hg, hh, h1, h2, h3, h4⟩
  · have : ds = [] := List.eq_nil_of_length_eq_zero hn
    subst this
    exact Ty.slice_nilS _ _ _
  · refine ⟨some ⟨g, 0, none⟩, cap, rfl, h1, ⟨h2, fun e => by cases e⟩, fun i d hd => ⟨g, 0, rfl, hS g rfl, _, hc i d hd, ?_⟩⟩
    intro j u hu
    have hj : j < T.size := by
      have := (List.getElem?_eq_some_iff.1 hu).1
      rw [List.length_take] at this
      omega
    rw [List.getElem?_take_of_lt hj, List.getElem?_drop] at hu
    have hcell := h.cells (g := g) rfl (i * T.size + j) u hu
    have e1 : (⟨g, 0, none⟩ : Addr).add (i * T.size + j) = ⟨g, 0 + i * T.size + j, none⟩ := by
      unfold Addr.add
      by_cases hz : i * T.size + j = 0
      · rw [if_pos hz, show 0 + i * T.size + j = 0 from by omega]
      · rw [if_neg hz, show 0 + i * T.size + j = 0 + (i * T.size + j) from by omega]
    rw [e1] at hcell
    exact hcell
end Mu
end
section
/-
  A region that draws, inside a round of a range over a function; a function that leaves with some such loops' marks.
  Conditions: no fence.
-/
namespace Mu
open Go Go.RowKit
variable {P : Program} {Q : Exit → Act → World → Prop} {ops : Array Oper} {l n : Nat}

theorem rowsIn_of {row : String} {args : Array Value} {w : World} {R : Value → World → Prop} (h : Rows P row args w R) : RowsIn (Fence.wide.inRound l) n P row args w R :=
  fun c cs _ => let ⟨v, w', r, s⟩ := h c cs; ⟨v, w', r, stepsIn_wide.2 s⟩
theorem callsIn_of {f : FuncId} {args : Array Value} {w : World} {R : Ending → World → Prop} (h : Calls P f args w R) : CallsIn (Fence.wide.inRound l) n P f args w R :=
  CallsIn.inRound l (callsIn_wide.2 h)

theorem wpOpIn_of {i : Nat} {K K' : Act → World → Prop} {a : Act} {w : World} (hd : ∀ (o : Oper), ops[i]? = some o → ∀ c, o.op ≠ .defer c) (hQ : ¬ LetsOut Q) (hK : ∀ a w, K a w → K' a w) (h : wpOp P ops Q i K a w) :
    wpOpIn (Fence.wide.inRound l) n P ops Q i K' a w := by
  unfold wpOpIn
  unfold wpOp at h
  cases hi : ops[i]? with
  | none => rw [hi] at h; exact hK _ _ h
  | some o =>
    simp only [hi] at h ⊢
    split
    · rename_i hw
      rw [if_pos hw] at h
      rcases h with h | h
      · refine ⟨fun _ _ => trivial, ?_⟩
        rw [Oper.semAt_eq _ _ _ (hd o hi)]
        unfold Oper.wp at h
        generalize (execOp a.eval o).run P w = r at *
        cases r with
        | ok x w' =>
          cases x <;> simp only [Oper.uponIn, Oper.upon] at h ⊢
          case value => exact hK _ _ h
          case skip => exact hK _ _ h
          case defer => exact hK _ _ h
          case enter => exact ⟨fun h => (by cases h), (callsIn_of h).mono fun e w'' he => by cases e <;> first | exact hK _ _ he | exact he⟩
          case row => exact ⟨fun h => (by cases h), (rowsIn_of h).mono fun _ _ he => hK _ _ he⟩
        | halt x w' => cases x <;> simp only [Oper.uponIn, Oper.upon] at h ⊢ <;> exact h
      · exact absurd h.2 hQ
    · rename_i hw
      rw [if_neg hw] at h
      exact ⟨fun _ _ => trivial, hK _ _ h⟩

theorem wpAnyIn_of {md : Region.Mode} (hd : ∀ (i : Nat) (o : Oper), ops[i]? = some o → ∀ c, o.op ≠ .defer c) (hQ : ¬ LetsOut Q) : ∀ (fuel : Nat) (listed : Array Bool) (a : Act) (w : World),
    wpAny P md ops Q fuel listed a w → wpAnyIn (Fence.wide.inRound l) n P md ops Q fuel listed a w
  | 0, _, _, _, h => h
  | fuel + 1, _, _, _, h => ⟨h.1, fun i hi => wpOpIn_of (hd i) hQ (fun a w h => wpAnyIn_of hd hQ fuel _ a w h) (h.2 i hi)⟩

def noDefer (ops : Array Oper) : Bool := ops.all fun o => match o.op with | .defer _ => false | _ => true
theorem noDefer_spec (h : noDefer ops = true) : ∀ (i : Nat) (o : Oper), ops[i]? = some o → ∀ c, o.op ≠ .defer c := by
  intro i o hi c e
  have := Array.all_eq_true'.1 h o (Array.mem_of_getElem? hi)
  rw [e] at this
  cases this

/-- the marks of some loops over functions -/
def mark (D : Nat) : Deferred := { target := .collected D, args := #[] }

end Mu
end
section
/-
  Abstract states: what a frame's slots, and the memory of the call's own, are known to be; and that such knowledge is kept.
  Conditions: none; generic.
-/
namespace Mu
open Go Go.RowKit

/-- what is known of a value -/
inductive AV : Type 1
  | any
  | lit (v : Value)
  | bs {α : Type} (T : Ty α) (l : List α)
  | tv {α : Type} (T : Ty α) (d : α)
  | own (i ver : Nat)
  | ptr (i off : Nat)
  | rp (i ver k off : Nat)
  | bp {α : Type} (T : Ty α) (d : α) (off : Nat)
  | agg (l : List AV)
  | tup (l : List AV)
  | fn (f : FuncId) (l : List AV)

/-- some memory of the call's own, of which something is known -/
structure Res where
  /-- marks of loops over functions, the newest first -/
  mrk : List Nat
  F : Nat → Prop
  R : World → (Nat → Prop) → Prop
  keep : ∀ {w w' : World} {S S' : Nat → Prop}, R w S → (∀ k, F k → w'.heap[k]? = w.heap[k]?) → (∀ k, S k → w'.heap[k]? = w.heap[k]?) → (∀ k, S k → S' k) → R w' S'

/-- what is known of a block of the call's own -/
inductive ABlk : Type 1
  | dead
  | box (cells : List AV)
  | row (ver : Nat) (e : TypeId) {α : Type} (T : Ty α) (l : List α)
  | res (R : Res)

def ABlk.mrk : ABlk → List Deferred
  | .res R => R.mrk.map mark
  | _ => []
/-- the marks of the loops over functions that are over -/
def mkD : List ABlk → List Deferred
  | [] => []
  | b :: h => mkD h ++ b.mrk
theorem mkD_push (h : List ABlk) (b : ABlk) : mkD (h ++ [b]) = b.mrk ++ mkD h := by
  induction h with
  | nil => simp [mkD]
  | cons c h ih => simp [mkD, ih]
theorem mkD_set {h : List ABlk} {i : Nat} {b b' : ABlk} (hi : h[i]? = some b) (e : b'.mrk = b.mrk) : mkD (h.set i b') = mkD h := by
  induction h generalizing i with
  | nil => simp at hi
  | cons c h ih =>
    cases i with
    | zero =>
      simp at hi
      subst hi
      simp [mkD, e]
    | succ i =>
      simp only [List.set_cons_succ, mkD]
      rw [ih (by simpa using hi)]
def ABlk.ver : Option ABlk → Option Nat
  | some (.row ver _ _ _) => some ver
  | _ => none
def ABlk.sz : Option ABlk → Nat
  | some (.row _ _ T _) => T.size
  | _ => 0
def ABlk.isBox : Option ABlk → Bool
  | some (.box _) => true
  | _ => false
def ABlk.live : Option ABlk → Bool
  | some (.box _) => true
  | some (.row _ _ _ _) => true
  | some (.res _) => true
  | _ => false
def blkOf : Value → Option Nat
  | .pointer (some a) => some a.block
  | .slice (some a) _ _ => some a.block
  | _ => none
/-- the blocks of it -/
def ftp : Option ABlk → Value → Nat → Prop
  | some (.res R), _, g => R.F g
  | _, v, g => blkOf v = some g

mutual
def AV.rel (w : World) (S : Nat → Prop) (h : List ABlk) (ψ : Nat → Value) : AV → Value → Prop
  | .any, _ => True
  | .lit u, v => v = u
  | .bs T l, v => T.slice.RS w S [v] l
  | .tv T d, v => T.RS w S [v] d
  | .own i ver, v => i < h.length ∧ ∀ c, ABlk.ver h[i]? = some c → ver ≤ c ∧ (ver = c → v = ψ i)
  | .ptr i off, v => i < h.length ∧ (ABlk.isBox h[i]? = true → ∃ g, ψ i = .pointer (some ⟨g, 0, none⟩) ∧ v = .pointer (some ⟨g, off, none⟩))
  | .rp i ver k off, v => i < h.length ∧ ∀ c, ABlk.ver h[i]? = some c → ver ≤ c ∧ (ver = c → ∃ g n c, ψ i = .slice (some ⟨g, 0, none⟩) n c ∧ v = .pointer (some ⟨g, k * ABlk.sz h[i]? + off, none⟩))
  | .bp T d off, v => ∃ b o, v = .pointer (some ⟨b, o + off, none⟩) ∧ T.AtS w S b o d
  | .agg l, v => ∃ cs : List Value, v = .agg cs.toArray ∧ AV.relL w S h ψ l cs
  | .tup l, v => ∃ cs : List Value, v = .tuple cs.toArray ∧ AV.relL w S h ψ l cs
  | .fn f l, v => ∃ cs : List Value, v = .func (.func f) #[] cs.toArray ∧ AV.relL w S h ψ l cs
def AV.relL (w : World) (S : Nat → Prop) (h : List ABlk) (ψ : Nat → Value) : List AV → List Value → Prop
  | [], cs => cs = []
  | x :: l, cs => ∃ v vs, cs = v :: vs ∧ AV.rel w S h ψ x v ∧ AV.relL w S h ψ l vs
end

/-- what is known stays known -/
structure Ext (w : World) (S : Nat → Prop) (h : List ABlk) (ψ : Nat → Value) (w' : World) (S' : Nat → Prop) (h' : List ABlk) (ψ' : Nat → Value) : Prop where
  blk : ∀ k, S k → w'.heap[k]? = w.heap[k]?
  sub : ∀ k, S k → S' k
  len : h.length ≤ h'.length
  ver : ∀ i c', i < h.length → ABlk.ver h'[i]? = some c' → ∃ c, ABlk.ver h[i]? = some c ∧ c ≤ c' ∧ (c = c' → ψ' i = ψ i ∧ ABlk.sz h'[i]? = ABlk.sz h[i]?)
  box : ∀ i, i < h.length → ABlk.isBox h'[i]? = true → ABlk.isBox h[i]? = true ∧ ψ' i = ψ i

section
variable {w : World} {S : Nat → Prop} {h : List ABlk} {ψ : Nat → Value} {w' : World} {S' : Nat → Prop} {h' : List ABlk} {ψ' : Nat → Value}

mutual
theorem AV.rel_ext (X : Ext w S h ψ w' S' h' ψ') : ∀ (x : AV) (v : Value), AV.rel w S h ψ x v → AV.rel w' S' h' ψ' x v
  | .any, _, _ => by unfold AV.rel; trivial
  | .lit u, v, H => by unfold AV.rel at H ⊢; exact H
  | .bs T l, v, H => by unfold AV.rel at H ⊢; exact T.slice.keepS H X.blk X.sub
  | .tv T d, v, H => by unfold AV.rel at H ⊢; exact T.keepS H X.blk X.sub
  | .own i ver, v, H => by
    unfold AV.rel at H ⊢
    refine ⟨Nat.lt_of_lt_of_le H.1 X.len, fun c' hv => ?_⟩
    obtain ⟨c, h1, h2, h3⟩ := X.ver i c' H.1 hv
    obtain ⟨k1, k2⟩ := H.2 c h1
    refine ⟨Nat.le_trans k1 h2, fun e => ?_⟩
    have e1 : c = c' := by omega
    rw [(h3 e1).1]
    exact k2 (by omega)
  | .ptr i off, v, H => by
    unfold AV.rel at H ⊢
    refine ⟨Nat.lt_of_lt_of_le H.1 X.len, fun hv => ?_⟩
    obtain ⟨h1, h2⟩ := X.box i H.1 hv
    rw [h2]
    exact H.2 h1
  | .rp i ver k off, v, H => by
    unfold AV.rel at H ⊢
    refine ⟨Nat.lt_of_lt_of_le H.1 X.len, fun c' hv => ?_⟩
    obtain ⟨c, h1, h2, h3⟩ := X.ver i c' H.1 hv
    obtain ⟨k1, k2⟩ := H.2 c h1
    refine ⟨Nat.le_trans k1 h2, fun e => ?_⟩
    have e1 : c = c' := by omega
    rw [(h3 e1).1, (h3 e1).2]
    exact k2 (by omega)
  | .bp T d off, v, H => by
    unfold AV.rel at H ⊢
    obtain ⟨b, o, e, hat⟩ := H
    exact ⟨b, o, e, hat.keep X.blk X.sub⟩
  | .agg l, v, H => by
    unfold AV.rel at H ⊢
    obtain ⟨cs, e, hl⟩ := H
    exact ⟨cs, e, AV.relL_ext X l cs hl⟩
  | .tup l, v, H => by
    unfold AV.rel at H ⊢
    obtain ⟨cs, e, hl⟩ := H
    exact ⟨cs, e, AV.relL_ext X l cs hl⟩
  | .fn f l, v, H => by
    unfold AV.rel at H ⊢
    obtain ⟨cs, e, hl⟩ := H
    exact ⟨cs, e, AV.relL_ext X l cs hl⟩
theorem AV.relL_ext (X : Ext w S h ψ w' S' h' ψ') : ∀ (l : List AV) (cs : List Value), AV.relL w S h ψ l cs → AV.relL w' S' h' ψ' l cs
  | [], cs, H => by unfold AV.relL at H ⊢; exact H
  | x :: l, cs, H => by
    unfold AV.relL at H ⊢
    obtain ⟨v, vs, e, h1, h2⟩ := H
    exact ⟨v, vs, e, AV.rel_ext X x v h1, AV.relL_ext X l vs h2⟩
end

theorem relL_len : ∀ {l : List AV} {cs : List Value}, AV.relL w S h ψ l cs → cs.length = l.length
  | [], cs, H => by unfold AV.relL at H; subst H; rfl
  | x :: l, cs, H => by
    unfold AV.relL at H
    obtain ⟨v, vs, rfl, _, h2⟩ := H
    simp [relL_len h2]
theorem relL_get : ∀ {l : List AV} {cs : List Value}, AV.relL w S h ψ l cs → ∀ {i : Nat} {x : AV}, l[i]? = some x → ∃ v, cs[i]? = some v ∧ AV.rel w S h ψ x v
  | [], cs, _, i, x, hx => by simp at hx
  | y :: l, cs, H, i, x, hx => by
    unfold AV.relL at H
    obtain ⟨v, vs, rfl, h1, h2⟩ := H
    cases i with
    | zero => simp at hx; subst hx; exact ⟨v, by simp, h1⟩
    | succ i => simpa using relL_get h2 (i := i) (by simpa using hx)
theorem relL_of : ∀ {l : List AV} {cs : List Value}, cs.length = l.length → (∀ (i : Nat) (x : AV) (v : Value), l[i]? = some x → cs[i]? = some v → AV.rel w S h ψ x v) → AV.relL w S h ψ l cs
  | [], cs, hl, _ => by unfold AV.relL; exact List.eq_nil_of_length_eq_zero hl
  | y :: l, v :: vs, hl, H => by
    unfold AV.relL
    exact ⟨v, vs, rfl, H 0 y v rfl rfl, relL_of (by simpa using hl) fun i x u hx hu => H (i + 1) x u (by simpa using hx) (by simpa using hu)⟩
theorem relL_set {l : List AV} {cs : List Value} (H : AV.relL w S h ψ l cs) (i : Nat) {x : AV} {v : Value} (hv : AV.rel w S h ψ x v) : AV.relL w S h ψ (l.set i x) (cs.set i v) := by
  refine relL_of (by simp [relL_len H]) fun j y u hy hu => ?_
  by_cases hj : i = j
  · subst hj
    have h1 : i < l.length := by
      rcases Nat.lt_or_ge i l.length with h | h
      · exact h
      · simp [List.getElem?_eq_none, h] at hy
    rw [List.getElem?_set_self h1] at hy
    rw [List.getElem?_set_self (by rw [relL_len H]; exact h1)] at hu
    cases hy
    cases hu
    exact hv
  · rw [List.getElem?_set_ne hj] at hy hu
    obtain ⟨u', h1, h2⟩ := relL_get H hy
    rw [h1] at hu
    cases hu
    exact h2
theorem relL_append {l m : List AV} {cs ds : List Value} (H : AV.relL w S h ψ l cs) (G : AV.relL w S h ψ m ds) : AV.relL w S h ψ (l ++ m) (cs ++ ds) := by
  refine relL_of (by simp [relL_len H, relL_len G]) fun j y u hy hu => ?_
  by_cases hj : j < l.length
  · rw [List.getElem?_append_left hj] at hy
    rw [List.getElem?_append_left (by rw [relL_len H]; exact hj)] at hu
    obtain ⟨u', h1, h2⟩ := relL_get H hy
    rw [h1] at hu
    cases hu
    exact h2
  · rw [List.getElem?_append_right (by omega)] at hy
    rw [List.getElem?_append_right (by rw [relL_len H]; omega), relL_len H] at hu
    obtain ⟨u', h1, h2⟩ := relL_get G hy
    rw [h1] at hu
    cases hu
    exact h2
theorem relL_drop {l : List AV} {cs : List Value} (H : AV.relL w S h ψ l cs) (n : Nat) : AV.relL w S h ψ (l.drop n) (cs.drop n) := by
  refine relL_of (by simp [relL_len H]) fun j y u hy hu => ?_
  rw [List.getElem?_drop] at hy hu
  obtain ⟨u', h1, h2⟩ := relL_get H hy
  rw [h1] at hu
  cases hu
  exact h2
theorem relL_take {l : List AV} {cs : List Value} (H : AV.relL w S h ψ l cs) (n : Nat) : AV.relL w S h ψ (l.take n) (cs.take n) := by
  refine relL_of (by simp [relL_len H]) fun j y u hy hu => ?_
  rw [List.getElem?_take] at hy hu
  split at hy
  · rename_i hj
    rw [if_pos hj] at hu
    obtain ⟨u', h1, h2⟩ := relL_get H hy
    rw [h1] at hu
    cases hu
    exact h2
  · cases hy
end

/-- one block of the call's own -/
def BRel (N : Nat → Prop) (w : World) (S : Nat → Prop) (h : List ABlk) (ψ : Nat → Value) (v : Value) : ABlk → Prop
  | .dead => True
  | .box cells => ∃ g cs e, v = .pointer (some ⟨g, 0, none⟩) ∧ ¬ N g ∧ ¬ S g ∧ w.heap[g]? = some (.cells (List.toArray cs) e (0, 0)) ∧ AV.relL w S h ψ cells cs
  | .row _ e T l => ∃ cells, w.ownsRow 0 e T.size v l.length cells ∧ 0 < T.size ∧ (∀ i d, l[i]? = some d → T.RS w S ((cells.drop (i * T.size)).take T.size) d) ∧ ∀ g, v.ownBlock = some g → ¬ N g ∧ ¬ S g
  | .res R => (∀ g, R.F g → ¬ N g ∧ ¬ S g ∧ g < w.heap.size) ∧ R.R w S

/-- the frame of a call: the world at its beginning; what it may read; what it must leave -/
structure Ctx where
  w0 : World
  S0 : Nat → Prop
  N : Nat → Prop
  /-- the loop over a function, in a round of which one is -/
  rd : Option Nat
def Ctx.std (C : Ctx) : Prop := ∀ k, k < C.w0.heap.size → C.N k
/-- blocks that are left as they are -/
structure Kp (N : Nat → Prop) (w w' : World) : Prop where
  os : w'.os = w.os
  tape : w'.tape = w.tape
  output : w'.output = w.output
  size : w.heap.size ≤ w'.heap.size
  block : ∀ k, N k → w'.heap[k]? = w.heap[k]?
theorem Kp.refl (N : Nat → Prop) (w : World) : Kp N w w := ⟨rfl, rfl, rfl, Nat.le_refl _, fun _ _ => rfl⟩
theorem Kp.trans {N : Nat → Prop} {a b c : World} (h : Kp N a b) (k : Kp N b c) : Kp N a c :=
  ⟨k.os.trans h.os, k.tape.trans h.tape, k.output.trans h.output, Nat.le_trans h.size k.size, fun i hi => (k.block i hi).trans (h.block i hi)⟩
theorem Kp.of_below {N : Nat → Prop} {B : Nat} {a b : World} (h : Below B a b) (hN : ∀ k, N k → k < B) : Kp N a b := ⟨h.os, h.tape, h.output, h.size, fun k hk => h.block k (hN k hk)⟩
theorem Kp.below {N : Nat → Prop} {B : Nat} {a b : World} (h : Kp N a b) (hN : ∀ k, k < B → N k) : Below B a b := ⟨h.os, h.tape, h.output, h.size, fun k hk => h.block k (hN k hk)⟩

structure HRel (C : Ctx) (h : List ABlk) (S : Nat → Prop) (ψ : Nat → Value) (w : World) : Prop where
  bel : Kp C.N C.w0 w
  nlt : ∀ k, C.N k → k < C.w0.heap.size
  lt : ∀ k, S k → k < w.heap.size
  sub : ∀ k, C.S0 k → S k
  new : ∀ k, S k → C.S0 k ∨ C.w0.heap.size ≤ k
  blk : ∀ i b, h[i]? = some b → BRel C.N w S h ψ (ψ i) b
  dis : ∀ i j, i ≠ j → ABlk.live h[i]? = true → ABlk.live h[j]? = true → ∀ g, ftp h[i]? (ψ i) g → ¬ ftp h[j]? (ψ j) g

theorem ownBlock_blkOf {v : Value} {g : Nat} (h : v.ownBlock = some g) : blkOf v = some g := by
  cases v <;> simp [Value.ownBlock, blkOf] at h ⊢
  rename_i a _ _
  cases a <;> simp [Value.ownBlock, blkOf] at h ⊢
  exact h
theorem ownsRow_same {w w' : World} {base : Nat} {e : TypeId} {size : Nat} {v : Value} {n : Nat} {xs : List Value} (h : w.ownsRow base e size v n xs) (hb : ∀ g, blkOf v = some g → w'.heap[g]? = w.heap[g]?) : w'.ownsRow base e size v n xs := by
  obtain ⟨h1, h2⟩ := h
  refine ⟨h1, ?_⟩
  rcases h2 with h2 | ⟨g, cap, cur, rfl, hg, hh, r⟩
  · exact .inl h2
  · exact .inr ⟨g, cap, cur, rfl, hg, (hb g rfl).trans hh, r⟩
theorem BRel.keep {N : Nat → Prop} {w w' : World} {S S' : Nat → Prop} {h h' : List ABlk} {ψ ψ' : Nat → Value} {v : Value} {b : ABlk} (H : BRel N w S h ψ v b) (X : Ext w S h ψ w' S' h' ψ')
    (hb : ∀ g, ftp (some b) v g → w'.heap[g]? = w.heap[g]? ∧ (¬ S g → ¬ S' g)) : BRel N w' S' h' ψ' v b := by
  cases b with
  | dead => trivial
  | box cells =>
    obtain ⟨g, cs, e, rfl, h1, h2, h3, h4⟩ := H
    obtain ⟨k1, k2⟩ := hb g rfl
    exact ⟨g, cs, e, rfl, h1, k2 h2, k1.trans h3, AV.relL_ext X _ _ h4⟩
  | row ver e T l =>
    obtain ⟨cells, h1, h0, h2, h3⟩ := H
    refine ⟨cells, ownsRow_same h1 fun g hg => (hb g hg).1, h0, fun i d hd => T.keepS (h2 i d hd) X.blk X.sub, fun g hg => ⟨(h3 g hg).1, (hb g (ownBlock_blkOf hg)).2 (h3 g hg).2⟩⟩
  | res R =>
    obtain ⟨h1, h2⟩ := H
    refine ⟨fun g hg => ?_, R.keep h2 (fun k hk => (hb k hk).1) X.blk X.sub⟩
    obtain ⟨k1, k2, k3⟩ := h1 g hg
    obtain ⟨k4, k5⟩ := hb g hg
    refine ⟨k1, k5 k2, ?_⟩
    rw [Array.getElem?_eq_getElem k3] at k4
    exact (Array.getElem?_eq_some_iff.1 k4).1
theorem BRel.lt {N : Nat → Prop} {w : World} {S : Nat → Prop} {h : List ABlk} {ψ : Nat → Value} {v : Value} {b : ABlk} (H : BRel N w S h ψ v b) (hl : ABlk.live (some b) = true) : ∀ g, ftp (some b) v g → ¬ N g ∧ g < w.heap.size ∧ ¬ S g := by
  cases b with
  | dead => simp [ABlk.live] at hl
  | box cells =>
    obtain ⟨g, cs, e, rfl, h1, h2, h3, h4⟩ := H
    intro g' hg
    simp [ftp, blkOf] at hg
    subst hg
    exact ⟨h1, (Array.getElem?_eq_some_iff.1 h3).1, h2⟩
  | row ver e T l =>
    obtain ⟨cells, h1, h0, h2, h3⟩ := H
    intro g hg
    have hg' : v.ownBlock = some g := by
      rcases h1.2 with ⟨rfl, _⟩ | ⟨g', cap, cur, rfl, _⟩
      · simp [ftp, blkOf] at hg
      · simpa [ftp, blkOf, Value.ownBlock] using hg
    obtain ⟨k1, k2⟩ := World.ownsRow.lt h1 g hg'
    exact ⟨(h3 g hg').1, k2, (h3 g hg').2⟩
  | res R =>
    intro g hg
    obtain ⟨k1, k2, k3⟩ := H.1 g hg
    exact ⟨k1, k3, k2⟩

/-- the world grows, and what may be read with it; the blocks of the call's own stay -/
theorem Ext.grow {w w' : World} {S S' : Nat → Prop} (h : List ABlk) (ψ : Nat → Value) (hb : ∀ k, S k → w'.heap[k]? = w.heap[k]?) (hs : ∀ k, S k → S' k) : Ext w S h ψ w' S' h ψ :=
  ⟨hb, hs, Nat.le_refl _, fun _ c' _ hv => ⟨c', hv, Nat.le_refl _, fun _ => ⟨rfl, rfl⟩⟩, fun _ _ hv => ⟨hv, rfl⟩⟩
theorem HRel.grow {C : Ctx} {h : List ABlk} {S S' : Nat → Prop} {ψ : Nat → Value} {w w' : World} (H : HRel C h S ψ w) (hb : Below w.heap.size w w') (hs : ∀ k, S k → S' k) (hn : ∀ k, S' k → S k ∨ w.heap.size ≤ k) (hl : ∀ k, S' k → k < w'.heap.size) :
    HRel C h S' ψ w' := by
  refine ⟨H.bel.trans (Kp.of_below hb fun k hk => Nat.lt_of_lt_of_le (H.nlt k hk) H.bel.size), H.nlt, hl, fun k hk => hs k (H.sub k hk), fun k hk => ?_, fun i b hi => ?_, H.dis⟩
  · rcases hn k hk with h1 | h1
    · exact H.new k h1
    · exact .inr (Nat.le_trans H.bel.size h1)
  · by_cases hlv : ABlk.live (some b) = true
    · refine (H.blk i b hi).keep (Ext.grow h ψ (fun k hk => hb.block k (H.lt k hk)) hs) fun g hg => ?_
      obtain ⟨k1, k2, k3⟩ := (H.blk i b hi).lt hlv g hg
      refine ⟨hb.block g k2, fun _ hg' => ?_⟩
      rcases hn g hg' with h1 | h1
      · exact k3 h1
      · omega
    · cases b <;> simp [ABlk.live] at hlv
      trivial

structure St where
  t : List AV
  h : List ABlk
def St.rel (C : Ctx) (s : St) (a : Act) (w : World) : Prop := a.defers = mkD s.h ∧ ∃ S ψ, HRel C s.h S ψ w ∧ AV.relL w S s.h ψ s.t a.tmps.toList

def evA (t : List AV) : Operand → AV
  | .tmp i => (t[i]?).getD (.lit undef)
  | .const v => .lit v
  | .global g => .lit (.pointer (some ⟨g, 0, none⟩))
  | .func f => .lit (.func (.func f) #[] #[])
def putA (t : List AV) (dst : Option Tmp) (r : AV) : List AV :=
  match dst with
  | some d => t.set d r
  | none => t
theorem ev_rel {w : World} {S : Nat → Prop} {h : List ABlk} {ψ : Nat → Value} {t : List AV} {a : Act} (H : AV.relL w S h ψ t a.tmps.toList) (x : Operand) : AV.rel w S h ψ (evA t x) (a.eval x) := by
  cases x with
  | tmp i =>
    show AV.rel w S h ψ ((t[i]?).getD (.lit undef)) (a.tmps.getD i undef)
    rw [Array.getD_eq_getD_getElem?]
    cases hi : t[i]? with
    | none =>
      have : a.tmps[i]? = none := by
        rw [List.getElem?_eq_none_iff] at hi
        have := relL_len H
        simp at this
        rw [Array.getElem?_eq_none_iff]
        omega
      rw [this]
      simp [AV.rel]
    | some x =>
      obtain ⟨v, h1, h2⟩ := relL_get H hi
      have : a.tmps[i]? = some v := by simpa using h1
      rw [this]
      exact h2
  | const v => simp [evA, Act.eval, AV.rel]
  | global g => simp [evA, Act.eval, AV.rel]
  | func f => simp [evA, Act.eval, AV.rel]
theorem put_rel {w : World} {S : Nat → Prop} {h : List ABlk} {ψ : Nat → Value} {t : List AV} {a : Act} (H : AV.relL w S h ψ t a.tmps.toList) (d : Option Tmp) {r : AV} {v : Value} (hr : AV.rel w S h ψ r v) : AV.relL w S h ψ (putA t d r) (a.put d v).tmps.toList := by
  cases d with
  | none => exact H
  | some d =>
    unfold putA Act.put
    simp only [Array.toList_setIfInBounds]
    exact relL_set H d hr
theorem put_defers (a : Act) (d : Option Tmp) (v : Value) : (a.put d v).defers = a.defers := by cases d <;> rfl
end Mu
end
section
/-
  Walking over abstract states: the rules of the control; regions, whatever their order.
  Conditions: none; generic.
-/
namespace Mu
open Go Go.RowKit

section
variable {P : Program} {C : Ctx}

/-- no bounds; in a round, or not -/
def fnc : Option Nat → Fence
  | none => Fence.wide
  | some l => Fence.wide.inRound l
theorem fnc_fn (rd : Option Nat) (f : FuncId) : (fnc rd).fn f := by cases rd <;> trivial
theorem fnc_depth (rd : Option Nat) : (fnc rd).depth = none := by cases rd <;> rfl
theorem fnc_calls {rd : Option Nat} {n : Nat} {f : FuncId} {args : Array Value} {w : World} {R : Ending → World → Prop} (h : Calls P f args w R) : CallsIn (fnc rd) n P f args w R := by
  cases rd with
  | none => exact callsIn_wide.2 h
  | some l => exact callsIn_of h
theorem fnc_rows {rd : Option Nat} {n : Nat} {row : String} {args : Array Value} {w : World} {R : Value → World → Prop} (h : Rows P row args w R) : RowsIn (fnc rd) n P row args w R := by
  cases rd with
  | none => exact fun c cs _ => let ⟨v, w', r, s⟩ := h c cs; ⟨v, w', r, stepsIn_wide.2 s⟩
  | some l => exact rowsIn_of h
theorem fnc_oper {rd : Option Nat} {n : Nat} {o : Oper} {a : Act} {w : World} {K : Act → World → Prop} {Q : Exit → Act → World → Prop} (hd : ∀ c, o.op ≠ .defer c) (hQ : ¬ LetsOut Q) (h : o.wp P a w K Q) : o.wpIn (fnc rd) n P a w K Q := by
  refine ⟨fun _ _ => fnc_fn _ _, ?_⟩
  rw [Oper.semAt_eq _ _ _ hd]
  unfold Oper.wp at h
  generalize (execOp a.eval o).run P w = r at *
  cases r with
  | ok x w' =>
    cases x <;> simp only [Oper.uponIn, Oper.upon] at h ⊢
    case value => exact h
    case skip => exact h
    case defer => exact h
    case enter => exact ⟨fun h => (by rw [fnc_depth] at h; cases h), (fnc_calls h).mono fun e w'' he => by cases e <;> exact he⟩
    case row => exact ⟨fun h => (by rw [fnc_depth] at h; cases h), (fnc_rows h).mono fun _ _ he => he⟩
  | halt x w' => cases x <;> simp only [Oper.uponIn, Oper.upon] at h ⊢ <;> exact h
theorem fnc_region {rd : Option Nat} {n id : Nat} {ops : Array Oper} {Q : Exit → Act → World → Prop} {a : Act} {w : World} (hm : P.follows .mixedOrders = true) (hd : noDefer ops = true)
    (h : wpAny P .any ops (fun e a w => e = .normal ∧ Q e a w) ops.size (Array.replicate ops.size false) a w.drew) : (Code.region id ops true).wpIn (fnc rd) n P Q a w := by
  cases rd with
  | none => exact wpIn_wide.2 (wp_mono (wp_region_any hm h) fun e a w h => h.2)
  | some l => exact wpIn_mono (wpIn_region_any hm (wpAnyIn_of (noDefer_spec hd) (fun ⟨_, _, h⟩ => by cases h.1) _ _ _ _ h)) fun e a w h => h.2

def Awp (P : Program) (C : Ctx) (c : Code) (Q : Exit → St → Prop) (s : St) : Prop :=
  ∀ a w, s.rel C a w → c.wpIn (fnc C.rd) 4 P (fun e a' w' => ∃ s', Q e s' ∧ s'.rel C a' w') a w
theorem Awp.wp {c : Code} {Q : Exit → St → Prop} {s : St} (hr : C.rd = none) (h : Awp P C c Q s) {a : Act} {w : World} (H : s.rel C a w) : c.wp P (fun e a' w' => ∃ s', Q e s' ∧ s'.rel C a' w') a w := by
  have := h a w H
  rw [hr] at this
  exact wpIn_wide.1 this
def athen (K : St → Prop) (Q : Exit → St → Prop) : Exit → St → Prop
  | .normal, s => K s
  | e, s => Q e s
def ablock (id : Nat) (Q : Exit → St → Prop) : Exit → St → Prop
  | .exit i, s => if i = id then Q .normal s else Q (.exit i) s
  | e, s => Q e s
def St.le (C : Ctx) (s s' : St) : Prop := ∀ a w, s.rel C a w → s'.rel C a w

theorem Awp.mono {c : Code} {Q Q' : Exit → St → Prop} {s : St} (h : Awp P C c Q s) (hq : ∀ e s, Q e s → Q' e s) : Awp P C c Q' s :=
  fun a w H => wpIn_mono (h a w H) fun e _ _ ⟨s', q, r⟩ => ⟨s', hq e s' q, r⟩
theorem Awp.le {c : Code} {Q : Exit → St → Prop} {s s' : St} (hl : St.le C s s') (h : Awp P C c Q s') : Awp P C c Q s := fun a w H => h a w (hl a w H)
theorem Awp.skip {Q : Exit → St → Prop} {s : St} (h : Q .normal s) : Awp P C .skip Q s := fun _ _ H => wpIn_skip ⟨s, h, H⟩
theorem Awp.exit {id : Nat} {Q : Exit → St → Prop} {s : St} (h : Q (.exit id) s) : Awp P C (.exit id) Q s := fun _ _ H => wpIn_exit ⟨s, h, H⟩
theorem Awp.ret {Q : Exit → St → Prop} {s : St} (h : Q .ret s) : Awp P C .ret Q s := fun _ _ H => wpIn_ret ⟨s, h, H⟩
theorem Awp.seq {x y : Code} {Q : Exit → St → Prop} {s : St} (h : ∀ K : St → Prop, (∀ s, Awp P C y Q s → K s) → Awp P C x (athen K Q) s) : Awp P C (.seq x y) Q s := fun a w H =>
  wpIn_seq (wpIn_mono (h _ (fun _ h => h) a w H) fun e a' w' ⟨s', q, r⟩ => by
    cases e with
    | normal => exact q a' w' r
    | _ => exact ⟨s', q, r⟩)
theorem Awp.cond {k : Operand} {x y : Code} {b : Bool} {Q : Exit → St → Prop} {s : St} (hc : evA s.t k = .lit (.bool b)) (ht : b = true → Awp P C x Q s) (hf : b = false → Awp P C y Q s) : Awp P C (.cond k x y) Q s := fun a w H => by
  obtain ⟨_, S, ψ, _, hl⟩ := id H
  have := ev_rel hl k
  rw [hc] at this
  unfold AV.rel at this
  exact wpIn_cond_split this (fun e => ht e a w H) (fun e => hf e a w H)
theorem Awp.block {id : Nat} {c : Code} {Q : Exit → St → Prop} {s : St} (h : Awp P C c (ablock id Q) s) : Awp P C (.block id c) Q s := fun a w H =>
  wpIn_block (wpIn_mono (h a w H) fun e a' w' ⟨s', q, r⟩ => by
    cases e with
    | exit i =>
      by_cases hi : i = id
      · simp only [ablock, Exit.inBlock, hi, if_true] at q ⊢
        exact ⟨s', q, r⟩
      · simp only [ablock, Exit.inBlock, hi, if_false] at q ⊢
        exact ⟨s', q, r⟩
    | _ => exact ⟨s', q, r⟩)
theorem least_of {p : Nat → Prop} (h : ∃ m, p m) : ∃ m, p m ∧ ∀ k, p k → m ≤ k := by
  obtain ⟨m, hm⟩ := h
  induction m using Nat.strongRecOn with
  | _ m ih =>
    by_cases hk : ∃ k, k < m ∧ p k
    · obtain ⟨k, hkm, hpk⟩ := hk
      exact ih k hkm hpk
    · exact ⟨m, hm, fun k hpk => Nat.le_of_not_lt fun hlt => hk ⟨k, hlt, hpk⟩⟩
theorem Awp.loop {c : Code} {Q : Exit → St → Prop} {s : St} (J : Nat → St → Prop) (m : Nat) (h0 : ∃ s', St.le C s s' ∧ J m s')
    (hr : ∀ m s, J m s → Awp P C c (athen (fun s' => ∃ m', m' < m ∧ ∃ s'', St.le C s' s'' ∧ J m' s'') Q) s) : Awp P C (.loop c) Q s := fun a w H => by
  classical
  let In : Act → World → Prop := fun a w => ∃ m, ∃ s, J m s ∧ s.rel C a w
  let μ : Act → World → Nat := fun a w => if h : ∃ m, ∃ s, J m s ∧ s.rel C a w then Classical.choose (least_of h) else 0
  obtain ⟨s', hle, hJ⟩ := h0
  refine wpIn_loop In μ ⟨m, s', hJ, hle a w H⟩ fun a w hI => ?_
  have hf := (Classical.choose_spec (least_of hI)).1
  obtain ⟨s1, h1, h2⟩ := hf
  have hμ : μ a w = Classical.choose (least_of hI) := dif_pos hI
  refine wpIn_mono (hr _ s1 h1 a w h2) fun e a' w' ⟨s2, q, r⟩ => ?_
  cases e with
  | normal =>
    obtain ⟨m', hm, s3, hle3, hJ3⟩ := q
    have hI' : In a' w' := ⟨m', s3, hJ3, hle3 a' w' r⟩
    refine ⟨hI', ?_⟩
    have : μ a' w' = Classical.choose (least_of hI') := dif_pos hI'
    rw [this, hμ]
    exact Nat.lt_of_le_of_lt ((Classical.choose_spec (least_of hI')).2 _ ⟨s3, hJ3, hle3 a' w' r⟩) hm
  | _ => exact ⟨s2, q, r⟩

/-! ### operations -/
def AOp (P : Program) (C : Ctx) (o : Oper) (s : St) (K : St → Prop) : Prop :=
  ∀ (Q' : Exit → Act → World → Prop) a w, s.rel C a w → (∀ c, o.op ≠ .defer c) ∧ o.wp P a w (fun a' w' => ∃ s', K s' ∧ s'.rel C a' w') Q'
def gA (ops : Array Oper) (t : List AV) (o : Oper) : Option Bool :=
  match o.guard with
  | none => some true
  | some (j, want) =>
    match ((ops[j]?).bind (·.dst)).bind (t[·]?) with
    | some (.lit (.bool b)) => some (b == want)
    | some (.lit (.tuple _)) => some false
    | _ => none
theorem gA_wanted {ops : Array Oper} {t : List AV} {o : Oper} {b : Bool} {a : Act} {w : World} {S : Nat → Prop} {h : List ABlk} {ψ : Nat → Value} (hg : gA ops t o = some b) (hl : AV.relL w S h ψ t a.tmps.toList) :
    Region.wanted o (yielded ops a.tmps) = b := by
  unfold gA at hg
  unfold Region.wanted
  cases ho : o.guard with
  | none => simpa [ho] using hg
  | some p =>
    obtain ⟨j, want⟩ := p
    rw [ho] at hg
    simp only at hg ⊢
    unfold yielded
    cases hd : (ops[j]?).bind (·.dst) with
    | none => rw [hd] at hg; simp at hg
    | some d =>
      rw [hd] at hg
      simp only [Option.bind_some] at hg ⊢
      cases hx : t[d]? with
      | none => rw [hx] at hg; simp at hg
      | some x =>
        rw [hx] at hg
        obtain ⟨v, h1, h2⟩ := relL_get hl hx
        have h1' : a.tmps[d]? = some v := by simpa using h1
        rw [h1']
        split at hg
        · rename_i b' heq
          cases heq
          unfold AV.rel at h2
          subst h2
          simpa using hg
        · rename_i vs heq
          cases heq
          unfold AV.rel at h2
          subst h2
          simpa using hg
        · cases hg
def aSeq (P : Program) (C : Ctx) (ops : Array Oper) (K : St → Prop) : List Oper → St → Prop
  | [], s => K s
  | o :: rest, s => ∃ b, gA ops s.t o = some b ∧ (b = true → AOp P C o s (aSeq P C ops K rest)) ∧ (b = false → aSeq P C ops K rest ⟨putA s.t o.dst (.lit undef), s.h⟩)
theorem undef_rel {s : St} {a : Act} {w : World} (H : s.rel C a w) (d : Option Tmp) : St.rel C ⟨putA s.t d (.lit undef), s.h⟩ (a.put d undef) w := by
  obtain ⟨hd, S, ψ, hh, hl⟩ := H
  exact ⟨by rw [put_defers]; exact hd, S, ψ, hh, put_rel hl d (by unfold AV.rel; rfl)⟩
theorem wpList_of_aSeq {ops : Array Oper} {K : St → Prop} {Q' : Exit → Act → World → Prop} (hQ : ∀ s a w, K s → s.rel C a w → Q' .normal a w) : ∀ (l : List Oper) (s : St) (a : Act) (w : World), aSeq P C ops K l s → s.rel C a w → wpList P ops Q' l a w
  | [], s, a, w, h, H => hQ s a w h H
  | o :: rest, s, a, w, h, H => by
    obtain ⟨b, hg, ht, hf⟩ := h
    obtain ⟨_, S, ψ, _, hl⟩ := id H
    have hw := gA_wanted hg hl
    unfold wpList
    rw [hw]
    cases b with
    | true =>
      rw [if_pos rfl]
      exact .inl (Oper.wp_mono (fun a' w' ⟨s', h1, h2⟩ => wpList_of_aSeq hQ rest s' a' w' h1 h2) (ht rfl Q' a w H).2)
    | false =>
      rw [if_neg (by simp)]
      exact wpList_of_aSeq hQ rest _ _ w (hf rfl) (undef_rel H o.dst)
theorem wpListIn_of_aSeq {rd : Option Nat} {ops : Array Oper} {K : St → Prop} {Q' : Exit → Act → World → Prop} (hlo : ¬ LetsOut Q') (hQ : ∀ s a w, K s → s.rel C a w → Q' .normal a w) : ∀ (l : List Oper) (s : St) (a : Act) (w : World), aSeq P C ops K l s → s.rel C a w → wpListIn (fnc rd) 4 P ops Q' l a w
  | [], s, a, w, h, H => hQ s a w h H
  | o :: rest, s, a, w, h, H => by
    obtain ⟨b, hg, ht, hf⟩ := h
    obtain ⟨_, S, ψ, _, hl⟩ := id H
    have hw := gA_wanted hg hl
    unfold wpListIn
    rw [hw]
    cases b with
    | true =>
      rw [if_pos rfl]
      exact fnc_oper (ht rfl Q' a w H).1 hlo (Oper.wp_mono (fun a' w' ⟨s', h1, h2⟩ => wpListIn_of_aSeq hlo hQ rest s' a' w' h1 h2) (ht rfl Q' a w H).2)
    | false =>
      rw [if_neg (by simp)]
      exact ⟨fun _ _ => fnc_fn _ _, wpListIn_of_aSeq hlo hQ rest _ _ w (hf rfl) (undef_rel H o.dst)⟩
theorem Awp.region {id : Nat} {l : List Oper} {Q : Exit → St → Prop} {s : St} (h : aSeq P C l.toArray (Q .normal) l s) : Awp P C (.region id l.toArray false) Q s := fun a w H =>
  wpIn_mono (wpIn_region_lit (wpListIn_of_aSeq (Q' := fun e a' w' => e = .normal ∧ ∃ s', Q e s' ∧ s'.rel C a' w') (fun ⟨_, _, h⟩ => by cases h.1) (fun s a w h H => ⟨rfl, s, h, H⟩) l s a w h H)) fun _ _ _ h => h.2

/-! ### operations that leave the call's own memory alone -/
def Good (w : World) (S : Nat → Prop) (h : List ABlk) (ψ : Nat → Value) (r : AV) (v : Value) (w' : World) : Prop :=
  Below w.heap.size w w' ∧ ∃ S' : Nat → Prop, (∀ k, S k → S' k) ∧ (∀ k, S' k → S k ∨ w.heap.size ≤ k) ∧ (∀ k, S' k → k < w'.heap.size) ∧ AV.rel w' S' h ψ r v
def qUpon (P : Program) (w : World) (S : Nat → Prop) (h : List ABlk) (ψ : Nat → Value) (r : AV) : Result Next → Prop
  | .ok (.value v) w' => Good w S h ψ r v w'
  | .ok .skip w' => Good w S h ψ r undef w'
  | .ok (.enter f args) w1 => w1 = w ∧ Calls P f args w fun e w' => ∃ v, e = .returned v ∧ Good w S h ψ r v w'
  | _ => False
def Quiet (P : Program) (C : Ctx) (t : List AV) (h : List ABlk) (o : Oper) (r : AV) : Prop :=
  ∀ S ψ w (ρ : Operand → Value), HRel C h S ψ w → (∀ x ∈ o.op.operands, AV.rel w S h ψ (evA t x) (ρ x)) → qUpon P w S h ψ r ((execOp ρ o).run P w)
theorem Good.same {w : World} {S : Nat → Prop} {h : List ABlk} {ψ : Nat → Value} {r : AV} {v : Value} (hl : ∀ k, S k → k < w.heap.size) (hr : AV.rel w S h ψ r v) : Good w S h ψ r v w :=
  ⟨Below.refl _ _, S, fun _ h => h, fun _ h => .inl h, hl, hr⟩
theorem upon_of_q {o : Oper} {s : St} {r : AV} {a : Act} {w : World} {S : Nat → Prop} {ψ : Nat → Value} {K : Act → World → Prop} {Q' : Exit → Act → World → Prop} {res : Result Next} (hd : a.defers = mkD s.h) (H : HRel C s.h S ψ w) (hl : AV.relL w S s.h ψ s.t a.tmps.toList)
    (hq : qUpon P w S s.h ψ r res) (hK : ∀ a' w', St.rel C ⟨putA s.t o.dst r, s.h⟩ a' w' → K a' w') : o.upon P a K Q' res := by
  have key : ∀ v w', Good w S s.h ψ r v w' → K (a.put o.dst v) w' := by
    rintro v w' ⟨hb, S', h1, h2, h3, h4⟩
    have X : Ext w S s.h ψ w' S' s.h ψ := Ext.grow s.h ψ (fun k hk => hb.block k (H.lt k hk)) h1
    exact hK _ _ ⟨by rw [put_defers]; exact hd, S', ψ, H.grow hb h1 h2 h3, put_rel (AV.relL_ext X _ _ hl) o.dst h4⟩
  cases res with
  | ok n w' =>
    cases n <;> simp only [qUpon] at hq <;> simp only [Oper.upon]
    case value v => exact key v w' hq
    case skip => exact key undef w' hq
    case enter f args =>
      obtain ⟨rfl, hc⟩ := hq
      exact hc.mono fun e w'' ⟨v, he, hg⟩ => by subst he; exact key v w'' hg
  | halt x w' => simp only [qUpon] at hq
theorem qUpon_noDefer {o : Oper} {r : AV} {h : List ABlk} {w : World} {S : Nat → Prop} {ψ : Nat → Value} {ρ : Operand → Value} (hq : qUpon P w S h ψ r ((execOp ρ o).run P w)) : ∀ c, o.op ≠ .defer c := fun c e => by
  simp only [execOp, e, Sem.run_bind] at hq
  generalize (resolve ρ c o.type).run P w = x at hq
  cases x with
  | ok d w' => exact hq
  | halt x w' => exact hq
theorem AOp.quiet {o : Oper} {s : St} {r : AV} {K : St → Prop} (hq : Quiet P C s.t s.h o r) (hK : K ⟨putA s.t o.dst r, s.h⟩) : AOp P C o s K := by
  rintro Q' a w ⟨hd, S, ψ, H, hl⟩
  refine ⟨qUpon_noDefer (hq S ψ w a.eval H fun x _ => ev_rel hl x), ?_⟩
  exact upon_of_q hd H hl (hq S ψ w a.eval H fun x _ => ev_rel hl x) fun a' w' h => ⟨_, hK, h⟩

/-! ### regions that draw their order -/
section
variable {ops : Array Oper} {md : Region.Mode} {h : List ABlk}
def aYields (P : Program) (C : Ctx) (ops : Array Oper) (h : List ABlk) (o : Oper) (r : AV) (t : List AV) : Prop :=
  (gA ops t o = some true ∧ Quiet P C t h o r) ∨ (gA ops t o = some false ∧ r = .lit undef)
def aOp (P : Program) (C : Ctx) (ops : Array Oper) (h : List ABlk) (i : Nat) (K : List AV → Prop) (t : List AV) : Prop :=
  match ops[i]? with
  | none => K t
  | some o => ∃ r, aYields P C ops h o r t ∧ K (putA t o.dst r)
theorem aOp_mono {i : Nat} {t : List AV} {K K' : List AV → Prop} (hk : ∀ t, K t → K' t) (hh : aOp P C ops h i K t) : aOp P C ops h i K' t := by
  unfold aOp at *
  split
  · exact hk _ (by simpa [*] using hh)
  · rename_i o ho
    simp only [ho] at hh
    obtain ⟨r, h1, h2⟩ := hh
    exact ⟨r, h1, hk _ h2⟩
def aAny (P : Program) (C : Ctx) (md : Region.Mode) (ops : Array Oper) (h : List ABlk) (n : Nat) (L : Array Bool → List AV → Prop) : Nat → Array Bool → List AV → Prop
  | 0, listed, t => L listed t
  | f + 1, listed, t =>
    Region.ready md ops listed ≠ [] ∧ ∀ i ∈ Region.ready md ops listed, i < n ∧ aOp P C ops h i (aAny P C md ops h n L f (listed.setIfInBounds i true)) t
theorem wpOp_of_aOp {i : Nat} {t : List AV} {a : Act} {w : World} {K : List AV → Prop} {K' : Act → World → Prop} {Q' : Exit → Act → World → Prop} (H : St.rel C ⟨t, h⟩ a w) (hK : ∀ t a w, K t → St.rel C ⟨t, h⟩ a w → K' a w)
    (hh : aOp P C ops h i K t) : wpOp P ops Q' i K' a w := by
  unfold aOp at hh
  unfold wpOp
  split
  · rename_i ho; simp only [ho] at hh; exact hK _ _ _ hh H
  · rename_i o ho
    simp only [ho] at hh
    obtain ⟨r, hy, hk⟩ := hh
    obtain ⟨hd, S, ψ, hh', hl⟩ := id H
    rcases hy with ⟨hg, hq⟩ | ⟨hg, rfl⟩
    · have hw := gA_wanted hg hl
      rw [hw, if_pos rfl]
      exact .inl (upon_of_q (s := ⟨t, h⟩) hd hh' hl (hq S ψ w a.eval hh' fun x _ => ev_rel hl x) fun a' w' h => hK _ _ _ hk h)
    · have hw := gA_wanted hg hl
      rw [hw, if_neg (by simp)]
      exact hK _ _ _ hk (undef_rel H o.dst)
theorem wpAny_of_a {n g : Nat} {L : Array Bool → List AV → Prop} {Q' : Exit → Act → World → Prop} (hL : ∀ listed t a w, L listed t → St.rel C ⟨t, h⟩ a w → wpAny P md ops Q' g listed a w) :
    ∀ (f : Nat) (listed : Array Bool) (t : List AV) (a : Act) (w : World), aAny P C md ops h n L f listed t → St.rel C ⟨t, h⟩ a w → wpAny P md ops Q' (f + g) listed a w
  | 0, listed, t, a, w, hh, H => by rw [Nat.zero_add]; exact hL _ _ _ _ hh H
  | f + 1, listed, t, a, w, hh, H => by
    rw [show f + 1 + g = (f + g) + 1 by omega]
    exact ⟨fun h0 => absurd h0 hh.1, fun i hi => wpOp_of_aOp H (fun t' a' w' h' H' => wpAny_of_a hL f _ t' a' w' h' H') (hh.2 i hi).2⟩

theorem evA_put {t : List AV} {dst : Option Tmp} {r : AV} {x : Operand} (hx : ∀ d, dst = some d → x ≠ .tmp d) : evA (putA t dst r) x = evA t x := by
  cases dst with
  | none => rfl
  | some d =>
    cases x with
    | tmp i =>
      have : d ≠ i := fun e => hx d rfl (by rw [e])
      simp [evA, putA, List.getElem?_set_ne this]
    | _ => rfl
theorem quiet_put {o : Oper} {t : List AV} {dst : Option Tmp} {u r : AV} (hdst : ∀ d, dst = some d → d ∉ o.looksAt ops) : Quiet P C (putA t dst u) h o r ↔ Quiet P C t h o r := by
  have key : ∀ x ∈ o.op.operands, evA (putA t dst u) x = evA t x := fun x hx => evA_put fun d hd hxd => hdst d hd (by
    subst hxd
    exact List.mem_append_left _ (List.mem_filterMap.2 ⟨.tmp d, by simpa using hx, rfl⟩))
  constructor
  · intro H S ψ w ρ h1 h2
    exact H S ψ w ρ h1 fun x hx => by rw [key x hx]; exact h2 x hx
  · intro H S ψ w ρ h1 h2
    exact H S ψ w ρ h1 fun x hx => by rw [← key x hx]; exact h2 x hx
theorem gA_put {o : Oper} {t : List AV} {dst : Option Tmp} {u : AV} (hdst : ∀ d, dst = some d → d ∉ o.looksAt ops) : gA ops (putA t dst u) o = gA ops t o := by
  cases dst with
  | none => rfl
  | some d =>
    unfold gA
    cases hg : o.guard with
    | none => rfl
    | some p =>
      obtain ⟨j, want⟩ := p
      simp only
      cases hd : (ops[j]?).bind (·.dst) with
      | none => rfl
      | some k =>
        have : d ≠ k := fun e => hdst d rfl (by
          subst e
          unfold Oper.looksAt
          rw [hg]
          simp only
          rw [hd]
          simp)
        simp [putA, List.getElem?_set_ne this]
theorem aYields_put {o : Oper} {t : List AV} {dst : Option Tmp} {u r : AV} (hdst : ∀ d, dst = some d → d ∉ o.looksAt ops) : aYields P C ops h o r (putA t dst u) ↔ aYields P C ops h o r t := by
  unfold aYields
  rw [gA_put hdst, quiet_put hdst]
theorem putA_comm (t : List AV) {x y : Option Tmp} (v u : AV) (hne : ∀ d, x = some d → y ≠ some d) : putA (putA t x v) y u = putA (putA t y u) x v := by
  cases x with
  | none => rfl
  | some d =>
    cases y with
    | none => rfl
    | some e =>
      have : d ≠ e := fun h => hne d rfl (by rw [h])
      exact List.set_comm _ _ this
theorem aOp_put {j : Nat} {oi oj : Oper} {v : AV} (hj : ops[j]? = some oj) (hap : oi.apart ops oj = true) {K : List AV → Prop} {t : List AV} (hy : aYields P C ops h oi v t) (hh : aOp P C ops h j K (putA t oi.dst v)) :
    aOp P C ops h j (fun t' => aYields P C ops h oi v t' ∧ K (putA t' oi.dst v)) t := by
  obtain ⟨h1, h2, h3⟩ := Oper.apart_spec hap
  unfold aOp at *
  simp only [hj] at *
  obtain ⟨r, hr, hk⟩ := hh
  exact ⟨r, (aYields_put h1).1 hr, (aYields_put h3).2 hy, by rw [← putA_comm t v r h2]; exact hk⟩
theorem aAny_first {n i : Nat} {oi : Oper} {v : AV} {L : Array Bool → List AV → Prop} (hi : ops[i]? = some oi)
    (htail : ∀ listed i, HeadInv md ops n listed → i < n → listed.getD i true = false → ∀ t, n ≤ t → t ∉ Region.ready md ops listed) (hin : i < n)
    (hdone : ∀ listed t, L listed t → ∀ j ∈ Region.ready md ops listed, n ≤ j) :
    ∀ (f : Nat) (listed : Array Bool) (t : List AV), HeadInv md ops n listed →
      (∀ j oj, ops[j]? = some oj → j ≠ i → listed.getD j true = false → (∀ e ∈ oj.after, Region.binds md e = true → e.on ≠ i) → oi.apart ops oj = true) →
      i ∈ Region.ready md ops listed → aYields P C ops h oi v t →
      aAny P C md ops h n L f (listed.setIfInBounds i true) (putA t oi.dst v) → aAny P C md ops h n L (f + 1) listed t := by
  intro f
  induction f with
  | zero =>
    intro listed t inv _ hr hy H
    have hun := (mem_ready.1 hr).1
    refine ⟨fun h => (by rw [h] at hr; cases hr), fun j hj => ?_⟩
    have hjn : j < n := by
      rcases Nat.lt_or_ge j n with h | h
      · exact h
      · exact absurd hj (htail _ i inv hin hun j h)
    refine ⟨hjn, ?_⟩
    by_cases hji : j = i
    · subst hji
      unfold aOp
      simp only [hi]
      exact ⟨v, hy, H⟩
    · have := hdone _ _ H j (ready_mono hj hji)
      omega
  | succ f ih =>
    intro listed t inv hfree hr hy H
    have hun := (mem_ready.1 hr).1
    refine ⟨fun h => (by rw [h] at hr; cases hr), fun j hj => ?_⟩
    have hjn : j < n := by
      rcases Nat.lt_or_ge j n with h | h
      · exact h
      · exact absurd hj (htail _ i inv hin hun j h)
    refine ⟨hjn, ?_⟩
    by_cases hji : j = i
    · subst hji
      unfold aOp
      simp only [hi]
      exact ⟨v, hy, H⟩
    · have h1 := (H.2 j (ready_mono hj hji)).2
      obtain ⟨hjun, oj, hoj, hall⟩ := mem_ready.1 hj
      have hnot : ∀ e ∈ oj.after, Region.binds md e = true → e.on ≠ i := fun e he hb heq => by
        have h1 := hall e he hb
        rw [heq, getD_both hun] at h1
        cases h1
      have h2 := aOp_put hoj (hfree j oj hoj hji hjun hnot) hy h1
      have hfree' : ∀ k ok, ops[k]? = some ok → k ≠ i → (listed.setIfInBounds j true).getD k true = false →
          (∀ e ∈ ok.after, Region.binds md e = true → e.on ≠ i) → oi.apart ops ok = true := fun k ok hk hki hun hno => by
        refine hfree k ok hk hki ?_ hno
        by_cases hjk : j = k
        · subst hjk; exact hjun
        · rw [getD_set_ne true hjk] at hun; exact hun
      refine aOp_mono (fun a' h3 => ih (listed.setIfInBounds j true) a' (inv.set hj hjn) hfree' (ready_mono hr (Ne.symm hji)) h3.1 ?_) h2
      rw [Array.setIfInBounds_comm _ _ hji]
      exact h3.2

/-- the walk of a region's first operations, one by one as they stand -/
def aQ (P : Program) (C : Ctx) (ops : Array Oper) (h : List ABlk) (K : List AV → Prop) : List Oper → List AV → Prop
  | [], t => K t
  | o :: rest, t => ∃ r, aYields P C ops h o r t ∧ aQ P C ops h K rest (putA t o.dst r)
theorem aAny_lex {n g : Nat} {Lq : List AV → Prop} (htail : ∀ listed i, HeadInv md ops n listed → i < n → listed.getD i true = false → ∀ t, n ≤ t → t ∉ Region.ready md ops listed) :
    ∀ (l : List Oper) (k : Nat) (listed : Array Bool) (t : List AV), (∀ j, j < l.length → l[j]? = ops[k + j]?) → k + l.length = n → HeadInv md ops n listed →
    Region.lexHead md ops g l.length k listed = true → aQ P C ops h Lq l t →
    aAny P C md ops h n (fun listed' t' => Region.seqB md ops g n listed' = true ∧ Lq t') l.length listed t
  | [], k, listed, t, _, hk, _, hB, hh => by
    have : k = n := by simpa using hk
    subst this
    exact ⟨by simpa [Region.lexHead] using hB, hh⟩
  | o :: l, k, listed, t, hl, hk, inv, hB, hh => by
    have h0 : ops[k]? = some o := by simpa using (hl 0 (by simp)).symm
    simp only [List.length_cons, Region.lexHead, Bool.and_eq_true] at hB
    obtain ⟨⟨hr, hf⟩, hB'⟩ := hB
    have hkn : k < n := by simp only [List.length_cons] at hk; omega
    have hr' : k ∈ Region.ready md ops listed := by simpa using hr
    obtain ⟨v, hy, hK⟩ := hh
    exact aAny_first h0 htail hkn (fun listed' a' hL => seqB_ready hL.1) l.length listed t inv (Region.free_spec h0 hf) hr' hy
      (aAny_lex htail l (k + 1) _ _ (fun j hj => by have := hl (j + 1) (by simp; omega); simpa [Nat.add_assoc, Nat.add_comm 1 j] using this) (by simp only [List.length_cons] at hk; omega) (inv.set hr' hkn) hB' hK)
def regB (ops : Array Oper) (n : Nat) : Bool :=
  (Region.noSelect ops && noDefer ops) && decide (n ≤ ops.size) && (n == ops.size || (Region.sinkB .any ops n && Region.chainB .any ops n)) && Region.lexHead .any ops (ops.size - n) n 0 (Array.replicate ops.size false)
end
theorem Awp.draw {id : Nat} {l : List Oper} {Q : Exit → St → Prop} {s : St} (n : Nat) (hm : P.follows .mixedOrders = true) (hB : regB l.toArray n = true)
    (hh : aQ P C l.toArray s.h (fun t => aSeq P C l.toArray (Q .normal) (l.drop n) ⟨t, s.h⟩) (l.take n) s.t) : Awp P C (.region id l.toArray true) Q s := fun a w H => by
  simp only [regB, Bool.and_eq_true, decide_eq_true_eq, Bool.or_eq_true, beq_iff_eq] at hB
  obtain ⟨⟨⟨⟨hsel, hnd⟩, hn⟩, hs⟩, hlex⟩ := hB
  have hn' : n ≤ l.length := by simpa using hn
  have htl : (l.take n).length = n := by simp; omega
  have hdl : (l.drop n).length = l.toArray.size - n := by simp
  have inv0 : HeadInv .any l.toArray n (Array.replicate l.toArray.size false) :=
    ⟨by simp, fun j oj _ hl => (by rw [getD_replicate_false] at hl; cases hl), fun t _ ht => getD_in (by simpa using ht) (getD_replicate_false _ _)⟩
  have htail : ∀ (listed : Array Bool) (i : Nat), HeadInv .any l.toArray n listed → i < n → listed.getD i true = false → ∀ t, n ≤ t → t ∉ Region.ready .any l.toArray listed := by
    intro listed i inv hi hun t ht
    rcases hs with hs | ⟨hs, hc⟩
    · intro hr
      obtain ⟨_, o, ho, _⟩ := mem_ready.1 hr
      have := (Array.getElem?_eq_some_iff.1 ho).1
      omega
    · by_cases hlt : n < l.toArray.size
      · exact tail_waits hs hc hlt inv _ i rfl hi hun t ht
      · intro hr
        obtain ⟨_, o, ho, _⟩ := mem_ready.1 hr
        have := (Array.getElem?_eq_some_iff.1 ho).1
        omega
  have HH := aAny_lex (md := .any) (g := l.toArray.size - n) htail (l.take n) 0 _ s.t (fun j hj => by
    have hj' : j < n := by rw [htl] at hj; exact hj
    simp [hj']) (by simpa using htl) inv0 (by rw [htl]; exact hlex) hh
  refine fnc_region hm hnd ?_
  have H' : St.rel C ⟨s.t, s.h⟩ a { w with drawn := w.drawn + 1 } := by
    obtain ⟨hd, S, ψ, hh', hl⟩ := H
    have hb : Below w.heap.size w { w with drawn := w.drawn + 1 } := ⟨rfl, rfl, rfl, Nat.le_refl _, fun _ _ => rfl⟩
    exact ⟨hd, S, ψ, hh'.grow hb (fun _ h => h) (fun _ h => .inl h) hh'.lt, AV.relL_ext (show Ext w S s.h ψ { w with drawn := w.drawn + 1 } S s.h ψ from Ext.grow s.h ψ (fun k hk => rfl) fun _ h => h) _ _ hl⟩
  have := wpAny_of_a (Q' := fun e a' w' => e = .normal ∧ ∃ s', Q e s' ∧ s'.rel C a' w') (g := l.toArray.size - n) (fun listed t a' w' hL H' => by
    have := wpAny_of_seq (md := .any) (l.drop n) n listed a' w' (fun j => by simp [List.getElem?_drop]) (by rw [hdl]; exact hL.1) (wpList_of_aSeq (Q' := fun e a' w' => e = .normal ∧ ∃ s', Q e s' ∧ s'.rel C a' w') (fun s a w h H => ⟨rfl, s, h, H⟩) _ _ _ _ hL.2 H')
    rwa [hdl] at this) _ _ _ _ _ HH H'
  rw [htl, show n + (l.toArray.size - n) = l.toArray.size by omega] at this
  exact this
end
end Mu
end
section
/-
  Contracts over abstract values; a function's contract from its walk; a call by its contract.
  Conditions: none; generic.
-/
namespace Mu
open Go Go.RowKit

mutual
def AV.cl : AV → Bool
  | .own _ _ => false
  | .ptr _ _ => false
  | .rp _ _ _ _ => false
  | .agg l => AV.clL l
  | .tup l => AV.clL l
  | .fn _ l => AV.clL l
  | _ => true
def AV.clL : List AV → Bool
  | [] => true
  | x :: l => AV.cl x && AV.clL l
end
section
variable {w : World} {S : Nat → Prop} {h h' : List ABlk} {ψ ψ' : Nat → Value}
mutual
theorem AV.rel_cl : ∀ (x : AV) (v : Value), AV.cl x = true → AV.rel w S h ψ x v → AV.rel w S h' ψ' x v
  | .any, _, _, _ => by unfold AV.rel; trivial
  | .lit u, v, _, H => by unfold AV.rel at H ⊢; exact H
  | .bs T l, v, _, H => by unfold AV.rel at H ⊢; exact H
  | .tv T d, v, _, H => by unfold AV.rel at H ⊢; exact H
  | .own i ver, v, hc, H => by simp [AV.cl] at hc
  | .ptr i off, v, hc, H => by simp [AV.cl] at hc
  | .rp i ver k off, v, hc, H => by simp [AV.cl] at hc
  | .bp T d off, v, _, H => by unfold AV.rel at H ⊢; exact H
  | .agg l, v, hc, H => by
    unfold AV.cl at hc
    unfold AV.rel at H ⊢
    obtain ⟨cs, e, hl⟩ := H
    exact ⟨cs, e, AV.relL_cl l cs hc hl⟩
  | .tup l, v, hc, H => by
    unfold AV.cl at hc
    unfold AV.rel at H ⊢
    obtain ⟨cs, e, hl⟩ := H
    exact ⟨cs, e, AV.relL_cl l cs hc hl⟩
  | .fn f l, v, hc, H => by
    unfold AV.cl at hc
    unfold AV.rel at H ⊢
    obtain ⟨cs, e, hl⟩ := H
    exact ⟨cs, e, AV.relL_cl l cs hc hl⟩
theorem AV.relL_cl : ∀ (l : List AV) (cs : List Value), AV.clL l = true → AV.relL w S h ψ l cs → AV.relL w S h' ψ' l cs
  | [], cs, _, H => by unfold AV.relL at H ⊢; exact H
  | x :: l, cs, hc, H => by
    unfold AV.clL at hc
    rw [Bool.and_eq_true] at hc
    unfold AV.relL at H ⊢
    obtain ⟨v, vs, e, h1, h2⟩ := H
    exact ⟨v, vs, e, AV.rel_cl x v hc.1 h1, AV.relL_cl l vs hc.2 h2⟩
end
end

def ψ0 : Nat → Value := fun _ => undef
def Enters (P : Program) (f : FuncId) : Bool :=
  match P.funcs[f]? with
  | some fn => !(fn.name == "runtime.NumGoroutine") && !fn.body.isNone
  | none => false
/-- called with such values a function returns such a one, and leaves what is there as it is -/
def Fn (P : Program) (f : FuncId) (args : List AV) (r : AV) : Prop :=
  Enters P f = true ∧ ∀ (w : World) (S : Nat → Prop) (vs : List Value), (∀ k, S k → k < w.heap.size) → AV.relL w S [] ψ0 args vs →
    Calls P f vs.toArray w fun e w' => ∃ v, e = .returned v ∧ Good w S [] ψ0 r v w'

theorem relL_map {w : World} {S : Nat → Prop} {h : List ABlk} {ψ : Nat → Value} {t : List AV} {ρ : Operand → Value} : ∀ {l : List Operand}, (∀ x ∈ l, AV.rel w S h ψ (evA t x) (ρ x)) → AV.relL w S h ψ (l.map (evA t)) (l.map ρ)
  | [], _ => by unfold AV.relL; rfl
  | x :: l, H => by
    simp only [List.map_cons]
    unfold AV.relL
    exact ⟨_, _, rfl, H x (by simp), relL_map fun y hy => H y (by simp [hy])⟩
theorem run_call {P : Program} {o : Oper} {f : FuncId} {args : Array Operand} {tys : Array TypeId} (ho : o.op = .call { callee := .value (.func f), args := args, argTypes := tys }) (hE : Enters P f = true) (ρ : Operand → Value) (w : World) (hρ : ρ (.func f) = .func (.func f) #[] #[]) :
    (execOp ρ o).run P w = .ok (.enter f (args.map ρ)) w := by
  unfold Enters at hE
  cases hf : P.funcs[f]? with
  | none => rw [hf] at hE; cases hE
  | some fn =>
    rw [hf] at hE
    simp only [Bool.and_eq_true, Bool.not_eq_true'] at hE
    have h1 : ¬ fn.name = "runtime.NumGoroutine" := by simpa using hE.1
    have h2 : ¬ fn.body = none := fun e => by have := hE.2; rw [e] at this; cases this
    simp [execOp, ho, resolve, Deferred.ofValue, hρ, invoke, callFunc, hf, h1, h2]
theorem Quiet.call {P : Program} {C : Ctx} {t : List AV} {h : List ABlk} {o : Oper} {f : FuncId} {args : Array Operand} {tys : Array TypeId} {xs : List AV} {r : AV}
    (ho : o.op = .call { callee := .value (.func f), args := args, argTypes := tys }) (hF : Fn P f xs r) (hx : args.toList.map (evA t) = xs) (hc : AV.clL xs = true) (hr : AV.cl r = true) : Quiet P C t h o r := by
  intro S ψ w ρ H hρ
  have h1 : ρ (.func f) = .func (.func f) #[] #[] := by
    have := hρ (.func f) (by rw [ho]; exact Array.mem_append.2 (.inl (by simp)))
    simpa [evA, AV.rel] using this
  rw [run_call ho hF.1 ρ w h1]
  refine ⟨rfl, ?_⟩
  have h2 : AV.relL w S h ψ xs (args.toList.map ρ) := by
    rw [← hx]
    exact relL_map fun x hx' => hρ x (by rw [ho]; exact Array.mem_append.2 (.inr (Array.mem_toList_iff.1 hx')))
  have h3 := hF.2 w S (args.toList.map ρ) H.lt (AV.relL_cl _ _ hc h2)
  rw [show (args.map ρ) = (args.toList.map ρ).toArray from (by rw [← Array.toList_map])]
  refine h3.mono ?_
  rintro e w' ⟨v, he, hb, S', k1, k2, k3, k4⟩
  exact ⟨v, he, hb, S', k1, k2, k3, AV.rel_cl _ _ hr k4⟩

/-- what a result comes to, when the call is over -/
def Fin (h : List ABlk) (x r : AV) : Prop := mkD h = [] ∧
  ∀ (C : Ctx) (S : Nat → Prop) (ψ : Nat → Value) (w : World) (v : Value), C.std → HRel C h S ψ w → AV.rel w S h ψ x v →
    ∃ S' : Nat → Prop, (∀ k, S k → S' k) ∧ (∀ k, S' k → S k ∨ C.w0.heap.size ≤ k) ∧ (∀ k, S' k → k < w.heap.size) ∧ AV.rel w S' [] ψ0 r v
theorem Fin.cl {h : List ABlk} {r : AV} (hr : AV.cl r = true) (hm : mkD h = [] := by rfl) : Fin h r r := ⟨hm, fun C S ψ w v _ H hv => ⟨S, fun _ h => h, fun _ h => .inl h, H.lt, AV.rel_cl _ _ hr hv⟩⟩
theorem Fin.own {h : List ABlk} {i ver : Nat} {e : TypeId} {α : Type} {T : Ty α} {l : List α} (hi : h[i]? = some (.row ver e T l)) (hm : mkD h = [] := by rfl) : Fin h (.own i ver) (.bs T l) := ⟨hm, fun C S ψ w v hC H hv => by
  unfold AV.rel at hv
  have hv' := (hv.2 _ (by rw [hi]; rfl)).2 rfl
  subst hv'
  obtain ⟨cells, h1, h0, h2, h3⟩ := H.blk i _ hi
  refine ⟨fun k => S k ∨ (ψ i).ownBlock = some k, fun _ h => .inl h, fun k hk => ?_, fun k hk => ?_, ?_⟩
  · rcases hk with hk | hk
    · exact .inl hk
    · exact .inr (Nat.le_of_not_lt fun hlt => (h3 k hk).1 (hC k hlt))
  · rcases hk with hk | hk
    · exact H.lt k hk
    · exact (World.ownsRow.lt h1 k hk).2
  · unfold AV.rel
    exact own_slice h1 (fun i d hd => T.keepS (h2 i d hd) (fun _ _ => rfl) fun _ h => .inl h) fun g hg => .inr hg⟩
def Rets (t : Tmp) (r : AV) : Exit → St → Prop := fun e s => (e = .normal ∨ e = .ret) ∧ Fin s.h (evA s.t (.tmp t)) r
theorem start_rel {w : World} {S : Nat → Prop} {args : List AV} {vs : List Value} {n : Nat} (hS : ∀ k, S k → k < w.heap.size) (hr : AV.relL w S [] ψ0 args vs) :
    St.rel ⟨w, S, fun k => k < w.heap.size, none⟩ ⟨args ++ List.replicate (n - args.length) (.lit undef), []⟩ { tmps := vs.toArray ++ Array.replicate (n - vs.toArray.size) undef, defers := [] } w := by
  refine ⟨rfl, S, ψ0, ⟨Kp.refl _ _, fun _ h => h, hS, fun _ h => h, fun _ h => .inl h, fun i b hi => by simp at hi, fun i j _ hi => by simp [ABlk.live] at hi⟩, ?_⟩
  simp only [Array.toList_append, Array.toList_replicate, List.size_toArray]
  refine relL_append hr (relL_of (by simp [relL_len hr]) fun i x v hx hv => ?_)
  rw [List.getElem?_replicate] at hx hv
  split at hx <;> cases hx
  split at hv <;> cases hv
  unfold AV.rel
  rfl
theorem good_final {w : World} {S : Nat → Prop} {s : St} {w' : World} {x r : AV} {v : Value} {S1 : Nat → Prop} {ψ : Nat → Value} (H : HRel ⟨w, S, fun k => k < w.heap.size, none⟩ s.h S1 ψ w') (hf : Fin s.h x r) (hv : AV.rel w' S1 s.h ψ x v) : Good w S [] ψ0 r v w' := by
  obtain ⟨S', k1, k2, k3, k4⟩ := hf.2 _ _ _ _ _ (fun _ h => h) H hv
  refine ⟨H.bel.below fun _ h => h, S', fun k hk => k1 k (H.sub k hk), fun k hk => ?_, k3, k4⟩
  rcases k2 k hk with h1 | h1
  · exact H.new k h1
  · exact .inr h1
theorem Fn.of_awp {P : Program} {f : FuncId} {fn : Go.Func} {c : Code} {args : List AV} {r : AV} {t : Tmp} {n : Nat} (hf : P.funcs[f]? = some fn) (hb : fn.body = some c) (hE : Enters P f = true) (hres : fn.results = #[.tmp t]) (hn : fn.ntmps = n)
    (h : ∀ C : Ctx, C.std → Awp P C c (Rets t r) ⟨args ++ List.replicate (n - args.length) (.lit undef), []⟩) : Fn P f args r := by
  refine ⟨hE, fun w S vs hS hr => calls_of_wp hf hb ?_⟩
  rw [hn]
  refine wp_mono ((h ⟨w, S, fun k => k < w.heap.size, none⟩ (fun _ h => h)).wp rfl (start_rel hS hr)) ?_
  rintro e a' w' ⟨s, ⟨he, hfin⟩, hd, S1, ψ, H, hl⟩
  rw [hfin.1] at hd
  have hv := ev_rel hl (.tmp t)
  have hg := good_final H hfin hv
  have hres' : (results fn a'.tmps).run P w' = .ok (a'.eval (.tmp t)) w' := results_tmp hres _ _ _
  rcases he with rfl | rfl
  · exact ⟨hd, _, hres', _, rfl, hg⟩
  · exact ⟨hd, _, hres', _, rfl, hg⟩
end Mu
end
section
/-
  Operations that leave the call's own memory alone: what each yields.
  Conditions: none; generic.
-/
namespace Mu
open Go Go.RowKit Go.ChangeShapes Go.WideShapes

/-- data's cells, written out -/
def Enc {α : Type} (T : Ty α) (enc : α → List AV) : Prop := ∀ (w : World) (S : Nat → Prop) (h : List ABlk) (ψ : Nat → Value) (cs : List Value) (d : α), T.RS w S cs d → AV.relL w S h ψ (enc d) cs
section
variable {P : Program} {C : Ctx} {t : List AV} {h : List ABlk} {o : Oper}
variable {w : World} {S : Nat → Prop} {ψ : Nat → Value}

theorem enc_int (k : IntKind) : Enc (Ty.int k) fun d => [.lit (.int k d)] := by
  rintro w S h ψ cs d ⟨rfl, _⟩
  simp [AV.relL, AV.rel]
theorem enc_slice {α : Type} (T : Ty α) : Enc T.slice fun l => [.bs T l] := by
  intro w S h ψ cs d H
  obtain ⟨A, c, rfl, _⟩ := id H
  unfold AV.relL
  refine ⟨_, _, rfl, ?_, ?_⟩
  · unfold AV.rel
    exact H
  · unfold AV.relL
    rfl

theorem Quiet.of_run {r : AV} (H : ∀ S ψ w (ρ : Operand → Value), HRel C h S ψ w → (∀ x ∈ o.op.operands, AV.rel w S h ψ (evA t x) (ρ x)) → ∃ v, (execOp ρ o).run P w = .ok (.value v) w ∧ AV.rel w S h ψ r v) : Quiet P C t h o r := by
  intro S ψ w ρ h1 h2
  obtain ⟨v, e, hv⟩ := H S ψ w ρ h1 h2
  rw [e]
  exact Good.same h1.lt hv

theorem Quiet.move {x : Operand} {r : AV} (ho : o.op = .move x) (hx : evA t x = r) : Quiet P C t h o r :=
  Quiet.of_run fun S ψ w ρ _ hρ => ⟨ρ x, by simp [execOp, ho], by rw [← hx]; exact hρ x (by simp [ho, Op.operands])⟩
theorem Quiet.assign {x : Operand} {r : AV} (ho : o.op = .assign x) (hx : evA t x = r) : Quiet P C t h o r :=
  Quiet.of_run fun S ψ w ρ _ hρ => ⟨ρ x, by simp [execOp, ho], by rw [← hx]; exact hρ x (by simp [ho, Op.operands])⟩
theorem Quiet.pick {c a b : Operand} {q : Bool} {r : AV} (ho : o.op = .pick c a b) (hc : evA t c = .lit (.bool q)) (hr : (if q then evA t a else evA t b) = r) : Quiet P C t h o r :=
  Quiet.of_run fun S ψ w ρ _ hρ => by
    have h1 := hρ c (by simp [ho, Op.operands])
    have h2 := hρ a (by simp [ho, Op.operands])
    have h3 := hρ b (by simp [ho, Op.operands])
    rw [hc] at h1
    unfold AV.rel at h1
    cases q
    · exact ⟨ρ b, by simp [execOp, ho, h1, asBool], by rw [← hr]; exact h3⟩
    · exact ⟨ρ a, by simp [execOp, ho, h1, asBool], by rw [← hr]; exact h2⟩
/-- integers -/
def intBin (op : BinOp) (k : IntKind) (a b : Int) : Option Value :=
  match op with
  | .add => some (.int k (k.wrap (a + b)))
  | .sub => some (.int k (k.wrap (a - b)))
  | .mul => some (.int k (k.wrap (a * b)))
  | .eql => some (.bool (a == b))
  | .neq => some (.bool (a != b))
  | .lss => some (.bool (decide (a < b)))
  | .leq => some (.bool (decide (a ≤ b)))
  | .gtr => some (.bool (decide (a > b)))
  | .geq => some (.bool (decide (a ≥ b)))
  | .quo => if b = 0 then none else some (.int k (k.wrap (a.tdiv b)))
  | .rem => if b = 0 then none else some (.int k (a.tmod b))
  | _ => none
theorem Quiet.bin {op : BinOp} {xt yt : TypeId} {x y : Operand} {k : IntKind} {a b : Int} {v : Value} (ho : o.op = .binOp op xt x y yt) (hx : evA t x = .lit (.int k a)) (hy : evA t y = .lit (.int k b)) (hv : intBin op k a b = some v) : Quiet P C t h o (.lit v) :=
  Quiet.of_run fun S ψ w ρ _ hρ => by
    have h1 := hρ x (by simp [ho, Op.operands])
    have h2 := hρ y (by simp [ho, Op.operands])
    rw [hx] at h1
    rw [hy] at h2
    unfold AV.rel at h1 h2
    refine ⟨v, ?_, by unfold AV.rel; rfl⟩
    cases op <;> simp only [intBin, Option.some.injEq, reduceCtorEq] at hv
    case quo =>
      split at hv <;> simp only [Option.some.injEq, reduceCtorEq] at hv
      rename_i hb
      subst hv
      simp [execOp, ho, h1, h2, eqGuard, binOp, Op.intDiv, hb]
    case rem =>
      split at hv <;> simp only [Option.some.injEq, reduceCtorEq] at hv
      rename_i hb
      subst hv
      simp [execOp, ho, h1, h2, eqGuard, binOp, Op.intDiv, hb]
    all_goals
      subst hv
      simp [execOp, ho, h1, h2, eqGuard, binOp, Op.intArith, Op.intCmp]
theorem Quiet.add64 {xt yt : TypeId} {x y : Operand} {a b : Int} (ho : o.op = .binOp .add xt x y yt) (hx : evA t x = .lit (.int .i64 a)) (hy : evA t y = .lit (.int .i64 b)) (hb : -9223372036854775808 ≤ a + b ∧ a + b ≤ 9223372036854775807) : Quiet P C t h o (.lit (.int .i64 (a + b))) := by
  have := Quiet.bin (P := P) (C := C) (h := h) ho hx hy (v := .int .i64 (a + b)) (by simp only [intBin]; rw [IntWalk.i64_in _ ⟨by omega, by omega⟩])
  exact this
theorem Quiet.bnot {xt : TypeId} {x : Operand} {b : Bool} (ho : o.op = .unOp .not xt x) (hx : evA t x = .lit (.bool b)) : Quiet P C t h o (.lit (.bool (!b))) :=
  Quiet.of_run fun S ψ w ρ _ hρ => by
    have h1 := hρ x (by simp [ho, Op.operands])
    rw [hx] at h1
    unfold AV.rel at h1
    exact ⟨_, by simp [execOp, ho, h1, Op.unary]; rfl, by unfold AV.rel; rfl⟩

/-! ### addresses -/
def aggT (P : Program) (ty : TypeId) : Option (Bool × Nat) :=
  match P.underlying ty, P.info? ty with
  | some (.struct _), some i => some (true, i.size)
  | some (.array _ _), some i => some (true, i.size)
  | some _, some i => some (false, i.size)
  | _, _ => none
theorem run_loadCells_at {b o : Nat} {cs : List Value} (w : World) (hc : ∀ j u, cs[j]? = some u → w.cell? ⟨b, o + j, none⟩ = some u) : (loadCells ⟨b, o, none⟩ cs.length).run P w = .ok cs.toArray w :=
  run_loadCells_list w _ cs fun j v hv => by
    have := hc j v hv
    unfold Addr.add
    split
    · rename_i hz
      subst hz
      exact this
    · exact this
/-- from cells in memory to what a load yields -/
theorem run_load_agg {ty : TypeId} {n b off : Nat} {cs : List Value} {w : World} (ha : aggT P ty = some (true, n)) (hn : cs.length = n) (hc : ∀ j u, cs[j]? = some u → w.cell? ⟨b, off + j, none⟩ = some u) :
    (Instr.loadAt ty (.pointer (some ⟨b, off, none⟩))).run P w = .ok (.agg cs.toArray) w := by
  have hl := run_loadCells_at (P := P) w hc
  rw [hn] at hl
  unfold aggT at ha
  split at ha <;> simp only [Option.some.injEq, Prod.mk.injEq, reduceCtorEq, Bool.true_eq_false, Bool.false_eq_true, false_and, true_and] at ha
  · rename_i h1 h2
    simp [Instr.loadAt, Instr.sureAddr, loadVar, isAgg, underlying, h1, Go.sizeOf, typeInfo, h2, ha, hl]
  · rename_i h1 h2
    simp [Instr.loadAt, Instr.sureAddr, loadVar, isAgg, underlying, h1, Go.sizeOf, typeInfo, h2, ha, hl]
theorem run_load_one {ty : TypeId} {n b off : Nat} {u : Value} {w : World} (ha : aggT P ty = some (false, n)) (hc : w.cell? ⟨b, off, none⟩ = some u) :
    (Instr.loadAt ty (.pointer (some ⟨b, off, none⟩))).run P w = .ok u w := by
  unfold aggT at ha
  split at ha <;> simp only [Option.some.injEq, Prod.mk.injEq, reduceCtorEq, Bool.true_eq_false, Bool.false_eq_true, false_and, true_and] at ha
  rename_i d i hs hi h1 h2
  have : (isAgg ty).run P w = .ok false w := by
    unfold isAgg underlying
    simp only [Sem.run_bind, run_program, Result.andThen_ok, h1]
    cases d <;> first | rfl | exact absurd rfl (hs _) | exact absurd rfl (hi _ _)
  simp [Instr.loadAt, Instr.sureAddr, loadVar, this, hc]

/-- the cells from an address on -/
def CellsOf (h : List ABlk) (x : AV) (cells : List AV) : Prop := ∀ (C : Ctx) (S : Nat → Prop) (ψ : Nat → Value) (w : World) (v : Value), HRel C h S ψ w → AV.rel w S h ψ x v →
  ∃ b off, v = .pointer (some ⟨b, off, none⟩) ∧ ∀ j y, cells[j]? = some y → ∃ u, w.cell? ⟨b, off + j, none⟩ = some u ∧ AV.rel w S h ψ y u
/-- an address so much further on -/
def Shift (h : List ABlk) (x : AV) (n : Nat) (y : AV) : Prop := ∀ (C : Ctx) (S : Nat → Prop) (ψ : Nat → Value) (w : World) (v : Value), HRel C h S ψ w → AV.rel w S h ψ x v →
  ∃ b off, v = .pointer (some ⟨b, off, none⟩) ∧ AV.rel w S h ψ y (.pointer (some ⟨b, off + n, none⟩))
theorem CellsOf.ptr {i off : Nat} {cells : List AV} (hi : h[i]? = some (.box cells)) : CellsOf h (.ptr i off) (cells.drop off) := fun C S ψ w v H hv => by
  unfold AV.rel at hv
  obtain ⟨g, h1, rfl⟩ := hv.2 (by rw [hi]; rfl)
  obtain ⟨g', cs, e, h2, _, _, h3, h4⟩ := H.blk i _ hi
  rw [h1] at h2
  cases h2
  refine ⟨g, off, rfl, fun j y hy => ?_⟩
  rw [List.getElem?_drop] at hy
  obtain ⟨u, h5, h6⟩ := relL_get h4 hy
  exact ⟨u, by simp [World.cell?, h3, h5], h6⟩
theorem Shift.ptr {i off n : Nat} {cells : List AV} (hi : h[i]? = some (.box cells)) : Shift h (.ptr i off) n (.ptr i (off + n)) := fun C S ψ w v H hv => by
  unfold AV.rel at hv ⊢
  obtain ⟨g, h1, rfl⟩ := hv.2 (by rw [hi]; rfl)
  exact ⟨g, off, rfl, hv.1, fun _ => ⟨g, h1, rfl⟩⟩
theorem CellsOf.bp {α : Type} {T : Ty α} {d : α} {off : Nat} {enc : α → List AV} (E : Enc T enc) : CellsOf h (.bp T d off) ((enc d).drop off) := fun C S ψ w v H hv => by
  unfold AV.rel at hv
  obtain ⟨b, o, rfl, hS, cs, hR, hc⟩ := hv
  refine ⟨b, o + off, rfl, fun j y hy => ?_⟩
  rw [List.getElem?_drop] at hy
  obtain ⟨u, h5, h6⟩ := relL_get (E w S h ψ cs d hR) hy
  exact ⟨u, by rw [Nat.add_assoc]; exact hc _ _ h5, h6⟩
theorem Shift.bp {α : Type} {T : Ty α} {d : α} {off n : Nat} : Shift h (.bp T d off) n (.bp T d (off + n)) := fun C S ψ w v H hv => by
  unfold AV.rel at hv
  obtain ⟨b, o, rfl, hat⟩ := hv
  exact ⟨b, o + off, rfl, by unfold AV.rel; exact ⟨b, o, by rw [Nat.add_assoc], hat⟩⟩
theorem CellsOf.rp {α : Type} {T : Ty α} {i ver k off : Nat} {e : TypeId} {l : List α} {d : α} {enc : α → List AV} (hi : h[i]? = some (.row ver e T l)) (hk : l[k]? = some d) (E : Enc T enc) : CellsOf h (.rp i ver k off) ((enc d).drop off) := fun C S ψ w v H hv => by
  unfold AV.rel at hv
  obtain ⟨g, n, c, h1, rfl⟩ := (hv.2 _ (by rw [hi]; rfl)).2 rfl
  obtain ⟨cells, h2, h0, h3, _⟩ := H.blk i _ hi
  rw [h1] at h2
  refine ⟨g, _, rfl, fun j y hy => ?_⟩
  rw [List.getElem?_drop] at hy
  obtain ⟨u, h5, h6⟩ := relL_get (E w S h ψ _ d (h3 k d hk)) hy
  have hj : off + j < T.size := by
    have := (List.getElem?_eq_some_iff.1 h5).1
    simp at this
    omega
  rw [List.getElem?_take_of_lt hj, List.getElem?_drop] at h5
  have hkl : k < l.length := (List.getElem?_eq_some_iff.1 hk).1
  have hlt : k * T.size + (off + j) < n * T.size := by
    have hn : n = l.length := by
      rcases h2.2 with ⟨e1, _⟩ | ⟨g', cap, cur, e1, _⟩
      · cases e1
      · cases e1; rfl
    have : (k + 1) * T.size ≤ n * T.size := Nat.mul_le_mul_right _ (by omega)
    rw [Nat.add_mul, Nat.one_mul] at this
    omega
  refine ⟨u, ?_, h6⟩
  have hcell := World.ownsRow.cells h2 (g := g) rfl _ _ h5
  rw [hi]
  show w.cell? ⟨g, k * T.size + off + j, none⟩ = some u
  rw [add_plain, Nat.zero_add, ← Nat.add_assoc] at hcell
  exact hcell
theorem Shift.rp {α : Type} {T : Ty α} {i ver k off n : Nat} {e : TypeId} {l : List α} (hi : h[i]? = some (.row ver e T l)) : Shift h (.rp i ver k off) n (.rp i ver k (off + n)) := fun C S ψ w v H hv => by
  unfold AV.rel at hv ⊢
  obtain ⟨g, m, c, h1, rfl⟩ := (hv.2 _ (by rw [hi]; rfl)).2 rfl
  exact ⟨g, _, rfl, hv.1, fun c' hc' => ⟨(hv.2 c' hc').1, fun _ => ⟨g, m, c, h1, by rw [Nat.add_assoc]⟩⟩⟩

theorem Quiet.load1 {ty : TypeId} {x : Operand} {n : Nat} {a r : AV} {cells : List AV} (ho : o.op = .load ty x) (ha : aggT P ty = some (false, n)) (hx : evA t x = a) (hc : CellsOf h a cells) (hr : cells[0]? = some r) : Quiet P C t h o r :=
  Quiet.of_run fun S ψ w ρ H hρ => by
    have h1 := hρ x (by simp [ho, Op.operands])
    rw [hx] at h1
    obtain ⟨b, off, e, hj⟩ := hc C S ψ w _ H h1
    obtain ⟨u, h2, h3⟩ := hj 0 r hr
    exact ⟨u, by simp [execOp, ho, e, run_load_one ha (by simpa using h2)], h3⟩
theorem Quiet.loadA {ty : TypeId} {x : Operand} {n : Nat} {a : AV} {cells rs : List AV} (ho : o.op = .load ty x) (ha : aggT P ty = some (true, n)) (hx : evA t x = a) (hc : CellsOf h a cells) (hr : cells.take n = rs) (hn : rs.length = n) : Quiet P C t h o (.agg rs) :=
  Quiet.of_run fun S ψ w ρ H hρ => by
    have h1 := hρ x (by simp [ho, Op.operands])
    rw [hx] at h1
    obtain ⟨b, off, e, hj⟩ := hc C S ψ w _ H h1
    have key : ∀ m, m ≤ n → ∃ cs : List Value, cs.length = m ∧ AV.relL w S h ψ (rs.take m) cs ∧ ∀ j u, cs[j]? = some u → w.cell? ⟨b, off + j, none⟩ = some u := by
      intro m
      induction m with
      | zero => exact fun _ => ⟨[], rfl, by simp [AV.relL], by simp⟩
      | succ m ih =>
        intro hm
        obtain ⟨cs, hl, hr1, hr2⟩ := ih (by omega)
        have hy : rs[m]? = some (rs[m]'(by omega)) := List.getElem?_eq_getElem (by omega)
        have hy0 : rs[m]? = cells[m]? := by rw [← hr, List.getElem?_take_of_lt (by omega)]
        have hy' : cells[m]? = some (rs[m]'(by omega)) := hy0.symm.trans hy
        obtain ⟨u, h2, h3⟩ := hj m _ hy'
        refine ⟨cs ++ [u], by simp [hl], ?_, fun j v hv => ?_⟩
        · rw [List.take_succ_eq_append_getElem (by omega)]
          refine relL_append hr1 ?_
          unfold AV.relL
          refine ⟨u, [], rfl, h3, ?_⟩
          unfold AV.relL
          rfl
        · by_cases hjm : j < m
          · exact hr2 j v (by rwa [List.getElem?_append_left (by omega)] at hv)
          · have : j = m := by
              have := (List.getElem?_eq_some_iff.1 hv).1
              simp [hl] at this
              omega
            subst this
            rw [List.getElem?_append_right (by omega), hl] at hv
            simp at hv
            subst hv
            exact h2
    obtain ⟨cs, hl, hr1, hr2⟩ := key n (Nat.le_refl _)
    rw [List.take_of_length_le (by omega)] at hr1
    refine ⟨.agg cs.toArray, by simp [execOp, ho, e, run_load_agg ha hl hr2], ?_⟩
    unfold AV.rel
    exact ⟨cs, rfl, hr1⟩

def fieldOff (P : Program) (st : TypeId) (j : Nat) : Option Nat :=
  match P.underlying st with
  | some (.struct fs) =>
    match fs[j]? with
    | some f => match P.info? f.type with
      | some i => if i.size = 0 then none else some f.offset
      | none => none
    | none => none
  | _ => none
theorem run_fieldAt {st : TypeId} {j n b off : Nat} {w : World} (hf : fieldOff P st j = some n) : (Instr.fieldAt st (.pointer (some ⟨b, off, none⟩)) j).run P w = .ok (.pointer (some ⟨b, off + n, none⟩)) w := by
  unfold fieldOff at hf
  split at hf <;> try (cases hf; done)
  rename_i fs h1
  split at hf <;> try (cases hf; done)
  rename_i f h2
  split at hf <;> try (cases hf; done)
  rename_i i h3
  split at hf <;> try (cases hf; done)
  rename_i h4
  cases hf
  simp [Instr.fieldAt, underlying, h1, h2, Instr.sureAddr, fieldPlace, Go.sizeOf, typeInfo, h3, h4, add_plain]
theorem Quiet.fieldAddr {st : TypeId} {x : Operand} {j n : Nat} {a r : AV} (ho : o.op = .fieldAddr st x j) (hf : fieldOff P st j = some n) (hx : evA t x = a) (hs : Shift h a n r) : Quiet P C t h o r :=
  Quiet.of_run fun S ψ w ρ H hρ => by
    have h1 := hρ x (by simp [ho, Op.operands])
    rw [hx] at h1
    obtain ⟨b, off, e, hr⟩ := hs C S ψ w _ H h1
    exact ⟨_, by simp [execOp, ho, e, run_fieldAt hf], hr⟩

def elemSz (P : Program) (ty : TypeId) : Option Nat :=
  match P.underlying ty with
  | some (.slice e) => (P.info? e).map (·.size)
  | _ => none
theorem run_indexAt_sl {ty : TypeId} {sz b off n c k : Nat} {ik : IntKind} {w : World} (hs : elemSz P ty = some sz) (hk : k < n) : (Instr.indexAt ty (.slice (some ⟨b, off, none⟩) n c) (.int ik (k : Int))).run P w = .ok (.pointer (some ⟨b, off + k * sz, none⟩)) w := by
  unfold elemSz at hs
  split at hs <;> try (cases hs; done)
  rename_i e h1
  cases h2 : P.info? e with
  | none => rw [h2] at hs; cases hs
  | some i =>
    rw [h2] at hs
    simp only [Option.map_some, Option.some.injEq] at hs
    have h3 : (0 : Int) ≤ (k : Int) ∧ (k : Int) < (n : Int) := by omega
    simp [Instr.indexAt, asIntOf, underlying, h1, Go.sizeOf, typeInfo, h2, hs, add_plain, hk]
theorem Quiet.index_bs {ty : TypeId} {x y : Operand} {ik : IntKind} {n : Int} {α : Type} {T : Ty α} {l : List α} {d : α} (ho : o.op = .indexAddr ty x y) (hs : elemSz P ty = some T.size) (hx : evA t x = .bs T l) (hy : evA t y = .lit (.int ik n)) (h0 : 0 ≤ n) (hd : l[n.toNat]? = some d) :
    Quiet P C t h o (.bp T d 0) :=
  Quiet.of_run fun S ψ w ρ H hρ => by
    have h1 := hρ x (by simp [ho, Op.operands])
    have h2 := hρ y (by simp [ho, Op.operands])
    rw [hx] at h1
    rw [hy] at h2
    unfold AV.rel at h1 h2
    obtain ⟨A, c, e, hc, -, hi⟩ := h1
    obtain ⟨b, off, rfl, hat⟩ := hi _ _ hd
    have hk : n.toNat < l.length := (List.getElem?_eq_some_iff.1 hd).1
    have hn : n = (n.toNat : Int) := by omega
    simp only [List.cons.injEq, and_true] at e
    have hr := run_indexAt_sl (P := P) (w := w) (b := b) (off := off) (c := c) (ik := ik) hs hk
    rw [← hn] at hr
    refine ⟨_, by simp [execOp, ho, e, h2, hr]; rfl, ?_⟩
    unfold AV.rel
    exact ⟨b, _, rfl, hat⟩
theorem Quiet.index_own {ty : TypeId} {x y : Operand} {ik : IntKind} {n : Int} {i ver : Nat} {e : TypeId} {α : Type} {T : Ty α} {l : List α} (ho : o.op = .indexAddr ty x y) (hx : evA t x = .own i ver) (hi : h[i]? = some (.row ver e T l)) (hs : elemSz P ty = some T.size)
    (hy : evA t y = .lit (.int ik n)) (h0 : 0 ≤ n) (hk : n.toNat < l.length) : Quiet P C t h o (.rp i ver n.toNat 0) :=
  Quiet.of_run fun S ψ w ρ H hρ => by
    have h1 := hρ x (by simp [ho, Op.operands])
    have h2 := hρ y (by simp [ho, Op.operands])
    rw [hx] at h1
    rw [hy] at h2
    unfold AV.rel at h1 h2
    have h3 := (h1.2 _ (by rw [hi]; rfl)).2 rfl
    obtain ⟨cells, hown, h0', -, -⟩ := H.blk i _ hi
    rcases hown.2 with ⟨e1, e2⟩ | ⟨g, cap, cur, e1, -⟩
    · omega
    · have hn : n = (n.toNat : Int) := by omega
      have hr := run_indexAt_sl (P := P) (w := w) (b := g) (off := 0) (n := l.length) (c := cap) (ik := ik) hs hk
      rw [← hn] at hr
      rw [e1] at h3
      refine ⟨_, by simp [execOp, ho, h3, h2, hr]; rfl, ?_⟩
      unfold AV.rel
      refine ⟨h1.1, fun c' hc' => ⟨(h1.2 c' hc').1, fun _ => ⟨g, l.length, cap, e1, ?_⟩⟩⟩
      rw [hi]
      show _ = Value.pointer (some ⟨g, n.toNat * T.size + 0, none⟩)
      simp
def isSlice (P : Program) (ty : TypeId) : Bool :=
  match P.underlying ty with
  | some (.slice _) => true
  | _ => false
theorem run_len {ty ty' : TypeId} {a : Option Addr} {n c : Nat} {w : World} (hs : isSlice P ty = true) : (Builtin.len_ #[ty] ty' #[.slice a n c]).run P w = .ok (.int .i64 (n : Int)) w := by
  unfold isSlice at hs
  split at hs <;> try (cases hs; done)
  rename_i e h1
  simp [Builtin.len_, underlying, h1, goInt]
theorem Quiet.len_bs {ty : TypeId} {x : Operand} {α : Type} {T : Ty α} {l : List α} (ho : o.op = .call { callee := .builtin .len, args := #[x], argTypes := #[ty] }) (hs : isSlice P ty = true) (hx : evA t x = .bs T l) : Quiet P C t h o (.lit (.int .i64 (l.length : Int))) :=
  Quiet.of_run fun S ψ w ρ H hρ => by
    have h1 := hρ x (by simp [ho, Op.operands, Call.operands])
    rw [hx] at h1
    unfold AV.rel at h1
    obtain ⟨A, c, e, -⟩ := h1
    simp only [List.cons.injEq, and_true] at e
    refine ⟨_, by simp [execOp, ho, resolve, invoke, builtin, e, run_len hs]; rfl, ?_⟩
    unfold AV.rel
    rfl
theorem Quiet.len_own {ty : TypeId} {x : Operand} {i ver : Nat} {e : TypeId} {α : Type} {T : Ty α} {l : List α} (ho : o.op = .call { callee := .builtin .len, args := #[x], argTypes := #[ty] }) (hx : evA t x = .own i ver) (hi : h[i]? = some (.row ver e T l)) (hs : isSlice P ty = true) : Quiet P C t h o (.lit (.int .i64 (l.length : Int))) :=
  Quiet.of_run fun S ψ w ρ H hρ => by
    have h1 := hρ x (by simp [ho, Op.operands, Call.operands])
    rw [hx] at h1
    unfold AV.rel at h1
    have h3 := (h1.2 _ (by rw [hi]; rfl)).2 rfl
    obtain ⟨cells, hown, h0', -, -⟩ := H.blk i _ hi
    rcases hown.2 with ⟨e1, e2⟩ | ⟨g, cap, cur, e1, -⟩
    · rw [e1] at h3
      refine ⟨_, by simp [execOp, ho, resolve, invoke, builtin, h3, run_len hs]; rfl, ?_⟩
      unfold AV.rel
      rw [e2]
      rfl
    · rw [e1] at h3
      refine ⟨_, by simp [execOp, ho, resolve, invoke, builtin, h3, run_len hs]; rfl, ?_⟩
      unfold AV.rel
      rfl
theorem Quiet.len_lit {ty : TypeId} {x : Operand} {a : Option Addr} {n c : Nat} (ho : o.op = .call { callee := .builtin .len, args := #[x], argTypes := #[ty] }) (hx : evA t x = .lit (.slice a n c)) (hs : isSlice P ty = true) : Quiet P C t h o (.lit (.int .i64 (n : Int))) :=
  Quiet.of_run fun S ψ w ρ H hρ => by
    have h1 := hρ x (by simp [ho, Op.operands, Call.operands])
    rw [hx] at h1
    unfold AV.rel at h1
    refine ⟨_, by simp [execOp, ho, resolve, invoke, builtin, h1, run_len hs]; rfl, ?_⟩
    unfold AV.rel
    rfl
end
end Mu
end
section
/-
  A slice that is read, as one row of cells; a row of the call's own with one element turned.
  Conditions: none.
-/
namespace Mu
open Go Go.RowKit

theorem chunk_left {cells cs : List Value} {m i sz : Nat} (hl : cells.length = m * sz) (hi : i < m) : ((cells ++ cs).drop (i * sz)).take sz = (cells.drop (i * sz)).take sz := by
  have h1 : (i + 1) * sz ≤ m * sz := Nat.mul_le_mul (by omega) (Nat.le_refl _)
  rw [Nat.succ_mul] at h1
  rw [List.drop_append_of_le_length (by omega), List.take_append_of_le_length (by rw [List.length_drop]; omega)]
theorem chunk_last {cells cs : List Value} {m sz : Nat} (hl : cells.length = m * sz) (hc : cs.length = sz) : ((cells ++ cs).drop (m * sz)).take sz = cs := by
  rw [← hl, List.drop_left, ← hc, List.take_length]

theorem slice_cells {α : Type} {T : Ty α} {w : World} {S : Nat → Prop} {A : Option Addr} {n c : Nat} {ds : List α} (h : T.slice.RS w S [.slice A n c] ds) (h1 : ∀ cs d, T.RS w S cs d → ∀ u ∈ cs, u.oneCell' = true) :
    ∃ cells : List Value, cells.length = n * T.size ∧ (∀ b o, A = some ⟨b, o, none⟩ → ∀ j u, cells[j]? = some u → w.cell? ⟨b, o + j, none⟩ = some u) ∧
      (∀ i d, ds[i]? = some d → T.RS w S ((cells.drop (i * T.size)).take T.size) d) ∧ ∀ u ∈ cells, u.oneCell' = true := by
  obtain ⟨hn, _, _⟩ := slice_len h
  have key : ∀ m, m ≤ ds.length → ∃ cells : List Value, cells.length = m * T.size ∧ (∀ b o, A = some ⟨b, o, none⟩ → ∀ j u, cells[j]? = some u → w.cell? ⟨b, o + j, none⟩ = some u) ∧
      (∀ i d, i < m → ds[i]? = some d → T.RS w S ((cells.drop (i * T.size)).take T.size) d) ∧ ∀ u ∈ cells, u.oneCell' = true := by
    intro m
    induction m with
    | zero => intro _; exact ⟨[], by simp, by simp, by simp, by simp⟩
    | succ m ih =>
      intro hm
      obtain ⟨cells, hl, hc, hr, ho⟩ := ih (by omega)
      have hd : ds[m]? = some ds[m] := List.getElem?_eq_getElem (by omega)
      obtain ⟨b, o, rfl, _, cs, hR, hC⟩ := slice_at h hd
      have hcs := T.len hR
      refine ⟨cells ++ cs, by rw [List.length_append, hl, hcs, Nat.succ_mul], ?_, ?_, ?_⟩
      · intro b' o' e j u hu
        cases e
        rw [List.getElem?_append] at hu
        by_cases hj : j < cells.length
        · rw [if_pos hj] at hu
          exact hc b o rfl j u hu
        · rw [if_neg hj] at hu
          have := hC _ u hu
          rw [show o + m * T.size + (j - cells.length) = o + j from by omega] at this
          exact this
      · intro i d hi hdi
        by_cases e : i = m
        · subst e
          rw [hd] at hdi
          cases hdi
          rw [chunk_last hl hcs]
          exact hR
        · rw [chunk_left hl (by omega)]
          exact hr i d (by omega) hdi
      · intro u hu
        rcases List.mem_append.1 hu with hu | hu
        · exact ho u hu
        · exact h1 _ _ hR u hu
  obtain ⟨cells, hl, hc, hr, ho⟩ := key ds.length (Nat.le_refl _)
  exact ⟨cells, by rw [hn]; exact hl, hc, fun i d hd => hr i d (List.getElem?_eq_some_iff.1 hd).1 hd, ho⟩

end Mu
end
section
/-
  append onto a row of the call's own, whatever the source (nil too), in a plain region and in one that draws its order; a row that a literal makes; blocks known whole.
  Conditions: none; generic, no program in sight.
-/
namespace Mu
open Go Go.RowKit

/-- the cells of a source -/
structure Src (w : World) (size : Nat) (A : Option Addr) (m : Nat) (news : List Value) : Prop where
  len : news.length = m * size
  cells : ∀ j u, news[j]? = some u → ∃ ad, A = some ad ∧ w.cell? (ad.add j) = some u

section
variable {P : Program} {w : World}
theorem run_more {base : Nat} {t ty e : TypeId} {i : TypeInfo} {z : Value} {size bytes : Nat} (ht : P.underlying t = some (.slice e)) (hi : P.info? e = some i) (hz : i.zero = some z)
    (hsize : i.size = size) (hby : i.bytes = bytes) (hzs : z.cells.size = size) (hsz : 0 < size)
    {v : Value} {n : Nat} {xs : List Value} (hown : w.ownsRow base e size v n xs) {A : Option Addr} {m c : Nat} {news : List Value} (hs : Src w size A m news) (h1 : ∀ u ∈ news, u.oneCell' = true)
    (h63 : n + m ≤ maxLen) (hbytes : (n + m) * bytes ≤ 140737488355328) (hbase : base ≤ w.heap.size) :
    ∃ v' w', (Builtin.append_ #[t, t] ty #[v, .slice A m c]).run P w = .ok v' w' ∧ w'.ownsRow base e size v' (n + m) (xs ++ news) ∧ w.grownBy w' v.ownBlock ∧ (v'.ownBlock = v.ownBlock ∨ v'.ownBlock = some w.heap.size) := by
  have key : ∀ c, (Builtin.append_ #[t, t] ty #[v, .slice none 0 c]).run P w = .ok v w := by
    intro c
    rcases hown.2 with ⟨rfl, rfl⟩ | ⟨g, cap, cur, rfl, _, _, hnc, _⟩
    · simp [Builtin.append_, run_underlying ht, Go.sizeOf, typeInfo, hi, Builtin.lenOf, Builtin.firstCells]
    · simp [Builtin.append_, run_underlying ht, Go.sizeOf, typeInfo, hi, Builtin.lenOf, Builtin.firstCells, hnc, storeCells]
  rcases A with _ | ad
  · have hn : news = [] := by
      rcases news with _ | ⟨u, l⟩
      · rfl
      · obtain ⟨ad, e, _⟩ := hs.cells 0 u rfl
        cases e
    subst hn
    have hm : m = 0 := by
      have := hs.len
      rcases Nat.eq_zero_or_pos m with h | h
      · exact h
      · have := Nat.mul_pos h hsz
        simp at *
        omega
    subst hm
    exact ⟨v, w, key c, by simpa using hown, World.grownBy.refl w _, .inl rfl⟩
  · obtain ⟨v', w', hr, h2, h3, _, h5⟩ := run_append_own_at (P := P) w base t ty e i z size bytes ht hi hz hsize hby hzs hsz v n xs hown ad m c news hs.len
      (fun j u hu => by obtain ⟨ad', e', hc⟩ := hs.cells j u hu; cases e'; exact hc) h1 h63 hbytes hbase
    exact ⟨v', w', hr, h2, h3, h5⟩

theorem wp_more {o : Oper} {a : Act} {K : Act → World → Prop} {Q : Exit → Act → World → Prop} (s x : Operand) (t : TypeId)
    (ho : o.op = .call { callee := .builtin .append, args := #[s, x], argTypes := #[t, t] }) (base : Nat) (e : TypeId) (i : TypeInfo) (z : Value) (size bytes : Nat)
    (ht : P.underlying t = some (.slice e)) (hi : P.info? e = some i) (hz : i.zero = some z) (hsize : i.size = size) (hby : i.bytes = bytes) (hzs : z.cells.size = size) (hsz : 0 < size)
    {v : Value} {n : Nat} {xs : List Value} (hs : a.eval s = v) (hown : w.ownsRow base e size v n xs) {A : Option Addr} {m c : Nat} {news : List Value} (hx : a.eval x = .slice A m c)
    (hr : Src w size A m news) (h1 : ∀ u ∈ news, u.oneCell' = true) (h63 : n + m ≤ maxLen) (hbytes : (n + m) * bytes ≤ 140737488355328) (hbase : base ≤ w.heap.size)
    (h : ∀ v' w', w'.ownsRow base e size v' (n + m) (xs ++ news) → w.grownBy w' v.ownBlock → (v'.ownBlock = v.ownBlock ∨ v'.ownBlock = some w.heap.size) → K (a.put o.dst v') w') : o.wp P a w K Q := by
  obtain ⟨v', w', hrun, h2, h3, h4⟩ := run_more (P := P) (ty := o.type) (c := c) ht hi hz hsize hby hzs hsz hown hr h1 h63 hbytes hbase
  unfold Oper.wp execOp
  simp only [ho, resolve, invoke, builtin, Sem.run_bind, Sem.run_pure, Result.andThen_ok, List.map_toArray, List.map_cons, List.map_nil, hs, hx, hrun]
  exact h v' w' h2 h3 h4

end

/-- a row that a literal has just made -/
theorem row_lit {w : World} {base sz n g : Nat} {e : TypeId} {cs : List Value} (hg : w.heap[g]? = some (.cells cs.toArray e (0, 0))) (hb : base ≤ g) (hn : cs.length = n * sz) (hm : n ≤ maxLen) :
    w.ownsRow base e sz (.slice (some ⟨g, 0, none⟩) n n) n cs :=
  ⟨by simpa using hn, .inr ⟨_, n, _, rfl, hb, hg, Nat.le_refl _, hm, by simp [hn], by simp [← hn]⟩⟩
/-- a slice that is read, as a source of cells -/
theorem slice_src {α : Type} {T : Ty α} {w : World} {S : Nat → Prop} {A : Option Addr} {n c : Nat} {ds : List α} (h : T.slice.RS w S [.slice A n c] ds) (h1 : ∀ cs d, T.RS w S cs d → ∀ u ∈ cs, u.oneCell' = true) :
    ∃ cells : List Value, cells.length = n * T.size ∧ (∀ w' : World, (∀ k, S k → w'.heap[k]? = w.heap[k]?) → Src w' T.size A n cells) ∧ (∀ i d, ds[i]? = some d → T.RS w S ((cells.drop (i * T.size)).take T.size) d) ∧ ∀ u ∈ cells, u.oneCell' = true := by
  obtain ⟨cells, hl, hc, hr, ho⟩ := slice_cells h h1
  refine ⟨cells, hl, fun w' hk => ⟨hl, fun j u hu => ?_⟩, hr, ho⟩
  have hj : j < n * T.size := by
    rw [← hl]
    exact (List.getElem?_eq_some_iff.1 hu).1
  have hn : 0 < ds.length := by
    rw [← (slice_len h).1]
    rcases Nat.eq_zero_or_pos n with e | e
    · rw [e] at hj; simp at hj
    · exact e
  obtain ⟨b, o, rfl, hS, _⟩ := slice_at h (List.getElem?_eq_getElem hn)
  refine ⟨_, rfl, ?_⟩
  rw [Go.WideShapes.add_plain]
  exact (World.cell?_of_block (w := w) (a := ⟨b, o + j, none⟩) (hk b hS)).trans (hc b o rfl j u hu)
section
variable {g : Nat} {w w1 w2 : World}
end
end Mu
end
section
/-
  Operations on the call's own memory, over abstract states.
  Conditions: none; generic.
-/
namespace Mu
open Go Go.RowKit Go.ChangeShapes Go.WideShapes

section
variable {C : Ctx} {h : List ABlk} {S : Nat → Prop} {ψ : Nat → Value} {w w' : World}

def ψset (ψ : Nat → Value) (i : Nat) (v : Value) : Nat → Value := fun j => if j = i then v else ψ j
theorem ψset_self {ψ : Nat → Value} {i : Nat} {v : Value} : ψset ψ i v i = v := if_pos rfl
theorem ψset_ne {ψ : Nat → Value} {i j : Nat} {v : Value} (hne : j ≠ i) : ψset ψ i v j = ψ j := if_neg hne
theorem live_some {h : List ABlk} {i : Nat} (hl : ABlk.live h[i]? = true) : ∃ b, h[i]? = some b := by
  cases hb : h[i]? with
  | none => rw [hb] at hl; simp [ABlk.live] at hl
  | some b => exact ⟨b, rfl⟩

theorem Ext.push (b : ABlk) (v : Value) (hb : ∀ k, S k → w'.heap[k]? = w.heap[k]?) : Ext w S h ψ w' S (h ++ [b]) (ψset ψ h.length v) := by
  refine ⟨hb, fun _ h => h, by simp, fun i c' hi hv => ?_, fun i hi hv => ?_⟩
  · rw [List.getElem?_append_left hi] at hv
    refine ⟨c', hv, Nat.le_refl _, fun _ => ⟨ψset_ne (by omega), ?_⟩⟩
    rw [List.getElem?_append_left hi]
  · rw [List.getElem?_append_left hi] at hv
    exact ⟨hv, ψset_ne (by omega)⟩
theorem HRel.push {b : ABlk} {v : Value} (H : HRel C h S ψ w) (hb : Below w.heap.size w w') (hB : BRel C.N w' S (h ++ [b]) (ψset ψ h.length v) v b) (hn : ∀ g, ftp (some b) v g → w.heap.size ≤ g) :
    HRel C (h ++ [b]) S (ψset ψ h.length v) w' := by
  have X : Ext w S h ψ w' S (h ++ [b]) (ψset ψ h.length v) := Ext.push b v fun k hk => hb.block k (H.lt k hk)
  have hold : ∀ i c, i < h.length → (h ++ [b])[i]? = some c → h[i]? = some c := fun i c hi hc => by rwa [List.getElem?_append_left hi] at hc
  have hlt : ∀ i, i < h.length → ABlk.live h[i]? = true → ∀ g, ftp h[i]? (ψ i) g → g < w.heap.size := fun i hi hl g hg => by
    obtain ⟨c, hc⟩ := live_some hl
    rw [hc] at hg
    exact ((H.blk i c hc).lt (by rw [← hc]; exact hl) g hg).2.1
  refine ⟨H.bel.trans (Kp.of_below hb fun k hk => Nat.lt_of_lt_of_le (H.nlt k hk) H.bel.size), H.nlt, fun k hk => Nat.lt_of_lt_of_le (H.lt k hk) hb.size, H.sub, H.new, fun i c hc => ?_, fun i j hij hi hj g hg hg' => ?_⟩
  · by_cases hi : i < h.length
    · have hc' := hold i c hi hc
      rw [ψset_ne (by omega)]
      by_cases hlv : ABlk.live (some c) = true
      · exact (H.blk i c hc').keep X fun g hg => ⟨hb.block g ((H.blk i c hc').lt hlv g hg).2.1, fun h => h⟩
      · cases c <;> simp [ABlk.live] at hlv
        trivial
    · have hi' : i = h.length := by
        have := (List.getElem?_eq_some_iff.1 hc).1
        simp at this
        omega
      subst hi'
      simp at hc
      subst hc
      rw [ψset_self]
      exact hB
  · have hil : i < h.length + 1 := by
      obtain ⟨c, hc⟩ := live_some hi
      have := (List.getElem?_eq_some_iff.1 hc).1
      simpa using this
    have hjl : j < h.length + 1 := by
      obtain ⟨c, hc⟩ := live_some hj
      have := (List.getElem?_eq_some_iff.1 hc).1
      simpa using this
    by_cases h1 : i < h.length
    · rw [ψset_ne (by omega), List.getElem?_append_left h1] at hg
      rw [List.getElem?_append_left h1] at hi
      by_cases h2 : j < h.length
      · rw [ψset_ne (by omega), List.getElem?_append_left h2] at hg'
        rw [List.getElem?_append_left h2] at hj
        exact H.dis i j hij hi hj g hg hg'
      · have : j = h.length := by omega
        subst this
        rw [ψset_self, List.getElem?_concat_length] at hg'
        have := hlt i h1 hi g hg
        have := hn g hg'
        omega
    · have : i = h.length := by omega
      subst this
      rw [ψset_self, List.getElem?_concat_length] at hg
      have h2 : j < h.length := by omega
      rw [ψset_ne (by omega), List.getElem?_append_left h2] at hg'
      rw [List.getElem?_append_left h2] at hj
      have := hlt j h2 hj g hg'
      have := hn g hg
      omega
theorem Ext.set {i : Nat} {b b' : ABlk} {v' : Value} (hb : ∀ k, S k → w'.heap[k]? = w.heap[k]?) (hi : h[i]? = some b)
    (hv : ∀ c', ABlk.ver (some b') = some c' → ∃ c, ABlk.ver (some b) = some c ∧ c ≤ c' ∧ (c = c' → v' = ψ i ∧ ABlk.sz (some b') = ABlk.sz (some b)))
    (hx : ABlk.isBox (some b') = true → ABlk.isBox (some b) = true ∧ v' = ψ i) : Ext w S h ψ w' S (h.set i b') (ψset ψ i v') := by
  have hil := (List.getElem?_eq_some_iff.1 hi).1
  refine ⟨hb, fun _ h => h, by simp, fun j c' hj hc => ?_, fun j hj hc => ?_⟩
  · by_cases hji : j = i
    · subst hji
      rw [List.getElem?_set_self hil] at hc ⊢
      obtain ⟨c, h1, h2, h3⟩ := hv c' hc
      rw [hi]
      exact ⟨c, h1, h2, fun e => ⟨by rw [ψset_self]; exact (h3 e).1, (h3 e).2⟩⟩
    · rw [List.getElem?_set_ne (Ne.symm hji)] at hc ⊢
      exact ⟨c', hc, Nat.le_refl _, fun _ => ⟨ψset_ne hji, rfl⟩⟩
  · by_cases hji : j = i
    · subst hji
      rw [List.getElem?_set_self hil] at hc
      rw [hi, ψset_self]
      exact hx hc
    · rw [List.getElem?_set_ne (Ne.symm hji)] at hc
      exact ⟨hc, ψset_ne hji⟩
/-- only such blocks are changed; others may be new -/
structure Gr (F : Nat → Prop) (w w' : World) : Prop where
  os : w'.os = w.os
  tape : w'.tape = w.tape
  output : w'.output = w.output
  size : w.heap.size ≤ w'.heap.size
  block : ∀ k, k < w.heap.size → ¬ F k → w'.heap[k]? = w.heap[k]?
theorem Gr.of_grownBy {w w' : World} {o : Option Nat} (h : w.grownBy w' o) : Gr (fun g => o = some g) w w' := ⟨h.os, h.tape, h.output, h.size, fun k hk hn => h.block k hk fun e => hn e.symm⟩
theorem HRel.set {i : Nat} {b b' : ABlk} {v' : Value} (H : HRel C h S ψ w) (hi : h[i]? = some b) (hlive : ABlk.live (some b) = true) (hg : Gr (ftp (some b) (ψ i)) w w') (X : Ext w S h ψ w' S (h.set i b') (ψset ψ i v'))
    (hB : BRel C.N w' S (h.set i b') (ψset ψ i v') v' b') (hn : ∀ g, ftp (some b') v' g → ftp (some b) (ψ i) g ∨ w.heap.size ≤ g) : HRel C (h.set i b') S (ψset ψ i v') w' := by
  have hil := (List.getElem?_eq_some_iff.1 hi).1
  have hbi := (H.blk i b hi).lt hlive
  refine ⟨H.bel.trans ⟨hg.os, hg.tape, hg.output, hg.size, fun k hk => hg.block k (Nat.lt_of_lt_of_le (H.nlt k hk) H.bel.size) fun e => (hbi k e).1 hk⟩, H.nlt, fun k hk => Nat.lt_of_lt_of_le (H.lt k hk) hg.size, H.sub, H.new, fun j c hc => ?_, fun j k hjk hj hk g hgj hgk => ?_⟩
  · by_cases hji : j = i
    · subst hji
      rw [List.getElem?_set_self hil] at hc
      cases hc
      rw [ψset_self]
      exact hB
    · rw [List.getElem?_set_ne (Ne.symm hji)] at hc
      rw [ψset_ne hji]
      by_cases hlv : ABlk.live (some c) = true
      · refine (H.blk j c hc).keep X fun g hgg => ⟨hg.block g ((H.blk j c hc).lt hlv g hgg).2.1 fun e => ?_, fun h => h⟩
        exact H.dis j i hji (by rw [hc]; exact hlv) (by rw [hi]; exact hlive) g (by rw [hc]; exact hgg) (by rw [hi]; exact e)
      · cases c <;> simp [ABlk.live] at hlv
        trivial
  · have key : ∀ j k, j ≠ i → k = i → ABlk.live (h.set i b')[j]? = true → ftp (h.set i b')[j]? (ψset ψ i v' j) g → ftp (h.set i b')[k]? (ψset ψ i v' k) g → False := by
      intro j k hji hki hj hgj hgk
      subst hki
      rw [ψset_ne hji, List.getElem?_set_ne (Ne.symm hji)] at hgj
      rw [ψset_self, List.getElem?_set_self hil] at hgk
      rw [List.getElem?_set_ne (Ne.symm hji)] at hj
      rcases hn g hgk with h1 | h1
      · exact H.dis j k hji hj (by rw [hi]; exact hlive) g hgj (by rw [hi]; exact h1)
      · obtain ⟨c, hc⟩ := live_some hj
        rw [hc] at hgj
        have := ((H.blk j c hc).lt (by rw [← hc]; exact hj) g hgj).2.1
        omega
    by_cases hji : j = i
    · exact key k j (by omega) hji hk hgk hgj
    · by_cases hki : k = i
      · exact key j k hji hki hj hgj hgk
      · rw [ψset_ne hji, List.getElem?_set_ne (Ne.symm hji)] at hgj
        rw [ψset_ne hki, List.getElem?_set_ne (Ne.symm hki)] at hgk
        rw [List.getElem?_set_ne (Ne.symm hji)] at hj
        rw [List.getElem?_set_ne (Ne.symm hki)] at hk
        exact H.dis j k hjk hj hk g hgj hgk
end

section
variable {P : Program} {C : Ctx} {s : St} {o : Oper} {K : St → Prop}

/-- a value's cells -/
def Parts (h : List ABlk) (x : AV) (cells : List AV) : Prop := ∀ (C : Ctx) (S : Nat → Prop) (ψ : Nat → Value) (w : World) (v : Value), HRel C h S ψ w → AV.rel w S h ψ x v →
  AV.relL w S h ψ cells v.cells.toList ∧ ∀ u ∈ v.cells.toList, u.oneCell' = true
def One (h : List ABlk) (x : AV) : Prop := ∀ (C : Ctx) (S : Nat → Prop) (ψ : Nat → Value) (w : World) (v : Value), HRel C h S ψ w → AV.rel w S h ψ x v → v.oneCell' = true
theorem cells_one {v : Value} (hv : v.oneCell' = true) : v.cells = #[v] := by cases v <;> simp [Value.cells, Value.oneCell'] at hv ⊢
theorem One.lit {h : List ABlk} {v : Value} (hv : v.oneCell' = true) : One h (.lit v) := fun C S ψ w u H hu => by unfold AV.rel at hu; rw [hu]; exact hv
theorem One.bs {h : List ABlk} {α : Type} {T : Ty α} {l : List α} : One h (.bs T l) := fun C S ψ w u H hu => by
  unfold AV.rel at hu
  obtain ⟨A, c, e, _⟩ := hu
  simp only [List.cons.injEq, and_true] at e
  rw [e]
  rfl
theorem One.own {h : List ABlk} {i ver : Nat} {e : TypeId} {α : Type} {T : Ty α} {l : List α} (hi : h[i]? = some (.row ver e T l)) : One h (.own i ver) := fun C S ψ w u H hu => by
  unfold AV.rel at hu
  have h1 := (hu.2 _ (by rw [hi]; rfl)).2 rfl
  obtain ⟨cells, hown, _⟩ := H.blk i _ hi
  rw [h1]
  rcases hown.2 with ⟨e1, _⟩ | ⟨g, cap, cur, e1, _⟩ <;> rw [e1] <;> rfl
theorem Parts.one {h : List ABlk} {x : AV} (hx : One h x) : Parts h x [x] := fun C S ψ w v H hv => by
  have h1 := hx C S ψ w v H hv
  rw [cells_one h1]
  refine ⟨?_, fun u hu => ?_⟩
  · unfold AV.relL
    refine ⟨v, [], rfl, hv, ?_⟩
    unfold AV.relL
    rfl
  · simp at hu; subst hu; exact h1
theorem Parts.agg {h : List ABlk} {l : List AV} (hx : ∀ x ∈ l, One h x) : Parts h (.agg l) l := fun C S ψ w v H hv => by
  unfold AV.rel at hv
  obtain ⟨cs, rfl, hl⟩ := hv
  refine ⟨hl, fun u hu => ?_⟩
  obtain ⟨j, hj⟩ := List.mem_iff_getElem?.1 hu
  have hj' : cs[j]? = some u := hj
  have hlt : j < l.length := by rw [← relL_len hl]; exact (List.getElem?_eq_some_iff.1 hj').1
  obtain ⟨u', h1, h2⟩ := relL_get hl (List.getElem?_eq_getElem hlt)
  rw [hj'] at h1
  cases h1
  exact hx _ (List.getElem_mem _) C S ψ w u H h2
/-- .. where the cells need not be one each -/
def Parts0 (h : List ABlk) (x : AV) (cells : List AV) : Prop := ∀ (C : Ctx) (S : Nat → Prop) (ψ : Nat → Value) (w : World) (v : Value), HRel C h S ψ w → AV.rel w S h ψ x v → AV.relL w S h ψ cells v.cells.toList
theorem Parts0.agg {h : List ABlk} {l : List AV} : Parts0 h (.agg l) l := fun C S ψ w v H hv => by
  unfold AV.rel at hv
  obtain ⟨cs, rfl, hl⟩ := hv
  exact hl

theorem st_push {a : Act} {w w' : World} {S : Nat → Prop} {ψ : Nat → Value} {b : ABlk} {v : Value} {r : AV} {dst : Option Tmp} (hd : a.defers = mkD s.h) (hl : AV.relL w S s.h ψ s.t a.tmps.toList) (H' : HRel C (s.h ++ [b]) S (ψset ψ s.h.length v) w')
    (X : Ext w S s.h ψ w' S (s.h ++ [b]) (ψset ψ s.h.length v)) (hr : AV.rel w' S (s.h ++ [b]) (ψset ψ s.h.length v) r v) (hm : b.mrk = [] := by rfl) : St.rel C ⟨putA s.t dst r, s.h ++ [b]⟩ (a.put dst v) w' :=
  ⟨by rw [put_defers, mkD_push, hm]; exact hd, S, _, H', put_rel (AV.relL_ext X _ _ hl) dst hr⟩
theorem AOp.box_run {r : Result Next} {cs : List Value} {e : TypeId} {cells : List AV} {a : Act} {w : World} {S : Nat → Prop} {ψ : Nat → Value} {Q' : Exit → Act → World → Prop} (hd : a.defers = mkD s.h) (H : HRel C s.h S ψ w) (hl : AV.relL w S s.h ψ s.t a.tmps.toList)
    (hr : r = .ok (.value (.pointer (some ⟨w.heap.size, 0, none⟩))) (w.alloc (.cells cs.toArray e))) (hc : AV.relL w S s.h ψ cells cs) (hK : K ⟨putA s.t o.dst (.ptr s.h.length 0), s.h ++ [.box cells]⟩) :
    o.upon P a (fun a' w' => ∃ s', K s' ∧ s'.rel C a' w') Q' r := by
  subst hr
  have hb : Below w.heap.size w (w.alloc (.cells cs.toArray e)) := (Below.refl _ _).alloc (Nat.le_refl _) _
  have X : Ext w S s.h ψ (w.alloc (.cells cs.toArray e)) S (s.h ++ [.box cells]) (ψset ψ s.h.length (.pointer (some ⟨w.heap.size, 0, none⟩))) := Ext.push _ _ fun k hk => hb.block k (H.lt k hk)
  have hB : BRel C.N (w.alloc (.cells cs.toArray e)) S (s.h ++ [.box cells]) (ψset ψ s.h.length (.pointer (some ⟨w.heap.size, 0, none⟩))) (.pointer (some ⟨w.heap.size, 0, none⟩)) (.box cells) :=
    ⟨w.heap.size, cs, e, rfl, fun hN => by have := H.nlt _ hN; have := H.bel.size; omega, fun hS => by have := H.lt _ hS; omega, heap_alloc_new w _, AV.relL_ext X _ _ hc⟩
  refine ⟨_, hK, st_push hd hl (H.push hb hB fun g hg => by simp [ftp, blkOf] at hg; omega) X ?_⟩
  unfold AV.rel
  exact ⟨by simp, fun _ => ⟨w.heap.size, ψset_self, rfl⟩⟩
theorem AOp.box {elem : TypeId} {x : Operand} {cells : List AV} (ho : o.op = .box elem x) (hp : Parts0 s.h (evA s.t x) cells) (hK : K ⟨putA s.t o.dst (.ptr s.h.length 0), s.h ++ [.box cells]⟩) : AOp P C o s K := by
  rintro Q' a w ⟨hd, S, ψ, H, hl⟩
  refine ⟨fun c e => (by rw [ho] at e; cases e), ?_⟩
  have hx := ev_rel hl x
  unfold Oper.wp
  refine AOp.box_run (cs := (a.eval x).cells.toList) (e := elem) hd H hl ?_ (hp C S ψ w _ H hx) hK
  simp [execOp, ho, Instr.box, newVar, newRow]
theorem relL_lits {w : World} {S : Nat → Prop} {h : List ABlk} {ψ : Nat → Value} (l : List Value) : AV.relL w S h ψ (l.map .lit) l :=
  relL_of (by simp) fun i x v hx hv => by
    rw [List.getElem?_map, hv] at hx
    cases hx
    unfold AV.rel
    rfl
def zeroCells? (P : Program) (t : TypeId) : Option (List Value) := ((P.info? t).bind (·.zero)).map fun z => z.cells.toList
theorem AOp.alloc {elem : TypeId} {zs : List Value} (ho : o.op = .alloc elem) (hz : zeroCells? P elem = some zs) (hK : K ⟨putA s.t o.dst (.ptr s.h.length 0), s.h ++ [.box (zs.map .lit)]⟩) : AOp P C o s K := by
  rintro Q' a w ⟨hd, S, ψ, H, hl⟩
  refine ⟨fun c e => (by rw [ho] at e; cases e), ?_⟩
  unfold zeroCells? at hz
  obtain ⟨z, hz1, rfl⟩ := Option.map_eq_some_iff.1 hz
  obtain ⟨i, hi, hz2⟩ := Option.bind_eq_some_iff.1 hz1
  unfold Oper.wp
  refine AOp.box_run (cs := z.cells.toList) (e := elem) hd H hl ?_ (relL_lits _) hK
  simp [execOp, ho, Instr.alloc, zeroValue, typeInfo, hi, hz2, newVar, newRow]
end
end Mu
end
section
/-
  Stores, appends, rows that are made, over abstract states; what may be forgotten.
  Conditions: none; generic.
-/
namespace Mu
open Go Go.RowKit Go.ChangeShapes Go.WideShapes

section
variable {P : Program} {C : Ctx} {s : St} {o : Oper} {K : St → Prop}

theorem st_set {a : Act} {w w' : World} {S : Nat → Prop} {ψ : Nat → Value} {i : Nat} {b b' : ABlk} {v' v : Value} {r : AV} {dst : Option Tmp} (hi : s.h[i]? = some b) (hd : a.defers = mkD s.h) (hl : AV.relL w S s.h ψ s.t a.tmps.toList) (H' : HRel C (s.h.set i b') S (ψset ψ i v') w')
    (X : Ext w S s.h ψ w' S (s.h.set i b') (ψset ψ i v')) (hr : AV.rel w' S (s.h.set i b') (ψset ψ i v') r v) (hm : b'.mrk = b.mrk := by rfl) : St.rel C ⟨putA s.t dst r, s.h.set i b'⟩ (a.put dst v) w' :=
  ⟨by rw [put_defers, mkD_set hi hm]; exact hd, S, _, H', put_rel (AV.relL_ext X _ _ hl) dst hr⟩
theorem grown_setRow (w : World) (g : Nat) (cs : Array Value) : w.grownBy (w.setRow g cs) (some g) :=
  ⟨rfl, rfl, rfl, by simp, fun k _ hk => setRow_other w g k cs fun e => hk (by rw [e])⟩
def sizeT (P : Program) (ty : TypeId) : Option Nat := (P.info? ty).map (·.size)
theorem run_storeAt {ty : TypeId} {g off : Nat} {cur : Array Value} {e : TypeId} {v : Value} {w : World} (hs : sizeT P ty = some v.cells.toList.length) (hg : w.heap[g]? = some (.cells cur e (0, 0))) (hle : off + v.cells.toList.length ≤ cur.size) (h1 : ∀ u ∈ v.cells.toList, u.oneCell' = true) :
    (Instr.storeAt ty (.pointer (some ⟨g, off, none⟩)) v).run P w = .ok () (w.setRow g (cur.toList.take off ++ v.cells.toList ++ cur.toList.drop (off + v.cells.toList.length)).toArray) := by
  unfold sizeT at hs
  obtain ⟨i, hi, hsz⟩ := Option.map_eq_some_iff.1 hs
  have hr := run_storeCells_at (P := P) g off e v.cells.toList 0 cur w hg (by simpa using hle) h1
  simp only [Nat.add_zero] at hr
  have hz : v.cells.size = i.size := by rw [hsz]; simp
  simp [Instr.storeAt, Instr.sureAddr, storeVar, Go.sizeOf, typeInfo, hi, hz, hr]

theorem AOp.storeBox {ty : TypeId} {x y : Operand} {i off : Nat} {cells new : List AV} (ho : o.op = .store ty x y) (hx : evA s.t x = .ptr i off) (hi : s.h[i]? = some (.box cells)) (hp : Parts s.h (evA s.t y) new) (hs : sizeT P ty = some new.length) (hle : off + new.length ≤ cells.length)
    (hK : K ⟨putA s.t o.dst (.lit undef), s.h.set i (.box (cells.take off ++ new ++ cells.drop (off + new.length)))⟩) : AOp P C o s K := by
  rintro Q' a w ⟨hd, S, ψ, H, hl⟩
  refine ⟨fun c e => (by rw [ho] at e; cases e), ?_⟩
  have hx' := ev_rel hl x
  have hy' := ev_rel hl y
  rw [hx] at hx'
  unfold AV.rel at hx'
  obtain ⟨g, e1, e2⟩ := hx'.2 (by rw [hi]; rfl)
  obtain ⟨g', cs, e, e3, hN, hS, hg, hcs⟩ := H.blk i _ hi
  rw [e1] at e3
  cases e3
  obtain ⟨hn, h1⟩ := hp C S ψ w _ H hy'
  have hnl := relL_len hn
  have hcl := relL_len hcs
  have hr := run_storeAt (P := P) (ty := ty) (v := a.eval y) (off := off) (w := w) (by rw [hs, hnl]) hg (by rw [hnl, List.size_toArray, hcl]; exact hle) h1
  rw [hnl] at hr
  have hgr := grown_setRow w g (cs.take off ++ (a.eval y).cells.toList ++ cs.drop (off + new.length)).toArray
  have hblk : ∀ k, S k → (w.setRow g (cs.take off ++ (a.eval y).cells.toList ++ cs.drop (off + new.length)).toArray).heap[k]? = w.heap[k]? := fun k hk => setRow_other _ _ _ _ fun e => hS (by rw [← e]; exact hk)
  have X : Ext w S s.h ψ _ S (s.h.set i (.box (cells.take off ++ new ++ cells.drop (off + new.length)))) (ψset ψ i (ψ i)) := Ext.set hblk hi (fun c' hc => by simp [ABlk.ver] at hc) fun _ => ⟨rfl, rfl⟩
  have hB : BRel C.N (w.setRow g (cs.take off ++ (a.eval y).cells.toList ++ cs.drop (off + new.length)).toArray) S (s.h.set i (.box (cells.take off ++ new ++ cells.drop (off + new.length)))) (ψset ψ i (ψ i)) (ψ i) (.box (cells.take off ++ new ++ cells.drop (off + new.length))) :=
    ⟨g, _, e, e1, hN, hS, setRow_heap w g _ _ e _ hg, AV.relL_ext X _ _ (relL_append (relL_append (relL_take hcs off) hn) (relL_drop hcs _))⟩
  unfold Oper.wp
  simp only [execOp, ho, e2, Sem.run_bind, hr, Result.andThen_ok, Sem.run_pure, Oper.upon]
  refine ⟨_, hK, st_set hi hd hl (H.set hi rfl (by rw [e1]; exact Gr.of_grownBy hgr) X hB fun g' hg' => .inl hg') X ?_⟩
  unfold AV.rel
  rfl

/-- what becomes of an element's reading when cells of it are written -/
def RowUpd (h : List ABlk) {α : Type} (T : Ty α) (d : α) (off : Nat) (x : AV) (n : Nat) (d' : α) : Prop :=
  ∀ (C : Ctx) (S : Nat → Prop) (ψ : Nat → Value) (w : World) (v : Value) (cs : List Value), HRel C h S ψ w → AV.rel w S h ψ x v → T.RS w S cs d →
    v.cells.toList.length = n ∧ off + n ≤ T.size ∧ (∀ u ∈ v.cells.toList, u.oneCell' = true) ∧ T.RS w S (cs.take off ++ v.cells.toList ++ cs.drop (off + n)) d'
theorem splice_at {cells new : List Value} {k sz off n : Nat} (hn : new.length = n) (ho : off + n ≤ sz) (hk : k * sz + sz ≤ cells.length) :
    (((cells.take (k * sz + off) ++ new ++ cells.drop (k * sz + off + n)).drop (k * sz)).take sz) = ((cells.drop (k * sz)).take sz).take off ++ new ++ ((cells.drop (k * sz)).take sz).drop (off + n) := by
  apply List.ext_getElem?
  intro j
  have hl1 : (cells.take (k * sz + off)).length = k * sz + off := by simp; omega
  have hl2 : (((cells.drop (k * sz)).take sz).take off).length = off := by simp; omega
  by_cases hj : j < sz
  · rw [List.getElem?_take_of_lt hj, List.getElem?_drop]
    by_cases h1 : j < off
    · rw [List.getElem?_append_left (by simp; omega), List.getElem?_append_left (by omega), List.getElem?_append_left (by simp; omega), List.getElem?_append_left (by omega), List.getElem?_take_of_lt (by omega), List.getElem?_take_of_lt h1, List.getElem?_take_of_lt hj, List.getElem?_drop]
    · by_cases h2 : j < off + n
      · rw [List.getElem?_append_left (by simp; omega), List.getElem?_append_right (by omega), List.getElem?_append_left (by simp; omega), List.getElem?_append_right (by omega), hl1, hl2]
        congr 1
        omega
      · rw [List.getElem?_append_right (by simp; omega), List.getElem?_append_right (by simp; omega), List.getElem?_drop, List.getElem?_drop, List.getElem?_take_of_lt (by simp; omega), List.getElem?_drop]
        congr 1
        simp
        omega
  · rw [List.getElem?_eq_none (by simp; omega), List.getElem?_eq_none (by simp; omega)]
theorem splice_ne {cells new : List Value} {k sz off n i : Nat} (hn : new.length = n) (ho : off + n ≤ sz) (hk : k * sz + sz ≤ cells.length) (hi : i ≠ k) :
    (((cells.take (k * sz + off) ++ new ++ cells.drop (k * sz + off + n)).drop (i * sz)).take sz) = ((cells.drop (i * sz)).take sz) := by
  apply List.ext_getElem?
  intro j
  have hl1 : (cells.take (k * sz + off)).length = k * sz + off := by simp; omega
  by_cases hj : j < sz
  · rw [List.getElem?_take_of_lt hj, List.getElem?_take_of_lt hj, List.getElem?_drop, List.getElem?_drop]
    have : i * sz + j < k * sz + off ∨ k * sz + off + n ≤ i * sz + j := by
      rcases Nat.lt_or_gt_of_ne hi with h1 | h1
      · left
        have : (i + 1) * sz ≤ k * sz := Nat.mul_le_mul_right _ h1
        rw [Nat.add_mul, Nat.one_mul] at this
        omega
      · right
        have : (k + 1) * sz ≤ i * sz := Nat.mul_le_mul_right _ h1
        rw [Nat.add_mul, Nat.one_mul] at this
        omega
    rcases this with h1 | h1
    · rw [List.getElem?_append_left (by simp; omega), List.getElem?_append_left (by omega), List.getElem?_take_of_lt h1]
    · rw [List.getElem?_append_right (by simp; omega), List.getElem?_drop]
      congr 1
      simp
      omega
  · rw [List.getElem?_eq_none (by simp; omega), List.getElem?_eq_none (by simp; omega)]

theorem AOp.storeRow {ty : TypeId} {x y : Operand} {i ver k off n : Nat} {e : TypeId} {α : Type} {T : Ty α} {l : List α} {d d' : α} (ho : o.op = .store ty x y) (hx : evA s.t x = .rp i ver k off) (hi : s.h[i]? = some (.row ver e T l)) (hk : l[k]? = some d)
    (hu : RowUpd s.h T d off (evA s.t y) n d') (hs : sizeT P ty = some n) (hK : K ⟨putA s.t o.dst (.lit undef), s.h.set i (.row ver e T (l.set k d'))⟩) : AOp P C o s K := by
  rintro Q' a w ⟨hd, S, ψ, H, hl⟩
  refine ⟨fun c e => (by rw [ho] at e; cases e), ?_⟩
  have hx' := ev_rel hl x
  have hy' := ev_rel hl y
  rw [hx] at hx'
  unfold AV.rel at hx'
  obtain ⟨g, n0, c0, e1, e2⟩ := (hx'.2 _ (by rw [hi]; rfl)).2 rfl
  obtain ⟨cells, hown, h0, hR, hNS⟩ := H.blk i _ hi
  obtain ⟨hN, hS⟩ := hNS g (by rw [e1]; rfl)
  rw [hi] at e2
  simp only [ABlk.sz] at e2
  have hkl : k < l.length := (List.getElem?_eq_some_iff.1 hk).1
  obtain ⟨hn, hle, h1, hnew⟩ := hu C S ψ w _ _ H hy' (hR k d hk)
  have hmul : (k + 1) * T.size ≤ l.length * T.size := Nat.mul_le_mul_right _ hkl
  rw [Nat.add_mul, Nat.one_mul] at hmul
  rcases hown.2 with ⟨e3, _⟩ | ⟨g', cap, cur, e3, hb0, hg, hnc, hcm, hsz, htk⟩
  · rw [e1] at e3; cases e3
  rw [e1] at e3
  simp only [Value.slice.injEq, Option.some.injEq, Addr.mk.injEq] at e3
  obtain ⟨⟨rfl, -, -⟩, rfl, rfl⟩ := e3
  have hmin : min l.length c0 = l.length := by omega
  have hcap : l.length * T.size ≤ c0 * T.size := Nat.mul_le_mul_right _ hnc
  have hr := run_storeAt (P := P) (ty := ty) (v := a.eval y) (off := k * T.size + off) (w := w) (by rw [hs, hn]) hg (by rw [hn, hsz]; omega) h1
  rw [hn] at hr
  obtain ⟨vs, hvs⟩ : ∃ vs : List Value, vs = (a.eval y).cells.toList := ⟨_, rfl⟩
  rw [← hvs] at hn h1 hnew hr
  have hgr := grown_setRow w g (cur.toList.take (k * T.size + off) ++ vs ++ cur.toList.drop (k * T.size + off + n)).toArray
  have hblk : ∀ j, S j → (w.setRow g (cur.toList.take (k * T.size + off) ++ vs ++ cur.toList.drop (k * T.size + off + n)).toArray).heap[j]? = w.heap[j]? := fun j hj => setRow_other _ _ _ _ fun e => hS (by rw [← e]; exact hj)
  have X : Ext w S s.h ψ _ S (s.h.set i (.row ver e T (l.set k d'))) (ψset ψ i (ψ i)) := Ext.set hblk hi (fun c' hc => ⟨c', hc, Nat.le_refl _, fun _ => ⟨rfl, rfl⟩⟩) fun h => by simp [ABlk.isBox] at h
  have hcl : cells.length = l.length * T.size := hown.1
  have hB : BRel C.N (w.setRow g (cur.toList.take (k * T.size + off) ++ vs ++ cur.toList.drop (k * T.size + off + n)).toArray) S (s.h.set i (.row ver e T (l.set k d'))) (ψset ψ i (ψ i)) (ψ i) (.row ver e T (l.set k d')) := by
    refine ⟨cells.take (k * T.size + off) ++ vs ++ cells.drop (k * T.size + off + n), ⟨by simp [hn, hcl]; omega, .inr ⟨g, c0, _, by rw [e1]; simp, Nat.zero_le _, setRow_heap w g _ _ e _ hg, by simpa using hnc, hcm, by simp [hn, hsz, hmin]; omega, ?_⟩⟩, h0, fun j d1 hj => ?_, fun g' hg' => ?_⟩
    · simp only [List.length_set]
      rw [← htk]
      apply List.ext_getElem?
      intro j
      have hl1 : (cur.toList.take (k * T.size + off)).length = k * T.size + off := by simp [hsz, hmin]; omega
      have hl2 : ((cur.toList.take (l.length * T.size)).take (k * T.size + off)).length = k * T.size + off := by simp [hsz, hmin]; omega
      by_cases hj : j < l.length * T.size
      · rw [List.getElem?_take_of_lt hj]
        by_cases h2 : j < k * T.size + off
        · rw [List.getElem?_append_left (by simp [hsz, hmin]; omega), List.getElem?_append_left (by omega), List.getElem?_append_left (by simp [hsz, hmin]; omega), List.getElem?_append_left (by omega), List.getElem?_take_of_lt h2, List.getElem?_take_of_lt h2, List.getElem?_take_of_lt hj]
        · by_cases h3 : j < k * T.size + off + n
          · rw [List.getElem?_append_left (by simp [hsz, hmin]; omega), List.getElem?_append_right (by omega), List.getElem?_append_left (by simp [hsz, hmin]; omega), List.getElem?_append_right (by omega), hl1, hl2]
          · rw [List.getElem?_append_right (by simp [hsz, hmin]; omega), List.getElem?_append_right (by simp [hsz, hmin]; omega), List.getElem?_drop, List.getElem?_drop, List.getElem?_take_of_lt (by simp [hsz, hmin]; omega)]
            congr 1
            simp [hsz, hmin]
            omega
      · rw [List.getElem?_eq_none (by simp; omega), List.getElem?_eq_none (by simp [hn, hsz, hmin]; omega)]
    · have hj' := hj
      by_cases hjk : j = k
      · subst hjk
        rw [List.getElem?_set_self hkl] at hj
        cases hj
        rw [splice_at hn hle (by omega)]
        exact T.keepS hnew hblk fun _ h => h
      · rw [List.getElem?_set_ne (Ne.symm hjk)] at hj
        rw [splice_ne hn hle (by omega) hjk]
        exact T.keepS (hR j d1 hj) hblk fun _ h => h
    · rw [e1] at hg'
      cases hg'
      exact ⟨hN, hS⟩
  unfold Oper.wp
  simp only [execOp, ho, e2, Sem.run_bind, hr, Result.andThen_ok, Sem.run_pure, Oper.upon]
  refine ⟨_, hK, st_set hi hd hl (H.set hi rfl (by rw [e1]; exact Gr.of_grownBy hgr) X hB fun g' hg' => .inl hg') X ?_⟩
  unfold AV.rel
  rfl
end
end Mu
end
section
/-
  Appends, rows that are made or written out, over abstract states; what may be forgotten; calls that change a row of the caller's.
  Conditions: none; generic.
-/
namespace Mu
open Go Go.RowKit Go.ChangeShapes Go.WideShapes

section
variable {P : Program} {C : Ctx} {s : St} {o : Oper} {K : St → Prop}

def One1 {α : Type} (T : Ty α) : Prop := ∀ (w : World) (S : Nat → Prop) (cs : List Value) (d : α), T.RS w S cs d → ∀ u ∈ cs, u.oneCell' = true
theorem one1_int {k : IntKind} : One1 (Ty.int k) := by
  rintro w S cs d ⟨rfl, _⟩ u hu
  simp at hu
  subst hu
  rfl
theorem one1_slice {α : Type} {T : Ty α} : One1 T.slice := by
  rintro w S cs d ⟨A, c, rfl, _⟩ u hu
  simp at hu
  subst hu
  rfl
theorem one1_of_enc {α : Type} {T : Ty α} {enc : α → List AV} (E : Enc T enc) (h : ∀ d x, x ∈ enc d → (∃ v : Value, x = .lit v ∧ v.oneCell' = true) ∨ ∃ (β : Type) (U : Ty β) (l : List β), x = .bs U l) : One1 T := by
  intro w S cs d H u hu
  have hl := E w S [] ψ0 cs d H
  obtain ⟨j, hj⟩ := List.mem_iff_getElem?.1 hu
  have hlt : j < (enc d).length := by rw [← relL_len hl]; exact (List.getElem?_eq_some_iff.1 hj).1
  obtain ⟨u', h1, h2⟩ := relL_get hl (List.getElem?_eq_getElem hlt)
  rw [hj] at h1
  cases h1
  rcases h d _ (List.getElem_mem hlt) with ⟨v, e, hv⟩ | ⟨β, U, l, e⟩
  · rw [e] at h2
    unfold AV.rel at h2
    rw [h2]
    exact hv
  · rw [e] at h2
    unfold AV.rel at h2
    obtain ⟨A, c, e', _⟩ := h2
    simp only [List.cons.injEq, and_true] at e'
    rw [e']
    rfl

/-- a slice's element: its type, its size, its bytes -/
def rowTy (P : Program) (ty : TypeId) : Option (TypeId × Nat × Nat) :=
  match P.underlying ty with
  | some (.slice e) => (P.info? e).bind fun i => i.zero.bind fun z => if z.cells.size = i.size then some (e, i.size, i.bytes) else none
  | _ => none
theorem rowTy_spec {ty e : TypeId} {sz bytes : Nat} (h : rowTy P ty = some (e, sz, bytes)) : P.underlying ty = some (.slice e) ∧ ∃ i z, P.info? e = some i ∧ i.zero = some z ∧ i.size = sz ∧ i.bytes = bytes ∧ z.cells.size = sz := by
  unfold rowTy at h
  split at h <;> try (cases h; done)
  rename_i e' h1
  obtain ⟨i, hi, h2⟩ := Option.bind_eq_some_iff.1 h
  obtain ⟨z, hz, h3⟩ := Option.bind_eq_some_iff.1 h2
  split at h3 <;> try (cases h3; done)
  rename_i h4
  cases h3
  exact ⟨h1, i, z, hi, hz, rfl, rfl, h4⟩

theorem join_left {cells news : List Value} {n sz i : Nat} (hc : cells.length = n * sz) (hi : i < n) : (((cells ++ news).drop (i * sz)).take sz) = (cells.drop (i * sz)).take sz := by
  have : (i + 1) * sz ≤ n * sz := Nat.mul_le_mul_right _ hi
  rw [Nat.add_mul, Nat.one_mul] at this
  rw [List.drop_append_of_le_length (by omega), List.take_append_of_le_length (by simp; omega)]
theorem join_right {cells news : List Value} {n sz j : Nat} (hc : cells.length = n * sz) : (((cells ++ news).drop ((n + j) * sz)).take sz) = (news.drop (j * sz)).take sz := by
  rw [Nat.add_mul, ← hc, List.drop_append, List.drop_eq_nil_of_le (by omega)]
  simp

theorem AOp.append {ty : TypeId} {x y : Operand} {i ver : Nat} {e : TypeId} {bytes : Nat} {α : Type} {T : Ty α} {l l2 : List α} (ho : o.op = .call { callee := .builtin .append, args := #[x, y], argTypes := #[ty, ty] }) (hT : rowTy P ty = some (e, T.size, bytes))
    (hx : evA s.t x = .own i ver) (hi : s.h[i]? = some (.row ver e T l)) (hy : evA s.t y = .bs T l2) (h1T : One1 T) (hlen : l.length + l2.length ≤ maxLen) (hbytes : (l.length + l2.length) * bytes ≤ 140737488355328)
    (hK : K ⟨putA s.t o.dst (.own i (ver + 1)), s.h.set i (.row (ver + 1) e T (l ++ l2))⟩) : AOp P C o s K := by
  rintro Q' a w ⟨hd, S, ψ, H, hl⟩
  refine ⟨fun c e => (by rw [ho] at e; cases e), ?_⟩
  have hx' := ev_rel hl x
  have hy' := ev_rel hl y
  rw [hx] at hx'
  rw [hy] at hy'
  unfold AV.rel at hx' hy'
  have hv := (hx'.2 _ (by rw [hi]; rfl)).2 rfl
  obtain ⟨cells, hown, h0, hR, hNS⟩ := H.blk i _ hi
  obtain ⟨h1, ti, z, h2, h3, h4, h5, h6⟩ := rowTy_spec hT
  obtain ⟨A, c, hyv⟩ := slice_form hy'
  rw [hyv] at hy'
  obtain ⟨news, hnl, hsrc, hnR, hn1⟩ := slice_src hy' fun cs d hcs => h1T _ _ _ _ hcs
  refine wp_more (P := P) x y ty ho 0 e ti z T.size bytes h1 h2 h3 h4 h5 h6 h0 hv hown hyv (hsrc w fun _ _ => rfl) hn1 hlen hbytes (Nat.zero_le _) fun v' w' hown' hgr hb' => ?_
  have hbv : ∀ g, blkOf v' = some g → v'.ownBlock = some g := fun g hg => by
    rcases hown'.2 with ⟨e1, _⟩ | ⟨g', cap, cur, e1, _⟩
    · rw [e1] at hg; simp [blkOf] at hg
    · rw [e1] at hg ⊢; simpa [blkOf, Value.ownBlock] using hg
  have hbψ : (ψ i).ownBlock = blkOf (ψ i) := by
    rcases hown.2 with ⟨e1, _⟩ | ⟨g', cap, cur, e1, _⟩ <;> rw [e1] <;> rfl
  have hblk : ∀ k, S k → w'.heap[k]? = w.heap[k]? := fun k hk => hgr.block k (H.lt k hk) fun e => (hNS k e.symm).2 hk
  have X : Ext w S s.h ψ w' S (s.h.set i (.row (ver + 1) e T (l ++ l2))) (ψset ψ i v') := Ext.set hblk hi (fun c' hc => by
    simp only [ABlk.ver, Option.some.injEq] at hc
    exact ⟨ver, rfl, by omega, fun e => by omega⟩) fun h => by simp [ABlk.isBox] at h
  have hNew : ∀ g, v'.ownBlock = some g → ¬ C.N g ∧ ¬ S g := fun g hg => by
    rcases hb' with e1 | e1
    · rw [e1] at hg
      exact hNS g hg
    · rw [e1] at hg
      cases hg
      exact ⟨fun hN => by have := H.nlt _ hN; have := H.bel.size; omega, fun hS => by have := H.lt _ hS; omega⟩
  have hB : BRel C.N w' S (s.h.set i (.row (ver + 1) e T (l ++ l2))) (ψset ψ i v') v' (.row (ver + 1) e T (l ++ l2)) := by
    refine ⟨cells ++ news, by rw [List.length_append]; exact hown', h0, fun j d hj => ?_, hNew⟩
    by_cases hjl : j < l.length
    · rw [List.getElem?_append_left hjl] at hj
      rw [join_left hown.1 hjl]
      exact T.keepS (hR j d hj) hblk fun _ h => h
    · rw [List.getElem?_append_right (by omega)] at hj
      obtain ⟨m, rfl⟩ : ∃ m, j = l.length + m := ⟨j - l.length, by omega⟩
      rw [join_right hown.1]
      exact T.keepS (hnR m d (by simpa using hj)) hblk fun _ h => h
  refine ⟨_, hK, st_set hi hd hl (H.set hi rfl (Gr.of_grownBy (by rw [← hbψ]; exact hgr)) X hB fun g hg => ?_) X ?_⟩
  · have hg' := hbv g hg
    rcases hb' with e1 | e1
    · left; show blkOf (ψ i) = some g; rw [← hbψ, ← e1]; exact hg'
    · right
      rw [e1] at hg'
      cases hg'
      exact Nat.le_refl _
  · unfold AV.rel
    refine ⟨by simp [(List.getElem?_eq_some_iff.1 hi).1], fun c' hc' => ?_⟩
    rw [List.getElem?_set_self (List.getElem?_eq_some_iff.1 hi).1] at hc'
    simp only [ABlk.ver, Option.some.injEq] at hc'
    exact ⟨by omega, fun _ => by rw [ψset_self]⟩

/-! ### rows that are made -/
/-- a one-cell type's zero -/
def zeroOne (P : Program) (ty : TypeId) : Option (TypeId × Value × Nat) :=
  match P.underlying ty with
  | some (.slice e) => (P.info? e).bind fun i => i.zero.bind fun z => if i.size = 1 ∧ z.oneCell' = true then some (e, z, i.bytes) else none
  | _ => none
theorem made_rep1 (z : Value) (n : Nat) : madeCells #[z] n = (List.replicate n z).toArray := by
  apply Array.ext
  · simp [madeCells]
  · intro i h1 h2
    simp [madeCells, Nat.mod_one]
/-! ### rows that are written out -/
/-- a value that reads as a datum -/
def Fit (h : List ABlk) {α : Type} (T : Ty α) (x : AV) (d : α) : Prop := ∀ (C : Ctx) (S : Nat → Prop) (ψ : Nat → Value) (w : World) (v : Value), HRel C h S ψ w → AV.rel w S h ψ x v → T.RS w S v.cells.toList d
theorem Fit.int {h : List ABlk} {k : IntKind} {n : Int} (hn : wfI k n) : Fit h (Ty.int k) (.lit (.int k n)) n := fun C S ψ w v H hv => by
  unfold AV.rel at hv
  subst hv
  exact ⟨rfl, hn⟩
theorem RowUpd.fit {h : List ABlk} {α : Type} {T : Ty α} {d d' : α} {x : AV} (hf : Fit h T x d') (h1 : One1 T) : RowUpd h T d 0 x T.size d' := fun C S ψ w v cs H hv hcs => by
  have hr := hf C S ψ w v H hv
  have hl := T.len hr
  refine ⟨hl, by omega, h1 _ _ _ _ hr, ?_⟩
  rw [List.take_zero, List.nil_append, List.drop_eq_nil_of_le (by rw [T.len hcs]; omega), List.append_nil]
  exact hr
inductive Fits (h : List ABlk) {α : Type} (T : Ty α) : List AV → List α → Prop
  | nil : Fits h T [] []
  | cons {x : AV} {d : α} {xs : List AV} {ds : List α} (hx : Fit h T x d) (hs : Fits h T xs ds) : Fits h T (x :: xs) (d :: ds)

theorem setMany : ∀ (vs : List Value) (A M B : List Value) (off k : Nat), M.length = vs.length → off + k = A.length →
    (vs.zipIdx k).foldl (fun (cs : Array Value) (p : Value × Nat) => cs.setIfInBounds (off + p.2) p.1) (A ++ M ++ B).toArray = (A ++ vs ++ B).toArray
  | [], A, M, B, off, k, hM, hk => by
    have : M = [] := List.eq_nil_of_length_eq_zero (by simpa using hM)
    subst this
    simp
  | v :: vs, A, m :: M, B, off, k, hM, hk => by
    have ih := setMany vs (A ++ [v]) M B off (k + 1) (by simpa using hM) (by simp; omega)
    simp only [List.zipIdx_cons, List.foldl_cons]
    rw [show ((A ++ (m :: M) ++ B).toArray.setIfInBounds (off + k) v) = (A ++ [v] ++ M ++ B).toArray from by
      rw [List.setIfInBounds_toArray, hk]
      congr 1
      simp]
    rw [ih]
    simp
theorem fill_all {sz : Nat} : ∀ (vs : List Value) (k : Nat) (A B : List Value), A.length = k * sz → B.length = vs.length * sz → (∀ v ∈ vs, v.cells.size = sz) →
    Instr.fill (fun i => some (i * sz, sz)) (A ++ B).toArray ((vs.zipIdx k).map fun p => (p.2, p.1)) = some (A ++ vs.flatMap fun v => v.cells.toList).toArray
  | [], k, A, B, hA, hB, _ => by
    have : B = [] := List.eq_nil_of_length_eq_zero (by simpa using hB)
    subst this
    simp [Instr.fill]
  | v :: vs, k, A, B, hA, hB, hv => by
    have h1 := hv v (by simp)
    have hB' : B.length = sz + vs.length * sz := by rw [hB, List.length_cons, Nat.add_mul, Nat.one_mul]; omega
    simp only [List.zipIdx_cons, List.map_cons, Instr.fill]
    have hc : ¬ ((decide (v.cells.size ≠ sz) || decide (k * sz + v.cells.size > (A ++ B).toArray.size)) = true) := by
      simp [h1]
      omega
    rw [if_neg hc]
    have e : (A ++ B) = A ++ B.take sz ++ B.drop sz := by rw [List.append_assoc, List.take_append_drop]
    have hs := setMany v.cells.toList A (B.take sz) (B.drop sz) (k * sz) 0 (by simp [h1]; omega) (by omega)
    have hz : v.cells.zipIdx.foldl (fun cs (c, j) => cs.setIfInBounds (k * sz + j) c) (A ++ B).toArray = (A ++ v.cells.toList ++ B.drop sz).toArray := by
      rw [e, ← hs, ← Array.foldl_toList, Array.toList_zipIdx]
    rw [hz, fill_all vs (k + 1) (A ++ v.cells.toList) (B.drop sz) (by simp [h1, hA, Nat.add_mul]) (by simp [hB']) fun u hu => hv u (by simp [hu])]
    simp

def numbered (xs : List Operand) : Array (Nat × Operand) := (xs.zipIdx.map fun p => (p.2, p.1)).toArray
theorem run_lit {ty e : TypeId} {sz bytes : Nat} {vs : List Value} {w : World} (hT : rowTy P ty = some (e, sz, bytes)) (hn : vs.length * sz ≤ 16777216) (hv : ∀ v ∈ vs, v.cells.size = sz) :
    (Instr.buildSlice ty vs.length (vs.zipIdx.map fun p => (p.2, p.1)).toArray).run P w = .ok (.slice (some ⟨w.heap.size, 0, none⟩) vs.length vs.length) (w.alloc (.cells (vs.flatMap fun v => v.cells.toList).toArray e)) := by
  obtain ⟨h1, i, z, h2, h3, h4, h5, h6⟩ := rowTy_spec hT
  have hfill : ∀ c : Array Value, c.size = vs.length * sz → Instr.fill (fun i => some (i * sz, sz)) c (vs.zipIdx.map fun p => (p.2, p.1)) = some (vs.flatMap fun v => v.cells.toList).toArray := fun c hc => by
    have := fill_all (sz := sz) vs 0 [] c.toList (by simp) (by simpa using hc) hv
    simpa using this
  have hlt : ¬ vs.length * sz > 2 ^ 24 := by simp; omega
  unfold Instr.buildSlice
  simp only [underlying, Sem.run_bind, run_program, Result.andThen_ok, h1, Sem.run_pure, Go.sizeOf, typeInfo, h2, h4, hlt, if_false]
  by_cases hz : vs.length * sz = 0
  · simp only [hz, if_true, pure_bind]
    rw [hfill _ (by simp [hz])]
    simp [newRow]
  · simp only [hz, if_false, zeroValue, typeInfo, Sem.run_bind, run_program, Result.andThen_ok, h2, h3, Sem.run_pure]
    rw [hfill _ (by simp)]
    simp [newRow]
theorem fits_cells {h : List ABlk} {α : Type} {T : Ty α} {C : Ctx} {S : Nat → Prop} {ψ : Nat → Value} {w : World} (H : HRel C h S ψ w) : ∀ {xs : List AV} {ds : List α} {vs : List Value}, Fits h T xs ds → AV.relL w S h ψ xs vs →
    vs.length = ds.length ∧ (∀ v ∈ vs, v.cells.size = T.size) ∧ (vs.flatMap fun v => v.cells.toList).length = ds.length * T.size ∧ ∀ i d, ds[i]? = some d → T.RS w S (((vs.flatMap fun v => v.cells.toList).drop (i * T.size)).take T.size) d
  | [], ds, vs, hf, hr => by
    cases hf
    unfold AV.relL at hr
    subst hr
    simp
  | x :: xs, ds, vs, hf, hr => by
    cases hf with
    | cons hx hs =>
      unfold AV.relL at hr
      obtain ⟨v, vs', rfl, h1, h2⟩ := hr
      obtain ⟨k1, k2, k3, k4⟩ := fits_cells H hs h2
      have hv := hx C S ψ w v H h1
      have hvl : v.cells.size = T.size := by have := T.len hv; simpa using this
      have hfl : ((v :: vs').flatMap fun v => v.cells.toList) = v.cells.toList ++ vs'.flatMap fun v => v.cells.toList := by simp
      rw [hfl]
      refine ⟨by simp [k1], fun u hu => ?_, by simp [hvl, k3, Nat.add_mul]; omega, fun i d hd => ?_⟩
      · rcases List.mem_cons.1 hu with rfl | hu
        · exact hvl
        · exact k2 u hu
      · cases i with
        | zero =>
          simp only [List.getElem?_cons_zero, Option.some.injEq] at hd
          subst hd
          rw [Nat.zero_mul, List.drop_zero, List.take_append_of_le_length (by simp [hvl]), List.take_of_length_le (by simp [hvl])]
          exact hv
        | succ i =>
          have := join_right (news := vs'.flatMap fun v => v.cells.toList) (n := 1) (j := i) (sz := T.size) (cells := v.cells.toList) (by simp [hvl])
          rw [show (i + 1) * T.size = (1 + i) * T.size from by rw [Nat.add_comm], this]
          exact k4 i d (by simpa using hd)
theorem run_buildOp {ty : TypeId} {xs : List Operand} {ρ : Operand → Value} {w : World} (ho : o.op = .buildSlice ty xs.length (numbered xs)) : (execOp ρ o).run P w = ((Instr.buildSlice ty (xs.map ρ).length ((xs.map ρ).zipIdx.map fun p => (p.2, p.1)).toArray).run P w).andThen fun v w' => .ok (.value v) w' := by
  have e : (numbered xs).map (fun p : Nat × Operand => (p.1, ρ p.2)) = ((xs.map ρ).zipIdx.map fun p => (p.2, p.1)).toArray := by
    unfold numbered
    simp [List.zipIdx_map]
  simp only [execOp, ho, Sem.run_bind, Sem.run_pure, List.length_map]
  rw [← e]
/-- a literal that is only read from now on -/
theorem Quiet.lit {t : List AV} {h : List ABlk} {ty e : TypeId} {bytes n : Nat} {parts : Array (Nat × Operand)} {xs : List Operand} {α : Type} {T : Ty α} {ds : List α} (ho : o.op = .buildSlice ty n parts) (hp : parts = numbered xs) (hn : n = xs.length)
    (hT : rowTy P ty = some (e, T.size, bytes)) (h0 : 0 < T.size) (hsz : n * T.size ≤ 16777216) (hf : Fits h T (xs.map (evA t)) ds) : Quiet P C t h o (.bs T ds) := by
  subst hp hn
  intro S ψ w ρ H hρ
  have hrel : AV.relL w S h ψ (xs.map (evA t)) (xs.map ρ) := relL_map fun x hx => hρ x (by
    rw [ho]
    simp only [Op.operands, numbered, List.map_map]
    refine List.mem_toArray.2 (List.mem_map.2 ?_)
    obtain ⟨j, hj⟩ := List.mem_iff_getElem?.1 hx
    exact ⟨(x, j), by rw [List.mem_zipIdx_iff_getElem?]; exact hj, rfl⟩)
  obtain ⟨k1, k2, k3, k4⟩ := fits_cells H hf hrel
  have hds : ds.length = xs.length := by rw [← k1]; simp
  rw [run_buildOp ho, run_lit hT (by rw [List.length_map]; exact hsz) k2]
  have hb : Below w.heap.size w (w.alloc (.cells ((xs.map ρ).flatMap fun v => v.cells.toList).toArray e)) := (Below.refl _ _).alloc (Nat.le_refl _) _
  refine ⟨hb, fun k => S k ∨ k = w.heap.size, fun k hk => .inl hk, fun k hk => hk.imp id fun e => by omega, fun k hk => ?_, ?_⟩
  · rcases hk with hk | hk
    · have := H.lt k hk; simp; omega
    · simp; omega
  · unfold AV.rel
    have hmx : xs.length ≤ maxLen := by
      have : xs.length * 1 ≤ xs.length * T.size := Nat.mul_le_mul_left _ h0
      unfold maxLen
      omega
    refine own_slice (base := 0) (e := e) (cells := (xs.map ρ).flatMap fun v => v.cells.toList) ?_ (fun i d hd => T.keepS (k4 i d hd) (fun k hk => hb.block k (H.lt k hk)) fun _ h => .inl h) fun g hg => .inr (by simpa [Value.ownBlock] using hg.symm)
    rw [hds]
    exact row_lit (heap_alloc_new w _) (Nat.zero_le _) (by rw [k3, hds]) hmx |> fun h => by simpa using h
end
end Mu
end
section
/-
  What may be forgotten of an abstract state; nil rows; rows that are only read from now on; calls that change a row of the caller's.
  Conditions: none; generic.
-/
namespace Mu
open Go Go.RowKit Go.ChangeShapes Go.WideShapes

theorem St.le.refl {C : Ctx} {s : St} : St.le C s s := fun _ _ h => h
theorem St.le.trans {C : Ctx} {s s' s'' : St} (h : St.le C s s') (h' : St.le C s' s'') : St.le C s s'' := fun a w H => h' a w (h a w H)

mutual
def AV.bd (n : Nat) : AV → Bool
  | .own i _ => decide (i < n)
  | .ptr i _ => decide (i < n)
  | .rp i _ _ _ => decide (i < n)
  | .agg l => AV.bdL n l
  | .tup l => AV.bdL n l
  | .fn _ l => AV.bdL n l
  | _ => true
def AV.bdL (n : Nat) : List AV → Bool
  | [] => true
  | x :: l => AV.bd n x && AV.bdL n l
end
/-- blocks are forgotten -/
structure Cut (h h' : List ABlk) : Prop where
  len : h'.length ≤ h.length
  blk : ∀ (i : Nat) (b : ABlk), h'[i]? = some b → b = .dead ∨ h[i]? = some b
section
variable {w : World} {S : Nat → Prop} {h h' : List ABlk} {ψ : Nat → Value}
theorem Cut.ver (hc : Cut h h') {i c : Nat} (hv : ABlk.ver h'[i]? = some c) : ABlk.ver h[i]? = some c ∧ ABlk.sz h'[i]? = ABlk.sz h[i]? := by
  cases hb : h'[i]? with
  | none => rw [hb] at hv; simp [ABlk.ver] at hv
  | some b =>
    rcases hc.blk i b hb with rfl | h1
    · rw [hb] at hv; simp [ABlk.ver] at hv
    · rw [h1, ← hb]; exact ⟨hv, rfl⟩
theorem Cut.box (hc : Cut h h') {i : Nat} (hv : ABlk.isBox h'[i]? = true) : ABlk.isBox h[i]? = true := by
  cases hb : h'[i]? with
  | none => rw [hb] at hv; simp [ABlk.isBox] at hv
  | some b =>
    rcases hc.blk i b hb with rfl | h1
    · rw [hb] at hv; simp [ABlk.isBox] at hv
    · rw [h1, ← hb]; exact hv
theorem Cut.live (hc : Cut h h') {i : Nat} (hv : ABlk.live h'[i]? = true) : ABlk.live h[i]? = true := by
  cases hb : h'[i]? with
  | none => rw [hb] at hv; simp [ABlk.live] at hv
  | some b =>
    rcases hc.blk i b hb with rfl | h1
    · rw [hb] at hv; simp [ABlk.live] at hv
    · rw [h1, ← hb]; exact hv
theorem Cut.same (hc : Cut h h') {i : Nat} (hv : ABlk.live h'[i]? = true) : h'[i]? = h[i]? := by
  cases hb : h'[i]? with
  | none => rw [hb] at hv; simp [ABlk.live] at hv
  | some b =>
    rcases hc.blk i b hb with rfl | h1
    · rw [hb] at hv; simp [ABlk.live] at hv
    · rw [h1]
mutual
theorem AV.rel_cut (hc : Cut h h') : ∀ (x : AV) (v : Value), AV.bd h'.length x = true → AV.rel w S h ψ x v → AV.rel w S h' ψ x v
  | .any, _, _, _ => by unfold AV.rel; trivial
  | .lit u, v, _, H => by unfold AV.rel at H ⊢; exact H
  | .bs T l, v, _, H => by unfold AV.rel at H ⊢; exact H
  | .tv T d, v, _, H => by unfold AV.rel at H ⊢; exact H
  | .own i ver, v, hb, H => by
    unfold AV.bd at hb
    unfold AV.rel at H ⊢
    exact ⟨by simpa using hb, fun c hv => H.2 c (hc.ver hv).1⟩
  | .ptr i off, v, hb, H => by
    unfold AV.bd at hb
    unfold AV.rel at H ⊢
    exact ⟨by simpa using hb, fun hv => H.2 (hc.box hv)⟩
  | .rp i ver k off, v, hb, H => by
    unfold AV.bd at hb
    unfold AV.rel at H ⊢
    refine ⟨by simpa using hb, fun c hv => ?_⟩
    rw [(hc.ver hv).2]
    exact H.2 c (hc.ver hv).1
  | .bp T d off, v, _, H => by unfold AV.rel at H ⊢; exact H
  | .agg l, v, hb, H => by
    unfold AV.bd at hb
    unfold AV.rel at H ⊢
    obtain ⟨cs, e, hl⟩ := H
    exact ⟨cs, e, AV.relL_cut hc l cs hb hl⟩
  | .tup l, v, hb, H => by
    unfold AV.bd at hb
    unfold AV.rel at H ⊢
    obtain ⟨cs, e, hl⟩ := H
    exact ⟨cs, e, AV.relL_cut hc l cs hb hl⟩
  | .fn f l, v, hb, H => by
    unfold AV.bd at hb
    unfold AV.rel at H ⊢
    obtain ⟨cs, e, hl⟩ := H
    exact ⟨cs, e, AV.relL_cut hc l cs hb hl⟩
theorem AV.relL_cut (hc : Cut h h') : ∀ (l : List AV) (cs : List Value), AV.bdL h'.length l = true → AV.relL w S h ψ l cs → AV.relL w S h' ψ l cs
  | [], cs, _, H => by unfold AV.relL at H ⊢; exact H
  | x :: l, cs, hb, H => by
    unfold AV.bdL at hb
    rw [Bool.and_eq_true] at hb
    unfold AV.relL at H ⊢
    obtain ⟨v, vs, e, h1, h2⟩ := H
    exact ⟨v, vs, e, AV.rel_cut hc x v hb.1 h1, AV.relL_cut hc l vs hb.2 h2⟩
end
end
def boxBd (n : Nat) : ABlk → Bool
  | .box cells => AV.bdL n cells
  | _ => true
/-- slots are forgotten -/
inductive Fgt (n : Nat) : List AV → List AV → Prop
  | nil : Fgt n [] []
  | any {x : AV} {t t' : List AV} (h : Fgt n t t') : Fgt n (x :: t) (.any :: t')
  | keep {x : AV} {t t' : List AV} (hx : AV.bd n x = true) (h : Fgt n t t') : Fgt n (x :: t) (x :: t')
theorem Fgt.rel {w : World} {S : Nat → Prop} {h h' : List ABlk} {ψ : Nat → Value} (hc : Cut h h') {t t' : List AV} (hf : Fgt h'.length t t') : ∀ {cs : List Value}, AV.relL w S h ψ t cs → AV.relL w S h' ψ t' cs := by
  induction hf with
  | nil => intro cs H; unfold AV.relL at H ⊢; exact H
  | any _ ih =>
    intro cs H
    unfold AV.relL at H ⊢
    obtain ⟨v, vs, e, _, h2⟩ := H
    exact ⟨v, vs, e, by unfold AV.rel; trivial, ih h2⟩
  | keep hx _ ih =>
    intro cs H
    unfold AV.relL at H ⊢
    obtain ⟨v, vs, e, h1, h2⟩ := H
    exact ⟨v, vs, e, AV.rel_cut hc _ _ hx h1, ih h2⟩
theorem St.le_cut {C : Ctx} {t t' : List AV} {h h' : List ABlk} (hc : Cut h h') (hb : ∀ b ∈ h', boxBd h'.length b = true) (hf : Fgt h'.length t t') (hm : mkD h' = mkD h := by rfl) : St.le C ⟨t, h⟩ ⟨t', h'⟩ := fun a w ⟨hd, S, ψ, H, hl⟩ => by
  refine ⟨hd.trans hm.symm, S, ψ, ⟨H.bel, H.nlt, H.lt, H.sub, H.new, fun i b hi => ?_, fun i j hij h1 h2 => by rw [hc.same h1, hc.same h2]; exact H.dis i j hij (hc.live h1) (hc.live h2)⟩, hf.rel hc hl⟩
  rcases hc.blk i b hi with rfl | h1
  · trivial
  · have hB := H.blk i b h1
    cases b with
    | dead => trivial
    | box cells =>
      obtain ⟨g, cs, e, k1, k2, k3, k4, k5⟩ := hB
      exact ⟨g, cs, e, k1, k2, k3, k4, AV.relL_cut hc _ _ (hb _ (List.mem_of_getElem? hi)) k5⟩
    | row ver e T l => exact hB
    | res R => exact hB
theorem Cut.refl (h : List ABlk) : Cut h h := ⟨Nat.le_refl _, fun _ _ h => .inr h⟩
theorem Cut.cons {b : ABlk} {h h' : List ABlk} (hc : Cut h h') : Cut (b :: h) (b :: h') := ⟨by have := hc.len; simp; omega, fun i c hi => by
  cases i with
  | zero => exact .inr hi
  | succ i => exact hc.blk i c (by simpa using hi)⟩
theorem Cut.dead {b : ABlk} {h h' : List ABlk} (hc : Cut h h') : Cut (b :: h) (.dead :: h') := ⟨by have := hc.len; simp; omega, fun i c hi => by
  cases i with
  | zero => exact .inl (by simpa using hi.symm)
  | succ i => exact hc.blk i c (by simpa using hi)⟩
theorem Cut.nil (h : List ABlk) : Cut h [] := ⟨Nat.zero_le _, fun i c hi => by simp at hi⟩

/-- a nil slice is an empty row -/
theorem St.le_nil {C : Ctx} {t : List AV} {h : List ABlk} (j : Nat) (e : TypeId) {α : Type} (T : Ty α) (hj : t[j]? = some (.lit (.slice none 0 0))) (h0 : 0 < T.size) : St.le C ⟨t, h⟩ ⟨t.set j (.own h.length 0), h ++ [.row 0 e T []]⟩ := fun a w ⟨hd, S, ψ, H, hl⟩ => by
  have X : Ext w S h ψ w S (h ++ [.row 0 e T []]) (ψset ψ h.length (.slice none 0 0)) := Ext.push _ _ fun _ _ => rfl
  have hB : BRel C.N w S (h ++ [.row 0 e T []]) (ψset ψ h.length (.slice none 0 0)) (.slice none 0 0) (.row 0 e T []) :=
    ⟨[], World.ownsRow_nil _ _ _ _, h0, fun i d hi => by simp at hi, fun g hg => by simp [Value.ownBlock] at hg⟩
  obtain ⟨v, h1, h2⟩ := relL_get hl hj
  unfold AV.rel at h2
  subst h2
  refine ⟨by rw [hd]; show mkD h = mkD (h ++ [_]); rw [mkD_push]; rfl, S, _, H.push (Below.refl _ _) hB (fun g hg => by simp [ftp, blkOf] at hg), ?_⟩
  have h3 := relL_set (AV.relL_ext X _ _ hl) j (x := .own h.length 0) (v := .slice none 0 0) (by
    unfold AV.rel
    refine ⟨by simp, fun c' hc' => ?_⟩
    rw [List.getElem?_append_right (Nat.le_refl _)] at hc'
    simp [ABlk.ver] at hc'
    exact ⟨by omega, fun _ => ψset_self.symm⟩)
  have h4 : a.tmps.toList.set j (.slice none 0 0) = a.tmps.toList := by
    have hjl := (List.getElem?_eq_some_iff.1 h1).1
    apply List.ext_getElem?
    intro k
    by_cases hk : j = k
    · subst hk; rw [List.getElem?_set_self hjl, h1]
    · rw [List.getElem?_set_ne hk]
  rw [h4] at h3
  exact h3

/-! ### from now on a row is only read -/
section
variable {w : World} {S : Nat → Prop} {h : List ABlk} {ψ : Nat → Value}
end
end Mu
end
section
/-
  Steps of a walk over abstract states, ready for use; what the program's types are.
  Conditions: none; the types' numbers are this translation's.
-/
namespace Mu
open Go Go.RowKit Go.ChangeShapes Go.WideShapes Go.Proofs

class AG (P : Program) (ty : TypeId) (b : outParam Bool) (n : outParam Nat) : Prop where
  eq : aggT P ty = some (b, n)
class FO (P : Program) (st : TypeId) (j : Nat) (n : outParam Nat) : Prop where
  eq : fieldOff P st j = some n
class ES (P : Program) (ty : TypeId) (n : outParam Nat) : Prop where
  eq : elemSz P ty = some n
class SL (P : Program) (ty : TypeId) : Prop where
  eq : isSlice P ty = true
class RT (P : Program) (ty : TypeId) (e : outParam TypeId) (n bytes : outParam Nat) : Prop where
  eq : rowTy P ty = some (e, n, bytes)
class SZ (P : Program) (ty : TypeId) (n : outParam Nat) : Prop where
  eq : sizeT P ty = some n
class TyOf (P : Program) (e : TypeId) (α : outParam Type) (T : outParam (Ty α)) : Prop where
  eq : True
class ZC (P : Program) (ty : TypeId) (zs : outParam (List Value)) : Prop where
  eq : zeroCells? P ty = some zs
class EncOf {α : Type} (T : Ty α) (enc : outParam (α → List AV)) : Prop where
  ok : Enc T enc
  one : One1 T
  pos : 0 < T.size

section
variable {P : Program} {C : Ctx} {s : St} {o : Oper} {K : St → Prop} {t : List AV} {h : List ABlk} {ops : Array Oper} {rest : List Oper}
theorem aSeq_q {r : AV} {K : St → Prop} (hg : gA ops t o = some true) (hq : Quiet P C t h o r) (hk : aSeq P C ops K rest ⟨putA t o.dst r, h⟩) : aSeq P C ops K (o :: rest) ⟨t, h⟩ :=
  ⟨true, hg, fun _ => AOp.quiet hq hk, fun e => by cases e⟩
theorem aSeq_o {K : St → Prop} (hg : gA ops t o = some true) (hq : AOp P C o ⟨t, h⟩ (aSeq P C ops K rest)) : aSeq P C ops K (o :: rest) ⟨t, h⟩ :=
  ⟨true, hg, fun _ => hq, fun e => by cases e⟩
theorem aSeq_skip {K : St → Prop} (hg : gA ops t o = some false) (hk : aSeq P C ops K rest ⟨putA t o.dst (.lit undef), h⟩) : aSeq P C ops K (o :: rest) ⟨t, h⟩ :=
  ⟨false, hg, (fun e => by cases e), fun _ => hk⟩
theorem aSeq_t {K : St → Prop} {s : St} (hg : gA ops s.t o = some true) (hq : AOp P C o s (aSeq P C ops K rest)) : aSeq P C ops K (o :: rest) s :=
  ⟨true, hg, fun _ => hq, fun e => by cases e⟩
theorem AOp.q {r : AV} {K : St → Prop} (hq : Quiet P C t h o r) (hk : K ⟨putA t o.dst r, h⟩) : AOp P C o ⟨t, h⟩ K := AOp.quiet hq hk
theorem aQ_q {r : AV} {K : List AV → Prop} (hg : gA ops t o = some true) (hq : Quiet P C t h o r) (hk : aQ P C ops h K rest (putA t o.dst r)) : aQ P C ops h K (o :: rest) t := ⟨r, .inl ⟨hg, hq⟩, hk⟩
theorem Awp.via {c : Code} {Q : Exit → St → Prop} {s : St} (M : St) (h1 : St.le C s M) (h2 : Awp P C c Q M) : Awp P C c Q s := h2.le h1
def litBs : AV → Bool
  | .lit v => v.oneCell'
  | .bs _ _ => true
  | _ => false
theorem One.litBs {x : AV} (hx : Mu.litBs x = true) : One h x := by
  cases x <;> simp [Mu.litBs] at hx
  · exact One.lit hx
  · exact One.bs
theorem Parts.aggB {l : List AV} (hl : l.all Mu.litBs = true) : Parts h (.agg l) l := Parts.agg fun x hx => One.litBs (List.all_eq_true.1 hl x hx)
theorem AOp.al {elem : TypeId} {zs : List Value} {K : St → Prop} [ZC P elem zs] (ho : o.op = .alloc elem) (hK : K ⟨putA t o.dst (.ptr h.length 0), h ++ [.box (zs.map .lit)]⟩) : AOp P C o ⟨t, h⟩ K := AOp.alloc (s := ⟨t, h⟩) ho ZC.eq hK
theorem athen_n {K : St → Prop} {Q : Exit → St → Prop} {s : St} (hk : K s) : athen K Q .normal s := hk
def bdH (h : List ABlk) : Bool := h.all (boxBd h.length)
theorem St.le_t {t t' : List AV} {h : List ABlk} (hb : bdH h = true) (hf : Fgt h.length t t') : St.le C ⟨t, h⟩ ⟨t', h⟩ := St.le_cut (Cut.refl h) (fun b hm => List.all_eq_true.1 hb b hm) hf rfl
theorem St.le_c {t t' : List AV} {h h' : List ABlk} (hc : Cut h h') (hb : bdH h' = true) (hf : Fgt h'.length t t') (hm : mkD h' = mkD h := by rfl) : St.le C ⟨t, h⟩ ⟨t', h'⟩ := St.le_cut hc (fun b hm => List.all_eq_true.1 hb b hm) hf hm
theorem Awp.loopF {c : Code} {Q : Exit → St → Prop} {s : St} {β : Type} (F : β → St) (I : β → Prop) (μ : β → Nat) (b0 : β) (hI : I b0) (h0 : St.le C s (F b0))
    (hr : ∀ b, I b → Awp P C c (athen (fun s' => ∃ b', I b' ∧ μ b' < μ b ∧ St.le C s' (F b')) Q) (F b)) : Awp P C (.loop c) Q s :=
  Awp.loop (fun m s => ∃ b, I b ∧ m = μ b ∧ s = F b) (μ b0) ⟨_, h0, b0, hI, rfl, rfl⟩ fun m s ⟨b, hb, hm, hs⟩ => by
    subst hm hs
    refine (hr b hb).mono fun e s' hq => ?_
    cases e with
    | normal =>
      obtain ⟨b', h1, h2, h3⟩ := hq
      exact ⟨μ b', h2, F b', h3, b', h1, rfl, rfl⟩
    | _ => exact hq
theorem Quiet.load_ptr {ty : TypeId} {x : Operand} {n i off : Nat} {r : AV} {cells : List AV} [AG P ty false n] (ho : o.op = .load ty x) (hx : evA t x = .ptr i off) (hi : h[i]? = some (.box cells)) (hr : (cells.drop off)[0]? = some r) : Quiet P C t h o r :=
  Quiet.load1 ho AG.eq hx (CellsOf.ptr hi) hr
theorem Quiet.load_bp {ty : TypeId} {x : Operand} {n off : Nat} {r : AV} {α : Type} {T : Ty α} {d : α} {enc : α → List AV} [AG P ty false n] [EncOf T enc] (ho : o.op = .load ty x) (hx : evA t x = .bp T d off) (hr : ((enc d).drop off)[0]? = some r) : Quiet P C t h o r :=
  Quiet.load1 ho AG.eq hx (CellsOf.bp EncOf.ok) hr
theorem Quiet.load_rp {ty : TypeId} {x : Operand} {n i ver k off : Nat} {e : TypeId} {r : AV} {α : Type} {T : Ty α} {l : List α} {d : α} {enc : α → List AV} [AG P ty false n] [EncOf T enc] (ho : o.op = .load ty x) (hx : evA t x = .rp i ver k off) (hi : h[i]? = some (.row ver e T l)) (hk : l[k]? = some d)
    (hr : ((enc d).drop off)[0]? = some r) : Quiet P C t h o r :=
  Quiet.load1 ho AG.eq hx (CellsOf.rp hi hk EncOf.ok) hr
theorem Quiet.loadA_ptr {ty : TypeId} {x : Operand} {n i off : Nat} {cells : List AV} [AG P ty true n] (ho : o.op = .load ty x) (hx : evA t x = .ptr i off) (hi : h[i]? = some (.box cells)) (hn : ((cells.drop off).take n).length = n) : Quiet P C t h o (.agg ((cells.drop off).take n)) :=
  Quiet.loadA ho AG.eq hx (CellsOf.ptr hi) rfl hn
theorem Quiet.loadA_bp {ty : TypeId} {x : Operand} {n off : Nat} {α : Type} {T : Ty α} {d : α} {enc : α → List AV} [AG P ty true n] [EncOf T enc] (ho : o.op = .load ty x) (hx : evA t x = .bp T d off) (hn : (((enc d).drop off).take n).length = n) : Quiet P C t h o (.agg (((enc d).drop off).take n)) :=
  Quiet.loadA ho AG.eq hx (CellsOf.bp EncOf.ok) rfl hn
theorem Quiet.fa_ptr {st : TypeId} {x : Operand} {j n i off : Nat} {cells : List AV} [FO P st j n] (ho : o.op = .fieldAddr st x j) (hx : evA t x = .ptr i off) (hi : h[i]? = some (.box cells)) : Quiet P C t h o (.ptr i (off + n)) :=
  Quiet.fieldAddr ho FO.eq hx (Shift.ptr hi)
theorem Quiet.fa_bp {st : TypeId} {x : Operand} {j n off : Nat} {α : Type} {T : Ty α} {d : α} [FO P st j n] (ho : o.op = .fieldAddr st x j) (hx : evA t x = .bp T d off) : Quiet P C t h o (.bp T d (off + n)) :=
  Quiet.fieldAddr ho FO.eq hx Shift.bp
theorem Quiet.fa_rp {st : TypeId} {x : Operand} {j n i ver k off : Nat} {e : TypeId} {α : Type} {T : Ty α} {l : List α} [FO P st j n] (ho : o.op = .fieldAddr st x j) (hx : evA t x = .rp i ver k off) (hi : h[i]? = some (.row ver e T l)) : Quiet P C t h o (.rp i ver k (off + n)) :=
  Quiet.fieldAddr ho FO.eq hx (Shift.rp hi)
theorem Quiet.ix {ty : TypeId} {x y : Operand} {ik : IntKind} {k n : Nat} {α : Type} {T : Ty α} {l : List α} {d : α} [ES P ty n] (ho : o.op = .indexAddr ty x y) (hx : evA t x = .bs T l) (hy : evA t y = .lit (.int ik (k : Int))) (hs : T.size = n) (hd : l[k]? = some d) : Quiet P C t h o (.bp T d 0) :=
  Quiet.index_bs ho (by rw [hs]; exact ES.eq) hx hy (by omega) (by simpa using hd)
theorem Quiet.ixi {ty : TypeId} {x y : Operand} {ik : IntKind} {m : Int} {n : Nat} {α : Type} {T : Ty α} {l : List α} {d : α} [ES P ty n] (ho : o.op = .indexAddr ty x y) (hx : evA t x = .bs T l) (hy : evA t y = .lit (.int ik m)) (hs : T.size = n) (h0 : 0 ≤ m) (hd : l[m.toNat]? = some d) : Quiet P C t h o (.bp T d 0) :=
  Quiet.index_bs ho (by rw [hs]; exact ES.eq) hx hy h0 hd
theorem Quiet.ixo {ty : TypeId} {x y : Operand} {ik : IntKind} {k n i ver : Nat} {e : TypeId} {α : Type} {T : Ty α} {l : List α} [ES P ty n] (ho : o.op = .indexAddr ty x y) (hx : evA t x = .own i ver) (hi : h[i]? = some (.row ver e T l)) (hy : evA t y = .lit (.int ik (k : Int))) (hs : T.size = n) (hk : k < l.length) :
    Quiet P C t h o (.rp i ver k 0) := by
  have := Quiet.index_own (P := P) (C := C) (h := h) ho hx hi (by rw [hs]; exact ES.eq) hy (by omega) (by simpa using hk)
  simpa using this
theorem Quiet.ixoi {ty : TypeId} {x y : Operand} {ik : IntKind} {m : Int} {n i ver : Nat} {e : TypeId} {α : Type} {T : Ty α} {l : List α} [ES P ty n] (ho : o.op = .indexAddr ty x y) (hx : evA t x = .own i ver) (hi : h[i]? = some (.row ver e T l)) (hy : evA t y = .lit (.int ik m)) (hs : T.size = n) (h0 : 0 ≤ m) (hk : m.toNat < l.length) :
    Quiet P C t h o (.rp i ver m.toNat 0) := Quiet.index_own ho hx hi (by rw [hs]; exact ES.eq) hy h0 hk
theorem Quiet.ln {ty : TypeId} {x : Operand} {α : Type} {T : Ty α} {l : List α} [SL P ty] (ho : o.op = .call { callee := .builtin .len, args := #[x], argTypes := #[ty] }) (hx : evA t x = .bs T l) : Quiet P C t h o (.lit (.int .i64 (l.length : Int))) := Quiet.len_bs ho SL.eq hx
theorem Quiet.lno {ty : TypeId} {x : Operand} {i ver : Nat} {e : TypeId} {α : Type} {T : Ty α} {l : List α} [SL P ty] (ho : o.op = .call { callee := .builtin .len, args := #[x], argTypes := #[ty] }) (hx : evA t x = .own i ver) (hi : h[i]? = some (.row ver e T l)) : Quiet P C t h o (.lit (.int .i64 (l.length : Int))) := Quiet.len_own ho hx hi SL.eq
theorem Quiet.lnl {ty : TypeId} {x : Operand} {a : Option Addr} {n c : Nat} [SL P ty] (ho : o.op = .call { callee := .builtin .len, args := #[x], argTypes := #[ty] }) (hx : evA t x = .lit (.slice a n c)) : Quiet P C t h o (.lit (.int .i64 (n : Int))) := Quiet.len_lit ho hx SL.eq
theorem AOp.stBox {ty : TypeId} {x y : Operand} {i off n : Nat} {cells new : List AV} [SZ P ty n] (ho : o.op = .store ty x y) (hx : evA t x = .ptr i off) (hi : h[i]? = some (.box cells)) (hp : Parts h (evA t y) new) (hs : n = new.length) (hle : off + new.length ≤ cells.length)
    (hK : K ⟨putA t o.dst (.lit undef), h.set i (.box (cells.take off ++ new ++ cells.drop (off + new.length)))⟩) : AOp P C o ⟨t, h⟩ K := AOp.storeBox (s := ⟨t, h⟩) ho hx hi hp (by rw [← hs]; exact SZ.eq) hle hK
theorem AOp.stRow {ty : TypeId} {x y : Operand} {i ver k n : Nat} {e : TypeId} {α : Type} {T : Ty α} {l : List α} {d d' : α} {enc : α → List AV} [SZ P ty n] [EncOf T enc] (ho : o.op = .store ty x y) (hx : evA t x = .rp i ver k 0) (hi : h[i]? = some (.row ver e T l)) (hk : l[k]? = some d)
    (hf : Fit h T (evA t y) d') (hs : T.size = n) (hK : K ⟨putA t o.dst (.lit undef), h.set i (.row ver e T (l.set k d'))⟩) : AOp P C o ⟨t, h⟩ K := AOp.storeRow (s := ⟨t, h⟩) ho hx hi hk (RowUpd.fit hf EncOf.one) (by rw [hs]; exact SZ.eq) hK
theorem AOp.app {ty : TypeId} {x y : Operand} {i ver : Nat} {e : TypeId} {bytes n : Nat} {α : Type} {T : Ty α} {l l2 : List α} {enc : α → List AV} [RT P ty e n bytes] [EncOf T enc] (ho : o.op = .call { callee := .builtin .append, args := #[x, y], argTypes := #[ty, ty] })
    (hx : evA t x = .own i ver) (hi : h[i]? = some (.row ver e T l)) (hy : evA t y = .bs T l2) (hs : T.size = n) (hlen : l.length + l2.length ≤ maxLen) (hbytes : (l.length + l2.length) * bytes ≤ 140737488355328)
    (hK : K ⟨putA t o.dst (.own i (ver + 1)), h.set i (.row (ver + 1) e T (l ++ l2))⟩) : AOp P C o ⟨t, h⟩ K := AOp.append (s := ⟨t, h⟩) ho (by rw [hs]; exact RT.eq) hx hi hy EncOf.one hlen hbytes hK
theorem Quiet.lt {ty e : TypeId} {bytes n m : Nat} {parts : Array (Nat × Operand)} {xs : List Operand} {α : Type} {T : Ty α} {ds : List α} {enc : α → List AV} [RT P ty e m bytes] [EncOf T enc] (ho : o.op = .buildSlice ty n parts) (hp : parts = numbered xs) (hn : n = xs.length)
    (hs : T.size = m) (hsz : n * T.size ≤ 16777216) (hf : Fits h T (xs.map (evA t)) ds) : Quiet P C t h o (.bs T ds) := Quiet.lit ho hp hn (by rw [hs]; exact RT.eq) (EncOf.pos (T := T) (enc := enc)) hsz hf
end

section
variable {P : Program} {C : Ctx} {o : Oper} {t : List AV} {h : List ABlk}
theorem Quiet.lt1 {ty e : TypeId} {bytes n m : Nat} {parts : Array (Nat × Operand)} {x : Operand} {α : Type} {T : Ty α} {d : α} {enc : α → List AV} [RT P ty e m bytes] [TyOf P e α T] [EncOf T enc] (ho : o.op = .buildSlice ty n parts) (hp : parts = #[(0, x)]) (hn : n = 1)
    (hs : T.size = m) (hsz : T.size ≤ 16777216) (hf : Fit h T (evA t x) d) : Quiet P C t h o (.bs T [d]) := Quiet.lt (xs := [x]) ho hp hn hs (by subst hn; omega) (.cons hf .nil)
end
instance (k : IntKind) : EncOf (Ty.int k) fun d => [.lit (.int k d)] := ⟨enc_int k, one1_int, Nat.zero_lt_one⟩
instance : EncOf tInt fun d => [.lit (.int .i64 d)] := ⟨enc_int .i64, one1_int, by decide⟩
instance {α : Type} (T : Ty α) : EncOf T.slice fun l => [.bs T l] := ⟨enc_slice T, one1_slice, Nat.zero_lt_one⟩
instance : AG Tryz.prog 3 false 1 := ⟨by kernel_rfl⟩
instance : SZ Tryz.prog 3 1 := ⟨by kernel_rfl⟩
instance : AG Tryz.prog 4 false 1 := ⟨by kernel_rfl⟩
instance : SZ Tryz.prog 4 1 := ⟨by kernel_rfl⟩
instance : AG Tryz.prog 5 false 1 := ⟨by kernel_rfl⟩
instance : SZ Tryz.prog 5 1 := ⟨by kernel_rfl⟩
instance : AG Tryz.prog 53 false 1 := ⟨by kernel_rfl⟩
instance : SZ Tryz.prog 53 1 := ⟨by kernel_rfl⟩
instance : AG Tryz.prog 9 false 1 := ⟨by kernel_rfl⟩
instance : SZ Tryz.prog 9 1 := ⟨by kernel_rfl⟩
instance : AG Tryz.prog 29 false 1 := ⟨by kernel_rfl⟩
instance : SZ Tryz.prog 29 1 := ⟨by kernel_rfl⟩
instance : ES Tryz.prog 29 1 := ⟨by kernel_rfl⟩
instance : SL Tryz.prog 29 := ⟨by kernel_rfl⟩
instance : RT Tryz.prog 29 3 1 8 := ⟨by kernel_rfl⟩
instance : AG Tryz.prog 106 false 1 := ⟨by kernel_rfl⟩
instance : SZ Tryz.prog 106 1 := ⟨by kernel_rfl⟩
instance : ES Tryz.prog 106 1 := ⟨by kernel_rfl⟩
instance : SL Tryz.prog 106 := ⟨by kernel_rfl⟩
instance : RT Tryz.prog 106 4 1 1 := ⟨by kernel_rfl⟩
instance : AG Tryz.prog 56 false 1 := ⟨by kernel_rfl⟩
instance : SZ Tryz.prog 56 1 := ⟨by kernel_rfl⟩
instance : ES Tryz.prog 56 9 := ⟨by kernel_rfl⟩
instance : SL Tryz.prog 56 := ⟨by kernel_rfl⟩
instance : RT Tryz.prog 56 55 9 88 := ⟨by kernel_rfl⟩
instance : AG Tryz.prog 30 false 1 := ⟨by kernel_rfl⟩
instance : SZ Tryz.prog 30 1 := ⟨by kernel_rfl⟩
instance : ES Tryz.prog 30 2 := ⟨by kernel_rfl⟩
instance : SL Tryz.prog 30 := ⟨by kernel_rfl⟩
instance : RT Tryz.prog 30 58 2 40 := ⟨by kernel_rfl⟩
instance : AG Tryz.prog 74 false 1 := ⟨by kernel_rfl⟩
instance : SZ Tryz.prog 74 1 := ⟨by kernel_rfl⟩
instance : ES Tryz.prog 74 1 := ⟨by kernel_rfl⟩
instance : SL Tryz.prog 74 := ⟨by kernel_rfl⟩
instance : RT Tryz.prog 74 29 1 24 := ⟨by kernel_rfl⟩
instance : AG Tryz.prog 105 false 1 := ⟨by kernel_rfl⟩
instance : SZ Tryz.prog 105 1 := ⟨by kernel_rfl⟩
instance : ES Tryz.prog 105 1 := ⟨by kernel_rfl⟩
instance : SL Tryz.prog 105 := ⟨by kernel_rfl⟩
instance : RT Tryz.prog 105 106 1 24 := ⟨by kernel_rfl⟩
instance : AG Tryz.prog 79 false 1 := ⟨by kernel_rfl⟩
instance : SZ Tryz.prog 79 1 := ⟨by kernel_rfl⟩
instance : ES Tryz.prog 79 1 := ⟨by kernel_rfl⟩
instance : SL Tryz.prog 79 := ⟨by kernel_rfl⟩
instance : RT Tryz.prog 79 74 1 24 := ⟨by kernel_rfl⟩
instance : AG Tryz.prog 55 true 9 := ⟨by kernel_rfl⟩
instance : SZ Tryz.prog 55 9 := ⟨by kernel_rfl⟩
instance : AG Tryz.prog 58 true 2 := ⟨by kernel_rfl⟩
instance : SZ Tryz.prog 58 2 := ⟨by kernel_rfl⟩
instance : AG Tryz.prog 32 true 4 := ⟨by kernel_rfl⟩
instance : SZ Tryz.prog 32 4 := ⟨by kernel_rfl⟩
instance : TyOf Tryz.prog 3 _ tInt := ⟨trivial⟩
instance : TyOf Tryz.prog 5 _ (Ty.int .u8) := ⟨trivial⟩
instance : TyOf Tryz.prog 53 _ (Ty.int .u32) := ⟨trivial⟩
instance : TyOf Tryz.prog 29 _ tInt.slice := ⟨trivial⟩
instance : TyOf Tryz.prog 74 _ tInt.slice.slice := ⟨trivial⟩
instance : ZC Tryz.prog 55 [.int .u8 0, .int .i64 0, .int .i64 0, .int .i64 0, .int .u32 0, .int .i64 0, .slice none 0 0, .int .i64 0, .int .i64 0] := ⟨by kernel_rfl⟩
instance : ZC Tryz.prog 58 [.string ⟨#[]⟩, .slice none 0 0] := ⟨by kernel_rfl⟩
instance : ZC Tryz.prog 32 [.string ⟨#[]⟩, .int .i64 0, .int .i64 0, .slice none 0 0] := ⟨by kernel_rfl⟩
instance : ZC Tryz.prog 3 [.int .i64 0] := ⟨by kernel_rfl⟩
instance : ZC Tryz.prog 4 [.bool false] := ⟨by kernel_rfl⟩
instance : FO Tryz.prog 55 0 0 := ⟨by kernel_rfl⟩
instance : FO Tryz.prog 55 1 1 := ⟨by kernel_rfl⟩
instance : FO Tryz.prog 55 2 2 := ⟨by kernel_rfl⟩
instance : FO Tryz.prog 55 3 3 := ⟨by kernel_rfl⟩
instance : FO Tryz.prog 55 4 4 := ⟨by kernel_rfl⟩
instance : FO Tryz.prog 55 5 5 := ⟨by kernel_rfl⟩
instance : FO Tryz.prog 55 6 6 := ⟨by kernel_rfl⟩
instance : FO Tryz.prog 55 7 7 := ⟨by kernel_rfl⟩
instance : FO Tryz.prog 55 8 8 := ⟨by kernel_rfl⟩
instance : FO Tryz.prog 58 0 0 := ⟨by kernel_rfl⟩
instance : FO Tryz.prog 58 1 1 := ⟨by kernel_rfl⟩
instance : FO Tryz.prog 32 0 0 := ⟨by kernel_rfl⟩
instance : FO Tryz.prog 32 1 1 := ⟨by kernel_rfl⟩
instance : FO Tryz.prog 32 2 2 := ⟨by kernel_rfl⟩
instance : FO Tryz.prog 32 3 3 := ⟨by kernel_rfl⟩
end Mu
end
section
/-
  DERIVED: THE SHELF's CONTRACTS AT THIS DUMP, IN PLAIN WORDS (tools/lay-plain.mjs out of 'TryShelf.lean', which tools/lay-shelf.mjs wrote): THE SAME DECLARATIONS UNDER THE SAME NAMES: 'import', 'namespace', 'open', 'def', 'theorem' AND NOTHING ELSE: no command of the shelf's: FOR A HAND-IN. Each laying: the table of numbers ('.._ren') and one theorem, a field a fact of the dump's own or the kernel's comparison; each contract: ONE APPLICATION.
-/
namespace Go.Proofs
open Go.Shelf
end Go.Proofs
end
section
/-
  The library's functions on rows of integers of the call's own: sort, compact; contains, clone on rows that are read.
  Conditions: the rows' lengths fit.
-/
namespace Mu
open Go Go.RowKit Go.Proofs Go.Sort

/-- a row of ints of the call's own -/
def OwnI (w : World) (base : Nat) (v : Value) (l : List Int) : Prop := w.ownsRow base 3 1 v l.length (l.map (Value.int .i64))

theorem OwnI.of {w : World} {base n : Nat} {v : Value} {l : List Int} {cs : List Value} (h : w.ownsRow base 3 1 v n cs) (hn : n = l.length) (hc : cs = l.map (Value.int .i64)) : OwnI w base v l := by
  subst hn hc
  exact h
end Mu
end
section
/-
  Plain laws on graphs: what is reached, by a worklist and by rounds; the longest ways, by rounds.
  Conditions: none; no program in sight.
-/
namespace Mu

variable {succ : Nat → List Nat}

/-! ### counting members below n -/
/-! ### the longest way from a node from which no node that reaches itself is reached -/
section
variable {n : Nat} (hs : ∀ k l, l ∈ succ k → l < n)
include hs
end

section
variable {n : Nat} (hs : ∀ k l, l ∈ succ k → l < n)
include hs
end

/-! ### the worklist -/
/-! ### rounds over all nodes, each time what is called by what is there -/
/-! ### depths by rounds -/
section
variable {n : Nat}
end
end Mu
end
section
/-
  Plain laws on what a function calls: the sorted and compacted row of its calls is the filtered row of all functions.
  Conditions: none.
-/
namespace Mu
open Go

/-! ### the canonical answers -/
/-! ### strictly rising rows are what they hold -/
end Mu
end
section
/-
  How much there may be of each part, by the whole's bulk; and what a world keeps of what was boxed.
  Conditions: none.
-/
namespace Mu
open Go Go.RowKit

end Mu
end
section
/-
  Rows of rows of numbers, of the call's own.
  Conditions: none.
-/
namespace Mu
open Go Go.RowKit Go.Proofs

end Mu
end
section
/-
  Rows of the call's own whose elements are readings: grown by one, read as a slice.
  Conditions: none.
-/
namespace Mu
open Go Go.RowKit
variable {α : Type}

section
variable {T : Ty α} {e : TypeId} {w w' w2 X : World} {base : Nat} {v v' : Value} {ds : List α} {S S' : Nat → Prop}
end
end Mu
end
section
/-
  What an instruction reads and writes: muntinref14.Has, in, Reads, Writes; shape.Reads, Writes.
  Conditions: an instruction's arguments are at most 2^21.
-/
namespace Mu
open Go Go.RowKit Go.Proofs

end Mu
end
section
/-
  Odds and ends: a box, and what stays readable behind it; the form of rows of integers.
  Conditions: none.
-/
namespace Mu
open Go Go.RowKit Go.Proofs

section
variable {w0 w' w'' : World} {cs : List Value} {T : TypeId}
end

end Mu
end
section
/-
  muntinref14.Reads, Writes, walked.
  Conditions: an instruction's arguments are at most 2^21.
-/
namespace Mu
open Go Go.RowKit Go.Proofs

section
variable {w w' : World} {cs : List Value} {T : TypeId}
end
end Mu
end
section
/-
  muntinref14.Writes; shape.Reads, shape.Writes, walked.
  Conditions: an instruction's arguments are at most 2^21.
-/
namespace Mu
open Go Go.RowKit Go.Proofs

end Mu
end
section
/-
  muntinref14.SameInts, and the searches of a row for a number, walked.
  Conditions: the rows have at most 2^21 numbers.
-/
namespace Mu
open Go Go.RowKit Go.Proofs

end Mu
end
section
/-
  Where one goes from a block: plain.
  Conditions: none.
-/
namespace Mu
open Go

end Mu
end
section
/-
  flow.goes, the iterator over where one goes from a block: its contract.
  Conditions: the function's blocks lie where the rounds leave them as they are.
-/
namespace Mu
open Go Go.RowKit Go.Proofs Go.Shelf
attribute [local go_sem] Oper.semAt_some

end Mu
end
section
/-
  flow.goes and flow.Next, walked.
  Conditions: at most 2^21 blocks and instructions.
-/
namespace Mu
open Go Go.RowKit Go.Proofs Go.Shelf
attribute [local go_sem] Oper.semAt_some

end Mu
end
section
/-
  What data that was read is known to be; contracts said over worlds, said over abstract values.
  Conditions: none.
-/
namespace Mu
open Go Go.RowKit Go.Proofs

section
variable {w : World} {S : Nat → Prop} {cs : List Value}
variable {h : List ABlk} {ψ : Nat → Value}
end

section
variable {P : Program}
/-- a contract that speaks of all that is there, as one over abstract values: a result that does not lead to memory -/
theorem Fn.of_lit {f : FuncId} {args : List AV} {v : Value} (hE : Enters P f = true) (h : ∀ (w : World) (vs : List Value), AV.relL w (fun k => k < w.heap.size) [] ψ0 args vs → Calls P f vs.toArray w fun e w' => e = .returned v ∧ Below w.heap.size w w') : Fn P f args (.lit v) :=
  ⟨hE, fun w S vs hS hr => (h w vs (AV.relL_ext (Ext.grow [] ψ0 (fun _ _ => rfl) hS) _ _ hr)).mono fun e w' ⟨he, hb⟩ => ⟨v, he, hb, S, fun _ h => h, fun _ h => .inl h, fun k hk => Nat.lt_of_lt_of_le (hS k hk) hb.size, by unfold AV.rel; rfl⟩⟩
end

end Mu
end
section
/-
  Structs that are written out; results that lie in memory; over abstract states.
  Conditions: none; generic.
-/
namespace Mu
open Go Go.RowKit Go.Proofs

section
variable {P : Program}
/-- a struct's fields: places and sizes -/
def placesL? (P : Program) : List Field → Option (List (Nat × Nat))
  | [] => some []
  | f :: fs =>
    match P.info? f.type with
    | some i => (placesL? P fs).map fun l => (f.offset, i.size) :: l
    | none => none
def places? (P : Program) (t : TypeId) : Option (List (Nat × Nat)) :=
  match P.underlying t with
  | some (.struct fs) => placesL? P fs.toList
  | _ => none
theorem run_places (w : World) : ∀ (fs : List Field) (l : List (Nat × Nat)), placesL? P fs = some l → (fs.mapM (m := Sem) fun f => do pure (f.offset, ← Go.sizeOf f.type)).run P w = .ok l w
  | [], l, h => by cases h; rfl
  | f :: fs, l, h => by
    unfold placesL? at h
    split at h <;> try (cases h; done)
    rename_i i hi
    obtain ⟨l', h1, rfl⟩ := Option.map_eq_some_iff.1 h
    have ih := run_places w fs l' h1
    have h0 : (do pure (f.offset, ← Go.sizeOf f.type) : Sem (Nat × Nat)).run P w = .ok (f.offset, i.size) w := by simp [Go.sizeOf, typeInfo, hi]
    rw [List.mapM_cons, Sem.run_bind, h0]
    simp only [Result.andThen_ok, Sem.run_bind, ih, Sem.run_pure]
/-- cells with single cells put in -/
def putCells (pl : List (Nat × Nat)) : List AV → List (Nat × AV) → Option (List AV)
  | cs, [] => some cs
  | cs, (j, x) :: ps =>
    match pl[j]? with
    | some (off, 1) => if off < cs.length then putCells pl (cs.set off x) ps else none
    | _ => none
theorem fill_put {w : World} {S : Nat → Prop} {h : List ABlk} {ψ : Nat → Value} {pl : List (Nat × Nat)} : ∀ (ps : List (Nat × AV)) (cs rs : List AV) (vs : List (Nat × Value)) (us : List Value), putCells pl cs ps = some rs → AV.relL w S h ψ cs us →
    vs.map (·.1) = ps.map (·.1) → (∀ (j : Nat) (p : Nat × AV) (v : Nat × Value), ps[j]? = some p → vs[j]? = some v → AV.rel w S h ψ p.2 v.2 ∧ v.2.oneCell' = true) →
    ∃ us', Instr.fill (fun i => pl[i]?) us.toArray vs = some us'.toArray ∧ AV.relL w S h ψ rs us'
  | [], cs, rs, vs, us, hp, hr, hv, _ => by
    cases hp
    have : vs = [] := by simpa using hv
    subst this
    exact ⟨us, rfl, hr⟩
  | (j, x) :: ps, cs, rs, vs, us, hp, hr, hv, hrel => by
    cases vs with
    | nil => simp at hv
    | cons v vs =>
      simp only [List.map_cons, List.cons.injEq] at hv
      obtain ⟨hv1, hv2⟩ := hv
      unfold putCells at hp
      split at hp <;> try (cases hp; done)
      rename_i off hpl
      split at hp <;> try (cases hp; done)
      rename_i hoff
      obtain ⟨h1, h2⟩ := hrel 0 _ _ rfl rfl
      have hul := relL_len hr
      obtain ⟨us', h3, h4⟩ := fill_put ps (cs.set off x) rs vs (us.set off v.2) hp (relL_set hr off h1) hv2 fun j p v hp hv => hrel (j + 1) p v (by simpa using hp) (by simpa using hv)
      refine ⟨us', ?_, h4⟩
      obtain ⟨i, v⟩ := v
      dsimp only at hv1 h1 h2 h3
      subst hv1
      unfold Instr.fill
      simp only [hpl, cells_one h2]
      have hc : ¬ ((decide ((#[v] : Array Value).size ≠ 1) || decide (off + (#[v] : Array Value).size > us.toArray.size)) = true) := by
        simp
        omega
      rw [if_neg hc]
      simpa using h3
theorem Quiet.build {C : Ctx} {t : List AV} {h : List ABlk} {o : Oper} {ty : TypeId} {parts : Array (Nat × Operand)} {zs : List Value} {pl : List (Nat × Nat)} {rs : List AV} (ho : o.op = .build ty parts) (hz : zeroCells? P ty = some zs) (hpl : places? P ty = some pl)
    (hr : putCells pl (zs.map .lit) (parts.toList.map fun p => (p.1, evA t p.2)) = some rs) (h1 : ∀ p ∈ parts.toList, One h (evA t p.2)) : Quiet P C t h o (.agg rs) :=
  Quiet.of_run fun S ψ w ρ H hρ => by
    unfold zeroCells? at hz
    obtain ⟨z, hz1, rfl⟩ := Option.map_eq_some_iff.1 hz
    obtain ⟨i, hi, hz2⟩ := Option.bind_eq_some_iff.1 hz1
    unfold places? at hpl
    split at hpl <;> try (cases hpl; done)
    rename_i fs hu
    have hrp := run_places (P := P) w fs.toList pl hpl
    have hmem : ∀ p ∈ parts.toList, AV.rel w S h ψ (evA t p.2) (ρ p.2) := fun p hp => hρ p.2 (by rw [ho]; exact List.mem_toArray.2 (List.mem_map.2 ⟨p, hp, rfl⟩))
    obtain ⟨us', h3, h4⟩ := fill_put (w := w) (S := S) (h := h) (ψ := ψ) _ _ rs (parts.toList.map fun p => (p.1, ρ p.2)) z.cells.toList hr (relL_lits _) (by simp) fun j p v hp hv => by
      rw [List.getElem?_map] at hp hv
      obtain ⟨q, hq, rfl⟩ := Option.map_eq_some_iff.1 hp
      rw [hq] at hv
      cases hv
      have hqm := List.mem_of_getElem? hq
      exact ⟨hmem q hqm, h1 q hqm C S ψ w _ H (hmem q hqm)⟩
    refine ⟨.agg us'.toArray, ?_, by unfold AV.rel; exact ⟨us', rfl, h4⟩⟩
    have hpa : (fs.mapM (m := Sem) fun f => do pure (f.offset, ← Go.sizeOf f.type)).run P w = .ok pl.toArray w := by
      rw [← Array.toArray_toList (xs := fs), List.mapM_toArray, Sem.run_map, hrp]
      rfl
    have hf : Instr.fill (fun i => pl.toArray[i]?) z.cells (parts.map fun p => (p.1, ρ p.2)).toList = some us'.toArray := by simpa using h3
    simp only [execOp, ho, Instr.build, zeroValue, typeInfo, underlying, Sem.run_bind, run_program, Result.andThen_ok, hi, hz2, Sem.run_pure, hu, hpa, hf]

end
end Mu
end
section
/-
  Regions that draw their order in which a variable's memory is made beside reads and calls.
  Conditions: none; generic.
-/
namespace Mu
open Go Go.RowKit

mutual
/-- does not speak of block p -/
def AV.nr (p : Nat) : AV → Bool
  | .own i _ => i != p
  | .ptr i _ => i != p
  | .rp i _ _ _ => i != p
  | .agg l => AV.nrL p l
  | .tup l => AV.nrL p l
  | .fn _ l => AV.nrL p l
  | _ => true
def AV.nrL (p : Nat) : List AV → Bool
  | [] => true
  | x :: l => AV.nr p x && AV.nrL p l
end
def nrB (p : Nat) : ABlk → Bool
  | .box cells => AV.nrL p cells
  | _ => true
section
variable {w : World} {S : Nat → Prop} {h : List ABlk} {ψ ψ' : Nat → Value} {p : Nat} {b : ABlk}
mutual
theorem AV.rel_up (hψ : ∀ i, i ≠ p → ψ' i = ψ i) : ∀ (x : AV) (v : Value), AV.nr p x = true → AV.rel w S h ψ x v → AV.rel w S (h.set p b) ψ' x v
  | .any, _, _, _ => by unfold AV.rel; trivial
  | .lit u, v, _, H => by unfold AV.rel at H ⊢; exact H
  | .bs T l, v, _, H => by unfold AV.rel at H ⊢; exact H
  | .tv T d, v, _, H => by unfold AV.rel at H ⊢; exact H
  | .own i ver, v, hn, H => by
    have hi : i ≠ p := by simpa [AV.nr] using hn
    unfold AV.rel at H ⊢
    rw [List.getElem?_set_ne (Ne.symm hi), hψ i hi]
    exact ⟨by simpa using H.1, H.2⟩
  | .ptr i off, v, hn, H => by
    have hi : i ≠ p := by simpa [AV.nr] using hn
    unfold AV.rel at H ⊢
    rw [List.getElem?_set_ne (Ne.symm hi), hψ i hi]
    exact ⟨by simpa using H.1, H.2⟩
  | .rp i ver k off, v, hn, H => by
    have hi : i ≠ p := by simpa [AV.nr] using hn
    unfold AV.rel at H ⊢
    rw [List.getElem?_set_ne (Ne.symm hi), hψ i hi]
    exact ⟨by simpa using H.1, H.2⟩
  | .bp T d off, v, _, H => by unfold AV.rel at H ⊢; exact H
  | .agg l, v, hn, H => by
    unfold AV.nr at hn
    unfold AV.rel at H ⊢
    obtain ⟨cs, e, hl⟩ := H
    exact ⟨cs, e, AV.relL_up hψ l cs hn hl⟩
  | .tup l, v, hn, H => by
    unfold AV.nr at hn
    unfold AV.rel at H ⊢
    obtain ⟨cs, e, hl⟩ := H
    exact ⟨cs, e, AV.relL_up hψ l cs hn hl⟩
  | .fn f l, v, hn, H => by
    unfold AV.nr at hn
    unfold AV.rel at H ⊢
    obtain ⟨cs, e, hl⟩ := H
    exact ⟨cs, e, AV.relL_up hψ l cs hn hl⟩
theorem AV.relL_up (hψ : ∀ i, i ≠ p → ψ' i = ψ i) : ∀ (l : List AV) (cs : List Value), AV.nrL p l = true → AV.relL w S h ψ l cs → AV.relL w S (h.set p b) ψ' l cs
  | [], cs, _, H => by unfold AV.relL at H ⊢; exact H
  | x :: l, cs, hn, H => by
    unfold AV.nrL at hn
    rw [Bool.and_eq_true] at hn
    unfold AV.relL at H ⊢
    obtain ⟨v, vs, e, h1, h2⟩ := H
    exact ⟨v, vs, e, AV.rel_up hψ x v hn.1 h1, AV.relL_up hψ l vs hn.2 h2⟩
end
variable {h' : List ABlk}
theorem HRel.revive {C : Ctx} {w' : World} {v : Value} (H : HRel C h S ψ w) (hp : h[p]? = some .dead) (hn : h.all (nrB p) = true) (hb : Below w.heap.size w w') (hB : BRel C.N w' S (h.set p b) (ψset ψ p v) v b) (hg : ∀ g, ftp (some b) v g → w.heap.size ≤ g) :
    HRel C (h.set p b) S (ψset ψ p v) w' := by
  have hpl := (List.getElem?_eq_some_iff.1 hp).1
  have H' := H.grow (S' := S) hb (fun _ h => h) (fun _ h => .inl h) fun k hk => Nat.lt_of_lt_of_le (H.lt k hk) hb.size
  have hlt : ∀ i, ABlk.live h[i]? = true → ∀ g, ftp h[i]? (ψ i) g → g < w.heap.size := fun i hl g hgg => by
    obtain ⟨c, hc⟩ := live_some hl
    rw [hc] at hgg
    exact ((H.blk i c hc).lt (by rw [← hc]; exact hl) g hgg).2.1
  refine ⟨H'.bel, H'.nlt, H'.lt, H'.sub, H'.new, fun i c hi => ?_, fun i j hij hi hj g h1 h2 => ?_⟩
  · by_cases hip : i = p
    · subst hip
      rw [List.getElem?_set_self hpl] at hi
      cases hi
      rw [ψset_self]
      exact hB
    · rw [List.getElem?_set_ne (Ne.symm hip)] at hi
      rw [ψset_ne hip]
      have hc := H'.blk i c hi
      have hnr := List.all_eq_true.1 hn c (List.mem_of_getElem? hi)
      cases c with
      | dead => trivial
      | box cells =>
        obtain ⟨g, cs, e, k1, k2, k3, k4, k5⟩ := hc
        exact ⟨g, cs, e, k1, k2, k3, k4, AV.relL_up (fun i hi => ψset_ne hi) _ _ hnr k5⟩
      | row ver e T l => exact hc
      | res R => exact hc
  · by_cases hip : i = p
    · subst hip
      rw [ψset_self, List.getElem?_set_self hpl] at h1
      have hji : j ≠ i := Ne.symm hij
      rw [ψset_ne hji, List.getElem?_set_ne (Ne.symm hji)] at h2
      rw [List.getElem?_set_ne (Ne.symm hji)] at hj
      have := hlt j hj g h2
      have := hg g h1
      omega
    · rw [ψset_ne hip, List.getElem?_set_ne (Ne.symm hip)] at h1
      rw [List.getElem?_set_ne (Ne.symm hip)] at hi
      by_cases hjp : j = p
      · subst hjp
        rw [ψset_self, List.getElem?_set_self hpl] at h2
        have := hlt i hi g h1
        have := hg g h2
        omega
      · rw [ψset_ne hjp, List.getElem?_set_ne (Ne.symm hjp)] at h2
        rw [List.getElem?_set_ne (Ne.symm hjp)] at hj
        exact H.dis i j hij hi hj g h1 h2
end

section
variable {P : Program} {C : Ctx} {ops : Array Oper} {md : Region.Mode} {h : List ABlk} {p ip : Nat} {zs : List Value} {elem : TypeId}

end
theorem St.le_dead {C : Ctx} {t : List AV} {h : List ABlk} : St.le C ⟨t, h⟩ ⟨t, h ++ [.dead]⟩ := fun a w ⟨hd, S, ψ, H, hl⟩ => by
  have X : Ext w S h ψ w S (h ++ [.dead]) (ψset ψ h.length (.slice none 0 0)) := Ext.push _ _ fun _ _ => rfl
  exact ⟨by rw [hd]; show mkD h = mkD (h ++ [_]); rw [mkD_push]; rfl, S, _, H.push (Below.refl _ _) trivial (fun g hg => by simp [ftp, blkOf] at hg), AV.relL_ext X _ _ hl⟩
section
variable {P : Program} {C : Ctx} {ops : Array Oper} {h : List ABlk} {p ip k : Nat} {zs : List Value} {K : List AV → Prop} {o : Oper} {rest : List Oper} {t : List AV}
end
end Mu
end
section
/-
  Functions that take a row of the caller's, change it, and hand it back.
  Conditions: none; generic.
-/
namespace Mu
open Go Go.RowKit

def RetsRow (t : Tmp) (e : TypeId) {α : Type} (T : Ty α) (l' : List α) : Exit → St → Prop := fun x s => (x = .normal ∨ x = .ret) ∧ ∃ i ver, evA s.t (.tmp t) = .own i ver ∧ s.h[i]? = some (.row ver e T l') ∧ mkD s.h = []
end Mu
end
section
/-
  Regions that draw their order, whose last operations may come in several orders.
  Conditions: none; generic.
-/
namespace Mu
open Go Go.RowKit

section
variable {P : Program} {C : Ctx} {ops : Array Oper} {md : Region.Mode} {h : List ABlk} {K : St → Prop}
end
section
variable {P : Program} {C : Ctx} {ops : Array Oper} {K : St → Prop} {listed : Array Bool} {g : Nat} {s : St} {t : List AV} {h : List ABlk}
end
end Mu
end
section
/-
  Regions that draw their order: some moves first, the reads in an order of one's own, the last operations in whatever order.
  Conditions: none; generic.
-/
namespace Mu
open Go Go.RowKit

section
variable {P : Program} {C : Ctx} {ops : Array Oper} {md : Region.Mode} {h : List ABlk} {Inv : Array Bool → Prop} {n : Nat}
end
section
variable {P : Program} {C : Ctx} {ops : Array Oper} {K : List AV → Prop} {h : List ABlk} {t : List AV}
end
end Mu
end
section
/-
  Memory of any form among the call's own: read, lent, turned, made; known addresses.
  Conditions: none; generic.
-/
namespace Mu
open Go Go.RowKit

section
variable {P : Program} {C : Ctx} {t : List AV} {h : List ABlk} {o : Oper}

/-- what an operation makes of such memory: one of several outcomes -/
structure Turns {ι : Type} (w : World) (S : Nat → Prop) (F : Nat → Prop) (Rs : ι → Res) (val : ι → Value) (v : Value) (w' : World) : Prop where
  gr : Gr F w w'
  some : ∃ p, v = val p ∧ (Rs p).R w' S ∧ ∀ k, (Rs p).F k → (F k ∨ w.heap.size ≤ k) ∧ k < w'.heap.size
def tUpon {ι : Type} (P : Program) (w : World) (S : Nat → Prop) (F : Nat → Prop) (Rs : ι → Res) (val : ι → Value) : Result Next → Prop
  | .ok (.value v) w' => Turns w S F Rs val v w'
  | .ok .skip w' => Turns w S F Rs val undef w'
  | .ok (.enter f args) w1 => w1 = w ∧ Calls P f args w fun e w' => ∃ v, e = .returned v ∧ Turns w S F Rs val v w'
  | _ => False
variable {ι : Type} {Rs : ι → Res} {val : ι → Value}
theorem tUpon_noDefer {w : World} {S : Nat → Prop} {F : Nat → Prop} {ρ : Operand → Value} (hq : tUpon P w S F Rs val ((execOp ρ o).run P w)) : ∀ c, o.op ≠ .defer c := fun c e => by
  simp only [execOp, e, Sem.run_bind] at hq
  generalize (resolve ρ c o.type).run P w = x at hq
  cases x with
  | ok d w' => exact hq
  | halt x w' => exact hq
theorem upon_of_t {K : Act → World → Prop} {Q' : Exit → Act → World → Prop} {a : Act} {w : World} {S : Nat → Prop} {F : Nat → Prop} {res : Result Next} (hq : tUpon P w S F Rs val res) (hK : ∀ v w', Turns w S F Rs val v w' → K (a.put o.dst v) w') : o.upon P a K Q' res := by
  cases res with
  | ok n w' =>
    cases n <;> simp only [tUpon] at hq <;> simp only [Oper.upon]
    case value v => exact hK v w' hq
    case skip => exact hK undef w' hq
    case enter f args =>
      obtain ⟨rfl, hc⟩ := hq
      exact hc.mono fun e w'' ⟨v, he, hg⟩ => by subst he; exact hK v w'' hg
  | halt x w' => simp only [tUpon] at hq
/-- such memory is turned -/
theorem AOp.turn {i : Nat} {R : Res} {K : St → Prop} (hi : h[i]? = some (.res R)) (hm : ∀ p, (Rs p).mrk = R.mrk)
    (hq : ∀ S ψ w (ρ : Operand → Value), HRel C h S ψ w → R.R w S → (∀ g, R.F g → g < w.heap.size) → (∀ x ∈ o.op.operands, AV.rel w S h ψ (evA t x) (ρ x)) → tUpon P w S R.F Rs val ((execOp ρ o).run P w))
    (hK : ∀ p, K ⟨putA t o.dst (.lit (val p)), h.set i (.res (Rs p))⟩) : AOp P C o ⟨t, h⟩ K := by
  rintro Q' a w ⟨hd, S, ψ, H, hl⟩
  have hB := H.blk i _ hi
  have hq' := hq S ψ w a.eval H hB.2 (fun g hg => (hB.1 g hg).2.2) fun x _ => ev_rel hl x
  refine ⟨tUpon_noDefer hq', upon_of_t hq' fun v w' hT => ?_⟩
  obtain ⟨p, rfl, hR, hF⟩ := hT.some
  have hblk : ∀ k, S k → w'.heap[k]? = w.heap[k]? := fun k hk => hT.gr.block k (H.lt k hk) fun hf => (hB.1 k hf).2.1 hk
  have X : Ext w S h ψ w' S (h.set i (.res (Rs p))) (ψset ψ i (ψ i)) := Ext.set hblk hi (fun c' hc => by simp [ABlk.ver] at hc) fun h => by simp [ABlk.isBox] at h
  have hBn : BRel C.N w' S (h.set i (.res (Rs p))) (ψset ψ i (ψ i)) (ψ i) (.res (Rs p)) := ⟨fun g hg => by
    obtain ⟨h1, h2⟩ := hF g hg
    rcases h1 with h1 | h1
    · exact ⟨(hB.1 g h1).1, (hB.1 g h1).2.1, h2⟩
    · exact ⟨fun hn => by have := H.nlt g hn; have := H.bel.size; omega, fun hs => by have := H.lt g hs; omega, h2⟩, hR⟩
  exact ⟨_, hK p, st_set (s := ⟨t, h⟩) hi hd hl (H.set hi rfl hT.gr X hBn fun g hg => (hF g hg).1) X (by unfold AV.rel; rfl) (by show (Rs p).mrk.map mark = R.mrk.map mark; rw [hm p])⟩
end
end Mu
end
section
/-
  A range over a function, over abstract states.
  Conditions: outermost; the rounds end normally; what the slots name lies at known places.
-/
namespace Mu
open Go Go.RowKit

section
variable {C : Ctx} {h h' : List ABlk} {S : Nat → Prop} {ψ : Nat → Value} {w w' W W' : World} {N N' : Nat → Prop}
end

section
variable {P : Program}
end
end Mu
end
section
/-
  A function that holds ranges over functions: its contract from its walk.
  Conditions: none; generic.
-/
namespace Mu
open Go Go.RowKit

section
variable {C : Ctx} {h : List ABlk} {S : Nat → Prop} {ψ : Nat → Value} {W : World}
end
end Mu
end
section
/-
  Own memory at known addresses: boxes and rows are opened and closed; cells are loaded and stored; rows of values are made.
  Conditions: none; generic.
-/
namespace Mu
open Go Go.RowKit Go.ChangeShapes Go.WideShapes

section
variable {C : Ctx} {h : List ABlk} {S : Nat → Prop} {ψ : Nat → Value} {w : World}
/-- another description of a block -/
theorem HRel.desc {i : Nat} {b b' : ABlk} {v' : Value} (H : HRel C h S ψ w) (hi : h[i]? = some b) (hlive : ABlk.live (some b) = true) (hn : ∀ j c, j ≠ i → h[j]? = some c → nrB i c = true)
    (hB : BRel C.N w S (h.set i b') (ψset ψ i v') v' b') (hF : ∀ g, ftp (some b') v' g → ftp (some b) (ψ i) g) : HRel C (h.set i b') S (ψset ψ i v') w := by
  have hil := (List.getElem?_eq_some_iff.1 hi).1
  refine ⟨H.bel, H.nlt, H.lt, H.sub, H.new, fun j c hc => ?_, fun j k hjk hj hk g hgj hgk => ?_⟩
  · by_cases hji : j = i
    · subst hji
      rw [List.getElem?_set_self hil] at hc
      cases hc
      rw [ψset_self]
      exact hB
    · rw [List.getElem?_set_ne (Ne.symm hji)] at hc
      rw [ψset_ne hji]
      have hBj := H.blk j c hc
      cases c with
      | dead => trivial
      | box cells =>
        obtain ⟨g, cs, e, k1, k2, k3, k4, k5⟩ := hBj
        exact ⟨g, cs, e, k1, k2, k3, k4, AV.relL_up (fun k hk => ψset_ne hk) _ _ (hn j _ hji hc) k5⟩
      | row ver e T l => exact hBj
      | res R => exact hBj
  · have hold : ∀ k, ABlk.live (h.set i b')[k]? = true → ftp (h.set i b')[k]? (ψset ψ i v' k) g → ABlk.live h[k]? = true ∧ ftp h[k]? (ψ k) g := fun k hk hgk => by
      by_cases hki : k = i
      · subst hki
        rw [List.getElem?_set_self hil, ψset_self] at hgk
        rw [hi]
        exact ⟨hlive, hF g hgk⟩
      · rw [List.getElem?_set_ne (Ne.symm hki)] at hk hgk
        rw [ψset_ne hki] at hgk
        exact ⟨hk, hgk⟩
    obtain ⟨a1, a2⟩ := hold j hj hgj
    obtain ⟨b1, b2⟩ := hold k hk hgk
    exact H.dis j k hjk a1 b1 g a2 b2
end

/-! ### opening and closing -/
/-- a row's value becomes known -/
inductive Opn (i ver : Nat) (v : Value) : List AV → List AV → Prop
  | nil : Opn i ver v [] []
  | any {x : AV} {t t' : List AV} (h : Opn i ver v t t') : Opn i ver v (x :: t) (.any :: t')
  | keep {x : AV} {t t' : List AV} (hx : AV.nr i x = true) (h : Opn i ver v t t') : Opn i ver v (x :: t) (x :: t')
  | own {t t' : List AV} (h : Opn i ver v t t') : Opn i ver v (.own i ver :: t) (.lit v :: t')
/-- a known value becomes a row of the call's own again -/
inductive Cls (i ver : Nat) (v : Value) : List AV → List AV → Prop
  | nil : Cls i ver v [] []
  | any {x : AV} {t t' : List AV} (h : Cls i ver v t t') : Cls i ver v (x :: t) (.any :: t')
  | keep {x : AV} {t t' : List AV} (hx : AV.nr i x = true) (h : Cls i ver v t t') : Cls i ver v (x :: t) (x :: t')
  | own {t t' : List AV} (h : Cls i ver v t t') : Cls i ver v (.lit v :: t) (.own i ver :: t')
def noRef (i : Nat) (h : List ABlk) : Bool := h.all fun b => nrB i b
theorem noRef_at {i : Nat} {h : List ABlk} (hn : noRef i h = true) : ∀ (j : Nat) (c : ABlk), j ≠ i → h[j]? = some c → nrB i c = true := fun j c _ hc => List.all_eq_true.1 hn c (List.mem_of_getElem? hc)
theorem ψset_id (φ : Nat → Value) (k : Nat) : ψset φ k (φ k) = φ := funext fun q => by unfold ψset; split <;> simp_all
section
variable {w : World} {S : Nat → Prop} {h : List ABlk} {ψ : Nat → Value} {i ver g : Nat} {v : Value} {b : ABlk}
theorem Opn.rel {t t' : List AV} (ho : Opn i ver v t t') (hv : ∀ u, AV.rel w S h ψ (.own i ver) u → u = v) : ∀ {cs : List Value}, AV.relL w S h ψ t cs → AV.relL w S (h.set i b) ψ t' cs := by
  induction ho with
  | nil => intro cs H; unfold AV.relL at H ⊢; exact H
  | any _ ih =>
    intro cs H
    unfold AV.relL at H ⊢
    obtain ⟨u, vs, e, _, h2⟩ := H
    exact ⟨u, vs, e, by unfold AV.rel; trivial, ih h2⟩
  | keep hx _ ih =>
    intro cs H
    unfold AV.relL at H ⊢
    obtain ⟨u, vs, e, h1, h2⟩ := H
    exact ⟨u, vs, e, AV.rel_up (fun _ _ => rfl) _ _ hx h1, ih h2⟩
  | own _ ih =>
    intro cs H
    unfold AV.relL at H ⊢
    obtain ⟨u, vs, e, h1, h2⟩ := H
    exact ⟨u, vs, e, by rw [hv u h1]; unfold AV.rel; rfl, ih h2⟩
theorem Cls.rel {t t' : List AV} (ho : Cls i ver v t t') (hil : i < h.length) (hb : ABlk.ver (some b) = some ver) : ∀ {cs : List Value}, AV.relL w S h ψ t cs → AV.relL w S (h.set i b) (ψset ψ i v) t' cs := by
  induction ho with
  | nil => intro cs H; unfold AV.relL at H ⊢; exact H
  | any _ ih =>
    intro cs H
    unfold AV.relL at H ⊢
    obtain ⟨u, vs, e, _, h2⟩ := H
    exact ⟨u, vs, e, by unfold AV.rel; trivial, ih h2⟩
  | keep hx _ ih =>
    intro cs H
    unfold AV.relL at H ⊢
    obtain ⟨u, vs, e, h1, h2⟩ := H
    exact ⟨u, vs, e, AV.rel_up (fun _ hk => ψset_ne hk) _ _ hx h1, ih h2⟩
  | own _ ih =>
    intro cs H
    unfold AV.relL at H ⊢
    obtain ⟨u, vs, e, h1, h2⟩ := H
    refine ⟨u, vs, e, ?_, ih h2⟩
    unfold AV.rel at h1 ⊢
    subst h1
    refine ⟨by simpa using hil, fun c hc => ?_⟩
    rw [List.getElem?_set_self hil, hb] at hc
    cases hc
    exact ⟨Nat.le_refl _, fun _ => by rw [ψset_self]⟩
end
section
variable {P : Program} {C : Ctx} {t : List AV} {h : List ABlk} {c : Code} {Q : Exit → St → Prop}
end

/-! ### cells at known places -/
section
variable {P : Program} {C : Ctx} {t : List AV} {h : List ABlk} {o : Oper} {K : St → Prop}
end
end Mu
end
section
/-
  Parts of rows, over abstract states.
  Conditions: none; generic.
-/
namespace Mu
open Go Go.RowKit Go.ChangeShapes Go.WideShapes

/-- a bound that is given, or not -/
def Bnd (d : Nat) : Option Value → Nat → Prop
  | none, n => n = d
  | some v, n => ∃ k, v = .int k (n : Int)
section
variable {P : Program} {C : Ctx} {t : List AV} {h : List ABlk} {o : Oper}
theorem run_sl {ty : TypeId} {sz len cap l m : Nat} {a : Option Addr} {lo hi : Option Value} {w : World} (hs : elemSz P ty = some sz) (hl : Bnd 0 lo l) (hh : Bnd len hi m) (h1 : l ≤ m) (h2 : m ≤ cap) :
    (Instr.sliceAt ty (.slice a len cap) lo hi none).run P w = .ok (.slice (if cap = l then a else a.map (·.add (l * sz))) (m - l) (cap - l)) w := by
  unfold elemSz at hs
  split at hs <;> try (cases hs; done)
  rename_i e hu
  cases hi' : P.info? e with
  | none => rw [hi'] at hs; cases hs
  | some i =>
    rw [hi'] at hs
    simp only [Option.map_some, Option.some.injEq] at hs
    have he : P.elem ty = e := by simp [Program.elem, hu]
    have hu' : P.underlying ty = some (.slice (P.elem ty)) := by rw [he]; exact hu
    have hz : (Go.sizeOf (P.elem ty)).run P w = .ok sz w := by rw [he]; simp [Go.sizeOf, typeInfo, hi', hs]
    rw [run_sliceAt_slice (h := hu')]
    cases lo with
    | none =>
      have hl : l = 0 := hl
      subst hl
      cases hi with
      | none =>
        have hh : m = len := hh
        subst hh
        rw [run_slice_all (ht := hu'), hz]
        simp [sliced]
      | some v =>
        obtain ⟨k, rfl⟩ := hh
        rw [run_slice_h (ht := hu') (h0 := by omega) (h2 := by omega), hz]
        simp [sliced]
    | some u =>
      obtain ⟨ku, rfl⟩ := hl
      cases hi with
      | none =>
        have hh : m = len := hh
        subst hh
        rw [run_slice_l (ht := hu') (h0 := by omega) (h1 := by omega), hz]
        simp [sliced]
      | some v =>
        obtain ⟨k, rfl⟩ := hh
        rw [run_slice_lh (ht := hu') (h0 := by omega) (h1 := by omega) (h2 := by omega), hz]
        simp [sliced]
theorem slice_part {α : Type} {T : Ty α} {w : World} {S : Nat → Prop} {a : Option Addr} {n c l m : Nat} {ds : List α} (h : T.slice.RS w S [.slice a n c] ds) (h1 : l ≤ m) (h2 : m ≤ ds.length) :
    T.slice.RS w S [.slice (if c = l then a else a.map (·.add (l * T.size))) (m - l) (c - l)] ((ds.take m).drop l) := by
  obtain ⟨A, c', e, hle, ⟨hc, hn⟩, hi⟩ := h
  simp only [List.cons.injEq, Value.slice.injEq, and_true] at e
  obtain ⟨rfl, rfl, rfl⟩ := e
  have hlen : ((ds.take m).drop l).length = m - l := by simp; omega
  refine ⟨_, c - l, by rw [hlen], by rw [hlen]; omega, ⟨by omega, fun e => ?_⟩, fun i d hd => ?_⟩
  · split at e
    · rename_i hcl
      omega
    · cases a with
      | none => have := hn rfl; omega
      | some x => simp at e
  · rw [List.getElem?_drop, List.getElem?_take] at hd
    split at hd
    · rename_i hlt
      obtain ⟨b, off, rfl, hat⟩ := hi _ _ hd
      have hne : ¬ c = l := by omega
      refine ⟨b, off + l * T.size, by rw [if_neg hne]; simp [add_plain], ?_⟩
      rw [show off + l * T.size + i * T.size = off + (l + i) * T.size by rw [Nat.add_mul]; omega]
      exact hat
    · cases hd
/-- a bound among the slots -/
def BndA (t : List AV) (d : Nat) : Option Operand → Nat → Prop
  | none, n => n = d
  | some x, n => ∃ k, evA t x = .lit (.int k (n : Int))
theorem BndA.val {d n : Nat} {x : Option Operand} (hb : BndA t d x n) {w : World} {S : Nat → Prop} {ψ : Nat → Value} {ρ : Operand → Value} (hρ : ∀ y, x = some y → AV.rel w S h ψ (evA t y) (ρ y)) : Bnd d (x.map ρ) n := by
  cases x with
  | none => exact hb
  | some y =>
    obtain ⟨k, hk⟩ := hb
    have := hρ y rfl
    rw [hk] at this
    unfold AV.rel at this
    exact ⟨k, this⟩
theorem Quiet.slc {ty : TypeId} {x : Operand} {lo hi : Option Operand} {n l m : Nat} {α : Type} {T : Ty α} {ds : List α} [ES P ty n] (ho : o.op = .slice ty x lo hi none) (hx : evA t x = .bs T ds) (hs : T.size = n) (hl : BndA t 0 lo l) (hm : BndA t ds.length hi m) (h1 : l ≤ m) (h2 : m ≤ ds.length) :
    Quiet P C t h o (.bs T ((ds.take m).drop l)) :=
  Quiet.of_run fun S ψ w ρ H hρ => by
    have hx' := hρ x (by rw [ho]; simp [Op.operands])
    have hlo := hl.val (h := h) (w := w) (S := S) (ψ := ψ) (ρ := ρ) fun y hy => hρ y (by rw [ho, hy]; simp [Op.operands])
    have hhi := hm.val (h := h) (w := w) (S := S) (ψ := ψ) (ρ := ρ) fun y hy => hρ y (by rw [ho, hy]; simp [Op.operands])
    rw [hx] at hx'
    unfold AV.rel at hx'
    obtain ⟨A, c, e⟩ := slice_form hx'
    have hx2 := hx'
    rw [e] at hx2
    have hle : m ≤ c := by
      obtain ⟨A', c', e', h3, _⟩ := hx2
      simp only [List.cons.injEq, Value.slice.injEq, and_true] at e'
      omega
    have hr := run_sl (P := P) (w := w) (a := A) (cap := c) (ES.eq (P := P) (ty := ty) (n := n)) hlo hhi h1 hle
    refine ⟨_, by simp [execOp, ho, e, hr]; rfl, ?_⟩
    unfold AV.rel
    rw [← hs]
    exact slice_part hx2 h1 h2
end
end Mu
end
section
/-
  Steps of a walk whose small goals close by themselves.
  Conditions: none; generic.
-/
namespace Mu
open Go Go.RowKit

section
variable {P : Program} {C : Ctx} {t t' t'' : List AV} {h h' h'' : List ABlk} {o : Oper} {r : AV} {ops : Array Oper} {rest : List Oper} {K : St → Prop}
theorem sOwn (hg : gA ops t o = some true := by rfl) (hq : ∀ K' : St → Prop, K' ⟨t'', h''⟩ → AOp P C o ⟨t, h⟩ K' := by (intro K' hK; (first
    | exact AOp.box rfl Parts0.agg hK
    | exact AOp.al rfl hK
    | exact AOp.stBox rfl rfl rfl (Parts.aggB rfl) rfl (Nat.le_of_ble_eq_true rfl) hK
    | exact AOp.stBox (new := [_]) rfl rfl rfl (Parts.one (One.lit rfl)) rfl (Nat.le_of_ble_eq_true rfl) hK
    | exact AOp.app rfl rfl rfl rfl rfl (by first | assumption | (simp [maxLen]; done) | (simp [maxLen]; omega)) (by first | assumption | (simp; done) | (simp; omega)) hK
    | exact AOp.stRow rfl rfl rfl (by assumption) (by first | exact Fit.bool | exact Fit.bs | exact Fit.int (by assumption)) rfl hK))) (ht : t'' = t' := by ((try simp only [putA, List.set_cons_zero, List.set_cons_succ]); exact rfl)) (hh : h'' = h' := by ((try simp only [List.nil_append, List.cons_append, List.set_cons_zero, List.set_cons_succ, List.length_nil, List.length_cons, Nat.reduceAdd]); exact rfl)) (hk : aSeq P C ops K rest ⟨t', h'⟩) : aSeq P C ops K (o :: rest) ⟨t, h⟩ := by
  subst ht hh
  exact aSeq_o hg (hq _ hk)
theorem sNt (ht : t = t' := by ((try simp only [putA, List.set_cons_zero, List.set_cons_succ]); exact rfl)) (hh : h = h' := by ((try simp only [List.nil_append, List.cons_append, List.set_cons_zero, List.set_cons_succ, List.length_nil, List.length_cons, Nat.reduceAdd]); exact rfl)) (hk : aSeq P C ops K rest ⟨t', h'⟩) : aSeq P C ops K rest ⟨t, h⟩ := by
  subst ht hh
  exact hk
theorem nT {c : Code} {Q : Exit → St → Prop} (ht : t = t' := by ((try simp only [putA, List.set_cons_zero, List.set_cons_succ]); exact rfl)) (hh : h = h' := by ((try simp only [List.nil_append, List.cons_append, List.set_cons_zero, List.set_cons_succ, List.length_nil, List.length_cons, Nat.reduceAdd]); exact rfl)) (hk : Awp P C c Q ⟨t', h'⟩) : Awp P C c Q ⟨t, h⟩ := by
  subst ht hh
  exact hk
end
end Mu
end
section
/-
  Rows written out that have no room behind them: what is appended to them makes a new row.
  Conditions: none; generic.
-/
namespace Mu
open Go Go.RowKit Go.ChangeShapes Go.WideShapes

section
variable {P : Program} {C : Ctx} {t : List AV} {h : List ABlk} {o : Oper}
end
end Mu
end
section
/-
  Operations whose guards are not decided: what they yield is told case by case.
  Conditions: none; generic.
-/
namespace Mu
open Go Go.RowKit

section
variable {P : Program} {C : Ctx} {t t' : List AV} {h : List ABlk} {o : Oper} {r : AV} {ops : Array Oper} {rest : List Oper} {K : St → Prop}
theorem sG {g : Bool} (hg : gA ops t o = some g := by first | rfl | exact gA_c rfl rfl) (hq : g = true → Quiet P C t h o r := by (intro hg; (try simp only [Bool.and_eq_true, beq_iff_eq] at hg); (try simp only [hg, cond_true, Bool.true_and, beq_self_eq_true]); (first
    | exact Quiet.pickOr rfl rfl rfl rfl
    | exact Quiet.pickAnd rfl rfl rfl rfl
    | exact Quiet.pickOr' rfl rfl rfl rfl
    | exact Quiet.pickAnd' rfl rfl rfl rfl
    | exact Quiet.move rfl (by (conv => lhs; whnf); try rfl)
    | exact Quiet.assign rfl (by (conv => lhs; whnf); try rfl)
    | exact Quiet.fa_ptr rfl rfl rfl
    | exact Quiet.fa_bp rfl rfl
    | exact Quiet.fa_rp rfl rfl rfl
    | exact Quiet.faL rfl rfl
    | exact Quiet.load_ptr rfl rfl rfl rfl
    | exact Quiet.load_bp rfl rfl rfl
    | exact Quiet.load_rp rfl rfl rfl (by assumption) rfl
    | exact Quiet.loadA_ptr rfl rfl rfl rfl
    | exact Quiet.loadA_bp rfl rfl rfl
    | exact Quiet.ix rfl rfl rfl rfl (by assumption)
    | exact Quiet.ixi rfl rfl rfl rfl (by first | decide | omega) (by assumption)
    | exact Quiet.ixo rfl rfl rfl rfl rfl (by first | assumption | omega)
    | exact Quiet.ixoi rfl rfl rfl rfl rfl (by first | decide | omega) (by first | assumption | omega)
    | exact Quiet.ixl0 rfl rfl rfl (by first | assumption | omega)
    | exact Quiet.ln rfl rfl
    | exact Quiet.lno rfl rfl rfl
    | exact Quiet.lnl rfl rfl
    | exact Quiet.add64 rfl rfl rfl (by omega)
    | exact Quiet.sub64 rfl rfl rfl (by omega)
    | exact Quiet.binb rfl rfl rfl rfl (by assumption)
    | exact Quiet.bin rfl rfl rfl rfl
    | exact Quiet.bnot rfl rfl
    | exact Quiet.pick rfl rfl (by (conv => lhs; whnf); try rfl)
    | exact Quiet.extract rfl rfl rfl
    | exact Quiet.lt1 rfl rfl rfl (by rfl) (by decide) (by first | exact Fit.bool | exact Fit.bs | exact Fit.int (by assumption))
    | exact Quiet.max2 rfl rfl rfl
    | exact Quiet.min2 rfl rfl rfl
    | exact Quiet.ldL (i := 1) rfl rfl rfl (by first | rfl | assumption) rfl
    | exact Quiet.ldL (i := 2) rfl rfl rfl (by first | rfl | assumption) rfl
    | exact Quiet.ldL (i := 3) rfl rfl rfl (by first | rfl | assumption) rfl
    | exact Quiet.ldL (i := 4) rfl rfl rfl (by first | rfl | assumption) rfl
    | exact Quiet.ldL (i := 5) rfl rfl rfl (by first | rfl | assumption) rfl
    | exact Quiet.ldL (i := 6) rfl rfl rfl (by first | rfl | assumption) rfl
    | exact Quiet.ldL (i := 7) rfl rfl rfl (by first | rfl | assumption) rfl
    | exact Quiet.ldL (i := 8) rfl rfl rfl (by first | rfl | assumption) rfl
    | exact Quiet.ldAL (i := 1) rfl rfl rfl rfl rfl
    | exact Quiet.ldAL (i := 2) rfl rfl rfl rfl rfl
    | exact Quiet.ldAL (i := 3) rfl rfl rfl rfl rfl
    | exact Quiet.ldAL (i := 4) rfl rfl rfl rfl rfl
    | exact Quiet.ldAL (i := 5) rfl rfl rfl rfl rfl
    | exact Quiet.ldAL (i := 6) rfl rfl rfl rfl rfl
    | exact Quiet.ldAL (i := 7) rfl rfl rfl rfl rfl
    | exact Quiet.ldAL (i := 8) rfl rfl rfl rfl rfl))) (ht : putA t o.dst (cond g r (.lit undef)) = t' := by ((try simp only [putA, List.set_cons_zero, List.set_cons_succ]); exact rfl)) (hk : aSeq P C ops K rest ⟨t', h⟩) : aSeq P C ops K (o :: rest) ⟨t, h⟩ := by
  subst ht
  cases g with
  | true => exact aSeq_q hg (hq rfl) hk
  | false => exact aSeq_skip hg hk
theorem Quiet.pickOr {c a b : Operand} {q e : Bool} (ho : o.op = .pick c a b) (hc : evA t c = .lit (.bool q)) (ha : evA t a = .lit (.bool true)) (hb : evA t b = cond (q == false) (.lit (.bool e)) (.lit undef)) : Quiet P C t h o (.lit (.bool (q || e))) := by
  refine Quiet.pick ho hc ?_
  cases q
  · exact hb
  · exact ha
theorem Quiet.pickAnd {c a b : Operand} {q e : Bool} (ho : o.op = .pick c a b) (hc : evA t c = .lit (.bool q)) (ha : evA t a = cond (q == true) (.lit (.bool e)) (.lit undef)) (hb : evA t b = .lit (.bool false)) : Quiet P C t h o (.lit (.bool (q && e))) := by
  refine Quiet.pick ho hc ?_
  cases q
  · exact hb
  · exact ha
end
end Mu
end
section
/-
  Texts: length, a byte, the rest of one, whether two are the same.
  Conditions: none; generic.
-/
namespace Mu
open Go Go.RowKit Go.Proofs

section
variable {P : Program} {C : Ctx} {o : Oper} {t : List AV} {h : List ABlk}
end
end Mu
end
section
/-
  Bytes: texts as rows of bytes and back.
  Conditions: none; generic.
-/
namespace Mu
open Go Go.RowKit Go.ChangeShapes Go.WideShapes Go.Proofs

section
variable {P : Program} {C : Ctx} {o : Oper} {t : List AV} {h : List ABlk}
end
end Mu
end
section
/-
  Contracts that presuppose something of the world that no call changes (a table that is laid).
  Conditions: none; generic.
-/
namespace Mu
open Go Go.RowKit Go.Proofs

end Mu
end
section
/-
  Calls whose result is a fresh row, kept as one's own; functions that return such a row, or take a row and hand it back.
  Conditions: none; generic.
-/
namespace Mu
open Go Go.RowKit Go.Proofs

section
variable {P : Program} {C : Ctx} {t : List AV} {h : List ABlk} {o : Oper}
def FnOwn (P : Program) (f : FuncId) (args : List AV) (e : TypeId) {α : Type} (T : Ty α) (l : List α) : Prop :=
  Enters P f = true ∧ ∀ (w : World) (S : Nat → Prop) (vs : List Value), (∀ k, S k → k < w.heap.size) → AV.relL w S [] ψ0 args vs →
    Calls P f vs.toArray w fun r w' => ∃ v cells, r = .returned v ∧ Below w.heap.size w w' ∧ w'.ownsRow w.heap.size e T.size v l.length cells ∧ ∀ i d, l[i]? = some d → T.RS w' S ((cells.drop (i * T.size)).take T.size) d
theorem ftp_row {w : World} {e : TypeId} {α : Type} {T : Ty α} {l : List α} {ver base n sz : Nat} {cells : List Value} {v : Value} (hv : w.ownsRow base e sz v n cells) : ∀ g, ftp (some (.row ver e T l)) v g → base ≤ g := fun g hg => by
  obtain ⟨_, ⟨rfl, _⟩ | ⟨g', cap, cur, rfl, hb, _⟩⟩ := hv
  · simp [ftp, blkOf] at hg
  · simp [ftp, blkOf] at hg
    omega
theorem AOp.callOwn {f : FuncId} {args : Array Operand} {tys : Array TypeId} {xs : List AV} {K : St → Prop} {e : TypeId} {α : Type} {T : Ty α} {l : List α}
    (ho : o.op = .call { callee := .value (.func f), args := args, argTypes := tys }) (hF : FnOwn P f xs e T l) (h0 : 0 < T.size) (hx : args.toList.map (evA t) = xs) (hc : AV.clL xs = true)
    (hK : K ⟨putA t o.dst (.own h.length 0), h ++ [.row 0 e T l]⟩) : AOp P C o ⟨t, h⟩ K := by
  rintro Q' a w ⟨hd, S, ψ, H, hl⟩
  refine ⟨fun c e => (by rw [ho] at e; cases e), ?_⟩
  have h2 : AV.relL w S h ψ xs (args.toList.map a.eval) := by
    rw [← hx]
    exact relL_map fun x _ => ev_rel hl x
  unfold Oper.wp
  rw [run_call ho hF.1 a.eval w rfl]
  simp only [Oper.upon]
  rw [show (args.map a.eval) = (args.toList.map a.eval).toArray from (by rw [← Array.toList_map])]
  refine (hF.2 w S (args.toList.map a.eval) H.lt (AV.relL_cl _ _ hc h2)).mono ?_
  rintro r w' ⟨v, cells, rfl, hb, hown, hR⟩
  have X : Ext w S h ψ w' S (h ++ [.row 0 e T l]) (ψset ψ h.length v) := Ext.push _ _ fun k hk => hb.block k (H.lt k hk)
  have hB : BRel C.N w' S (h ++ [.row 0 e T l]) (ψset ψ h.length v) v (.row 0 e T l) :=
    ⟨cells, hown.mono (Nat.zero_le _), h0, hR, fun g hg => by
      have hlt := hown.lt g hg
      exact ⟨fun hN => by have := H.nlt _ hN; have := H.bel.size; omega, fun hS => by have := H.lt _ hS; omega⟩⟩
  refine ⟨_, hK, st_push (s := ⟨t, h⟩) hd hl (H.push hb hB (ftp_row hown)) X ?_⟩
  unfold AV.rel
  refine ⟨by simp, fun c' hc' => ?_⟩
  rw [List.getElem?_append_right (Nat.le_refl _)] at hc'
  simp [ABlk.ver] at hc'
  exact ⟨by omega, fun _ => ψset_self.symm⟩
end
theorem ownsRow_base {w : World} {e : TypeId} {sz n base : Nat} {v : Value} {cells : List Value} (h : w.ownsRow 0 e sz v n cells) (hg : ∀ g, v.ownBlock = some g → base ≤ g) : w.ownsRow base e sz v n cells := by
  obtain ⟨h1, h2 | ⟨g, cap, cur, rfl, _, h3⟩⟩ := h
  · exact ⟨h1, .inl h2⟩
  · exact ⟨h1, .inr ⟨g, cap, cur, rfl, hg g rfl, h3⟩⟩
def RetsO (t : Tmp) (e : TypeId) {α : Type} (T : Ty α) (l : List α) : Exit → St → Prop := fun ex s => (ex = .normal ∨ ex = .ret) ∧ mkD s.h = [] ∧ ∃ i ver, evA s.t (.tmp t) = .own i ver ∧ s.h[i]? = some (.row ver e T l)
theorem FnOwn.of_awp {P : Program} {f : FuncId} {fn : Go.Func} {c : Code} {args : List AV} {e : TypeId} {α : Type} {T : Ty α} {l : List α} {t : Tmp} {n : Nat} (hf : P.funcs[f]? = some fn) (hb : fn.body = some c) (hE : Enters P f = true) (hres : fn.results = #[.tmp t]) (hn : fn.ntmps = n)
    (hT : ∀ w S S' cs d, T.RS w S cs d → T.RS w S' cs d)
    (h : ∀ C : Ctx, C.std → Awp P C c (RetsO t e T l) ⟨args ++ List.replicate (n - args.length) (.lit undef), []⟩) : FnOwn P f args e T l := by
  refine ⟨hE, fun w S vs hS hr => calls_of_wp hf hb ?_⟩
  rw [hn]
  refine wp_mono ((h ⟨w, S, fun k => k < w.heap.size, none⟩ (fun _ h => h)).wp rfl (start_rel hS hr)) ?_
  rintro ex a' w' ⟨s, ⟨he, hm, i, ver, hx, hi⟩, hd, S1, ψ, H, hl⟩
  rw [hm] at hd
  have hv := ev_rel hl (.tmp t)
  rw [hx] at hv
  unfold AV.rel at hv
  have hv' := (hv.2 _ (by rw [hi]; rfl)).2 rfl
  obtain ⟨cells, h1, _, h2, h3⟩ := H.blk i _ hi
  have hres' : (results fn a'.tmps).run P w' = .ok (a'.eval (.tmp t)) w' := results_tmp hres _ _ _
  have hown : w'.ownsRow w.heap.size e T.size (ψ i) l.length cells := ownsRow_base h1 fun g hg => Nat.le_of_not_lt fun hlt => (h3 g hg).1 hlt
  rw [hv'] at hres'
  have hR : ∀ j d, l[j]? = some d → T.RS w' S ((cells.drop (j * T.size)).take T.size) d := fun j d hd => hT _ _ _ _ _ (h2 j d hd)
  rcases he with rfl | rfl
  · exact ⟨hd, _, hres', _, cells, rfl, H.bel.below fun _ h => h, hown, hR⟩
  · exact ⟨hd, _, hres', _, cells, rfl, H.bel.below fun _ h => h, hown, hR⟩
/-- a row of the caller's, changed and handed back; with more arguments -/
def FnRowX (P : Program) (f : FuncId) (e : TypeId) {α : Type} (T : Ty α) (l : List α) (xs : List AV) (l' : List α) : Prop :=
  Enters P f = true ∧ ∀ (N S : Nat → Prop) (w : World) (v : Value) (vs : List Value), (∀ k, N k → k < w.heap.size) → (∀ k, S k → k < w.heap.size) → BRel N w S [] ψ0 v (.row 0 e T l) → AV.relL w S [] ψ0 xs vs →
    Calls P f (v :: vs).toArray w fun x w' => ∃ v', x = .returned v' ∧ w.grownBy w' (blkOf v) ∧ BRel N w' S [] ψ0 v' (.row 0 e T l') ∧ ∀ g, blkOf v' = some g → blkOf v = some g ∨ w.heap.size ≤ g
theorem FnRowX.of_awp {P : Program} {f : FuncId} {fn : Go.Func} {c : Code} {e : TypeId} {α : Type} {T : Ty α} {l l' : List α} {xs : List AV} {t : Tmp} {n : Nat} (hf : P.funcs[f]? = some fn) (hb : fn.body = some c) (hE : Enters P f = true) (hres : fn.results = #[.tmp t]) (hn : fn.ntmps = n) (hflat : ∀ w S S' cs d, T.RS w S cs d → T.RS w S' cs d)
    (h : ∀ C : Ctx, Awp P C c (RetsRow t e T l') ⟨(.own 0 0 :: xs) ++ List.replicate (n - (xs.length + 1)) (.lit undef), [.row 0 e T l]⟩) : FnRowX P f e T l xs l' := by
  refine ⟨hE, fun N S w v vs hN hS hB hr => calls_of_wp hf hb ?_⟩
  rw [hn]
  have hlv := hB.lt rfl
  have hst : St.rel ⟨w, S, fun k => k < w.heap.size ∧ blkOf v ≠ some k, none⟩ ⟨(.own 0 0 :: xs) ++ List.replicate (n - (xs.length + 1)) (.lit undef), [.row 0 e T l]⟩ { tmps := (v :: vs).toArray ++ Array.replicate (n - (v :: vs).toArray.size) undef, defers := [] } w := by
    refine ⟨rfl, S, fun _ => v, ⟨Kp.refl _ _, fun k hk => hk.1, hS, fun _ h => h, fun _ h => .inl h, fun i b hi => ?_, fun i j hij hi hj => ?_⟩, ?_⟩
    · cases i with
      | zero =>
        simp only [List.getElem?_cons_zero, Option.some.injEq] at hi
        subst hi
        obtain ⟨cells, k1, k2, k3, k4⟩ := hB
        exact ⟨cells, k1, k2, k3, fun g hg => ⟨fun hc => hc.2 (ownBlock_blkOf hg), (k4 g hg).2⟩⟩
      | succ i => simp at hi
    · cases i with
      | zero => cases j with
        | zero => exact absurd rfl hij
        | succ j => simp [ABlk.live] at hj
      | succ i => simp [ABlk.live] at hi
    · have X : Ext w S [] ψ0 w S [.row 0 e T l] (fun _ => v) := ⟨fun _ _ => rfl, fun _ h => h, by simp, fun i c' hi => by simp at hi, fun i hi => by simp at hi⟩
      simp only [Array.toList_append, Array.toList_replicate]
      refine relL_append ?_ (relL_of (by simp [relL_len hr]) fun i x u hx hu => ?_)
      · unfold AV.relL
        refine ⟨v, vs, rfl, ?_, AV.relL_ext X _ _ hr⟩
        unfold AV.rel
        refine ⟨by simp, fun c hc => ?_⟩
        simp [ABlk.ver] at hc
        exact ⟨by omega, fun _ => rfl⟩
      · rw [List.getElem?_replicate] at hx hu
        split at hx <;> cases hx
        split at hu <;> cases hu
        unfold AV.rel
        rfl
  refine wp_mono ((h ⟨w, S, fun k => k < w.heap.size ∧ blkOf v ≠ some k, none⟩).wp rfl hst) ?_
  rintro x a' w' ⟨s, ⟨hx, i, ver, hev, hi, hmk⟩, hd, S1, ψ, H, hl⟩
  rw [hmk] at hd
  have hv := ev_rel hl (.tmp t)
  rw [hev] at hv
  unfold AV.rel at hv
  have hv' := (hv.2 _ (by rw [hi]; rfl)).2 rfl
  have hBi := H.blk i _ hi
  have hlt := hBi.lt rfl
  have hres' : (results fn a'.tmps).run P w' = .ok (a'.eval (.tmp t)) w' := results_tmp hres _ _ _
  have hg : w.grownBy w' (blkOf v) := ⟨H.bel.os, H.bel.tape, H.bel.output, H.bel.size, fun k hk hne => H.bel.block k ⟨hk, fun e => hne e.symm⟩⟩
  have hfin : ∃ v', Ending.returned (a'.eval (.tmp t)) = .returned v' ∧ w.grownBy w' (blkOf v) ∧ BRel N w' S [] ψ0 v' (.row 0 e T l') ∧ ∀ g, blkOf v' = some g → blkOf v = some g ∨ w.heap.size ≤ g := by
    have hor : ∀ g, blkOf (ψ i) = some g → blkOf v = some g ∨ w.heap.size ≤ g := fun g hgg => by
      have := (hlt g hgg).1
      by_cases hc : blkOf v = some g
      · exact .inl hc
      · exact .inr (Nat.le_of_not_lt fun h => this ⟨h, hc⟩)
    obtain ⟨cells, k1, k2, k3, k4⟩ := hBi
    rw [hv']
    refine ⟨_, rfl, hg, ⟨cells, k1, k2, ?_, fun g hgg => ?_⟩, hor⟩
    · intro j d hj
      exact hflat _ _ _ _ _ (k3 j d hj)
    · refine ⟨fun hNg => ?_, fun hSg => (k4 g hgg).2 (H.sub g hSg)⟩
      rcases hor g (ownBlock_blkOf hgg) with h1 | h1
      · exact (hlv g h1).1 hNg
      · have := hN g hNg; omega
  rcases hx with rfl | rfl
  · exact ⟨hd, _, hres', hfin⟩
  · exact ⟨hd, _, hres', hfin⟩
theorem AOp.callRowX {P : Program} {C : Ctx} {o : Oper} {t : List AV} {h : List ABlk} {K : St → Prop} {f : FuncId} {x : Operand} {more : List Operand} {args : Array Operand} {tys : Array TypeId} {i ver : Nat} {e : TypeId} {α : Type} {T : Ty α} {l l' : List α} {xs : List AV}
    (ho : o.op = .call { callee := .value (.func f), args := args, argTypes := tys }) (ha : args.toList = x :: more) (hF : FnRowX P f e T l xs l') (hx : evA t x = .own i ver) (hi : h[i]? = some (.row ver e T l)) (hm : more.map (evA t) = xs) (hc : AV.clL xs = true)
    (hK : K ⟨putA t o.dst (.own i (ver + 1)), h.set i (.row (ver + 1) e T l')⟩) : AOp P C o ⟨t, h⟩ K := by
  rintro Q' a w ⟨hd, S, ψ, H, hl⟩
  refine ⟨fun c e => (by rw [ho] at e; cases e), ?_⟩
  have hx' := ev_rel hl x
  rw [show evA (St.mk t h).t x = .own i ver from hx] at hx'
  unfold AV.rel at hx'
  have hv := (hx'.2 _ (by rw [hi]; rfl)).2 rfl
  have hBi := H.blk i _ hi
  have hlt := hBi.lt rfl
  have h2 : AV.relL w S h ψ xs (more.map a.eval) := by
    rw [← hm]
    exact relL_map fun x _ => ev_rel hl x
  unfold Oper.wp
  rw [run_call ho hF.1 a.eval w rfl]
  simp only [Oper.upon]
  have hc := hF.2 C.N S w (ψ i) (more.map a.eval) (fun k hk => Nat.lt_of_lt_of_le (H.nlt k hk) H.bel.size) H.lt hBi (AV.relL_cl _ _ hc h2)
  rw [show (args.map a.eval) = (ψ i :: more.map a.eval).toArray from by
    obtain rfl : args = (x :: more).toArray := by rw [← ha]
    simp [hv]]
  refine hc.mono ?_
  rintro r w' ⟨v', rfl, hgr, hB', hor⟩
  have hblk : ∀ k, S k → w'.heap[k]? = w.heap[k]? := fun k hk => hgr.block k (H.lt k hk) fun e => (hlt k e.symm).2.2 hk
  have X : Ext w S h ψ w' S (h.set i (.row (ver + 1) e T l')) (ψset ψ i v') := Ext.set hblk hi (fun c' hc => by
    simp only [ABlk.ver, Option.some.injEq] at hc
    exact ⟨ver, rfl, by omega, fun e => by omega⟩) fun h => by simp [ABlk.isBox] at h
  refine ⟨_, hK, st_set (s := ⟨t, h⟩) hi hd hl (H.set hi rfl (Gr.of_grownBy hgr) X hB' hor) X ?_⟩
  unfold AV.rel
  refine ⟨by simp [(List.getElem?_eq_some_iff.1 hi).1], fun c' hc' => ?_⟩
  rw [List.getElem?_set_self (List.getElem?_eq_some_iff.1 hi).1] at hc'
  simp only [ABlk.ver, Option.some.injEq] at hc'
  exact ⟨by omega, fun _ => by rw [ψset_self]⟩
end Mu
end
section
/-
  Function values: made, lent to functions, called.
  Conditions: none; generic.
-/
namespace Mu
open Go Go.RowKit Go.Proofs

section
variable {P : Program} {C : Ctx} {o : Oper} {t : List AV} {h : List ABlk}
theorem run_callV {f : FuncId} {x : Operand} {args : Array Operand} {tys : Array TypeId} {cs : Array Value} (ho : o.op = .call { callee := .value x, args := args, argTypes := tys }) (hE : Enters P f = true) (ρ : Operand → Value) (w : World) (hρ : ρ x = .func (.func f) #[] cs) :
    (execOp ρ o).run P w = .ok (.enter f (args.map ρ ++ cs)) w := by
  unfold Enters at hE
  cases hf : P.funcs[f]? with
  | none => rw [hf] at hE; cases hE
  | some fn =>
    rw [hf] at hE
    simp only [Bool.and_eq_true, Bool.not_eq_true'] at hE
    have h1 : ¬ fn.name = "runtime.NumGoroutine" := by simpa using hE.1
    have h2 : ¬ fn.body = none := fun e => by have := hE.2; rw [e] at this; cases this
    simp [execOp, ho, resolve, Deferred.ofValue, hρ, invoke, callFunc, hf, h1, h2]
theorem Quiet.mkFn {f : FuncId} {cap : Array Operand} (ho : o.op = .makeFunc (.func f) #[] cap) : Quiet P C t h o (.fn f (cap.toList.map (evA t))) :=
  Quiet.of_run fun S ψ w ρ H hρ => by
    have hl : AV.relL w S h ψ (cap.toList.map (evA t)) (cap.toList.map ρ) := relL_map fun x hx => hρ x (by rw [ho]; simpa [Op.operands] using hx)
    refine ⟨.func (.func f) #[] (cap.map ρ), by simp [execOp, ho, Instr.makeFunc], ?_⟩
    unfold AV.rel
    exact ⟨_, by rw [← Array.toList_map], hl⟩
theorem clL_append : ∀ l m : List AV, AV.clL (l ++ m) = (AV.clL l && AV.clL m)
  | [], m => by simp [AV.clL]
  | x :: l, m => by
    have e : ∀ y k, AV.clL (y :: k) = (AV.cl y && AV.clL k) := fun _ _ => by rw [AV.clL]
    rw [List.cons_append, e, e, clL_append l m, Bool.and_assoc]
mutual
theorem bd_of_cl (n : Nat) : ∀ x : AV, AV.cl x = true → AV.bd n x = true
  | .any, _ => rfl
  | .lit _, _ => rfl
  | .bs _ _, _ => rfl
  | .tv _ _, _ => rfl
  | .own _ _, h => by simp [AV.cl] at h
  | .ptr _ _, h => by simp [AV.cl] at h
  | .rp _ _ _ _, h => by simp [AV.cl] at h
  | .bp _ _ _, _ => rfl
  | .agg l, h => by unfold AV.cl at h; unfold AV.bd; exact bdL_of_cl n l h
  | .tup l, h => by unfold AV.cl at h; unfold AV.bd; exact bdL_of_cl n l h
  | .fn _ l, h => by unfold AV.cl at h; unfold AV.bd; exact bdL_of_cl n l h
theorem bdL_of_cl (n : Nat) : ∀ l : List AV, AV.clL l = true → AV.bdL n l = true
  | [], _ => rfl
  | x :: l, h => by
    unfold AV.clL at h
    rw [Bool.and_eq_true] at h
    unfold AV.bdL
    rw [bd_of_cl n x h.1, bdL_of_cl n l h.2]
    rfl
end
/-- a function value is called -/
theorem Quiet.callV {f : FuncId} {x : Operand} {args : Array Operand} {tys : Array TypeId} {l xs : List AV} {r : AV} (ho : o.op = .call { callee := .value x, args := args, argTypes := tys }) (hv : evA t x = .fn f l) (hx : args.toList.map (evA t) ++ l = xs) (hF : Fn P f xs r) (hc1 : AV.clL (args.toList.map (evA t)) = true) (hc2 : AV.clL l = true) (hr : AV.cl r = true) : Quiet P C t h o r := by
  have hc : AV.clL xs = true := by rw [← hx, clL_append, hc1, hc2]; rfl
  intro S ψ w ρ H hρ
  have h1 := hρ x (by rw [ho]; exact Array.mem_append.2 (.inl (by simp)))
  rw [hv] at h1
  unfold AV.rel at h1
  obtain ⟨cs, e, hcs⟩ := h1
  rw [run_callV ho hF.1 ρ w e]
  refine ⟨rfl, ?_⟩
  have h2 : AV.relL w S h ψ xs (args.toList.map ρ ++ cs) := by
    rw [← hx]
    exact relL_append (relL_map fun x hx' => hρ x (by rw [ho]; exact Array.mem_append.2 (.inr (Array.mem_toList_iff.1 hx')))) hcs
  have h3 := hF.2 w S (args.toList.map ρ ++ cs) H.lt (AV.relL_cl _ _ hc h2)
  rw [show (args.map ρ ++ cs.toArray) = (args.toList.map ρ ++ cs).toArray from (by simp)]
  refine h3.mono ?_
  rintro e w' ⟨v, he, hb, S', k1, k2, k3, k4⟩
  exact ⟨v, he, hb, S', k1, k2, k3, AV.rel_cl _ _ hr k4⟩

/-! ### what is the call's own, lent -/
mutual
inductive LendV (h : List ABlk) : AV → AV → Prop
  | cl {x : AV} (hx : AV.cl x = true) : LendV h x x
  | own {i ver : Nat} {e : TypeId} {α : Type} {T : Ty α} {d : List α} (hi : h[i]? = some (.row ver e T d)) : LendV h (.own i ver) (.bs T d)
  | box {i off : Nat} {cells : List AV} {α : Type} {T : Ty α} {d : α} (hi : h[i]? = some (.box cells)) (hn : ((cells.drop off).take T.size).length = T.size) (hp : ∀ (C : Ctx) (S : Nat → Prop) (ψ : Nat → Value) (w : World) (cs : List Value), HRel C h S ψ w → AV.relL w S h ψ ((cells.drop off).take T.size) cs → T.RS w S cs d) : LendV h (.ptr i off) (.bp T d 0)
  | fn {f : FuncId} {l l' : List AV} (hl : LendL h l l') : LendV h (.fn f l) (.fn f l')
  | fl {f : FuncId} : LendV h (.lit (.func (.func f) #[] #[])) (.fn f [])
inductive LendL (h : List ABlk) : List AV → List AV → Prop
  | nil : LendL h [] []
  | cons {x x' : AV} {l l' : List AV} (hx : LendV h x x') (hl : LendL h l l') : LendL h (x :: l) (x' :: l')
end
mutual
theorem LendV.rel {w : World} {S : Nat → Prop} {ψ : Nat → Value} (H : HRel C h S ψ w) : ∀ {x x' : AV} {v : Value}, LendV h x x' → AV.rel w S h ψ x v → AV.rel w (fun k => k < w.heap.size) [] ψ0 x' v
  | x, _, v, .cl hx, hr => AV.rel_cl _ _ hx (AV.rel_ext (Ext.grow h ψ (fun _ _ => rfl) H.lt : Ext w S h ψ w (fun k => k < w.heap.size) h ψ) _ _ hr)
  | _, _, v, .own (i := i) hi, hr => by
    unfold AV.rel at hr ⊢
    have hv := (hr.2 _ (by rw [hi]; rfl)).2 rfl
    subst hv
    obtain ⟨cells, k1, k0, k2, k3⟩ := H.blk _ _ hi
    exact own_slice k1 (fun i d hd => Ty.keepS _ (k2 i d hd) (fun _ _ => rfl) H.lt) fun g hg => (World.ownsRow.lt k1 g hg).2
  | _, _, v, .box (i := i) (off := off) (cells := cells) (T := T) (d := d) hi hn hp, hr => by
    unfold AV.rel at hr ⊢
    obtain ⟨g, hg, hv⟩ := hr.2 (by rw [hi]; rfl)
    obtain ⟨g', cs, e, hg', _, _, hw, hcs⟩ := H.blk _ _ hi
    rw [hg] at hg'
    cases hg'
    have hlt : g < w.heap.size := (Array.getElem?_eq_some_iff.1 hw).1
    have hl := relL_take (relL_drop hcs off) T.size
    refine ⟨g, off, by rw [hv]; rfl, hlt, (cs.drop off).take T.size, Ty.keepS _ (hp C S ψ w _ H hl) (fun _ _ => rfl) H.lt, fun j u hj => ?_⟩
    rw [List.getElem?_take] at hj
    split at hj
    · rw [List.getElem?_drop] at hj
      have : w.cell? ⟨g, off + 0 + j, none⟩ = some u := by
        unfold World.cell?
        rw [hw]
        simpa using hj
      simpa using this
    · cases hj
  | _, _, v, .fn hl, hr => by
    unfold AV.rel at hr ⊢
    obtain ⟨cs, e, hcs⟩ := hr
    exact ⟨cs, e, LendL.rel H hl hcs⟩
  | _, _, v, .fl, hr => by
    unfold AV.rel at hr ⊢
    exact ⟨[], hr, by unfold AV.relL; rfl⟩
theorem LendL.rel {w : World} {S : Nat → Prop} {ψ : Nat → Value} (H : HRel C h S ψ w) : ∀ {l l' : List AV} {vs : List Value}, LendL h l l' → AV.relL w S h ψ l vs → AV.relL w (fun k => k < w.heap.size) [] ψ0 l' vs
  | _, _, vs, .nil, hr => by
    unfold AV.relL at hr ⊢
    exact hr
  | _, _, vs, .cons hx hl, hr => by
    unfold AV.relL at hr ⊢
    obtain ⟨v, vs', e, h1, h2⟩ := hr
    exact ⟨v, vs', e, LendV.rel H hx h1, LendL.rel H hl h2⟩
end
end
end Mu
end
section
/-
  Whole regions in one step: what a region does is found by the facts that lie at hand.
  Conditions: none; generic.
-/
namespace Mu
open Go Go.RowKit Go.Proofs

section
variable {P : Program} {C : Ctx}
theorem AOp.weak {o : Oper} {s : St} {K K' : St → Prop} (hk : ∀ s, K s → K' s) (h : AOp P C o s K) : AOp P C o s K' := fun Q' a w H =>
  let ⟨h1, h2⟩ := h Q' a w H
  ⟨h1, Oper.wp_mono (fun _ _ ⟨s', k1, k2⟩ => ⟨s', hk _ k1, k2⟩) h2⟩
theorem aSeq_weak {ops : Array Oper} {K K' : St → Prop} (hk : ∀ s, K s → K' s) : ∀ {l : List Oper} {s : St}, aSeq P C ops K l s → aSeq P C ops K' l s
  | [], s, h => hk s h
  | o :: rest, s, h => by
    obtain ⟨b, hg, ht, hf⟩ := h
    exact ⟨b, hg, fun e => (ht e).weak fun s h => aSeq_weak hk h, fun e => aSeq_weak hk (hf e)⟩
theorem aQ_weak {ops : Array Oper} {h : List ABlk} {K K' : List AV → Prop} (hk : ∀ s, K s → K' s) : ∀ {l : List Oper} {t : List AV}, aQ P C ops h K l t → aQ P C ops h K' l t
  | [], s, h => hk s h
  | o :: rest, t, h => by
    obtain ⟨r, h1, h2⟩ := h
    exact ⟨r, h1, aQ_weak hk h2⟩
theorem Quiet.callA {t : List AV} {h : List ABlk} {o : Oper} {f : FuncId} {args : Array Operand} {tys : Array TypeId} {xs : List AV} {r : AV}
    (ho : o.op = .call { callee := .value (.func f), args := args, argTypes := tys }) (hx : args.toList.map (evA t) = xs) (hF : Fn P f xs r) (hc : AV.clL xs = true) (hr : AV.cl r = true) : Quiet P C t h o r := Quiet.call ho hF hx hc hr
theorem Quiet.pickOrB {t : List AV} {h : List ABlk} {o : Oper} {c a b : Operand} {q e : Bool} (ho : o.op = .pick c a b) (hc : evA t c = .lit (.bool q)) (ha : evA t a = .lit (.bool true)) (hb : evA t b = cond (!q) (.lit (.bool e)) (.lit undef)) : Quiet P C t h o (.lit (.bool (q || e))) :=
  Quiet.pickOr ho hc ha (by rw [hb]; cases q <;> rfl)
theorem Quiet.pickAndB {t : List AV} {h : List ABlk} {o : Oper} {c a b : Operand} {q e : Bool} (ho : o.op = .pick c a b) (hc : evA t c = .lit (.bool q)) (ha : evA t a = cond q (.lit (.bool e)) (.lit undef)) (hb : evA t b = .lit (.bool false)) : Quiet P C t h o (.lit (.bool (q && e))) :=
  Quiet.pickAnd ho hc (by rw [ha]; cases q <;> rfl) hb
theorem wEnd {ops : Array Oper} {s s' : St} (e : s = s') : aSeq P C ops (fun x => x = s') [] s := e
theorem qEnd {ops : Array Oper} {h : List ABlk} {t t' : List AV} (e : t = t') : aQ P C ops h (fun x => x = t') [] t := e

section
variable {t t' t'' : List AV} {h h' h'' : List ABlk} {o : Oper} {r : AV} {ops : Array Oper} {rest : List Oper} {K : St → Prop}
theorem sA (hg : gA ops t o = some true := by rfl) (hq : Quiet P C t h o r := by (first
    | exact Quiet.callA rfl rfl (by assumption) rfl rfl
    | exact Quiet.callTA rfl rfl (by assumption) (by assumption) (by assumption) (by assumption) rfl rfl
    | exact Quiet.bin rfl rfl rfl (by assumption)
    | exact Quiet.pickOr rfl rfl rfl rfl
    | exact Quiet.pickAnd rfl rfl rfl rfl
    | exact Quiet.pickOrB rfl rfl rfl rfl
    | exact Quiet.pickAndB rfl rfl rfl rfl
    | exact Quiet.pickOr' rfl rfl rfl rfl
    | exact Quiet.pickAnd' rfl rfl rfl rfl
    | exact Quiet.move rfl (by (conv => lhs; whnf); try rfl)
    | exact Quiet.assign rfl (by (conv => lhs; whnf); try rfl)
    | exact Quiet.fa_ptr rfl rfl rfl
    | exact Quiet.fa_bp rfl rfl
    | exact Quiet.fa_rp rfl rfl rfl
    | exact Quiet.faL rfl rfl
    | exact Quiet.load_ptr rfl rfl rfl rfl
    | exact Quiet.load_bp rfl rfl rfl
    | exact Quiet.load_rp rfl rfl rfl (by assumption) rfl
    | exact Quiet.loadA_ptr rfl rfl rfl rfl
    | exact Quiet.loadA_bp rfl rfl rfl
    | exact Quiet.ix rfl rfl rfl rfl (by assumption)
    | exact Quiet.ixi rfl rfl rfl rfl (by first | decide | omega) (by assumption)
    | exact Quiet.ixo rfl rfl rfl rfl rfl (by first | assumption | omega)
    | exact Quiet.ixoi rfl rfl rfl rfl rfl (by first | decide | omega) (by first | assumption | omega)
    | exact Quiet.ixl0 rfl rfl rfl (by first | assumption | omega)
    | exact Quiet.ln rfl rfl
    | exact Quiet.lno rfl rfl rfl
    | exact Quiet.lnl rfl rfl
    | exact Quiet.add64 rfl rfl rfl (by omega)
    | exact Quiet.sub64 rfl rfl rfl (by omega)
    | exact Quiet.binb rfl rfl rfl rfl (by assumption)
    | exact Quiet.bin rfl rfl rfl rfl
    | exact Quiet.bnot rfl rfl
    | exact Quiet.pick rfl rfl (by (conv => lhs; whnf); try rfl)
    | exact Quiet.extract rfl rfl rfl
    | exact Quiet.lt1 rfl rfl rfl (by rfl) (by decide) (by first | exact Fit.bool | exact Fit.bs | exact Fit.int (by assumption))
    | exact Quiet.max2 rfl rfl rfl
    | exact Quiet.min2 rfl rfl rfl
    | exact Quiet.ldL (i := 0) rfl rfl rfl (by first | rfl | assumption) rfl
    | exact Quiet.ldL (i := 1) rfl rfl rfl (by first | rfl | assumption) rfl
    | exact Quiet.ldL (i := 2) rfl rfl rfl (by first | rfl | assumption) rfl
    | exact Quiet.ldL (i := 3) rfl rfl rfl (by first | rfl | assumption) rfl
    | exact Quiet.ldL (i := 4) rfl rfl rfl (by first | rfl | assumption) rfl
    | exact Quiet.ldL (i := 5) rfl rfl rfl (by first | rfl | assumption) rfl
    | exact Quiet.ldL (i := 6) rfl rfl rfl (by first | rfl | assumption) rfl
    | exact Quiet.ldL (i := 7) rfl rfl rfl (by first | rfl | assumption) rfl
    | exact Quiet.ldL (i := 8) rfl rfl rfl (by first | rfl | assumption) rfl
    | exact Quiet.ldAL (i := 1) rfl rfl rfl rfl rfl
    | exact Quiet.ldAL (i := 2) rfl rfl rfl rfl rfl
    | exact Quiet.ldAL (i := 3) rfl rfl rfl rfl rfl
    | exact Quiet.ldAL (i := 4) rfl rfl rfl rfl rfl
    | exact Quiet.ldAL (i := 5) rfl rfl rfl rfl rfl
    | exact Quiet.ldAL (i := 6) rfl rfl rfl rfl rfl
    | exact Quiet.ldAL (i := 7) rfl rfl rfl rfl rfl
    | exact Quiet.ldAL (i := 8) rfl rfl rfl rfl rfl
    | exact Quiet.eqb rfl rfl rfl (by assumption)
    | exact Quiet.eqb rfl rfl rfl rfl
    | exact Quiet.neb rfl rfl rfl (by assumption)
    | exact Quiet.neb rfl rfl rfl rfl
    | exact Quiet.eqSs rfl rfl rfl
    | exact Quiet.eqS rfl rfl rfl
    | exact Quiet.neS rfl rfl rfl
    | exact Quiet.lnS rfl rfl
    | exact Quiet.ixS rfl rfl rfl (by assumption)
    | exact Quiet.cat rfl rfl rfl (by first | assumption | omega)
    | exact Quiet.cut rfl rfl rfl rfl (by first | assumption | omega) (by first | assumption | omega)
    | exact Quiet.cutS rfl rfl rfl (by first | assumption | omega)
    | exact Quiet.shl rfl rfl rfl (by decide) (by assumption)
    | exact Quiet.shl rfl rfl rfl (by decide) rfl
    | exact Quiet.shr rfl rfl rfl (by decide) (by assumption)
    | exact Quiet.shr rfl rfl rfl (by decide) rfl
    | exact Quiet.bit rfl rfl rfl rfl (by assumption)
    | exact Quiet.bit rfl rfl rfl rfl rfl
    | exact Quiet.mkFn rfl
    | exact Quiet.callV rfl rfl rfl (by assumption) rfl (by first | rfl | assumption) rfl
    | exact Quiet.cv rfl rfl (by assumption)
    | exact Quiet.cv rfl rfl rfl
    | exact Quiet.b2s rfl rfl
    | exact Quiet.s2b rfl rfl (by first | assumption | omega))) (ht : putA t o.dst r = t' := by ((try simp only [putA, List.set_cons_zero, List.set_cons_succ]); exact rfl)) (hk : aSeq P C ops K rest ⟨t', h⟩) : aSeq P C ops K (o :: rest) ⟨t, h⟩ := by
  subst ht
  exact aSeq_q hg hq hk
theorem qA {K : List AV → Prop} (hg : gA ops t o = some true := by rfl) (hq : Quiet P C t h o r := by (first
    | exact Quiet.callA rfl rfl (by assumption) rfl rfl
    | exact Quiet.callTA rfl rfl (by assumption) (by assumption) (by assumption) (by assumption) rfl rfl
    | exact Quiet.bin rfl rfl rfl (by assumption)
    | exact Quiet.pickOr rfl rfl rfl rfl
    | exact Quiet.pickAnd rfl rfl rfl rfl
    | exact Quiet.pickOrB rfl rfl rfl rfl
    | exact Quiet.pickAndB rfl rfl rfl rfl
    | exact Quiet.pickOr' rfl rfl rfl rfl
    | exact Quiet.pickAnd' rfl rfl rfl rfl
    | exact Quiet.move rfl (by (conv => lhs; whnf); try rfl)
    | exact Quiet.assign rfl (by (conv => lhs; whnf); try rfl)
    | exact Quiet.fa_ptr rfl rfl rfl
    | exact Quiet.fa_bp rfl rfl
    | exact Quiet.fa_rp rfl rfl rfl
    | exact Quiet.faL rfl rfl
    | exact Quiet.load_ptr rfl rfl rfl rfl
    | exact Quiet.load_bp rfl rfl rfl
    | exact Quiet.load_rp rfl rfl rfl (by assumption) rfl
    | exact Quiet.loadA_ptr rfl rfl rfl rfl
    | exact Quiet.loadA_bp rfl rfl rfl
    | exact Quiet.ix rfl rfl rfl rfl (by assumption)
    | exact Quiet.ixi rfl rfl rfl rfl (by first | decide | omega) (by assumption)
    | exact Quiet.ixo rfl rfl rfl rfl rfl (by first | assumption | omega)
    | exact Quiet.ixoi rfl rfl rfl rfl rfl (by first | decide | omega) (by first | assumption | omega)
    | exact Quiet.ixl0 rfl rfl rfl (by first | assumption | omega)
    | exact Quiet.ln rfl rfl
    | exact Quiet.lno rfl rfl rfl
    | exact Quiet.lnl rfl rfl
    | exact Quiet.add64 rfl rfl rfl (by omega)
    | exact Quiet.sub64 rfl rfl rfl (by omega)
    | exact Quiet.binb rfl rfl rfl rfl (by assumption)
    | exact Quiet.bin rfl rfl rfl rfl
    | exact Quiet.bnot rfl rfl
    | exact Quiet.pick rfl rfl (by (conv => lhs; whnf); try rfl)
    | exact Quiet.extract rfl rfl rfl
    | exact Quiet.lt1 rfl rfl rfl (by rfl) (by decide) (by first | exact Fit.bool | exact Fit.bs | exact Fit.int (by assumption))
    | exact Quiet.max2 rfl rfl rfl
    | exact Quiet.min2 rfl rfl rfl
    | exact Quiet.ldL (i := 0) rfl rfl rfl (by first | rfl | assumption) rfl
    | exact Quiet.ldL (i := 1) rfl rfl rfl (by first | rfl | assumption) rfl
    | exact Quiet.ldL (i := 2) rfl rfl rfl (by first | rfl | assumption) rfl
    | exact Quiet.ldL (i := 3) rfl rfl rfl (by first | rfl | assumption) rfl
    | exact Quiet.ldL (i := 4) rfl rfl rfl (by first | rfl | assumption) rfl
    | exact Quiet.ldL (i := 5) rfl rfl rfl (by first | rfl | assumption) rfl
    | exact Quiet.ldL (i := 6) rfl rfl rfl (by first | rfl | assumption) rfl
    | exact Quiet.ldL (i := 7) rfl rfl rfl (by first | rfl | assumption) rfl
    | exact Quiet.ldL (i := 8) rfl rfl rfl (by first | rfl | assumption) rfl
    | exact Quiet.ldAL (i := 1) rfl rfl rfl rfl rfl
    | exact Quiet.ldAL (i := 2) rfl rfl rfl rfl rfl
    | exact Quiet.ldAL (i := 3) rfl rfl rfl rfl rfl
    | exact Quiet.ldAL (i := 4) rfl rfl rfl rfl rfl
    | exact Quiet.ldAL (i := 5) rfl rfl rfl rfl rfl
    | exact Quiet.ldAL (i := 6) rfl rfl rfl rfl rfl
    | exact Quiet.ldAL (i := 7) rfl rfl rfl rfl rfl
    | exact Quiet.ldAL (i := 8) rfl rfl rfl rfl rfl
    | exact Quiet.eqb rfl rfl rfl (by assumption)
    | exact Quiet.eqb rfl rfl rfl rfl
    | exact Quiet.neb rfl rfl rfl (by assumption)
    | exact Quiet.neb rfl rfl rfl rfl
    | exact Quiet.eqSs rfl rfl rfl
    | exact Quiet.eqS rfl rfl rfl
    | exact Quiet.neS rfl rfl rfl
    | exact Quiet.lnS rfl rfl
    | exact Quiet.ixS rfl rfl rfl (by assumption)
    | exact Quiet.cat rfl rfl rfl (by first | assumption | omega)
    | exact Quiet.cut rfl rfl rfl rfl (by first | assumption | omega) (by first | assumption | omega)
    | exact Quiet.cutS rfl rfl rfl (by first | assumption | omega)
    | exact Quiet.shl rfl rfl rfl (by decide) (by assumption)
    | exact Quiet.shl rfl rfl rfl (by decide) rfl
    | exact Quiet.shr rfl rfl rfl (by decide) (by assumption)
    | exact Quiet.shr rfl rfl rfl (by decide) rfl
    | exact Quiet.bit rfl rfl rfl rfl (by assumption)
    | exact Quiet.bit rfl rfl rfl rfl rfl
    | exact Quiet.mkFn rfl
    | exact Quiet.callV rfl rfl rfl (by assumption) rfl (by first | rfl | assumption) rfl
    | exact Quiet.cv rfl rfl (by assumption)
    | exact Quiet.cv rfl rfl rfl
    | exact Quiet.b2s rfl rfl
    | exact Quiet.s2b rfl rfl (by first | assumption | omega))) (ht : putA t o.dst r = t' := by ((try simp only [putA, List.set_cons_zero, List.set_cons_succ]); exact rfl)) (hk : aQ P C ops h K rest t') : aQ P C ops h K (o :: rest) t := by
  subst ht
  exact aQ_q hg hq hk
end
section
variable {id : Nat} {l l1 l2 : List Oper} {y : Code} {Q : Exit → St → Prop} {t t' t'' : List AV} {h h' : List ABlk}
theorem wR (hx : aSeq P C l.toArray (fun s => s = ⟨t', h'⟩) l ⟨t, h⟩ := by ((repeat (first | refine sA (hk := ?_) | refine sSkip (hk := ?_) | refine sAG (hk := ?_) | refine sOwn (hk := ?_))); exact wEnd rfl)) (hk : Awp P C y Q ⟨t', h'⟩) : Awp P C (.seq (.region id l.toArray false) y) Q ⟨t, h⟩ :=
  Awp.seq fun _ hK => Awp.region (aSeq_weak (fun s e => by subst e; exact hK _ hk) hx)
theorem wRE (hx : aSeq P C l.toArray (fun s => s = ⟨t', h'⟩) l ⟨t, h⟩ := by ((repeat (first | refine sA (hk := ?_) | refine sSkip (hk := ?_) | refine sAG (hk := ?_) | refine sOwn (hk := ?_))); exact wEnd rfl)) (hk : Q .normal ⟨t', h'⟩) : Awp P C (.region id l.toArray false) Q ⟨t, h⟩ :=
  Awp.region (aSeq_weak (fun s e => by subst e; exact hk) hx)
theorem wDE (n : Nat) (hm : P.follows .mixedOrders = true := by kernel_rfl) (hB : regB l.toArray n = true := by kernel_rfl) (h1 : l.take n = l1 := by (simp only [List.take_succ_cons, List.take_zero, List.drop_succ_cons, List.drop_zero, List.take_nil, List.drop_nil]; exact rfl)) (h2 : l.drop n = l2 := by (simp only [List.take_succ_cons, List.take_zero, List.drop_succ_cons, List.drop_zero, List.take_nil, List.drop_nil]; exact rfl))
    (hq : aQ P C l.toArray h (fun x => x = t'') l1 t := by ((repeat (first | refine qA (hk := ?_) | refine qSkip (hk := ?_) | refine qAG (hk := ?_))); exact qEnd rfl))
    (hx : aSeq P C l.toArray (fun s => s = ⟨t', h'⟩) l2 ⟨t'', h⟩ := by ((repeat (first | refine sA (hk := ?_) | refine sSkip (hk := ?_) | refine sAG (hk := ?_) | refine sOwn (hk := ?_))); exact wEnd rfl)) (hk : Q .normal ⟨t', h'⟩) : Awp P C (.region id l.toArray true) Q ⟨t, h⟩ := by
  subst h1 h2
  exact Awp.draw n hm hB (aQ_weak (fun t e => by subst e; exact aSeq_weak (fun s e => by subst e; exact hk) hx) hq)
theorem wD (n : Nat) (hm : P.follows .mixedOrders = true := by kernel_rfl) (hB : regB l.toArray n = true := by kernel_rfl) (h1 : l.take n = l1 := by (simp only [List.take_succ_cons, List.take_zero, List.drop_succ_cons, List.drop_zero, List.take_nil, List.drop_nil]; exact rfl)) (h2 : l.drop n = l2 := by (simp only [List.take_succ_cons, List.take_zero, List.drop_succ_cons, List.drop_zero, List.take_nil, List.drop_nil]; exact rfl))
    (hq : aQ P C l.toArray h (fun x => x = t'') l1 t := by ((repeat (first | refine qA (hk := ?_) | refine qSkip (hk := ?_) | refine qAG (hk := ?_))); exact qEnd rfl))
    (hx : aSeq P C l.toArray (fun s => s = ⟨t', h'⟩) l2 ⟨t'', h⟩ := by ((repeat (first | refine sA (hk := ?_) | refine sSkip (hk := ?_) | refine sAG (hk := ?_) | refine sOwn (hk := ?_))); exact wEnd rfl)) (hk : Awp P C y Q ⟨t', h'⟩) : Awp P C (.seq (.region id l.toArray true) y) Q ⟨t, h⟩ :=
  Awp.seq fun _ hK => wDE n hm hB h1 h2 hq hx (hK _ hk)
end
theorem le_TA {t t' : List AV} {h : List ABlk} (hb : bdH h = true := by rfl) (hf : Fgt h.length t t' := by ((try simp only [putA, List.set_cons_zero, List.set_cons_succ]); repeat (first | exact Fgt.nil | refine Fgt.keep rfl ?_ | refine Fgt.any ?_ | refine Fgt.keep (by first | assumption | exact bd_of_cl _ _ (by assumption)) ?_))) : St.le C ⟨t, h⟩ ⟨t', h⟩ := St.le_t hb hf
end
end Mu
end
section
/-
  '[]byte("..")': a literal that is marked; what is appended to it makes a new row. A loop's first round apart.
  Conditions: none; generic.
-/
namespace Mu
open Go Go.RowKit Go.ChangeShapes Go.WideShapes Go.Proofs

/-- a block's cells, unmarked -/
def rawR (g : Nat) (cells : List Value) (e : TypeId) : Res := ⟨[], fun k => k = g, fun w _ => w.heap[g]? = some (.cells cells.toArray e (0, 0)), fun h hk _ _ => (hk g rfl).trans h⟩
section
variable {P : Program} {C : Ctx} {t : List AV} {h : List ABlk} {o : Oper} {K : St → Prop}
end
end Mu
end
section
/-
  'append(nil, make([]T, n)...)', capacities and parts of a nil row; an append to a nil row that is only read from then on.
  Conditions: none; generic.
-/
namespace Mu
open Go Go.RowKit Go.ChangeShapes Go.WideShapes Go.Proofs

section
variable {P : Program} {C : Ctx} {t : List AV} {h : List ABlk} {o : Oper} {K : St → Prop}
end
end Mu
end
section
/-
  A contract of a function with two results: an aggregate that it names, and a value.
  Conditions: none; generic.
-/
namespace Mu
open Go Go.RowKit Go.Proofs

section
variable {P : Program}
end
end Mu
end
section
/-
  Rows that fields of a variable hold: a nil field as an empty row of the call's own; such a row is stored; structs with parts left out.
  Conditions: none; generic.
-/
namespace Mu
open Go Go.RowKit Go.ChangeShapes Go.WideShapes Go.Proofs

theorem Quiet.bldP {P : Program} {C : Ctx} {t : List AV} {h : List ABlk} {o : Oper} {ty : TypeId} {parts : Array (Nat × Operand)} {zs : List Value} {pl : List (Nat × Nat)} {rs : List AV} [ZC P ty zs] (ho : o.op = .build ty parts) (hpl : places? P ty = some pl)
    (hr : putCells pl (zs.map .lit) (parts.toList.map fun p => (p.1, evA t p.2)) = some rs) (h1 : (parts.toList.all fun p => litBs (evA t p.2)) = true) : Quiet P C t h o (.agg rs) :=
  Quiet.build ho ZC.eq hpl hr fun p hp => One.litBs (List.all_eq_true.1 h1 p hp)
end Mu
end
section
/-
  Walks that show what a function computes, as a plain function (MuM): loops, ways that meet, rows read and written at any number.
  Conditions: none; generic.
-/
namespace Mu
open Go Go.RowKit Go.Proofs

/-! ### what is read of rows and texts at a number -/
def ixD {α : Type} [Inhabited α] (l : List α) (z : Int) : α := l.getD z.toNat default
def inBd {α : Type} (l : List α) (z : Int) : Bool := decide (0 ≤ z) && decide (z.toNat < l.length)
theorem inB_iff {α : Type} {l : List α} {z : Int} : inBd l z = true ↔ 0 ≤ z ∧ z.toNat < l.length := by unfold inBd; simp
theorem inB_get {α : Type} [Inhabited α] {l : List α} {z : Int} (h : inBd l z = true) : l[z.toNat]? = some (ixD l z) := by
  have h1 := (inB_iff.1 h).2
  unfold ixD
  rw [List.getD_eq_getElem?_getD, List.getElem?_eq_getElem h1]
  rfl
theorem ixD_of {α : Type} [Inhabited α] {l : List α} {k : Nat} {x : α} (h : l[k]? = some x) : ixD l (k : Int) = x := by
  unfold ixD
  rw [Int.toNat_natCast, List.getD_eq_getElem?_getD, h]
  rfl
def makB (z : Int) (bytes : Nat) : Bool := decide (0 ≤ z) && decide (z.toNat ≤ maxLen) && decide (bytes * z.toNat ≤ 281474976710656)
def wfB (k : IntKind) (a : Int) : Bool := (Lit.int k a).wf
theorem imp_of {g p : Bool} (h : (!g || p) = true) (hg : g = true) : p = true := by subst hg; simpa using h
theorem cndT {α : Type 1} {b : Bool} (h : b = true) (x y : α) : (bif b then x else y) = x := by subst h; rfl
/-! ### a slot is set, whatever stands in the others -/
theorem set0 {x0 r : AV} {l : List AV} : putA (x0 :: l) (some 0) r = r :: l := rfl
theorem set1 {x0 x1 r : AV} {l : List AV} : putA (x0 :: x1 :: l) (some 1) r = x0 :: r :: l := rfl
theorem set2 {x0 x1 x2 r : AV} {l : List AV} : putA (x0 :: x1 :: x2 :: l) (some 2) r = x0 :: x1 :: r :: l := rfl
theorem set3 {x0 x1 x2 x3 r : AV} {l : List AV} : putA (x0 :: x1 :: x2 :: x3 :: l) (some 3) r = x0 :: x1 :: x2 :: r :: l := rfl
theorem set4 {x0 x1 x2 x3 x4 r : AV} {l : List AV} : putA (x0 :: x1 :: x2 :: x3 :: x4 :: l) (some 4) r = x0 :: x1 :: x2 :: x3 :: r :: l := rfl
theorem set5 {x0 x1 x2 x3 x4 x5 r : AV} {l : List AV} : putA (x0 :: x1 :: x2 :: x3 :: x4 :: x5 :: l) (some 5) r = x0 :: x1 :: x2 :: x3 :: x4 :: r :: l := rfl
theorem set6 {x0 x1 x2 x3 x4 x5 x6 r : AV} {l : List AV} : putA (x0 :: x1 :: x2 :: x3 :: x4 :: x5 :: x6 :: l) (some 6) r = x0 :: x1 :: x2 :: x3 :: x4 :: x5 :: r :: l := rfl
theorem set7 {x0 x1 x2 x3 x4 x5 x6 x7 r : AV} {l : List AV} : putA (x0 :: x1 :: x2 :: x3 :: x4 :: x5 :: x6 :: x7 :: l) (some 7) r = x0 :: x1 :: x2 :: x3 :: x4 :: x5 :: x6 :: r :: l := rfl
theorem setS8 {x0 x1 x2 x3 x4 x5 x6 x7 r : AV} {l l' : List AV} {k : Nat} (e : putA l (some k) r = l') : putA (x0 :: x1 :: x2 :: x3 :: x4 :: x5 :: x6 :: x7 :: l) (some (k + 8)) r = x0 :: x1 :: x2 :: x3 :: x4 :: x5 :: x6 :: x7 :: l' := by subst e; rfl
theorem setS32 {x0 x1 x2 x3 x4 x5 x6 x7 x8 x9 x10 x11 x12 x13 x14 x15 x16 x17 x18 x19 x20 x21 x22 x23 x24 x25 x26 x27 x28 x29 x30 x31 r : AV} {l l' : List AV} {k : Nat} (e : putA l (some k) r = l') : putA (x0 :: x1 :: x2 :: x3 :: x4 :: x5 :: x6 :: x7 :: x8 :: x9 :: x10 :: x11 :: x12 :: x13 :: x14 :: x15 :: x16 :: x17 :: x18 :: x19 :: x20 :: x21 :: x22 :: x23 :: x24 :: x25 :: x26 :: x27 :: x28 :: x29 :: x30 :: x31 :: l) (some (k + 32)) r = x0 :: x1 :: x2 :: x3 :: x4 :: x5 :: x6 :: x7 :: x8 :: x9 :: x10 :: x11 :: x12 :: x13 :: x14 :: x15 :: x16 :: x17 :: x18 :: x19 :: x20 :: x21 :: x22 :: x23 :: x24 :: x25 :: x26 :: x27 :: x28 :: x29 :: x30 :: x31 :: l' := by subst e; rfl
theorem get0 {x0 : AV} {l : List AV} : evA (x0 :: l) (.tmp 0) = x0 := rfl
theorem get1 {x0 x1 : AV} {l : List AV} : evA (x0 :: x1 :: l) (.tmp 1) = x1 := rfl
theorem get2 {x0 x1 x2 : AV} {l : List AV} : evA (x0 :: x1 :: x2 :: l) (.tmp 2) = x2 := rfl
theorem get3 {x0 x1 x2 x3 : AV} {l : List AV} : evA (x0 :: x1 :: x2 :: x3 :: l) (.tmp 3) = x3 := rfl
theorem get4 {x0 x1 x2 x3 x4 : AV} {l : List AV} : evA (x0 :: x1 :: x2 :: x3 :: x4 :: l) (.tmp 4) = x4 := rfl
theorem get5 {x0 x1 x2 x3 x4 x5 : AV} {l : List AV} : evA (x0 :: x1 :: x2 :: x3 :: x4 :: x5 :: l) (.tmp 5) = x5 := rfl
theorem get6 {x0 x1 x2 x3 x4 x5 x6 : AV} {l : List AV} : evA (x0 :: x1 :: x2 :: x3 :: x4 :: x5 :: x6 :: l) (.tmp 6) = x6 := rfl
theorem get7 {x0 x1 x2 x3 x4 x5 x6 x7 : AV} {l : List AV} : evA (x0 :: x1 :: x2 :: x3 :: x4 :: x5 :: x6 :: x7 :: l) (.tmp 7) = x7 := rfl
theorem getS8 {x0 x1 x2 x3 x4 x5 x6 x7 r : AV} {l : List AV} {k : Nat} (e : evA l (.tmp k) = r) : evA (x0 :: x1 :: x2 :: x3 :: x4 :: x5 :: x6 :: x7 :: l) (.tmp (k + 8)) = r := e
theorem getS32 {x0 x1 x2 x3 x4 x5 x6 x7 x8 x9 x10 x11 x12 x13 x14 x15 x16 x17 x18 x19 x20 x21 x22 x23 x24 x25 x26 x27 x28 x29 x30 x31 r : AV} {l : List AV} {k : Nat} (e : evA l (.tmp k) = r) : evA (x0 :: x1 :: x2 :: x3 :: x4 :: x5 :: x6 :: x7 :: x8 :: x9 :: x10 :: x11 :: x12 :: x13 :: x14 :: x15 :: x16 :: x17 :: x18 :: x19 :: x20 :: x21 :: x22 :: x23 :: x24 :: x25 :: x26 :: x27 :: x28 :: x29 :: x30 :: x31 :: l) (.tmp (k + 32)) = r := e
theorem getC {l : List AV} {v : Value} : evA l (.const v) = .lit v := rfl
theorem setN {l : List AV} {r : AV} : putA l none r = l := rfl
/-! ### a nil row is an empty one -/
section
variable {P : Program} {C : Ctx} {t t' : List AV} {h h' : List ABlk} {o : Oper}
theorem Quiet.ixM {ty : TypeId} {x y : Operand} {ik : IntKind} {z : Int} {n : Nat} {α : Type} [Inhabited α] {T : Ty α} {l : List α} [ES P ty n] (ho : o.op = .indexAddr ty x y) (hx : evA t x = .bs T l) (hy : evA t y = .lit (.int ik z)) (hs : T.size = n) (hz : inBd l z = true) : Quiet P C t h o (.bp T (ixD l z) 0) :=
  Quiet.ixi ho hx hy hs (inB_iff.1 hz).1 (inB_get hz)
theorem Quiet.ixoM {ty : TypeId} {x y : Operand} {ik : IntKind} {z : Int} {n i ver : Nat} {e : TypeId} {α : Type} {T : Ty α} {l : List α} [ES P ty n] (ho : o.op = .indexAddr ty x y) (hx : evA t x = .own i ver) (hi : h[i]? = some (.row ver e T l)) (hy : evA t y = .lit (.int ik z)) (hs : T.size = n) (hz : inBd l z = true) : Quiet P C t h o (.rp i ver z.toNat 0) :=
  Quiet.ixoi ho hx hi hy hs (inB_iff.1 hz).1 (inB_iff.1 hz).2
theorem gA_t {ops : Array Oper} {b : Bool} (hg : gA ops t o = some (b == true)) : gA ops t o = some b := by rw [hg]; cases b <;> rfl
theorem gA_f {ops : Array Oper} {b : Bool} (hg : gA ops t o = some (b == false)) : gA ops t o = some (!b) := by rw [hg]; cases b <;> rfl
theorem St.le_own (j : Nat) (e : TypeId) {α : Type} (T : Ty α) (hj : t[j]? = some (.lit (.slice none 0 0))) (h0 : 0 < T.size) (ht : t.set j (.own h.length 0) = t' := by ((try simp only [List.set_cons_zero, List.set_cons_succ, List.length_nil, List.length_cons, Nat.reduceAdd]); exact rfl)) (hh : h ++ [.row 0 e T []] = h' := by ((try simp only [List.nil_append, List.cons_append]); exact rfl)) : St.le C ⟨t, h⟩ ⟨t', h'⟩ := by
  subst ht hh
  exact St.le_nil j e T hj h0
theorem leC (hc : Cut h h') (hb : bdH h' = true := by rfl) (hf : Fgt h'.length t t' := by ((try simp only [putA, List.set_cons_zero, List.set_cons_succ]); repeat (first | exact Fgt.nil | refine Fgt.keep rfl ?_ | refine Fgt.any ?_ | refine Fgt.keep (by first | assumption | exact bd_of_cl _ _ (by assumption)) ?_))) (hm : mkD h' = mkD h := by rfl) : St.le C ⟨t, h⟩ ⟨t', h'⟩ := St.le_c hc hb hf hm
theorem exN {id : Nat} {Q : Exit → St → Prop} {s : St} (hq : Q .normal s) : ablock id Q (.exit id) s := by
  unfold ablock
  simp [hq]
theorem athen_e {K : St → Prop} {Q : Exit → St → Prop} {id : Nat} {s : St} (hq : Q (.exit id) s) : athen K Q (.exit id) s := hq
theorem abN {id : Nat} {Q : Exit → St → Prop} {s : St} (hq : Q .normal s) : ablock id Q .normal s := hq
theorem AOp.boxI {elem : TypeId} {x : Operand} {cells : List AV} {K : St → Prop} (i : Nat) (hi : h.length = i) (ho : o.op = .box elem x) (hp : Parts0 h (evA t x) cells) (hK : K ⟨putA t o.dst (.ptr i 0), h ++ [.box cells]⟩) : AOp P C o ⟨t, h⟩ K := by
  subst hi
  exact AOp.box (s := ⟨t, h⟩) ho hp hK
theorem sNtM {ops : Array Oper} {rest : List Oper} {K : St → Prop} (ht : t = t' := by exact rfl) (hh : h = h' := by ((try simp only [List.nil_append, List.cons_append, List.set_cons_zero, List.set_cons_succ, List.take_zero, List.take_succ_cons, List.drop_succ_cons, List.drop_zero, List.drop_nil, List.take_nil, List.map_cons, List.map_nil, List.append_nil, List.length_cons, List.length_nil, Nat.zero_add, Nat.reduceAdd]); exact rfl)) (hk : aSeq P C ops K rest ⟨t', h'⟩) : aSeq P C ops K rest ⟨t, h⟩ := by
  subst ht hh
  exact hk
theorem Awp.seqJ {x y : Code} {Q : Exit → St → Prop} {s : St} {β : Type} (J : β → Prop) (G : β → St) (hx : Awp P C x (athen (fun s' => ∃ b, J b ∧ St.le C s' (G b)) Q) s) (hy : ∀ b, J b → Awp P C y Q (G b)) : Awp P C (.seq x y) Q s :=
  Awp.seq fun K hK => hx.mono fun e s' q => by
    cases e with
    | normal =>
      obtain ⟨b, hJ, hle⟩ := q
      exact hK s' ((hy b hJ).le hle)
    | _ => exact q
theorem Awp.loopM {c : Code} {Q : Exit → St → Prop} {s : St} {σ ρ β : Type} {step : σ → M (σ ⊕ ρ)} {s0 : σ} {r : ρ} (H : (M.loop step s0).to r) (F : σ → β → St) (b0 : β) (h0 : St.le C s (F s0 b0))
    (hr : ∀ s' b x, (step s').to x → (∀ r', x = .inr r' → r' = r) → Awp P C c (athen (fun st => ∃ s'' b', x = .inl s'' ∧ St.le C st (F s'' b')) Q) (F s' b)) : Awp P C (.loop c) Q s := by
  obtain ⟨k, hk⟩ := M.to_loop.1 H
  refine Awp.loop (fun m st => ∃ s' b, st = F s' b ∧ M.Rounds step m s' r) k ⟨_, h0, s0, b0, rfl, hk⟩ ?_
  rintro m st ⟨s', b, rfl, hm⟩
  cases hm with
  | out hx =>
    refine (hr s' b _ hx fun r' e => by cases e; rfl).mono fun e s1 q => ?_
    cases e with
    | normal => obtain ⟨_, _, e, _⟩ := q; cases e
    | _ => exact q
  | on hx hm =>
    refine (hr s' b _ hx fun r' e => by cases e).mono fun e s1 q => ?_
    cases e with
    | normal =>
      obtain ⟨s2, b', e, hle⟩ := q
      cases e
      exact ⟨_, Nat.lt_succ_self _, _, hle, _, b', rfl, hm⟩
    | _ => exact q
end
end Mu
end
section
/-
  Arrays of elements of one cell: made of a literal; an element's address.
  Conditions: none; generic.
-/
namespace Mu
open Go Go.RowKit Go.ChangeShapes Go.WideShapes

section
variable {P : Program} {C : Ctx} {t : List AV} {h : List ABlk} {o : Oper}
end
end Mu
end
section
/-
  Records of numbers and bools that are compared.
  Conditions: none; generic.
-/
namespace Mu
open Go Go.RowKit Go.Proofs

/-- fields of one cell each: numbers (true) and bools (false) -/
def fldsOk (P : Program) : List Field → Nat → List Bool → Bool
  | [], _, [] => true
  | f :: fs, j, b :: bs => f.name != "_" && f.offset == j && (match P.underlying f.type with | some (.int _) => b | some .bool => !b | _ => false) && fldsOk P fs (j + 1) bs
  | _, _, _ => false
def scEq : List Bool → List Value → List Value → Option Bool
  | [], [], [] => some true
  | true :: bs, .int k a :: vs, .int k' b :: ws => if k = k' then (scEq bs vs ws).map fun r => a == b && r else none
  | false :: bs, .bool a :: vs, .bool b :: ws => (scEq bs vs ws).map fun r => a == b && r
  | _, _, _ => none
/-- a record type of such fields, as '==' reads it -/
def recT (P : Program) (ty : TypeId) (bs : List Bool) : Bool :=
  (match P.underlying ty with
    | some (.struct fs) => fldsOk P fs.toList 0 bs
    | _ => false) && !P.stoodInHeld ty && !P.eqGuardType P.depth ty
section
variable {P : Program} {w : World}
theorem run_part_num {e : TypeId} {k : IntKind} {xs : Array Value} {off : Nat} {v : Value} (he : P.underlying e = some (.int k)) (hx : xs[off]? = some v) : (part e xs off).run P w = .ok v w := by
  simp [part, isAgg, run_underlying he, hx]
theorem run_part_bit {e : TypeId} {xs : Array Value} {off : Nat} {v : Value} (he : P.underlying e = some .bool) (hx : xs[off]? = some v) : (part e xs off).run P w = .ok v w := by
  simp [part, isAgg, run_underlying he, hx]
theorem scEq_cons {b : Bool} {bs : List Bool} {vs ws : List Value} {r : Bool} (h : scEq (b :: bs) vs ws = some r) :
    (∃ k a c vs' ws' r', b = true ∧ vs = .int k a :: vs' ∧ ws = .int k c :: ws' ∧ scEq bs vs' ws' = some r' ∧ r = (a == c && r')) ∨
    (∃ a c vs' ws' r', b = false ∧ vs = .bool a :: vs' ∧ ws = .bool c :: ws' ∧ scEq bs vs' ws' = some r' ∧ r = (a == c && r')) := by
  cases vs with
  | nil => cases b <;> simp [scEq] at h
  | cons v vs =>
    cases ws with
    | nil => cases b <;> cases v <;> simp [scEq] at h
    | cons u ws =>
      cases b <;> cases v <;> cases u <;> simp only [scEq, reduceCtorEq] at h
      · obtain ⟨r', hr', rfl⟩ := Option.map_eq_some_iff.1 h
        exact .inr ⟨_, _, _, _, r', rfl, rfl, rfl, hr', rfl⟩
      · split at h
        · rename_i hk
          subst hk
          obtain ⟨r', hr', rfl⟩ := Option.map_eq_some_iff.1 h
          exact .inl ⟨_, _, _, _, _, r', rfl, rfl, rfl, hr', rfl⟩
        · cases h
theorem run_flds {d : Nat} {xs ys : Array Value} : ∀ (fs : List Field) (j : Nat) (bs : List Bool) (vs ws : List Value) (r : Bool), fldsOk P fs j bs = true → scEq bs vs ws = some r → (∀ i, xs[j + i]? = vs[i]?) → (∀ i, ys[j + i]? = ws[i]?) → (Op.eqFields (d + 1) xs ys fs).run P w = .ok r w
  | [], j, bs, vs, ws, r, h, hr, hx, hy => by
    cases bs with
    | nil =>
      cases vs <;> cases ws <;> simp [scEq] at hr
      subst hr
      rfl
    | cons b bs => simp [fldsOk] at h
  | f :: fs, j, bs, vs, ws, r, h, hr, hx, hy => by
    cases bs with
    | nil => simp [fldsOk] at h
    | cons b bs =>
      simp only [fldsOk, Bool.and_eq_true, bne_iff_ne, ne_eq, beq_iff_eq] at h
      obtain ⟨⟨⟨hn, ho⟩, ht⟩, hrest⟩ := h
      have shift : ∀ {zs : Array Value} {u : Value} {us : List Value}, (∀ i, zs[j + i]? = (u :: us)[i]?) → zs[f.offset]? = some u ∧ ∀ i, zs[j + 1 + i]? = us[i]? := fun hz => by
        refine ⟨by rw [ho]; simpa using hz 0, fun i => ?_⟩
        have := hz (i + 1)
        rw [List.getElem?_cons_succ] at this
        rw [← this]
        congr 1
        omega
      rcases scEq_cons hr with ⟨k, a, c, vs', ws', r', rfl, rfl, rfl, hr', rfl⟩ | ⟨a, c, vs', ws', r', rfl, rfl, rfl, hr', rfl⟩
      · obtain ⟨hx0, hx1⟩ := shift hx
        obtain ⟨hy0, hy1⟩ := shift hy
        have ih := run_flds (d := d) (xs := xs) (ys := ys) fs (j + 1) bs vs' ws' r' hrest hr' hx1 hy1
        cases hu : P.underlying f.type with
        | none => rw [hu] at ht; cases ht
        | some td =>
          rw [hu] at ht
          cases td <;> simp at ht
          rename_i ik
          have q : (Op.equalIn (d + 1) f.type (.int k a) (.int k c)).run P w = .ok (a == c) w := run_equalIn_int (P := P) w d f.type k ik a c hu
          simp only [Op.eqFields, hn, ne_eq, not_false_eq_true, if_true, Sem.run_bind]
          rw [run_part_num hu hx0, Result.andThen_ok, run_part_num hu hy0, Result.andThen_ok, q, Result.andThen_ok]
          cases (a == c)
          · rfl
          · simpa using ih
      · obtain ⟨hx0, hx1⟩ := shift hx
        obtain ⟨hy0, hy1⟩ := shift hy
        have ih := run_flds (d := d) (xs := xs) (ys := ys) fs (j + 1) bs vs' ws' r' hrest hr' hx1 hy1
        cases hu : P.underlying f.type with
        | none => rw [hu] at ht; cases ht
        | some td =>
          rw [hu] at ht
          cases td <;> simp at ht
          have q : (Op.equalIn (d + 1) f.type (.bool a) (.bool c)).run P w = .ok (a == c) w := run_equalIn_bool' (P := P) w d f.type a c hu
          simp only [Op.eqFields, hn, ne_eq, not_false_eq_true, if_true, Sem.run_bind]
          rw [run_part_bit hu hx0, Result.andThen_ok, run_part_bit hu hy0, Result.andThen_ok, q, Result.andThen_ok]
          cases (a == c)
          · rfl
          · simpa using ih
theorem run_sameS {ty : TypeId} {bs : List Bool} {vs ws : List Value} {r : Bool} (h : recT P ty bs = true) (hr : scEq bs vs ws = some r) : (Op.equalIn 10000 ty (.agg vs.toArray) (.agg ws.toArray)).run P w = .ok r w ∧ P.eqGuardType P.depth ty = false := by
  unfold recT at h
  simp only [Bool.and_eq_true, Bool.not_eq_true'] at h
  obtain ⟨⟨h1, h2⟩, h3⟩ := h
  refine ⟨?_, h3⟩
  split at h1
  · rename_i fs hfs
    have hF : P.fieldsOf ty = fs := by unfold Program.fieldsOf; rw [hfs]
    rw [show (10000 : Nat) = 9999 + 1 from rfl, run_equalIn_struct w 9999 ty _ _ (by rw [hF]; exact hfs) h2, hF]
    exact run_flds (d := 9998) fs.toList 0 bs vs ws r h1 hr (fun i => by simp) (fun i => by simp)
  · cases h1
end
theorem relL_litR {w : World} {S : Nat → Prop} {h : List ABlk} {ψ : Nat → Value} : ∀ (vs : List Value) {us : List Value}, AV.relL w S h ψ (vs.map .lit) us → us = vs
  | [], us, H => by
    unfold AV.relL at H
    exact H
  | v :: vs, us, H => by
    unfold List.map AV.relL at H
    obtain ⟨u, us', rfl, h1, h2⟩ := H
    unfold AV.rel at h1
    rw [h1, relL_litR vs h2]
section
variable {P : Program} {C : Ctx} {t : List AV} {h : List ABlk} {o : Oper}
theorem Quiet.eqRec {xt yt : TypeId} {x y : Operand} {bs : List Bool} {vs ws : List Value} {r : Bool} (hT : recT P xt bs = true) (ho : o.op = .binOp .eql xt x y yt) (hx : evA t x = .agg (vs.map .lit)) (hy : evA t y = .agg (ws.map .lit)) (hr : scEq bs vs ws = some r) : Quiet P C t h o (.lit (.bool r)) :=
  Quiet.of_run fun S ψ w ρ _ hρ => by
    have h1 := hρ x (by simp [ho, Op.operands])
    have h2 := hρ y (by simp [ho, Op.operands])
    rw [hx] at h1
    rw [hy] at h2
    unfold AV.rel at h1 h2
    obtain ⟨us, h1, h3⟩ := h1
    obtain ⟨us', h2, h4⟩ := h2
    rw [relL_litR _ h3] at h1
    rw [relL_litR _ h4] at h2
    obtain ⟨e1, e2⟩ := run_sameS (w := w) hT hr
    refine ⟨_, ?_, by unfold AV.rel; rfl⟩
    simp only [execOp, ho, h1, h2, Sem.run_bind]
    rw [run_eqGuard_agg w .eql xt x y _ _ e2, Result.andThen_ok, run_eql_struct, e1, Result.andThen_ok]
    rfl
end
end Mu
end
section
/-
  Walks that show M: arrays of numbers.
  Conditions: none; generic.
-/
namespace Mu
open Go Go.RowKit Go.Proofs Go.ChangeShapes Go.WideShapes

section
variable {P : Program} {C : Ctx} {t : List AV} {h : List ABlk} {o : Oper}
theorem Fit.aggL {α : Type} {T : Ty α} {enc : α → List AV} {x : α} (hp : ∀ w S cs ψ, AV.relL w S h ψ (enc x) cs → T.RS w S cs x) : Fit h T (.agg (enc x)) x := fun C S ψ w v H hv => by
  unfold AV.rel at hv
  obtain ⟨cs, rfl, hl⟩ := hv
  exact hp w S cs ψ hl
theorem Quiet.neRec {xt yt : TypeId} {x y : Operand} {bs : List Bool} {vs ws : List Value} {r : Bool} (hT : recT P xt bs = true) (ho : o.op = .binOp .neq xt x y yt) (hx : evA t x = .agg (vs.map .lit)) (hy : evA t y = .agg (ws.map .lit)) (hr : scEq bs vs ws = some r) : Quiet P C t h o (.lit (.bool (!r))) :=
  Quiet.of_run fun S ψ w ρ _ hρ => by
    have h1 := hρ x (by simp [ho, Op.operands])
    have h2 := hρ y (by simp [ho, Op.operands])
    rw [hx] at h1
    rw [hy] at h2
    unfold AV.rel at h1 h2
    obtain ⟨us, h1, h3⟩ := h1
    obtain ⟨us', h2, h4⟩ := h2
    rw [relL_litR _ h3] at h1
    rw [relL_litR _ h4] at h2
    obtain ⟨e1, e2⟩ := run_sameS (w := w) hT hr
    refine ⟨_, ?_, by unfold AV.rel; rfl⟩
    simp only [execOp, ho, h1, h2, Sem.run_bind]
    rw [run_eqGuard_agg w .neq xt x y _ _ e2, Result.andThen_ok, run_neq_struct, e1, Result.andThen_ok]
    rfl
end
end Mu
end
