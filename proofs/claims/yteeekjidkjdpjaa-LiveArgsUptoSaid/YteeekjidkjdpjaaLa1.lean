/-
  Own texts laid together, part 1: MuTy, MuApi, MuAt, MuGraph, MuCallsP, MuBulk, MuFlowP, Shelf, MuLib, MuRows, MuMisc, MuGoes, MuFlat, MuMem, MuOwnT, MuNext, MuBackward, MuInR, MuAbs, MuAwp, MuFn, MuOps.
  Conditions: as each part says.
-/
import Derived.WalkKit
import Derived.ProofKit
import Derived.Deep.Slices
import Derived.Lib.Hide
import Derived.Test.YteeekjidkjdpjaaRows
import Derived.Lib.SlicesCompact
import Derived.Deep.Draws
import Derived.Shelf.Small.Bits
import Derived.Shelf.Small.Wraps
import Derived.Shelf.Strconv.Itoa0
import Derived.Shelf.Sort.Plain
import Derived.Shelf.Slices.Turned
import Derived.Ground.Names2Prog
import Derived.Shelf.Slices.Clone
import Derived.Shelf.Slices.CompactI
import Derived.Shelf.Slices.SearchI
import Derived.Shelf.Slices.Cells
import Derived.Shelf.Slices.In.SortNone
import Derived.Test.YteeekjidkjdpjaaProg
import Derived.Sort.OwnSortedInts
import Derived.Deep.AppendLies
import Derived.BigQuiet
import Derived.BigRegion
import Derived.Deep.RegionHeld3
import Derived.Deep.RegionLaw
import Derived.Laws.AppendOwnNone
import Derived.Maps.OwnSet
import Derived.WalkSpells
import Derived.RangeFuncNested
import Derived.RangeFuncBound
import Derived.RangeFuncCalls
import Derived.RangeFuncLeaves
import Derived.Shelf.Abstract
import Derived.Shelf.RegionOpen
import Derived.OwnWalkIn
import Derived.TacticsInMore
import Derived.LoopNIn
import Derived.LoopIn
import Derived.Maps.AppendAt
import Derived.RegionTactic
import Derived.RangeFuncBox
import Derived.RangeFuncWrites
import Derived.RangeFuncRecord
import Derived.OrdersIn
import Derived.Orders
import Derived.Deep.RegionHeld
import Derived.TacticsIn
import Derived.StillTail
import Derived.Scope
section
/-
  Readings of Go data as plain Lean data: a 'Ty' says how cells in a world stand for a plain value; such a reading is kept while the blocks below a bound stay as they are.
  Conditions: none; generic, no program in sight.
-/
namespace Mu
open Go Go.RowKit Go.ChangeShapes Go.WideShapes

/-- the cells from an address on -/
def CellsAt (w : World) (b o : Nat) (cs : List Value) : Prop := ∀ j u, cs[j]? = some u → w.cell? ⟨b, o + j, none⟩ = some u

theorem CellsAt.keep {w w' : World} {b o : Nat} {cs : List Value} (h : CellsAt w b o cs) (hb : w'.heap[b]? = w.heap[b]?) : CellsAt w' b o cs :=
  fun j u hu => (World.cell?_of_block (w := w) (a := ⟨b, o + j, none⟩) hb).trans (h j u hu)

/-- a reading: the cells stand for d, and all blocks that are reached are among those of S -/
structure Ty (α : Type) where
  size : Nat
  bulk : α → Nat
  RS : World → (Nat → Prop) → List Value → α → Prop
  len : ∀ {w S cs d}, RS w S cs d → cs.length = size
  keepS : ∀ {w w' : World} {S S' : Nat → Prop} {cs d}, RS w S cs d → (∀ k, S k → w'.heap[k]? = w.heap[k]?) → (∀ k, S k → S' k) → RS w' S' cs d

variable {α β : Type}

/-- .. all blocks below B -/
def Ty.R (T : Ty α) (w : World) (B : Nat) (cs : List Value) (d : α) : Prop := T.RS w (fun k => k < B) cs d

theorem Ty.keep {T : Ty α} {w w' : World} {B B' : Nat} {cs d} (h : T.R w B cs d) (hb : ∀ k, k < B → w'.heap[k]? = w.heap[k]?) (hB : B ≤ B') : T.R w' B' cs d :=
  T.keepS h hb (fun _ hk => Nat.lt_of_lt_of_le hk hB)
theorem Ty.toR {T : Ty α} {w : World} {S : Nat → Prop} {B : Nat} {cs d} (h : T.RS w S cs d) (hB : ∀ k, S k → k < B) : T.R w B cs d := T.keepS h (fun _ _ => rfl) hB
theorem Ty.below {T : Ty α} {w w' : World} {B : Nat} {cs d} (h : T.R w B cs d) (hb : Below B w w') (hB : B ≤ w'.heap.size) : T.R w' w'.heap.size cs d :=
  T.keep h hb.block hB
theorem Ty.below' {T : Ty α} {w w' : World} {B : Nat} {cs d} (h : T.R w B cs d) (hb : Below B w w') : T.R w' B cs d :=
  T.keep h hb.block (Nat.le_refl _)

/-- one element at an address -/
def Ty.AtS (T : Ty α) (w : World) (S : Nat → Prop) (b o : Nat) (d : α) : Prop := S b ∧ ∃ cs, T.RS w S cs d ∧ CellsAt w b o cs
def Ty.At (T : Ty α) (w : World) (B b o : Nat) (d : α) : Prop := T.AtS w (fun k => k < B) b o d

theorem Ty.AtS.keep {T : Ty α} {w w' : World} {S S' : Nat → Prop} {b o : Nat} {d : α} (h : T.AtS w S b o d) (hb : ∀ k, S k → w'.heap[k]? = w.heap[k]?) (hS : ∀ k, S k → S' k) : T.AtS w' S' b o d :=
  let ⟨h1, cs, h2, h3⟩ := h
  ⟨hS b h1, cs, T.keepS h2 hb hS, h3.keep (hb b h1)⟩

/-! ### integers, bools, strings -/
def Ty.int (k : IntKind) : Ty Int where
  size := 1
  bulk := fun _ => 1
  RS := fun _ _ cs d => cs = [.int k d] ∧ (Lit.int k d).wf = true
  len := by rintro _ _ _ _ ⟨rfl, _⟩; rfl
  keepS := fun h _ _ => h
def Ty.bool : Ty Bool where
  size := 1
  bulk := fun _ => 1
  RS := fun _ _ cs d => cs = [.bool d]
  len := by rintro _ _ _ _ rfl; rfl
  keepS := fun h _ _ => h
def Ty.str : Ty ByteArray where
  size := 1
  bulk := fun s => s.size + 1
  RS := fun _ _ cs d => cs = [.string d] ∧ d.size ≤ maxLen
  len := by rintro _ _ _ _ ⟨rfl, _⟩; rfl
  keepS := fun h _ _ => h

/-! ### slices -/
def bulkL (f : α → Nat) : List α → Nat
  | [] => 0
  | x :: l => f x + bulkL f l

theorem bulkL_append (f : α → Nat) (l m : List α) : bulkL f (l ++ m) = bulkL f l + bulkL f m := by
  induction l with
  | nil => simp [bulkL]
  | cons x l ih => simp only [List.cons_append, bulkL, ih]; omega
theorem bulkL_mem {f : α → Nat} {l : List α} {x : α} (h : x ∈ l) : f x ≤ bulkL f l := by
  induction l with
  | nil => cases h
  | cons y l ih =>
    unfold bulkL
    cases h with
    | head => omega
    | tail _ h => have := ih h; omega
theorem bulkL_length {f : α → Nat} (hf : ∀ x, 1 ≤ f x) (l : List α) : l.length ≤ bulkL f l := by
  induction l with
  | nil => simp [bulkL]
  | cons y l ih => unfold bulkL; have := hf y; simp only [List.length_cons]; omega

def Ty.slice (T : Ty α) : Ty (List α) where
  size := 1
  bulk := fun ds => bulkL T.bulk ds + 1
  RS := fun w S cs ds => ∃ A c, cs = [.slice A ds.length c] ∧ ds.length ≤ c ∧ (c ≤ maxLen ∧ (A = none → c = 0)) ∧ ∀ i d, ds[i]? = some d → ∃ b o, A = some ⟨b, o, none⟩ ∧ T.AtS w S b (o + i * T.size) d
  len := by rintro _ _ _ _ ⟨A, c, rfl, _⟩; rfl
  keepS := by
    rintro w w' S S' cs ds ⟨A, c, rfl, hl, hc, hi⟩ hb hS
    refine ⟨A, c, rfl, hl, hc, fun i d hd => ?_⟩
    obtain ⟨b, o, rfl, h⟩ := hi i d hd
    exact ⟨b, o, rfl, h.keep hb hS⟩

theorem Ty.slice_nilS (T : Ty α) (w : World) (S : Nat → Prop) : T.slice.RS w S [.slice none 0 0] [] := ⟨none, 0, rfl, Nat.le_refl _, ⟨Nat.zero_le _, fun _ => rfl⟩, by simp⟩
theorem Ty.slice_nil (T : Ty α) (w : World) (B : Nat) : T.slice.R w B [.slice none 0 0] [] := T.slice_nilS w _

/-! ### rows of fields -/
def Ty.none_ : Ty Unit where
  size := 0
  bulk := fun _ => 0
  RS := fun _ _ cs _ => cs = []
  len := by rintro _ _ _ _ rfl; rfl
  keepS := fun h _ _ => h
def Ty.cons (T : Ty α) (U : Ty β) : Ty (α × β) where
  size := T.size + U.size
  bulk := fun d => T.bulk d.1 + U.bulk d.2
  RS := fun w S cs d => ∃ c1 c2, cs = c1 ++ c2 ∧ T.RS w S c1 d.1 ∧ U.RS w S c2 d.2
  len := by
    rintro _ _ _ _ ⟨c1, c2, rfl, h1, h2⟩
    rw [List.length_append, T.len h1, U.len h2]
  keepS := by
    rintro w w' S S' cs d ⟨c1, c2, rfl, h1, h2⟩ hb hS
    exact ⟨c1, c2, rfl, T.keepS h1 hb hS, U.keepS h2 hb hS⟩
def Ty.via (U : Ty β) (f : β → α) (g : α → β) : Ty α where
  size := U.size
  bulk := fun d => U.bulk (g d) + 1
  RS := fun w S cs d => U.RS w S cs (g d) ∧ f (g d) = d
  len := fun h => U.len h.1
  keepS := fun h hb hS => ⟨U.keepS h.1 hb hS, h.2⟩

/-! ### what can be read is so -/
def bulkD {H : Type} : DataW H → Nat
  | .lit (.string bytes) => bytes.length + 1
  | .slice elems spare => go elems + go spare + 1
  | .agg parts => go parts + 1
  | _ => 1
where go : List (DataW H) → Nat
  | [] => 0
  | d :: r => bulkD d + go r

theorem bulkD_go_append {H : Type} (l m : List (DataW H)) : bulkD.go (l ++ m) = bulkD.go l + bulkD.go m := by
  induction l with
  | nil => simp [bulkD.go]
  | cons x l ih => simp only [List.cons_append, bulkD.go, ih]; omega

structure Opens (P : Program) (t : TypeId) (T : Ty α) : Prop where
  go : ∀ (H : Type) (enc : TypeId × Value → H) (w : World) (base : Nat) (spare : Nat → Bool) (held : Bool) (n : Nat) (cs : List Value) (x : DataW H × List MemPlace) (B : Nat),
    DataW.trod enc P w base spare held n t cs = some x → (∀ p ∈ x.2, p.block < B) → ∃ d, T.R w B cs d ∧ T.bulk d ≤ bulkD x.1

theorem opens_int {P : Program} {t : TypeId} {k : IntKind} (ht : P.underlying t = some (.int k)) : Opens P t (Ty.int k) := by
  refine ⟨fun H enc => ?_⟩
  intro w base spare held n cs x B h _
  obtain ⟨m, rfl, rfl, hw⟩ := DataW.trod_int ht h
  exact ⟨m, ⟨rfl, hw⟩, by simp [Ty.int, bulkD]⟩
theorem opens_bool {P : Program} {t : TypeId} (ht : P.underlying t = some .bool) : Opens P t Ty.bool := by
  refine ⟨fun H enc => ?_⟩
  intro w base spare held n cs x B h _
  obtain ⟨m, rfl, rfl⟩ := DataW.trod_bool ht h
  exact ⟨m, rfl, by simp [Ty.bool, bulkD]⟩
theorem opens_str {P : Program} {t : TypeId} (ht : P.underlying t = some .string) : Opens P t Ty.str := by
  refine ⟨fun H enc => ?_⟩
  intro w base spare held n cs x B h _
  obtain ⟨s, rfl, rfl, hw⟩ := DataW.trod_string ht h
  refine ⟨s, ⟨rfl, hw⟩, ?_⟩
  have : s.data.toList.length = s.size := by rw [Array.length_toList]; rfl
  show s.size + 1 ≤ s.data.toList.length + 1
  omega

theorem cellsAt_of_cells? {w : World} {base n : Nat} {a : Addr} {cs : List Value} (h : w.cells? base a n = some cs) (hn : 0 < n) : a.spot = none ∧ CellsAt w a.block a.off cs := by
  obtain ⟨hb, hl, hat⟩ := World.cells?_some h
  have hs : a.spot = none := by
    have h0 := hat 0 hn
    rw [show a.add 0 = a from by simp [Addr.add]] at h0
    have hv : cs[0]? = some (cs[0]'(by omega)) := List.getElem?_eq_getElem (by omega)
    rw [hv] at h0
    unfold World.cell? at h0
    split at h0
    · split at h0
      · cases h0
      · rename_i hsp
        cases hsx : a.spot with
        | none => rfl
        | some z => simp [hsx] at hsp
    · cases h0
  refine ⟨hs, fun j u hu => ?_⟩
  have hj : j < n := by
    have := (List.getElem?_eq_some_iff.1 hu).1
    omega
  have := hat j hj
  rw [hu] at this
  rw [← this]
  congr 1
  obtain ⟨b, o, s⟩ := a
  simp only at hs
  subst hs
  unfold Addr.add
  by_cases hz : j = 0 <;> simp [hz]

theorem opens_slice {P : Program} {t e : TypeId} {T : Ty α} (ht : P.underlying t = some (.slice e)) (hC : P.cellsOf e = T.size) (hp : 0 < T.size) (he : Opens P e T) : Opens P t T.slice := by
  refine ⟨fun H enc => ?_⟩
  intro w base spare held n cs x B h hB
  rcases DataW.trod_slice ht h with ⟨rfl, rfl⟩ | ⟨a, len, cap, elems, rest, m, _, rfl, rfl, hb, hl, hm, hlen, hel, hsp, hns⟩
  · exact ⟨[], T.slice_nil w B, by simp [Ty.slice, bulkL, bulkD]⟩
  · have hone : ∀ i, i < len → ∃ d, (a.add (i * T.size)).spot = none ∧ T.At w B (a.add (i * T.size)).block (a.add (i * T.size)).off d ∧ ∃ y, elems[i]? = some y ∧ T.bulk d ≤ bulkD y.1 := by
      intro i hi
      have hi' := hel i hi
      have hy : elems[i]? = some (elems[i]'(by omega)) := List.getElem?_eq_getElem (by omega)
      rw [hy, hC] at hi'
      obtain ⟨cs', h1, h2⟩ := Option.bind_eq_some_iff.1 hi'
      obtain ⟨hs, hat⟩ := cellsAt_of_cells? h1 hp
      obtain ⟨d, hd, hbk⟩ := he.go H enc w base spare held m cs' _ B h2 (fun p hp => hB p (by
        simp only [List.mem_append, List.mem_flatMap]
        exact .inr ⟨elems[i]'(by omega), .inl (List.getElem_mem _), hp⟩))
      refine ⟨d, hs, ⟨?_, cs', hd, hat⟩, _, hy, hbk⟩
      have hblk : (a.add (i * T.size)).block = a.block := by unfold Addr.add; split <;> rfl
      rw [hblk]
      refine hB (.cell a.block a.off) ?_
      simp only [List.mem_append]
      left
      rw [hC]
      have hpos : 0 < (elems.length + rest.length) * T.size := Nat.mul_pos (by omega) hp
      exact List.mem_map.2 ⟨0, by simpa using hpos, by simp⟩
    have key : ∀ k, k ≤ len → ∃ ds : List α, ds.length = k ∧ bulkL T.bulk ds ≤ bulkD.go ((elems.take k).map (·.1)) ∧ ∀ i d, ds[i]? = some d → (a.add (i * T.size)).spot = none ∧ T.At w B (a.add (i * T.size)).block (a.add (i * T.size)).off d := by
      intro k
      induction k with
      | zero => exact fun _ => ⟨[], rfl, by simp [bulkL], by simp⟩
      | succ k ih =>
        intro hk
        obtain ⟨ds, hdl, hdb, hdi⟩ := ih (by omega)
        obtain ⟨d, hs, hat, y, hy, hbk⟩ := hone k (by omega)
        refine ⟨ds ++ [d], by simp [hdl], ?_, ?_⟩
        · rw [List.take_add_one, hy, bulkL_append]
          simp only [Option.toList_some, List.map_append, bulkD_go_append, List.map_cons, List.map_nil, bulkL, bulkD.go]
          omega
        · intro i d' hd'
          by_cases hi : i < k
          · exact hdi i d' (by rwa [List.getElem?_append_left (by omega)] at hd')
          · have hik : i = k := by
              have := (List.getElem?_eq_some_iff.1 hd').1
              simp [hdl] at this
              omega
            subst hik
            rw [List.getElem?_append_right (by omega), hdl] at hd'
            simp at hd'
            subst hd'
            exact ⟨hs, hat⟩
    obtain ⟨ds, hdl, hdb, hdi⟩ := key len (Nat.le_refl _)
    refine ⟨ds, ⟨some a, cap, by rw [hdl], by omega, ⟨hm, fun e => by cases e⟩, fun i d hd => ?_⟩, ?_⟩
    · have h0 : ∃ d0, ds[0]? = some d0 := by
        have := (List.getElem?_eq_some_iff.1 hd).1
        exact ⟨ds[0]'(by omega), List.getElem?_eq_getElem (by omega)⟩
      obtain ⟨d0, hd0⟩ := h0
      have hs0 := (hdi 0 d0 hd0).1
      obtain ⟨b, o, s⟩ := a
      have : s = none := by simpa [Addr.add] using hs0
      subst this
      refine ⟨b, o, rfl, ?_⟩
      have := (hdi i d hd).2
      rwa [add_plain] at this
    · have ht2 : elems.take len = elems := List.take_of_length_le (by omega)
      rw [ht2] at hdb
      simp only [Ty.slice, bulkD]
      omega

/-- the fields of a struct, from one on -/
structure OpensF (P : Program) (fs : List Field) (off : Nat) (U : Ty β) : Prop where
  go : ∀ (H : Type) (enc : TypeId × Value → H) (w : World) (base : Nat) (spare : Nat → Bool) (held : Bool) (n : Nat) (cs : List Value) (ys : List (DataW H × List MemPlace)) (B : Nat),
    cs.length = off + U.size → ys.length = fs.length →
    (∀ (j : Nat) (f : Field), fs[j]? = some f → DataW.trod enc P w base spare held n f.type ((cs.drop f.offset).take (P.cellsOf f.type)) = ys[j]?) →
    (∀ p ∈ ys.flatMap (·.2), p.block < B) → ∃ d, U.R w B (cs.drop off) d ∧ U.bulk d ≤ bulkD.go (ys.map (·.1))

theorem opensF_nil {P : Program} {off : Nat} : OpensF P [] off Ty.none_ := by
  refine ⟨fun H enc => ?_⟩
  intro w base spare held n cs ys B hcs hys _ _
  refine ⟨(), ?_, Nat.zero_le _⟩
  have : cs.length ≤ off := by simp [Ty.none_] at hcs; omega
  exact List.drop_eq_nil_of_le this
theorem opensF_cons {P : Program} {f : Field} {fs : List Field} {off : Nat} {T : Ty α} {U : Ty β} (ho : f.offset = off) (hC : P.cellsOf f.type = T.size) (hT : Opens P f.type T) (hU : OpensF P fs (off + T.size) U) :
    OpensF P (f :: fs) off (T.cons U) := by
  refine ⟨fun H enc => ?_⟩
  intro w base spare held n cs ys B hcs hys hf hB
  match ys, hys with
  | y :: ys, hys =>
    have h0 := hf 0 f rfl
    rw [ho, hC] at h0
    simp only [List.getElem?_cons_zero] at h0
    obtain ⟨d, hd, hbd⟩ := hT.go H enc w base spare held n _ y B h0 (fun p hp => hB p (by simp; exact .inl hp))
    obtain ⟨e, he, hbe⟩ := hU.go H enc w base spare held n cs ys B (by simp [Ty.cons] at hcs; omega) (by simpa using hys)
      (fun j g hg => by have := hf (j + 1) g (by simpa using hg); simpa using this) (fun p hp => hB p (by simp only [List.flatMap_cons, List.mem_append]; exact .inr hp))
    refine ⟨(d, e), ⟨_, _, ?_, hd, he⟩, ?_⟩
    · rw [← List.drop_drop]
      exact (List.take_append_drop T.size (cs.drop off)).symm
    · simp only [Ty.cons, List.map_cons, bulkD.go]; omega

theorem opens_struct {P : Program} {t : TypeId} {fs : List Field} {U : Ty β} {f : β → α} {g : α → β} (ht : P.underlying t = some (.struct fs.toArray)) (hC : P.cellsOf t = U.size) (hU : OpensF P fs 0 U) (hgf : ∀ b, g (f b) = b) :
    Opens P t (U.via f g) := by
  refine ⟨fun H enc => ?_⟩
  intro w base spare held n cs x B h hB
  obtain ⟨ys, m, _, rfl, hlen, hyl, hf⟩ := DataW.trod_struct ht h
  obtain ⟨d, hd, hbd⟩ := hU.go H enc w base spare held m cs ys B (by omega) (by simpa using hyl) (fun j g hg => hf j g (by simpa using hg)) hB
  refine ⟨f d, ⟨?_, by rw [hgf]⟩, ?_⟩
  · rw [hgf]; rw [List.drop_zero] at hd; exact hd
  · simp only [Ty.via, hgf, bulkD]; omega
end Mu
end
section
/-
  The data of package api as plain Lean data, and how cells stand for it.
  Conditions: none; the types' numbers are this translation's.
-/
namespace Mu
open Go Go.RowKit

structure Ins where
  op : Int
  d : Int
  a : Int
  b : Int
  n : Int
  f : Int
  args : List Int
  l1 : Int
  l2 : Int
structure Block where
  name : ByteArray
  ins : List Ins
structure Func where
  name : ByteArray
  args : Int
  regs : Int
  blocks : List Block
structure Prog where
  heap : Int
  threads : List Int
  funcs : List Func

def tInt : Ty Int := Ty.int .i64
def tIns : Ty Ins :=
  ((Ty.int .u8).cons (tInt.cons (tInt.cons (tInt.cons ((Ty.int .u32).cons (tInt.cons (tInt.slice.cons (tInt.cons (tInt.cons Ty.none_))))))))).via
    (fun x => ⟨x.1, x.2.1, x.2.2.1, x.2.2.2.1, x.2.2.2.2.1, x.2.2.2.2.2.1, x.2.2.2.2.2.2.1, x.2.2.2.2.2.2.2.1, x.2.2.2.2.2.2.2.2.1⟩)
    (fun i => (i.op, i.d, i.a, i.b, i.n, i.f, i.args, i.l1, i.l2, ()))
def tBlock : Ty Block := (Ty.str.cons (tIns.slice.cons Ty.none_)).via (fun x => ⟨x.1, x.2.1⟩) (fun b => (b.name, b.ins, ()))
def tFunc : Ty Func := (Ty.str.cons (tInt.cons (tInt.cons (tBlock.slice.cons Ty.none_)))).via (fun x => ⟨x.1, x.2.1, x.2.2.1, x.2.2.2.1⟩) (fun f => (f.name, f.args, f.regs, f.blocks, ()))
def tProg : Ty Prog := (tInt.cons (tInt.slice.cons (tFunc.slice.cons Ty.none_))).via (fun x => ⟨x.1, x.2.1, x.2.2.1⟩) (fun p => (p.heap, p.threads, p.funcs, ()))

theorem tInt_size : tInt.size = 1 := rfl
theorem tIns_size : tIns.size = 9 := rfl
theorem tBlock_size : tBlock.size = 2 := rfl
theorem tFunc_size : tFunc.size = 4 := rfl
theorem tProg_size : tProg.size = 3 := rfl

def wfI (k : IntKind) (n : Int) : Prop := (Lit.int k n).wf = true

theorem wfI_u8 {n : Int} (h : wfI .u8 n) : 0 ≤ n ∧ n ≤ 255 := by simpa [wfI, Lit.wf, IntKind.min, IntKind.max, IntKind.signed, IntKind.bits] using h
theorem wfI_u32 {n : Int} (h : wfI .u32 n) : 0 ≤ n ∧ n ≤ 4294967295 := by simpa [wfI, Lit.wf, IntKind.min, IntKind.max, IntKind.signed, IntKind.bits] using h
theorem wfI_i64 {n : Int} (h : wfI .i64 n) : -9223372036854775808 ≤ n ∧ n ≤ 9223372036854775807 := by simpa [wfI, Lit.wf, IntKind.min, IntKind.max, IntKind.signed, IntKind.bits] using h

theorem tInt_R {w : World} {S : Nat → Prop} {cs : List Value} {d : Int} : tInt.RS w S cs d ↔ cs = [.int .i64 d] ∧ wfI .i64 d := Iff.rfl

/-- one instruction, written out -/
structure InsCells (w : World) (S : Nat → Prop) (cs : List Value) (x : Ins) (A : Option Addr) (c : Nat) : Prop where
  cs : cs = [.int .u8 x.op, .int .i64 x.d, .int .i64 x.a, .int .i64 x.b, .int .u32 x.n, .int .i64 x.f, .slice A x.args.length c, .int .i64 x.l1, .int .i64 x.l2]
  op : wfI .u8 x.op
  d : wfI .i64 x.d
  a : wfI .i64 x.a
  b : wfI .i64 x.b
  n : wfI .u32 x.n
  f : wfI .i64 x.f
  l1 : wfI .i64 x.l1
  l2 : wfI .i64 x.l2
  args : tInt.slice.RS w S [.slice A x.args.length c] x.args

theorem tIns_R {w : World} {S : Nat → Prop} {cs : List Value} {x : Ins} : tIns.RS w S cs x ↔ ∃ A c, InsCells w S cs x A c := by
  constructor
  · rintro ⟨⟨_, _, rfl, ⟨rfl, h0⟩, _, _, rfl, ⟨rfl, h1⟩, _, _, rfl, ⟨rfl, h2⟩, _, _, rfl, ⟨rfl, h3⟩, _, _, rfl, ⟨rfl, h4⟩, _, _, rfl, ⟨rfl, h5⟩, _, _, rfl, hs, _, _, rfl, ⟨rfl, h7⟩, _, _, rfl, ⟨rfl, h8⟩, rfl⟩, _⟩
    have hs' := hs
    obtain ⟨A, c, rfl, _⟩ := hs
    exact ⟨A, c, rfl, h0, h1, h2, h3, h4, h5, h7, h8, hs'⟩
  · rintro ⟨A, c, h⟩
    obtain ⟨rfl, h0, h1, h2, h3, h4, h5, h7, h8, hs⟩ := h
    exact ⟨⟨[_], _, rfl, ⟨rfl, h0⟩, [_], _, rfl, ⟨rfl, h1⟩, [_], _, rfl, ⟨rfl, h2⟩, [_], _, rfl, ⟨rfl, h3⟩, [_], _, rfl, ⟨rfl, h4⟩, [_], _, rfl, ⟨rfl, h5⟩, [_], _, rfl, hs, [_], _, rfl, ⟨rfl, h7⟩, [_], _, rfl, ⟨rfl, h8⟩, rfl⟩, rfl⟩

theorem tBlock_R {w : World} {S : Nat → Prop} {cs : List Value} {x : Block} : tBlock.RS w S cs x ↔ ∃ A c, cs = [.string x.name, .slice A x.ins.length c] ∧ x.name.size ≤ maxLen ∧ tIns.slice.RS w S [.slice A x.ins.length c] x.ins := by
  constructor
  · rintro ⟨⟨_, _, rfl, ⟨rfl, h0⟩, _, _, rfl, hs, rfl⟩, _⟩
    have hs' := hs
    obtain ⟨A, c, rfl, _⟩ := hs
    exact ⟨A, c, rfl, h0, hs'⟩
  · rintro ⟨A, c, rfl, h0, hs⟩
    exact ⟨⟨[_], _, rfl, ⟨rfl, h0⟩, [_], _, rfl, hs, rfl⟩, rfl⟩

theorem tFunc_R {w : World} {S : Nat → Prop} {cs : List Value} {x : Func} : tFunc.RS w S cs x ↔ ∃ A c, cs = [.string x.name, .int .i64 x.args, .int .i64 x.regs, .slice A x.blocks.length c] ∧ x.name.size ≤ maxLen ∧ wfI .i64 x.args ∧ wfI .i64 x.regs ∧ tBlock.slice.RS w S [.slice A x.blocks.length c] x.blocks := by
  constructor
  · rintro ⟨⟨_, _, rfl, ⟨rfl, h0⟩, _, _, rfl, ⟨rfl, h1⟩, _, _, rfl, ⟨rfl, h2⟩, _, _, rfl, hs, rfl⟩, _⟩
    have hs' := hs
    obtain ⟨A, c, rfl, _⟩ := hs
    exact ⟨A, c, rfl, h0, h1, h2, hs'⟩
  · rintro ⟨A, c, rfl, h0, h1, h2, hs⟩
    exact ⟨⟨[_], _, rfl, ⟨rfl, h0⟩, [_], _, rfl, ⟨rfl, h1⟩, [_], _, rfl, ⟨rfl, h2⟩, [_], _, rfl, hs, rfl⟩, rfl⟩

theorem tProg_R {w : World} {S : Nat → Prop} {cs : List Value} {x : Prog} : tProg.RS w S cs x ↔ ∃ A c A' c', cs = [.int .i64 x.heap, .slice A' x.threads.length c', .slice A x.funcs.length c] ∧ wfI .i64 x.heap ∧ tInt.slice.RS w S [.slice A' x.threads.length c'] x.threads ∧ tFunc.slice.RS w S [.slice A x.funcs.length c] x.funcs := by
  constructor
  · rintro ⟨⟨_, _, rfl, ⟨rfl, h0⟩, _, _, rfl, ht, _, _, rfl, hs, rfl⟩, _⟩
    have hs' := hs
    have ht' := ht
    obtain ⟨A, c, rfl, _⟩ := hs
    obtain ⟨A', c', rfl, _⟩ := ht
    exact ⟨A, c, A', c', rfl, h0, ht', hs'⟩
  · rintro ⟨A, c, A', c', rfl, h0, ht, hs⟩
    exact ⟨⟨[_], _, rfl, ⟨rfl, h0⟩, [_], _, rfl, ht, [_], _, rfl, hs, rfl⟩, rfl⟩

/-! ### opening -/
open Go.Proofs
theorem opens_tInt : Opens Try.prog 3 tInt := opens_int Try.underlying3
theorem opens_ints : Opens Try.prog 22 tInt.slice := opens_slice Try.underlying22 (by kernel_rfl) (by decide) opens_tInt
theorem opens_tIns : Opens Try.prog 39 tIns :=
  opens_struct Try.underlying39 (by kernel_rfl)
    (opensF_cons rfl (by kernel_rfl) (opens_int Try.underlying5) (opensF_cons rfl (by kernel_rfl) opens_tInt (opensF_cons rfl (by kernel_rfl) opens_tInt (opensF_cons rfl (by kernel_rfl) opens_tInt
      (opensF_cons rfl (by kernel_rfl) (opens_int Try.underlying37) (opensF_cons rfl (by kernel_rfl) opens_tInt (opensF_cons rfl (by kernel_rfl) opens_ints (opensF_cons rfl (by kernel_rfl) opens_tInt
        (opensF_cons rfl (by kernel_rfl) opens_tInt opensF_nil))))))))) (fun _ => rfl)
theorem opens_tBlock : Opens Try.prog 42 tBlock :=
  opens_struct Try.underlying42 (by kernel_rfl)
    (opensF_cons rfl (by kernel_rfl) (opens_str Try.underlying9) (opensF_cons rfl (by kernel_rfl) (opens_slice Try.underlying40 (by kernel_rfl) (by decide) opens_tIns) opensF_nil)) (fun _ => rfl)
theorem opens_tFunc : Opens Try.prog 31 tFunc :=
  opens_struct Try.underlying31 (by kernel_rfl)
    (opensF_cons rfl (by kernel_rfl) (opens_str Try.underlying9) (opensF_cons rfl (by kernel_rfl) opens_tInt (opensF_cons rfl (by kernel_rfl) opens_tInt
      (opensF_cons rfl (by kernel_rfl) (opens_slice Try.underlying29 (by kernel_rfl) (by decide) opens_tBlock) opensF_nil)))) (fun _ => rfl)
theorem opens_tProg : Opens Try.prog 25 tProg :=
  opens_struct Try.underlying25 (by kernel_rfl)
    (opensF_cons rfl (by kernel_rfl) opens_tInt (opensF_cons rfl (by kernel_rfl) opens_ints (opensF_cons rfl (by kernel_rfl) (opens_slice Try.underlying23 (by kernel_rfl) (by decide) opens_tFunc) opensF_nil))) (fun _ => rfl)
end Mu
end
section
/-
  Elements of slices of package api's types, cell by cell, in the form that a walk meets.
  Conditions: none.
-/
namespace Mu
open Go Go.RowKit

theorem slice_at {α : Type} {T : Ty α} {w : World} {S : Nat → Prop} {n c k : Nat} {A : Option Addr} {ds : List α} {x : α} (h : T.slice.RS w S [.slice A n c] ds) (hk : ds[k]? = some x) :
    ∃ b o, A = some ⟨b, o, none⟩ ∧ T.AtS w S b (o + k * T.size) x := by
  obtain ⟨A', c', e, _, _, hi⟩ := h
  simp only [List.cons.injEq, Value.slice.injEq, and_true] at e
  obtain ⟨rfl, _, _⟩ := e
  exact hi k x hk
theorem slice_len {α : Type} {T : Ty α} {w : World} {S : Nat → Prop} {n c : Nat} {A : Option Addr} {ds : List α} (h : T.slice.RS w S [.slice A n c] ds) : n = ds.length ∧ n ≤ c ∧ c ≤ maxLen := by
  obtain ⟨A', c', e, h1, h2, _⟩ := h
  simp only [List.cons.injEq, Value.slice.injEq, and_true] at e
  obtain ⟨_, rfl, rfl⟩ := e
  exact ⟨rfl, h1, h2.1⟩
theorem slice_form {α : Type} {T : Ty α} {w : World} {S : Nat → Prop} {v : Value} {ds : List α} (h : T.slice.RS w S [v] ds) : ∃ A c, v = .slice A ds.length c := by
  obtain ⟨A', c', e, h1, h2, _⟩ := h
  simp only [List.cons.injEq, and_true] at e
  exact ⟨A', c', e⟩

theorem slice_nil_at {α : Type} {T : Ty α} {w : World} {S : Nat → Prop} {n c : Nat} {ds : List α} (h : T.slice.RS w S [.slice none n c] ds) : ds = [] ∧ n = 0 ∧ c = 0 := by
  obtain ⟨A', c', e, h1, h2, _⟩ := h
  simp only [List.cons.injEq, Value.slice.injEq, and_true] at e
  obtain ⟨rfl, rfl, rfl⟩ := e
  have := h2.2 rfl
  exact ⟨List.eq_nil_of_length_eq_zero (by omega), by omega, this⟩

theorem cellsAt_0 {w : World} {b o : Nat} {v : Value} {l : List Value} (h : CellsAt w b o (v :: l)) : w.cell? ⟨b, o, none⟩ = some v := h 0 v rfl
theorem cellsAt_j {w : World} {b o : Nat} {cs : List Value} (h : CellsAt w b o cs) (j : Nat) {v : Value} (hv : cs[j]? = some v) : w.cell? ⟨b, o + j, none⟩ = some v := h j v hv

theorem int_at {w : World} {S : Nat → Prop} {n c k : Nat} {A : Option Addr} {ds : List Int} {x : Int} {kd : IntKind} (h : (Ty.int kd).slice.RS w S [.slice A n c] ds) (hk : ds[k]? = some x) :
    ∃ b o, A = some ⟨b, o, none⟩ ∧ S b ∧ w.cell? ⟨b, o + k, none⟩ = some (.int kd x) ∧ wfI kd x := by
  obtain ⟨b, o, rfl, hb, cs, ⟨rfl, hw⟩, hc⟩ := slice_at h hk
  refine ⟨b, o, rfl, hb, ?_, hw⟩
  have := cellsAt_0 hc
  rwa [show (Ty.int kd).size = 1 from rfl, Nat.mul_one] at this
theorem bool_at {w : World} {S : Nat → Prop} {n c k : Nat} {A : Option Addr} {ds : List Bool} {x : Bool} (h : Ty.bool.slice.RS w S [.slice A n c] ds) (hk : ds[k]? = some x) :
    ∃ b o, A = some ⟨b, o, none⟩ ∧ S b ∧ w.cell? ⟨b, o + k, none⟩ = some (.bool x) := by
  obtain ⟨b, o, rfl, hb, cs, rfl, hc⟩ := slice_at h hk
  refine ⟨b, o, rfl, hb, ?_⟩
  have := cellsAt_0 hc
  rwa [show Ty.bool.size = 1 from rfl, Nat.mul_one] at this
theorem slices_at {α : Type} {T : Ty α} {w : World} {S : Nat → Prop} {n c k : Nat} {A : Option Addr} {ds : List (List α)} {x : List α} (h : T.slice.slice.RS w S [.slice A n c] ds) (hk : ds[k]? = some x) :
    ∃ b o A' c', A = some ⟨b, o, none⟩ ∧ S b ∧ w.cell? ⟨b, o + k, none⟩ = some (.slice A' x.length c') ∧ T.slice.RS w S [.slice A' x.length c'] x := by
  obtain ⟨b, o, rfl, hb, cs, hR, hc⟩ := slice_at h hk
  have hR' := hR
  obtain ⟨A', c', rfl, _⟩ := hR
  refine ⟨b, o, A', c', rfl, hb, ?_, hR'⟩
  have := cellsAt_0 hc
  rwa [show T.slice.size = 1 from rfl, Nat.mul_one] at this

structure InsAt (w : World) (S : Nat → Prop) (b o : Nat) (x : Ins) (A : Option Addr) (c : Nat) : Prop where
  c0 : w.cell? ⟨b, o, none⟩ = some (.int .u8 x.op)
  c1 : w.cell? ⟨b, o + 1, none⟩ = some (.int .i64 x.d)
  c2 : w.cell? ⟨b, o + 2, none⟩ = some (.int .i64 x.a)
  c3 : w.cell? ⟨b, o + 3, none⟩ = some (.int .i64 x.b)
  c4 : w.cell? ⟨b, o + 4, none⟩ = some (.int .u32 x.n)
  c5 : w.cell? ⟨b, o + 5, none⟩ = some (.int .i64 x.f)
  c6 : w.cell? ⟨b, o + 6, none⟩ = some (.slice A x.args.length c)
  c7 : w.cell? ⟨b, o + 7, none⟩ = some (.int .i64 x.l1)
  c8 : w.cell? ⟨b, o + 8, none⟩ = some (.int .i64 x.l2)
  raw : InsCells w S [.int .u8 x.op, .int .i64 x.d, .int .i64 x.a, .int .i64 x.b, .int .u32 x.n, .int .i64 x.f, .slice A x.args.length c, .int .i64 x.l1, .int .i64 x.l2] x A c

theorem ins_at {w : World} {S : Nat → Prop} {n c k : Nat} {A : Option Addr} {ds : List Ins} {x : Ins} (h : tIns.slice.RS w S [.slice A n c] ds) (hk : ds[k]? = some x) :
    ∃ b o A' c', A = some ⟨b, o, none⟩ ∧ S b ∧ InsAt w S b (o + k * 9) x A' c' := by
  obtain ⟨b, o, rfl, hb, cs, hR, hc⟩ := slice_at h hk
  obtain ⟨A', c', hI⟩ := tIns_R.1 hR
  have e := hI.cs
  subst e
  rw [tIns_size] at hc
  exact ⟨b, o, A', c', rfl, hb, cellsAt_0 hc, cellsAt_j hc 1 rfl, cellsAt_j hc 2 rfl, cellsAt_j hc 3 rfl, cellsAt_j hc 4 rfl, cellsAt_j hc 5 rfl, cellsAt_j hc 6 rfl, cellsAt_j hc 7 rfl, cellsAt_j hc 8 rfl, hI⟩

theorem block_at {w : World} {S : Nat → Prop} {n c k : Nat} {A : Option Addr} {ds : List Block} {x : Block} (h : tBlock.slice.RS w S [.slice A n c] ds) (hk : ds[k]? = some x) :
    ∃ b o A' c', A = some ⟨b, o, none⟩ ∧ S b ∧ w.cell? ⟨b, o + k * 2, none⟩ = some (.string x.name) ∧ w.cell? ⟨b, o + k * 2 + 1, none⟩ = some (.slice A' x.ins.length c') ∧ x.name.size ≤ maxLen ∧
      tIns.slice.RS w S [.slice A' x.ins.length c'] x.ins := by
  obtain ⟨b, o, rfl, hb, cs, hR, hc⟩ := slice_at h hk
  obtain ⟨A', c', rfl, h1, h2⟩ := tBlock_R.1 hR
  rw [tBlock_size] at hc
  exact ⟨b, o, A', c', rfl, hb, cellsAt_0 hc, cellsAt_j hc 1 rfl, h1, h2⟩

theorem func_at {w : World} {S : Nat → Prop} {n c k : Nat} {A : Option Addr} {ds : List Func} {x : Func} (h : tFunc.slice.RS w S [.slice A n c] ds) (hk : ds[k]? = some x) :
    ∃ b o A' c', A = some ⟨b, o, none⟩ ∧ S b ∧ w.cell? ⟨b, o + k * 4, none⟩ = some (.string x.name) ∧ w.cell? ⟨b, o + k * 4 + 1, none⟩ = some (.int .i64 x.args) ∧ w.cell? ⟨b, o + k * 4 + 2, none⟩ = some (.int .i64 x.regs) ∧
      w.cell? ⟨b, o + k * 4 + 3, none⟩ = some (.slice A' x.blocks.length c') ∧ x.name.size ≤ maxLen ∧ wfI .i64 x.args ∧ wfI .i64 x.regs ∧ tBlock.slice.RS w S [.slice A' x.blocks.length c'] x.blocks := by
  obtain ⟨b, o, rfl, hb, cs, hR, hc⟩ := slice_at h hk
  obtain ⟨A', c', rfl, h1, h2, h3, h4⟩ := tFunc_R.1 hR
  rw [tFunc_size] at hc
  exact ⟨b, o, A', c', rfl, hb, cellsAt_0 hc, cellsAt_j hc 1 rfl, cellsAt_j hc 2 rfl, cellsAt_j hc 3 rfl, h1, h2, h3, h4⟩

/-! ### rows of the call's own, read as data -/
/-- a row of the call's own, whose cells stand for data: each as that datum's reading among the blocks of S; the row's own block beside them -/
theorem own_slice {α : Type} {T : Ty α} {w : World} {base : Nat} {e : TypeId} {v : Value} {cells : List Value} {ds : List α} {S : Nat → Prop} (h : w.ownsRow base e T.size v ds.length cells)
    (hc : ∀ i d, ds[i]? = some d → T.RS w S ((cells.drop (i * T.size)).take T.size) d) (hS : ∀ g, v.ownBlock = some g → S g) : T.slice.RS w S [v] ds := by
  rcases h.2 with ⟨rfl, hn⟩ | ⟨g, cap, cur, rfl, hg, hh, h1, h2, h3, h4⟩
  · have : ds = [] := List.eq_nil_of_length_eq_zero hn
    subst this
    exact Ty.slice_nilS _ _ _
  · refine ⟨some ⟨g, 0, none⟩, cap, rfl, h1, ⟨h2, fun e => by cases e⟩, fun i d hd => ⟨g, 0, rfl, hS g rfl, _, hc i d hd, ?_⟩⟩
    intro j u hu
    have hj : j < T.size := by
      have := (List.getElem?_eq_some_iff.1 hu).1
      rw [List.length_take] at this
      omega
    rw [List.getElem?_take_of_lt hj, List.getElem?_drop] at hu
    have hcell := h.cells (g := g) rfl (i * T.size + j) u hu
    have e1 : (⟨g, 0, none⟩ : Addr).add (i * T.size + j) = ⟨g, 0 + i * T.size + j, none⟩ := by
      unfold Addr.add
      by_cases hz : i * T.size + j = 0
      · rw [if_pos hz, show 0 + i * T.size + j = 0 from by omega]
      · rw [if_neg hz, show 0 + i * T.size + j = 0 + (i * T.size + j) from by omega]
    rw [e1] at hcell
    exact hcell
theorem own_intsS {w : World} {base : Nat} {e : TypeId} {v : Value} {k : IntKind} {xs : List Int} (h : w.ownsRow base e 1 v xs.length (xs.map (Value.int k))) (hw : ∀ x ∈ xs, wfI k x) :
    (Ty.int k).slice.RS w (fun b => v.ownBlock = some b) [v] xs := by
  refine own_slice (T := Ty.int k) h (fun i d hd => ?_) (fun g hg => hg)
  have hi : i < xs.length := (List.getElem?_eq_some_iff.1 hd).1
  refine ⟨?_, hw d (List.mem_of_getElem? hd)⟩
  show ((xs.map (Value.int k)).drop (i * 1)).take 1 = _
  rw [Nat.mul_one, List.drop_eq_getElem_cons (by simpa using hi)]
  have : xs[i] = d := by
    rw [List.getElem?_eq_getElem hi] at hd
    injection hd
  simp [this]
theorem own_ints {w : World} {base : Nat} {e : TypeId} {v : Value} {k : IntKind} {xs : List Int} (h : w.ownsRow base e 1 v xs.length (xs.map (Value.int k))) (hw : ∀ x ∈ xs, wfI k x) :
    (Ty.int k).slice.R w w.heap.size [v] xs := Ty.toR (own_intsS h hw) (fun b hb => (h.lt b hb).2)
end Mu
end
section
/-
  Plain laws on graphs: what is reached, by a worklist and by rounds; the longest ways, by rounds.
  Conditions: none; no program in sight.
-/
namespace Mu

/-- a path of one step or more, every node below n -/
inductive Rch (succ : Nat → List Nat) : Nat → Nat → Prop where
  | one {f k : Nat} : k ∈ succ f → Rch succ f k
  | more {f k l : Nat} : Rch succ f k → l ∈ succ k → Rch succ f l

variable {succ : Nat → List Nat}

theorem Rch.trans {a b c : Nat} (h : Rch succ a b) (h' : Rch succ b c) : Rch succ a c := by
  induction h' with
  | one h1 => exact .more h h1
  | more _ h1 ih => exact .more ih h1

theorem Rch.head {a b c : Nat} (h : b ∈ succ a) (h' : Rch succ b c) : Rch succ a c := (Rch.one h).trans h'

theorem Rch.cases_head {a c : Nat} (h : Rch succ a c) : c ∈ succ a ∨ ∃ b, b ∈ succ a ∧ Rch succ b c := by
  induction h with
  | one h => exact .inl h
  | more _ h1 ih =>
    rcases ih with h | ⟨b, hb, hr⟩
    · exact .inr ⟨_, h, .one h1⟩
    · exact .inr ⟨b, hb, .more hr h1⟩

theorem Rch.lt {n : Nat} (hs : ∀ k l, l ∈ succ k → l < n) {a b : Nat} (h : Rch succ a b) : b < n := by
  cases h with
  | one h => exact hs _ _ h
  | more _ h => exact hs _ _ h

/-- a set that has what f calls, and what its members call, has all that f reaches -/
theorem Rch.closed {S : Nat → Prop} {f : Nat} (h0 : ∀ k ∈ succ f, S k) (h1 : ∀ k, S k → ∀ l ∈ succ k, S l) {k : Nat} (h : Rch succ f k) : S k := by
  induction h with
  | one h => exact h0 _ h
  | more _ h ih => exact h1 _ ih _ h

theorem Rch.closed' {S : Nat → Prop} {f : Nat} (h0 : ∀ k, (S k ∨ k = f) → ∀ l ∈ succ k, S l) {k : Nat} (h : Rch succ f k) : S k :=
  h.closed (h0 f (.inr rfl)) (fun k hk => h0 k (.inl hk))

/-! ### counting members below n -/
def cnt (n : Nat) (S : Nat → Bool) : Nat := ((List.range n).filter S).length

theorem cnt_le (n : Nat) (S : Nat → Bool) : cnt n S ≤ n := by
  have := List.length_filter_le S (List.range n)
  simpa [cnt] using this

theorem cnt_succ (n : Nat) (S : Nat → Bool) : cnt (n + 1) S = cnt n S + if S n then 1 else 0 := by
  unfold cnt
  rw [List.range_succ, List.filter_append, List.length_append]
  by_cases h : S n <;> simp [h]

theorem cnt_mono {n : Nat} {S T : Nat → Bool} (h : ∀ k, k < n → S k = true → T k = true) : cnt n S ≤ cnt n T := by
  induction n with
  | zero => simp [cnt]
  | succ n ih =>
    rw [cnt_succ, cnt_succ]
    have := ih (fun k hk => h k (by omega))
    have h2 := h n (by omega)
    by_cases hS : S n <;> by_cases hT : T n <;> simp_all <;> omega

theorem cnt_lt {n : Nat} {S T : Nat → Bool} (h : ∀ k, k < n → S k = true → T k = true) {j : Nat} (hj : j < n) (hS : S j = false) (hT : T j = true) : cnt n S < cnt n T := by
  induction n with
  | zero => omega
  | succ n ih =>
    rw [cnt_succ, cnt_succ]
    by_cases e : j = n
    · subst e
      have := cnt_mono (n := j) (S := S) (T := T) (fun k hk => h k (by omega))
      simp [hS, hT]; omega
    · have := ih (fun k hk => h k (by omega)) (by omega)
      have h2 := h n (by omega)
      by_cases hS : S n <;> by_cases hT : T n <;> simp_all <;> omega

theorem cnt_full {n : Nat} {S : Nat → Bool} (h : cnt n S = n) : ∀ k, k < n → S k = true := by
  intro k hk
  by_cases hS : S k
  · exact hS
  · have := cnt_lt (n := n) (S := S) (T := fun _ => true) (fun _ _ _ => rfl) hk (by simpa using hS) rfl
    have h2 := cnt_le n (fun _ => true)
    omega

/-! ### the longest way from a node from which no node that reaches itself is reached -/
def Acyc (succ : Nat → List Nat) (f : Nat) : Prop := ∀ k, (k = f ∨ Rch succ f k) → ¬ Rch succ k k

theorem Acyc.step {f k : Nat} (h : Acyc succ f) (hk : k ∈ succ f) : Acyc succ k := fun j hj => h j (.inr (by
  rcases hj with rfl | hj
  · exact .one hk
  · exact .head hk hj))

def maxL (l : List Nat) : Nat := l.foldl max 0
theorem foldl_max (l : List Nat) : ∀ a, l.foldl max a = max a (maxL l) := by
  unfold maxL
  induction l with
  | nil => intro a; simp
  | cons x l ih => intro a; simp only [List.foldl_cons]; rw [ih, ih (max 0 x)]; omega
theorem maxL_nil : maxL [] = 0 := rfl
theorem maxL_cons (x : Nat) (l : List Nat) : maxL (x :: l) = max x (maxL l) := by
  show List.foldl max (max 0 x) l = _
  rw [foldl_max]; omega
theorem maxL_append (l m : List Nat) : maxL (l ++ m) = max (maxL l) (maxL m) := by
  induction l with
  | nil => simp [maxL_nil]
  | cons x l ih => rw [List.cons_append, maxL_cons, maxL_cons, ih]; omega
theorem le_maxL {l : List Nat} {x : Nat} (h : x ∈ l) : x ≤ maxL l := by
  induction l with
  | nil => cases h
  | cons y l ih =>
    rw [maxL_cons]
    cases h with
    | head => omega
    | tail _ h => have := ih h; omega
theorem maxL_le {l : List Nat} {b : Nat} (h : ∀ x ∈ l, x ≤ b) : maxL l ≤ b := by
  induction l with
  | nil => simp [maxL_nil]
  | cons y l ih =>
    rw [maxL_cons]
    have := h y (by simp)
    have := ih (fun x hx => h x (by simp [hx]))
    omega
theorem maxL_mem {l : List Nat} (h : l ≠ []) : maxL l ∈ l := by
  induction l with
  | nil => exact absurd rfl h
  | cons y l ih =>
    rw [maxL_cons]
    by_cases e : l = []
    · subst e; simp [maxL_nil]
    · have := ih e
      rcases Nat.le_total y (maxL l) with h | h
      · rw [Nat.max_eq_right h]; simp [this]
      · rw [Nat.max_eq_left h]; simp

/-- the longest way, by fuel -/
def lng (succ : Nat → List Nat) : Nat → Nat → Nat
  | 0, _ => 0
  | m + 1, f => maxL ((succ f).map fun k => lng succ m k + 1)

theorem lng_succ (m f : Nat) : lng succ (m + 1) f = maxL ((succ f).map fun k => lng succ m k + 1) := rfl

section
variable {n : Nat} (hs : ∀ k l, l ∈ succ k → l < n)
include hs
open Classical in
theorem reach_card_lt {f k : Nat} (h : Acyc succ f) (hk : k ∈ succ f) :
    cnt n (fun j => decide (Rch succ k j)) < cnt n (fun j => decide (Rch succ f j)) :=
  cnt_lt (fun j _ hj => by simp only [decide_eq_true_eq] at *; exact .head hk hj) (hs _ _ hk)
    (by simpa using h k (.inr (.one hk)) ) (by simpa using Rch.one hk)

open Classical in
/-- more fuel than what is reached says nothing new -/
theorem lng_stable : ∀ (m m' f : Nat), Acyc succ f → cnt n (fun j => decide (Rch succ f j)) ≤ m → cnt n (fun j => decide (Rch succ f j)) ≤ m' → lng succ m f = lng succ m' f := by
  intro m
  induction m with
  | zero =>
    intro m' f ha h h'
    cases m' with
    | zero => rfl
    | succ m' =>
      have : succ f = [] := by
        rcases hsf : succ f with _ | ⟨k, l⟩
        · rfl
        · have := reach_card_lt hs ha (show k ∈ succ f by rw [hsf]; simp)
          omega
      rw [lng_succ, this]; rfl
  | succ m ih =>
    intro m' f ha h h'
    cases m' with
    | zero =>
      have : succ f = [] := by
        rcases hsf : succ f with _ | ⟨k, l⟩
        · rfl
        · have := reach_card_lt hs ha (show k ∈ succ f by rw [hsf]; simp)
          omega
      rw [lng_succ, this]; rfl
    | succ m' =>
      rw [lng_succ, lng_succ]
      congr 1
      apply List.map_congr_left
      intro k hk
      have := reach_card_lt hs ha hk
      rw [ih m' k (ha.step hk) (by omega) (by omega)]
end

/-- the longest way -/
def lngN (succ : Nat → List Nat) (n f : Nat) : Nat := lng succ n f

section
variable {n : Nat} (hs : ∀ k l, l ∈ succ k → l < n)
include hs
theorem lngN_eq {f : Nat} (h : Acyc succ f) : lngN succ n f = maxL ((succ f).map fun k => lngN succ n k + 1) := by
  classical
  have h1 : lngN succ n f = lng succ (n + 1) f := lng_stable hs _ _ _ h (cnt_le _ _) (by have := cnt_le n (fun j => decide (Rch succ f j)); omega)
  rw [h1, lng_succ]
  rfl
theorem lngN_le {f : Nat} (h : Acyc succ f) : lngN succ n f ≤ n := by
  classical
  have key : ∀ m f, Acyc succ f → lng succ m f ≤ cnt n (fun j => decide (Rch succ f j)) := by
    intro m
    induction m with
    | zero => intro f _; exact Nat.zero_le _
    | succ m ih =>
      intro f h
      rw [lng_succ]
      apply maxL_le
      intro x hx
      obtain ⟨k, hk, rfl⟩ := List.mem_map.1 hx
      have := ih k (h.step hk)
      have := reach_card_lt hs h hk
      omega
  exact Nat.le_trans (key n f h) (cnt_le _ _)
end

/-! ### the worklist -/
def restOf (succ : Nat → List Nat) (S : Nat → Bool) : Nat → Nat
  | 0 => 0
  | n + 1 => restOf succ S n + if S n then 0 else (succ n).length

def put (S : Nat → Bool) (k : Nat) : Nat → Bool := fun j => if j = k then true else S j

theorem restOf_put {S : Nat → Bool} {k n : Nat} (hk : S k = false) : restOf succ (put S k) n + (if k < n then (succ k).length else 0) = restOf succ S n := by
  induction n with
  | zero => simp [restOf]
  | succ n ih =>
    unfold restOf
    by_cases e : n = k
    · subst e
      have : ¬ n < n := by omega
      simp [put, hk, this] at ih ⊢
      omega
    · simp only [put, e, if_false] at ih ⊢
      by_cases h : k < n
      · have : k < n + 1 := by omega
        simp only [h, this, if_true] at ih ⊢
        omega
      · have : ¬ k < n + 1 := by omega
        simp only [h, this, if_false] at ih ⊢
        omega

theorem restOf_le {S : Nat → Bool} {m : Nat} (h : ∀ k, (succ k).length ≤ m) (n : Nat) : restOf succ S n ≤ n * m := by
  induction n with
  | zero => simp [restOf]
  | succ n ih =>
    unfold restOf
    have := h n
    rw [Nat.succ_mul]
    split <;> omega

structure Bfs (succ : Nat → List Nat) (n f : Nat) (wait : List Nat) (at_ : Nat) (S : Nat → Bool) : Prop where
  le : at_ ≤ wait.length
  sound : ∀ x ∈ wait, Rch succ f x
  start : ∀ x ∈ succ f, x ∈ wait
  put_ : ∀ k, S k = true → k < n ∧ Rch succ f k ∧ ∀ l ∈ succ k, l ∈ wait
  done : ∀ j, j < at_ → ∀ x, wait[j]? = some x → S x = true
  size : wait.length + restOf succ S n = (succ f).length + restOf succ (fun _ => false) n

theorem Bfs.init (n f : Nat) : Bfs succ n f (succ f) 0 (fun _ => false) :=
  ⟨Nat.zero_le _, fun _ h => .one h, fun _ h => h, fun _ h => (Bool.false_ne_true h).elim, (fun _ h => absurd h (Nat.not_lt_zero _)), rfl⟩

theorem Bfs.old {n f : Nat} {wait : List Nat} {i : Nat} {S : Nat → Bool} (h : Bfs succ n f wait i S) {k : Nat} (hk : wait[i]? = some k) (hS : S k = true) :
    Bfs succ n f wait (i + 1) S := by
  obtain ⟨hi, he⟩ := List.getElem?_eq_some_iff.1 hk
  refine ⟨by omega, h.sound, h.start, h.put_, fun j hj x hx => ?_, h.size⟩
  by_cases e : j = i
  · subst e
    rw [hk] at hx
    injection hx with hx
    subst hx
    exact hS
  · exact h.done j (by omega) x hx

theorem Bfs.new {n f : Nat} (hs : ∀ k l, l ∈ succ k → l < n) {wait : List Nat} {i : Nat} {S : Nat → Bool} (h : Bfs succ n f wait i S) {k : Nat} (hk : wait[i]? = some k) (hS : S k = false) :
    Bfs succ n f (wait ++ succ k) (i + 1) (put S k) := by
  obtain ⟨hi, he⟩ := List.getElem?_eq_some_iff.1 hk
  have hr : Rch succ f k := h.sound k (he ▸ List.getElem_mem hi)
  have hkn : k < n := hr.lt hs
  refine ⟨by simp; omega, fun x hx => ?_, fun x hx => by simp [h.start x hx], fun j hj => ?_, fun j hj x hx => ?_, ?_⟩
  · rcases List.mem_append.1 hx with hx | hx
    · exact h.sound x hx
    · exact .more hr hx
  · unfold put at hj
    by_cases e : j = k
    · subst e
      exact ⟨hkn, hr, fun l hl => by simp [hl]⟩
    · rw [if_neg e] at hj
      obtain ⟨a, b, c⟩ := h.put_ j hj
      exact ⟨a, b, fun l hl => by simp [c l hl]⟩
  · unfold put
    by_cases e : x = k
    · simp [e]
    · rw [if_neg e]
      by_cases e' : j = i
      · subst e'
        rw [List.getElem?_append_left hi, hk] at hx
        injection hx with hx
        exact absurd hx.symm e
      · rw [List.getElem?_append_left (by omega)] at hx
        exact h.done j (by omega) x hx
  · have := restOf_put (succ := succ) (n := n) hS
    have := h.size
    simp only [hkn, if_true] at *
    simp only [List.length_append]
    omega

theorem Bfs.end_ {n f : Nat} {wait : List Nat} {S : Nat → Bool} {i : Nat} (h : Bfs succ n f wait i S) (hi : wait.length ≤ i) (k : Nat) : S k = true ↔ Rch succ f k := by
  constructor
  · intro hS; exact (h.put_ k hS).2.1
  · intro hr
    have hall : ∀ x ∈ wait, S x = true := fun x hx => by
      obtain ⟨j, hj, he⟩ := List.getElem_of_mem hx
      exact h.done j (by omega) x (by rw [List.getElem?_eq_getElem hj, he])
    exact hr.closed (S := fun k => S k = true) (fun k hk => hall k (h.start k hk)) (fun k hk l hl => hall l ((h.put_ k hk).2.2 l hl))

theorem Bfs.length_le {n f m : Nat} {wait : List Nat} {S : Nat → Bool} {i : Nat} (h : Bfs succ n f wait i S) (hm : ∀ k, (succ k).length ≤ m) : wait.length ≤ (n + 1) * m := by
  have := h.size
  have := restOf_le (succ := succ) (S := fun _ => false) hm n
  have := hm f
  rw [Nat.succ_mul]
  omega

/-! ### rounds over all nodes, each time what is called by what is there -/
/-- one visit of node k -/
def visit (succ : Nat → List Nat) (f : Nat) (S : Nat → Bool) (k : Nat) : Nat → Bool :=
  if k = f ∨ S k = true then fun j => if j ∈ succ k then true else S j else S
/-- the visits of nodes 0 .. m-1 -/
def visits (succ : Nat → List Nat) (f : Nat) (S : Nat → Bool) : Nat → Nat → Bool
  | 0 => S
  | m + 1 => visit succ f (visits succ f S m) m
/-- so many rounds -/
def rounds_ (succ : Nat → List Nat) (n f : Nat) : Nat → Nat → Bool
  | 0 => fun _ => false
  | r + 1 => visits succ f (rounds_ succ n f r) n

theorem visit_mono {f : Nat} {S : Nat → Bool} {k j : Nat} (h : S j = true) : visit succ f S k j = true := by
  unfold visit
  split
  · simp [h]
  · exact h
theorem visits_mono {f : Nat} {S : Nat → Bool} {j : Nat} (h : S j = true) (m : Nat) : visits succ f S m j = true := by
  induction m with
  | zero => exact h
  | succ m ih => exact visit_mono ih
theorem visits_mono_le {f : Nat} {S : Nat → Bool} {j m m' : Nat} (hm : m ≤ m') (h : visits succ f S m j = true) : visits succ f S m' j = true := by
  induction hm with
  | refl => exact h
  | step _ ih => exact visit_mono ih
theorem visit_sound {f : Nat} {S : Nat → Bool} (h : ∀ j, S j = true → Rch succ f j) (k j : Nat) (hj : visit succ f S k j = true) : Rch succ f j := by
  unfold visit at hj
  split at hj
  · rename_i hk
    by_cases e : j ∈ succ k
    · rcases hk with rfl | hk
      · exact .one e
      · exact .more (h k hk) e
    · simp only [e, if_false] at hj; exact h j hj
  · exact h j hj
theorem visits_sound {f : Nat} {S : Nat → Bool} (h : ∀ j, S j = true → Rch succ f j) (m j : Nat) (hj : visits succ f S m j = true) : Rch succ f j := by
  induction m generalizing j with
  | zero => exact h j hj
  | succ m ih => exact visit_sound ih m j hj
theorem rounds_sound {n f : Nat} (r j : Nat) (hj : rounds_ succ n f r j = true) : Rch succ f j := by
  induction r generalizing j with
  | zero => cases hj
  | succ r ih => exact visits_sound ih n j hj
/-- a round that adds nothing has found a closed set -/
theorem visits_closed {f n : Nat} {S : Nat → Bool} (h : ∀ j, visits succ f S n j = true → S j = true) (k : Nat) (hk : k < n) (hkS : S k = true ∨ k = f) (l : Nat) (hl : l ∈ succ k) : S l = true := by
  apply h
  have : visits succ f S (k + 1) l = true := by
    show visit succ f (visits succ f S k) k l = true
    unfold visit
    rw [if_pos (by
      rcases hkS with h | h
      · exact .inr (visits_mono h k)
      · exact .inl h)]
    simp [hl]
  exact visits_mono_le (show k + 1 ≤ n by omega) this

theorem rounds_count {n f : Nat} (hs : ∀ k l, l ∈ succ k → l < n) (hf : f < n) (r : Nat) :
    (∀ j, Rch succ f j → rounds_ succ n f r j = true) ∨ r ≤ cnt n (rounds_ succ n f r) := by
  induction r with
  | zero => exact .inr (Nat.zero_le _)
  | succ r ih =>
    rcases ih with h | h
    · exact .inl fun j hj => visits_mono (h j hj) n
    · by_cases hc : ∀ j, visits succ f (rounds_ succ n f r) n j = true → rounds_ succ n f r j = true
      · left
        intro j hj
        have hcl := visits_closed hc
        have : rounds_ succ n f r j = true := hj.closed' (S := fun k => rounds_ succ n f r k = true) (fun k hk l hl => by
          rcases hk with hk | rfl
          · exact hcl k ((rounds_sound r k hk).lt hs) (.inl hk) l hl
          · exact hcl k hf (.inr rfl) l hl)
        exact visits_mono this n
      · right
        have hc' : ∃ j, visits succ f (rounds_ succ n f r) n j = true ∧ rounds_ succ n f r j = false := by
          apply Classical.byContradiction
          intro hn
          apply hc
          intro j hj
          rcases hb : rounds_ succ n f r j with _ | _
          · exact absurd ⟨j, hj, hb⟩ hn
          · rfl
        obtain ⟨j, hj, hb⟩ := hc'
        have hjn : j < n := (rounds_sound (n := n) (r + 1) j hj).lt hs
        have := cnt_lt (n := n) (S := rounds_ succ n f r) (T := rounds_ succ n f (r + 1)) (fun k _ hk => visits_mono hk n) hjn hb hj
        omega

theorem rounds_end {n f : Nat} (hs : ∀ k l, l ∈ succ k → l < n) (hf : f < n) (j : Nat) : rounds_ succ n f n j = true ↔ Rch succ f j := by
  refine ⟨rounds_sound n j, fun hj => ?_⟩
  rcases rounds_count hs hf n with h | h
  · exact h j hj
  · exact cnt_full (Nat.le_antisymm (cnt_le _ _) h) j (hj.lt hs)

/-! ### depths by rounds -/
def relax1 (n : Nat) (d : Nat → Nat) (k : Nat) (l : Nat) : Nat → Nat := fun j => if j = k then min (max (d k) (d l + 1)) n else d j
def relaxL (n : Nat) (k : Nat) (d : Nat → Nat) (l : List Nat) : Nat → Nat := l.foldl (fun d l => relax1 n d k l) d
def relaxK (succ : Nat → List Nat) (n : Nat) (d : Nat → Nat) : Nat → Nat → Nat
  | 0 => d
  | m + 1 => relaxL n m (relaxK succ n d m) (succ m)
def relaxR (succ : Nat → List Nat) (n : Nat) : Nat → Nat → Nat
  | 0 => fun _ => 0
  | r + 1 => relaxK succ n (relaxR succ n r) n

section
variable {n : Nat}
theorem relaxL_cons (k : Nat) (d : Nat → Nat) (x : Nat) (l : List Nat) : relaxL n k d (x :: l) = relaxL n k (relax1 n d k x) l := rfl
theorem relaxL_snoc (k : Nat) (d : Nat → Nat) (x : Nat) (l : List Nat) : relaxL n k d (l ++ [x]) = relax1 n (relaxL n k d l) k x := by
  unfold relaxL; rw [List.foldl_append]; rfl
theorem relax1_cap {d : Nat → Nat} (h : ∀ j, d j ≤ n) (k l j : Nat) : relax1 n d k l j ≤ n := by
  unfold relax1; split
  · omega
  · exact h j
theorem relaxL_cap {d : Nat → Nat} (h : ∀ j, d j ≤ n) (k : Nat) (l : List Nat) : ∀ j, relaxL n k d l j ≤ n := by
  induction l generalizing d with
  | nil => exact h
  | cons x l ih => exact ih (relax1_cap h k x)
theorem relaxK_cap {d : Nat → Nat} (h : ∀ j, d j ≤ n) (m : Nat) : ∀ j, relaxK succ n d m j ≤ n := by
  induction m with
  | zero => exact h
  | succ m ih => exact relaxL_cap ih _ _
theorem relaxR_cap (r : Nat) : ∀ j, relaxR succ n r j ≤ n := by
  induction r with
  | zero => intro j; exact Nat.zero_le _
  | succ r ih => exact relaxK_cap ih _

/-- on nodes from which no circle is reached: no more than the longest way -/
def Upper (succ : Nat → List Nat) (n : Nat) (d : Nat → Nat) : Prop := ∀ k, Acyc succ k → d k ≤ lngN succ n k
theorem relax1_upper (hs : ∀ k l, l ∈ succ k → l < n) {d : Nat → Nat} (h : Upper succ n d) {k l : Nat} (hl : l ∈ succ k) : Upper succ n (relax1 n d k l) := by
  intro j hj
  unfold relax1
  split
  · rename_i e; subst e
    have h1 := h j hj
    have h2 := h l (hj.step hl)
    have h3 : lngN succ n l + 1 ≤ lngN succ n j := by
      rw [lngN_eq hs hj]
      exact le_maxL (List.mem_map.2 ⟨l, hl, rfl⟩)
    omega
  · exact h j hj
theorem relaxL_upper (hs : ∀ k l, l ∈ succ k → l < n) {d : Nat → Nat} (h : Upper succ n d) {k : Nat} {l : List Nat} (hl : ∀ x ∈ l, x ∈ succ k) : Upper succ n (relaxL n k d l) := by
  induction l generalizing d with
  | nil => exact h
  | cons x l ih => exact ih (relax1_upper hs h (hl x (by simp))) (fun y hy => hl y (by simp [hy]))
theorem relaxK_upper (hs : ∀ k l, l ∈ succ k → l < n) {d : Nat → Nat} (h : Upper succ n d) (m : Nat) : Upper succ n (relaxK succ n d m) := by
  induction m with
  | zero => exact h
  | succ m ih => exact relaxL_upper hs ih (fun _ h => h)
theorem relaxR_upper (hs : ∀ k l, l ∈ succ k → l < n) (r : Nat) : Upper succ n (relaxR succ n r) := by
  induction r with
  | zero => intro k _; exact Nat.zero_le _
  | succ r ih => exact relaxK_upper hs ih _

theorem relax1_mono {d : Nat → Nat} (h : ∀ j, d j ≤ n) (k l j : Nat) : d j ≤ relax1 n d k l j := by
  unfold relax1; split
  · rename_i e; subst e; have := h j; omega
  · exact Nat.le_refl _
theorem relaxL_mono {d : Nat → Nat} (h : ∀ j, d j ≤ n) (k : Nat) (l : List Nat) : ∀ j, d j ≤ relaxL n k d l j := by
  induction l generalizing d with
  | nil => intro j; exact Nat.le_refl _
  | cons x l ih => intro j; exact Nat.le_trans (relax1_mono h k x j) (ih (relax1_cap h k x) j)
theorem relaxL_ge {d : Nat → Nat} (h : ∀ j, d j ≤ n) (k : Nat) (l : List Nat) (x : Nat) (hx : x ∈ l) : min (d x + 1) n ≤ relaxL n k d l k := by
  induction l generalizing d with
  | nil => cases hx
  | cons y l ih =>
    cases hx with
    | head =>
      refine Nat.le_trans ?_ (relaxL_mono (relax1_cap h k x) k l k)
      unfold relax1; simp; omega
    | tail _ hx =>
      refine Nat.le_trans ?_ (ih (relax1_cap h k y) hx)
      have h1 : d x ≤ relax1 n d k y x := relax1_mono h k y x
      show min (d x + 1) n ≤ min (relax1 n d k y x + 1) n
      omega
theorem relaxL_other {d : Nat → Nat} (k : Nat) (l : List Nat) {j : Nat} (hj : j ≠ k) : relaxL n k d l j = d j := by
  induction l generalizing d with
  | nil => rfl
  | cons x l ih => rw [relaxL_cons, ih]; simp [relax1, hj]
theorem relaxK_mono {d : Nat → Nat} (h : ∀ j, d j ≤ n) (m : Nat) : ∀ j, d j ≤ relaxK succ n d m j := by
  induction m with
  | zero => intro j; exact Nat.le_refl _
  | succ m ih => intro j; exact Nat.le_trans (ih j) (relaxL_mono (relaxK_cap h m) _ _ j)
theorem relaxK_ge {d : Nat → Nat} (h : ∀ j, d j ≤ n) {m k : Nat} (hk : k < m) {x : Nat} (hx : x ∈ succ k) : min (d x + 1) n ≤ relaxK succ n d m k := by
  induction m with
  | zero => omega
  | succ m ih =>
    by_cases e : k = m
    · subst e
      refine Nat.le_trans ?_ (relaxL_ge (relaxK_cap h k) k (succ k) x hx)
      have := relaxK_mono (succ := succ) h k x
      omega
    · show _ ≤ relaxL n m (relaxK succ n d m) (succ m) k
      rw [relaxL_other m (succ m) e]
      exact ih (by omega)
theorem relaxR_lower (hs : ∀ k l, l ∈ succ k → l < n) (r : Nat) : ∀ k, k < n → Acyc succ k → min (lngN succ n k) r ≤ relaxR succ n r k := by
  induction r with
  | zero => intro k _ _; omega
  | succ r ih =>
    intro k hk ha
    rw [lngN_eq hs ha]
    show _ ≤ relaxK succ n (relaxR succ n r) n k
    by_cases e : (succ k).map (fun k => lngN succ n k + 1) = []
    · rw [e, maxL_nil]; omega
    · obtain ⟨x, hx, hm⟩ := List.mem_map.1 (maxL_mem e)
      rw [← hm]
      have h1 := ih x (hs _ _ hx) (ha.step hx)
      have h2 := relaxK_ge (n := n) (succ := succ) (d := relaxR succ n r) (relaxR_cap (succ := succ) r) hk hx
      have h3 := lngN_le hs ha
      have h4 : lngN succ n x + 1 ≤ lngN succ n k := by
        rw [lngN_eq hs ha]; exact le_maxL (List.mem_map.2 ⟨x, hx, rfl⟩)
      omega
theorem relaxR_end (hs : ∀ k l, l ∈ succ k → l < n) {k : Nat} (hk : k < n) (ha : Acyc succ k) : relaxR succ n n k = lngN succ n k := by
  have h1 := relaxR_upper hs n k ha
  have h2 := relaxR_lower hs n k hk ha
  have h3 := lngN_le hs ha
  omega
end
end Mu
end
section
/-
  Plain laws on what a function calls: the sorted and compacted row of its calls is the filtered row of all functions.
  Conditions: none.
-/
namespace Mu
open Go

def isCall (n : Nat) (x : Ins) : Bool := x.op == 5 && (decide (0 ≤ x.f) && decide (x.f < n))
def rawIns (n : Nat) (l : List Ins) : List Int := (l.filter (isCall n)).map (·.f)
def raw (n : Nat) (bs : List Block) : List Int := bs.flatMap fun b => rawIns n b.ins

theorem rawIns_step {n j : Nat} {l : List Ins} {x : Ins} (h : l[j]? = some x) : rawIns n (l.take (j + 1)) = rawIns n (l.take j) ++ if isCall n x then [x.f] else [] := by
  unfold rawIns
  rw [List.take_add_one, h, Option.toList_some, List.filter_append, List.map_append]
  by_cases hc : isCall n x <;> simp [hc]
theorem raw_step {n k : Nat} {bs : List Block} {b : Block} (h : bs[k]? = some b) : raw n (bs.take (k + 1)) = raw n (bs.take k) ++ rawIns n b.ins := by
  unfold raw
  rw [List.take_add_one, h, Option.toList_some, List.flatMap_append]
  simp
theorem raw_take_le {n k : Nat} {bs : List Block} : (raw n (bs.take k)).length ≤ (raw n bs).length := by
  unfold raw
  conv => rhs; rw [← List.take_append_drop k bs, List.flatMap_append, List.length_append]
  omega
theorem rawIns_take_le {n k : Nat} {l : List Ins} : (rawIns n (l.take k)).length ≤ (rawIns n l).length := by
  unfold rawIns
  conv => rhs; rw [← List.take_append_drop k l, List.filter_append, List.map_append, List.length_append]
  omega

/-! ### the canonical answers -/
def hasIns (k : Nat) (l : List Ins) : Bool := l.any fun x => x.op == 5 && x.f == k
def hasCall (bs : List Block) (k : Nat) : Bool := bs.any fun b => hasIns k b.ins
def succ (p : Prog) (f : Nat) : List Nat :=
  match p.funcs[f]? with
  | none => []
  | some fn => (List.range p.funcs.length).filter (hasCall fn.blocks)
def ofN (l : List Nat) : List Int := l.map Int.ofNat
def callsC (p : Prog) (f : Int) : List Int := if 0 ≤ f ∧ f < p.funcs.length then ofN (succ p f.toNat) else []

theorem succ_lt (p : Prog) (k l : Nat) (h : l ∈ succ p k) : l < p.funcs.length := by
  unfold succ at h
  split at h
  · cases h
  · have := (List.mem_filter.1 h).1
    simpa using this
theorem succ_length (p : Prog) (k : Nat) : (succ p k).length ≤ p.funcs.length := by
  unfold succ
  split
  · simp
  · exact Nat.le_trans (List.length_filter_le _ _) (by simp)

theorem mem_raw {n : Nat} {bs : List Block} {z : Int} : z ∈ raw n bs ↔ 0 ≤ z ∧ z < n ∧ hasCall bs z.toNat = true := by
  simp only [raw, rawIns, List.mem_flatMap, List.mem_map, List.mem_filter, isCall, hasCall, hasIns, List.any_eq_true, Bool.and_eq_true, beq_iff_eq, decide_eq_true_eq]
  constructor
  · rintro ⟨b, hb, x, ⟨hx, h5, h0, hn⟩, rfl⟩
    exact ⟨h0, hn, b, hb, x, hx, h5, by omega⟩
  · rintro ⟨h0, hn, b, hb, x, hx, h5, hf⟩
    exact ⟨b, hb, x, ⟨hx, h5, by omega, by omega⟩, by omega⟩

/-! ### strictly rising rows are what they hold -/
theorem rising_ext : ∀ {l m : List Int}, l.Pairwise (· < ·) → m.Pairwise (· < ·) → (∀ z, z ∈ l ↔ z ∈ m) → l = m := by
  intro l
  induction l with
  | nil =>
    intro m _ _ h
    cases m with
    | nil => rfl
    | cons y m => exact absurd ((h y).2 (by simp)) (by simp)
  | cons x l ih =>
    intro m hl hm h
    cases m with
    | nil => exact absurd ((h x).1 (by simp)) (by simp)
    | cons y m =>
      rw [List.pairwise_cons] at hl hm
      have hxy : x = y := by
        have h1 := (h x).1 (by simp)
        have h2 := (h y).2 (by simp)
        rcases List.mem_cons.1 h1 with e | h1
        · exact e
        · rcases List.mem_cons.1 h2 with e | h2
          · exact e.symm
          · have := hl.1 y h2
            have := hm.1 x h1
            omega
      subst hxy
      congr 1
      apply ih hl.2 hm.2
      intro z
      constructor
      · intro hz
        rcases List.mem_cons.1 ((h z).1 (by simp [hz])) with e | h1
        · subst e; have := hl.1 _ hz; omega
        · exact h1
      · intro hz
        rcases List.mem_cons.1 ((h z).2 (by simp [hz])) with e | h1
        · subst e; have := hm.1 _ hz; omega
        · exact h1

theorem rising_ofN {n : Nat} (P : Nat → Bool) : (ofN ((List.range n).filter P)).Pairwise (· < ·) := by
  unfold ofN
  rw [List.pairwise_map]
  refine (List.Pairwise.filter _ List.pairwise_lt_range).imp ?_
  intro a b h
  exact Int.ofNat_lt.2 h

/-- compact, of a sorted row: strictly rising, of the same members -/
theorem compact_sorted {zs : List Int} (h : zs.Pairwise (· ≤ ·)) : (Lib.compact zs).Pairwise (· < ·) ∧ ∀ z, z ∈ Lib.compact zs ↔ z ∈ zs := by
  have hget : ∀ j, j < zs.length → zs.toArray[j]! = zs.getD j 0 := fun j hj => by simp [getElem!_pos, hj]
  have hle : ∀ i j, i ≤ j → j < zs.length → zs.getD i 0 ≤ zs.getD j 0 := fun i j hij hj => by
    rcases Nat.eq_or_lt_of_le hij with e | hlt
    · subst e; exact Int.le_refl _
    · have := List.pairwise_iff_getElem.1 h i j (by omega) hj hlt
      simpa [List.getD, show i < zs.length by omega, hj] using this
  have hkeep : ∀ j, j < zs.length → (Lib.keeps zs.toArray j = true ↔ j = 0 ∨ zs.getD (j - 1) 0 < zs.getD j 0) := by
    intro j hj
    unfold Lib.keeps
    rw [hget j hj, hget (j - 1) (by omega)]
    by_cases hz : j = 0
    · simp [hz]
    · have := hle (j - 1) j (by omega) hj
      simp only [hz, false_or, ne_eq, decide_eq_true_eq]
      omega
  constructor
  · unfold Lib.compact Lib.compactUpTo
    rw [List.pairwise_map]
    refine List.Pairwise.imp_of_mem ?_ (List.Pairwise.filter _ List.pairwise_lt_range)
    intro a b ha hb hab
    obtain ⟨ha1, _⟩ := List.mem_filter.1 ha
    obtain ⟨hb1, hb2⟩ := List.mem_filter.1 hb
    simp only [List.mem_range] at ha1 hb1
    rw [hget a ha1, hget b hb1]
    rcases (hkeep b hb1).1 hb2 with e | e
    · omega
    · have := hle a (b - 1) (by omega) (by omega)
      omega
  · intro z
    unfold Lib.compact Lib.compactUpTo
    rw [List.mem_map]
    constructor
    · rintro ⟨j, hj, rfl⟩
      obtain ⟨hj1, _⟩ := List.mem_filter.1 hj
      simp only [List.mem_range] at hj1
      rw [hget j hj1]
      simp [List.getD, hj1]
    · intro hz
      have key : ∀ j, j < zs.length → ∃ i, i ≤ j ∧ Lib.keeps zs.toArray i = true ∧ zs.getD i 0 = zs.getD j 0 := by
        intro j
        induction j with
        | zero => intro hj; exact ⟨0, Nat.le_refl _, (hkeep 0 hj).2 (.inl rfl), rfl⟩
        | succ j ih =>
          intro hj
          by_cases hlt : zs.getD j 0 < zs.getD (j + 1) 0
          · exact ⟨j + 1, Nat.le_refl _, (hkeep _ hj).2 (.inr (by simpa using hlt)), rfl⟩
          · obtain ⟨i, h1, h2, h3⟩ := ih (by omega)
            have := hle j (j + 1) (by omega) hj
            exact ⟨i, by omega, h2, by omega⟩
      obtain ⟨j, hj, rfl⟩ := List.getElem_of_mem hz
      obtain ⟨i, h1, h2, h3⟩ := key j hj
      refine ⟨i, List.mem_filter.2 ⟨by simp; omega, h2⟩, ?_⟩
      rw [hget i (by omega), h3]
      simp [List.getD, hj]

theorem sorted_mergeSort (zs : List Int) : (zs.mergeSort fun x y => decide (x ≤ y)).Pairwise (· ≤ ·) := by
  have := List.pairwise_mergeSort (le := fun x y : Int => decide (x ≤ y)) (fun a b c h1 h2 => by simp at *; omega) (fun a b => by simp; omega) zs
  exact this.imp (by simp)

theorem calls_eq {p : Prog} {f : Nat} {fn : Func} (h : p.funcs[f]? = some fn) : Lib.compact ((raw p.funcs.length fn.blocks).mergeSort fun x y => decide (x ≤ y)) = ofN (succ p f) := by
  obtain ⟨h1, h2⟩ := compact_sorted (sorted_mergeSort (raw p.funcs.length fn.blocks))
  unfold succ
  rw [h]
  refine rising_ext h1 (rising_ofN _) fun z => ?_
  rw [h2, List.mem_mergeSort, mem_raw]
  simp only [ofN, List.mem_map, List.mem_filter, List.mem_range]
  constructor
  · rintro ⟨h0, hn, hc⟩
    exact ⟨z.toNat, ⟨by omega, hc⟩, by simp; omega⟩
  · rintro ⟨k, ⟨hk, hc⟩, rfl⟩
    exact ⟨by simp, by simpa using hk, by simpa using hc⟩
end Mu
end
section
/-
  How much there may be of each part, by the whole's bulk; and what a world keeps of what was boxed.
  Conditions: none.
-/
namespace Mu
open Go Go.RowKit

theorem one_int (x : Int) : 1 ≤ tInt.bulk x := Nat.le_refl _
theorem one_ins (x : Ins) : 1 ≤ tIns.bulk x := by simp only [tIns, Ty.via]; omega
theorem one_block (x : Block) : 1 ≤ tBlock.bulk x := by simp only [tBlock, Ty.via]; omega
theorem one_func (x : Func) : 1 ≤ tFunc.bulk x := by simp only [tFunc, Ty.via]; omega

theorem bulk_prog (p : Prog) : tProg.bulk p = bulkL tInt.bulk p.threads + bulkL tFunc.bulk p.funcs + 4 := by
  simp only [tProg, Ty.via, Ty.cons, Ty.slice, tInt, Ty.int, Ty.none_]; omega
theorem bulk_func (p : Func) : tFunc.bulk p = p.name.size + bulkL tBlock.bulk p.blocks + 5 := by
  simp only [tFunc, Ty.via, Ty.cons, Ty.slice, tInt, Ty.int, Ty.none_, Ty.str]; omega
theorem bulk_block (p : Block) : tBlock.bulk p = p.name.size + bulkL tIns.bulk p.ins + 3 := by
  simp only [tBlock, Ty.via, Ty.cons, Ty.slice, Ty.none_, Ty.str]; omega
theorem bulk_ins (p : Ins) : tIns.bulk p = bulkL tInt.bulk p.args + 10 := by
  simp only [tIns, Ty.via, Ty.cons, Ty.slice, tInt, Ty.int, Ty.none_]; omega

theorem prog_funcs_le (p : Prog) : p.funcs.length ≤ tProg.bulk p := by
  have := bulkL_length one_func p.funcs
  rw [bulk_prog]; omega
theorem prog_threads_le (p : Prog) : p.threads.length ≤ tProg.bulk p := by
  have := bulkL_length one_int p.threads
  rw [bulk_prog]; omega
theorem prog_func_le {p : Prog} {fn : Func} (h : fn ∈ p.funcs) : tFunc.bulk fn ≤ tProg.bulk p := by
  have := bulkL_mem (f := tFunc.bulk) h
  rw [bulk_prog]; omega
theorem func_blocks_le (p : Func) : p.blocks.length ≤ tFunc.bulk p := by
  have := bulkL_length one_block p.blocks
  rw [bulk_func]; omega
theorem func_block_le {p : Func} {b : Block} (h : b ∈ p.blocks) : tBlock.bulk b ≤ tFunc.bulk p := by
  have := bulkL_mem (f := tBlock.bulk) h
  rw [bulk_func]; omega
theorem block_ins_le (p : Block) : p.ins.length ≤ tBlock.bulk p := by
  have := bulkL_length one_ins p.ins
  rw [bulk_block]; omega
theorem block_in_le {p : Block} {x : Ins} (h : x ∈ p.ins) : tIns.bulk x ≤ tBlock.bulk p := by
  have := bulkL_mem (f := tIns.bulk) h
  rw [bulk_block]; omega
theorem ins_args_le (p : Ins) : p.args.length ≤ tIns.bulk p := by
  have := bulkL_length one_int p.args
  rw [bulk_ins]; omega
theorem rawIns_le (n : Nat) (l : List Ins) : (rawIns n l).length ≤ l.length := by
  unfold rawIns
  rw [List.length_map]
  exact List.length_filter_le _ _
theorem raw_le_bulk (n : Nat) (bs : List Block) : (raw n bs).length ≤ bulkL tBlock.bulk bs := by
  induction bs with
  | nil => simp [raw, bulkL]
  | cons b bs ih =>
    have h1 := rawIns_le n b.ins
    have h2 := block_ins_le b
    simp only [raw, List.flatMap_cons, List.length_append, bulkL] at ih ⊢
    omega
theorem raw_le (n : Nat) (p : Func) : (raw n p.blocks).length ≤ tFunc.bulk p := by
  have := raw_le_bulk n p.blocks
  rw [bulk_func]; omega

theorem bdrew {B : Nat} {a w : World} (h : Below B a w) (n : Nat) : Below B a (w.drewN n) := ⟨h.os, h.tape, h.output, h.size, h.block⟩
theorem ret_bool {a b : Bool} (h : a = b) : Ending.returned (.bool a) = .returned (.bool b) := by rw [h]
theorem ret_int {k : IntKind} {a b : Int} (h : a = b) : Ending.returned (.int k a) = .returned (.int k b) := by rw [h]

/-- what stays readable behind a box -/
theorem boxed {w wr : World} {cs : List Value} {T : TypeId} (h : Below (w.heap.size + 1) (w.alloc (.cells cs.toArray T)) wr) :
    (∀ a : Addr, a.block < w.heap.size → wr.cell? a = w.cell? a) ∧ (∀ j v, cs[j]? = some v → wr.cell? ⟨w.heap.size, j, none⟩ = some v) ∧ w.heap.size < wr.heap.size ∧ Below w.heap.size w wr := by
  have h0 : Below w.heap.size w (w.alloc (.cells cs.toArray T)) := (Below.refl _ _).alloc (Nat.le_refl _) _
  have hb : Below w.heap.size w wr := h0.trans (h.mono (by omega))
  refine ⟨fun a ha => hb.cell ha, fun j v hv => ?_, ?_, hb⟩
  · rw [h.cell (p := ⟨w.heap.size, j, none⟩) (by show w.heap.size < _; omega)]
    have e := cell_of_row _ _ j _ _ _ (heap_alloc_new w (.cells cs.toArray T))
    rw [e]
    simpa using hv
  · have h1 : (w.alloc (.cells cs.toArray T)).heap.size = w.heap.size + 1 := by simp
    have := h.size
    omega
end Mu
end
section
/-
  Where one goes from a block: plain.
  Conditions: none.
-/
namespace Mu
open Go

/-- a block's number -/
abbrev Blk (f : Func) := { k : Nat // k < f.blocks.length }
def toBlk (f : Func) (k : Int) : Option (Blk f) := if h : 0 ≤ k ∧ k < f.blocks.length then some ⟨k.toNat, by omega⟩ else none
def filtB (f : Func) (l : List Int) : List (Blk f) := l.filterMap (toBlk f)
/-- the ways behind an instruction, whether they are there or not -/
def rawWays (x : Ins) : List Int := if x.op = 9 then [x.l1, if x.l2 = x.l1 then -1 else x.l2] else if x.op = 8 then [x.l1, -1] else []
def nextB (f : Func) (b : Block) : List (Blk f) :=
  match b.ins.getLast? with
  | none => []
  | some x => filtB f (rawWays x)
def nextS (f : Func) (b : Int) : List (Blk f) :=
  if 0 ≤ b then
    match f.blocks[b.toNat]? with
    | none => []
    | some bl => nextB f bl
  else []
theorem toBlk_yes {f : Func} {m : Nat} (h : m < f.blocks.length) : toBlk f (m : Int) = some ⟨m, h⟩ := by
  unfold toBlk
  rw [dif_pos ⟨by omega, by omega⟩]
  simp
theorem toBlk_no {f : Func} {k : Int} (h : ¬ (0 ≤ k ∧ k < f.blocks.length)) : toBlk f k = none := by
  unfold toBlk
  rw [dif_neg h]
theorem rawWays_len (x : Ins) : (rawWays x).length ≤ 2 := by
  unfold rawWays
  repeat' split
  all_goals simp
theorem filtB_len (f : Func) (l : List Int) : (filtB f l).length ≤ l.length := List.length_filterMap_le _ _
theorem nextB_len (f : Func) (b : Block) : (nextB f b).length ≤ 2 := by
  unfold nextB
  split
  · simp
  · exact Nat.le_trans (filtB_len _ _) (rawWays_len _)
theorem nextS_len (f : Func) (b : Int) : (nextS f b).length ≤ 2 := by
  unfold nextS
  repeat' split
  · simp
  · exact nextB_len _ _
  · simp
end Mu
end
section
/-
  DERIVED: THE SHELF's CONTRACTS AT THIS DUMP, IN PLAIN WORDS (tools/lay-plain.mjs out of 'TryShelf.lean', which tools/lay-shelf.mjs wrote): THE SAME DECLARATIONS UNDER THE SAME NAMES: 'import', 'namespace', 'open', 'def', 'theorem' AND NOTHING ELSE: no command of the shelf's: FOR A HAND-IN. Each laying: the table of numbers ('.._ren') and one theorem, a field a fact of the dump's own or the kernel's comparison; each contract: ONE APPLICATION.
-/
namespace Go.Proofs
open Go.Shelf
def Try.lays128_ren : Go.Shelf.Ren := ⟨fun | 128 => 101 | n => n, fun | 51 => 37 | 3 => 3 | 4 => 4 | 46 => 95 | 5 => 5 | 9 => 9 | n => n, fun | n => n⟩
theorem Try.lays128 : Go.Proofs.Lays.n128 Try.prog Try.lays128_ren := {
  mixed := by kernel_rfl
  f128 := Try.func101.trans (congrArg some (by kernel_rfl))
  t3 := Try.underlying3
  a3 := Try.isAgg3
  z3 := Try.sizeOf3
  v3 := Try.zeroValue3
  t4 := Try.underlying4
  a4 := Try.isAgg4
  z4 := Try.sizeOf4
  v4 := Try.zeroValue4
  t5 := Try.underlying5
  a5 := Try.isAgg5
  z5 := Try.sizeOf5
  v5 := Try.zeroValue5
  t9 := Try.underlying9
  a9 := Try.isAgg9
  z9 := Try.sizeOf9
  v9 := Try.zeroValue9
  t46 := Try.underlying95
  a46 := Try.isAgg95
  z46 := Try.sizeOf95
  v46 := Try.zeroValue95
  t51 := Try.underlying37
  a51 := Try.isAgg37
  z51 := Try.sizeOf37
  v51 := Try.zeroValue37 }
/-- bits.Len32: "Len32 returns the minimum number of bits required to represent x; the result is 0 for x == 0.": IT RETURNS 'Lib.bitLen x'; the world is as it was. ('h0', 'h1': x is a uint32.) (LAID: no walk: one application.) -/
theorem Try.bits_Len32 (x : Int) (w : World) (h0 : 0 ≤ x) (h1 : x ≤ 4294967295) :
    Calls Try.prog 101 #[.int .u32 x] w fun e w' => e = .returned (.int .i64 (Lib.bitLen x.toNat)) ∧ w' = w := Any.bits_Len32 Try.lays128 x w h0 h1
def Try.lays125_ren : Go.Shelf.Ren := ⟨fun | 125 => 66 | 128 => 101 | 129 => 102 | n => n, fun | 46 => 95 | 3 => 3 | 51 => 37 | 53 => 131 | 4 => 4 | 5 => 5 | 9 => 9 | n => n, fun | n => n⟩
theorem Try.lays125 : Go.Proofs.Lays.n125 Try.prog Try.lays125_ren := {
  mixed := by kernel_rfl
  f125 := Try.func66.trans (congrArg some (by kernel_rfl))
  f128 := Try.func101.trans (congrArg some (by kernel_rfl))
  f129 := Try.func102.trans (congrArg some (by kernel_rfl))
  t3 := Try.underlying3
  a3 := Try.isAgg3
  z3 := Try.sizeOf3
  v3 := Try.zeroValue3
  t4 := Try.underlying4
  a4 := Try.isAgg4
  z4 := Try.sizeOf4
  v4 := Try.zeroValue4
  t5 := Try.underlying5
  a5 := Try.isAgg5
  z5 := Try.sizeOf5
  v5 := Try.zeroValue5
  t9 := Try.underlying9
  a9 := Try.isAgg9
  z9 := Try.sizeOf9
  v9 := Try.zeroValue9
  t46 := Try.underlying95
  a46 := Try.isAgg95
  z46 := Try.sizeOf95
  v46 := Try.zeroValue95
  t51 := Try.underlying37
  a51 := Try.isAgg37
  z51 := Try.sizeOf37
  v51 := Try.zeroValue37
  t53 := Try.underlying131
  a53 := Try.isAgg131
  z53 := Try.sizeOf131
  v53 := Try.zeroValue131 }
/-- bits.Len: "Len returns the minimum number of bits required to represent x; the result is 0 for x == 0.": IT RETURNS 'Lib.bitLen x'; the world is as it was. (A uint has 64 bits in the model.) ITS CALLEE bits.Len64 IS MET BY ITS OWN CONTRACT OFF THE SHELF (lay that first). (LAID: no walk: one application.) -/
theorem Try.bits_Len (x : Int) (w : World) (h0 : 0 ≤ x) (h1 : x ≤ 18446744073709551615) :
    Calls Try.prog 66 #[.int .u64 x] w fun e w' => e = .returned (.int .i64 (Lib.bitLen x.toNat)) ∧ w' = w := Any.bits_Len Try.lays125 x w h0 h1
def Try.lays215_ren : Go.Shelf.Ren := ⟨fun | 215 => 119 | n => n, fun | 3 => 3 | 4 => 4 | n => n, fun | n => n⟩
theorem Try.lays215 : Go.Proofs.Lays.n215 Try.prog Try.lays215_ren := {
  mixed := by kernel_rfl
  f215 := Try.func119.trans (congrArg some (by kernel_rfl))
  t3 := Try.underlying3
  a3 := Try.isAgg3
  z3 := Try.sizeOf3
  v3 := Try.zeroValue3
  t4 := Try.underlying4
  a4 := Try.isAgg4
  z4 := Try.sizeOf4
  v4 := Try.zeroValue4 }
open Go.RowKit in
/-- cmp.isNaN at int: 'x != x': false. (LAID: no walk: one application.) -/
theorem Try.cmp_isNaN_int (x : Int) (w : World) :
    Calls Try.prog 119 #[.int .i64 x] w fun e w' => e = .returned (.bool false) ∧ w' = w := Any.cmp_isNaN_int Try.lays215 x w
def Try.lays129_ren : Go.Shelf.Ren := ⟨fun | 129 => 102 | n => n, fun | 53 => 131 | 3 => 3 | 4 => 4 | 46 => 95 | 5 => 5 | 9 => 9 | n => n, fun | n => n⟩
theorem Try.lays129 : Go.Proofs.Lays.n129 Try.prog Try.lays129_ren := {
  mixed := by kernel_rfl
  f129 := Try.func102.trans (congrArg some (by kernel_rfl))
  t3 := Try.underlying3
  a3 := Try.isAgg3
  z3 := Try.sizeOf3
  v3 := Try.zeroValue3
  t4 := Try.underlying4
  a4 := Try.isAgg4
  z4 := Try.sizeOf4
  v4 := Try.zeroValue4
  t5 := Try.underlying5
  a5 := Try.isAgg5
  z5 := Try.sizeOf5
  v5 := Try.zeroValue5
  t9 := Try.underlying9
  a9 := Try.isAgg9
  z9 := Try.sizeOf9
  v9 := Try.zeroValue9
  t46 := Try.underlying95
  a46 := Try.isAgg95
  z46 := Try.sizeOf95
  v46 := Try.zeroValue95
  t53 := Try.underlying131
  a53 := Try.isAgg131
  z53 := Try.sizeOf131
  v53 := Try.zeroValue131 }
/-- bits.Len64: "Len64 returns the minimum number of bits required to represent x; the result is 0 for x == 0.": IT RETURNS 'Lib.bitLen x'; the world is as it was. ('h0', 'h1': x is a uint64.) (LAID: no walk: one application.) -/
theorem Try.bits_Len64 (x : Int) (w : World) (h0 : 0 ≤ x) (h1 : x ≤ 18446744073709551615) :
    Calls Try.prog 102 #[.int .u64 x] w fun e w' => e = .returned (.int .i64 (Lib.bitLen x.toNat)) ∧ w' = w := Any.bits_Len64 Try.lays129 x w h0 h1
def Try.lays189_ren : Go.Shelf.Ren := ⟨fun | 189 => 40 | 125 => 66 | 257 => 65 | 128 => 101 | 129 => 102 | 294 => 92 | 295 => 93 | 296 => 94 | 297 => 95 | 298 => 96 | 299 => 97 | 216 => 98 | 300 => 99 | 301 => 100 | 328 => 114 | 329 => 115 | 330 => 116 | 331 => 117 | 332 => 118 | 215 => 119 | 343 => 121 | n => n, fun | 28 => 22 | 3 => 3 | 46 => 95 | 0 => 0 | 51 => 37 | 53 => 131 | 4 => 4 | 183 => 123 | 182 => 122 | 131 => 88 | 5 => 5 | 9 => 9 | 218 => 138 | 222 => 142 | 228 => 145 | 229 => 146 | n => n, fun | n => n⟩
theorem Try.lays189 : Go.Proofs.Lays.n189 Try.prog Try.lays189_ren := {
  mixed := by kernel_rfl
  f125 := Try.func66.trans (congrArg some (by kernel_rfl))
  f128 := Try.func101.trans (congrArg some (by kernel_rfl))
  f129 := Try.func102.trans (congrArg some (by kernel_rfl))
  f189 := Try.func40.trans (congrArg some (by kernel_rfl))
  f215 := Try.func119.trans (congrArg some (by kernel_rfl))
  f216 := Try.func98.trans (congrArg some (by kernel_rfl))
  f257 := Try.func65.trans (congrArg some (by kernel_rfl))
  f294 := Try.func92.trans (congrArg some (by kernel_rfl))
  f295 := Try.func93.trans (congrArg some (by kernel_rfl))
  f296 := Try.func94.trans (congrArg some (by kernel_rfl))
  f297 := Try.func95.trans (congrArg some (by kernel_rfl))
  f298 := Try.func96.trans (congrArg some (by kernel_rfl))
  f299 := Try.func97.trans (congrArg some (by kernel_rfl))
  f300 := Try.func99.trans (congrArg some (by kernel_rfl))
  f301 := Try.func100.trans (congrArg some (by kernel_rfl))
  f328 := Try.func114.trans (congrArg some (by kernel_rfl))
  f329 := Try.func115.trans (congrArg some (by kernel_rfl))
  f330 := Try.func116.trans (congrArg some (by kernel_rfl))
  f331 := Try.func117.trans (congrArg some (by kernel_rfl))
  f332 := Try.func118.trans (congrArg some (by kernel_rfl))
  f343 := Try.func121.trans (congrArg some (by kernel_rfl))
  t0 := Try.underlying0
  a0 := Try.isAgg0
  z0 := Try.sizeOf0
  v0 := Try.zeroValue0
  t3 := Try.underlying3
  a3 := Try.isAgg3
  z3 := Try.sizeOf3
  v3 := Try.zeroValue3
  t4 := Try.underlying4
  a4 := Try.isAgg4
  z4 := Try.sizeOf4
  v4 := Try.zeroValue4
  t5 := Try.underlying5
  a5 := Try.isAgg5
  z5 := Try.sizeOf5
  v5 := Try.zeroValue5
  t9 := Try.underlying9
  a9 := Try.isAgg9
  z9 := Try.sizeOf9
  v9 := Try.zeroValue9
  t28 := Try.underlying22
  a28 := Try.isAgg22
  z28 := Try.sizeOf22
  v28 := Try.zeroValue22
  t46 := Try.underlying95
  a46 := Try.isAgg95
  z46 := Try.sizeOf95
  v46 := Try.zeroValue95
  t51 := Try.underlying37
  a51 := Try.isAgg37
  z51 := Try.sizeOf37
  v51 := Try.zeroValue37
  t53 := Try.underlying131
  a53 := Try.isAgg131
  z53 := Try.sizeOf131
  v53 := Try.zeroValue131
  t131 := Try.underlying88
  a131 := Try.isAgg88
  z131 := Try.sizeOf88
  v131 := Try.zeroValue88
  t182 := Try.underlying122
  a182 := Try.isAgg122
  z182 := Try.sizeOf122
  v182 := Try.zeroValue122
  t183 := Try.underlying123
  a183 := Try.isAgg123
  z183 := Try.sizeOf123
  v183 := Try.zeroValue123
  t218 := Try.underlying138
  a218 := Try.isAgg138
  z218 := Try.sizeOf138
  v218 := Try.zeroValue138
  t222 := Try.underlying142
  a222 := Try.isAgg142
  z222 := Try.sizeOf142
  v222 := Try.zeroValue142
  t228 := Try.underlying145
  a228 := Try.isAgg145
  z228 := Try.sizeOf145
  v228 := Try.zeroValue145
  t229 := Try.underlying146
  a229 := Try.isAgg146
  z229 := Try.sizeOf146
  v229 := Try.zeroValue146 }
open Go.Sort Go.RowKit in
theorem Try.slices_Sort_int (blk off cap : Nat) (zs : List Int) (w : World) (hH : Holds (Value.int .i64) w blk off zs.toArray) (hblk : blk < w.heap.size) (hsz : zs.length < 4611686018427387904) :
    Calls Try.prog 40 #[.slice (some ⟨blk, off, none⟩) zs.length cap] w fun e w' =>
      e = .returned (.tuple #[]) ∧ ∃ n os, w' = grow (putRow (Value.int .i64) (Sort.ahead w n) blk off (zs.mergeSort fun x y => decide (x ≤ y)).toArray) os := Any.slices_Sort_int Try.lays189 blk off cap zs w hH hblk hsz
def Try.lays108_ren : Go.Shelf.Ren := ⟨fun | 108 => 71 | n => n, fun | 28 => 22 | 3 => 3 | 0 => 0 | 4 => 4 | n => n, fun | n => n⟩
theorem Try.lays108 : Go.Proofs.Lays.n108 Try.prog Try.lays108_ren := {
  mixed := by kernel_rfl
  f108 := Try.func71.trans (congrArg some (by kernel_rfl))
  t0 := Try.underlying0
  a0 := Try.isAgg0
  z0 := Try.sizeOf0
  v0 := Try.zeroValue0
  t3 := Try.underlying3
  a3 := Try.isAgg3
  z3 := Try.sizeOf3
  v3 := Try.zeroValue3
  t4 := Try.underlying4
  a4 := Try.isAgg4
  z4 := Try.sizeOf4
  v4 := Try.zeroValue4
  t28 := Try.underlying22
  a28 := Try.isAgg22
  z28 := Try.sizeOf22
  v28 := Try.zeroValue22 }
open Go.Lib in
/-- slices.Index at []int: "Index returns the index of the first occurrence of v in s, or -1 if not present.": IT RETURNS 'Lib.idxOf (the elements) v'; the world is as it was. 'zs': what the cells behind the slice's address hold (its spare capacity too, if you have it); 'zs.take n': its elements. (LAID: no walk: one application.) -/
theorem Try.slices_Index_int (b off n c : Nat) (zs : List Int) (x : Int) (w : World) (hz : n ≤ zs.length) (hbig : n ≤ 9223372036854775807) (hc : ∀ j, j < zs.length → w.cell? ⟨b, off + j, none⟩ = some (.int .i64 (zs.getD j 0))) :
    Calls Try.prog 71 #[.slice (some ⟨b, off, none⟩) n c, .int .i64 x] w fun e w' => e = .returned (.int .i64 (Lib.idxOf (zs.take n) x)) ∧ w' = w := Any.slices_Index_int Try.lays108 b off n c zs x w hz hbig hc
open Go.Lib in
/-- The same at a slice of length 0, a nil one too: no cell is known, none is asked for. (LAID: no walk: one application.) -/
theorem Try.slices_Index_int_empty (a : Option Addr) (c : Nat) (x : Int) (w : World) :
    Calls Try.prog 71 #[.slice a 0 c, .int .i64 x] w fun e w' => e = .returned (.int .i64 (Lib.idxOf [] x)) ∧ w' = w := Any.slices_Index_int_empty Try.lays108 a c x w
def Try.lays107_ren : Go.Shelf.Ren := ⟨fun | 107 => 46 | 108 => 71 | n => n, fun | 28 => 22 | 3 => 3 | 4 => 4 | 0 => 0 | n => n, fun | n => n⟩
theorem Try.lays107 : Go.Proofs.Lays.n107 Try.prog Try.lays107_ren := {
  mixed := by kernel_rfl
  f107 := Try.func46.trans (congrArg some (by kernel_rfl))
  f108 := Try.func71.trans (congrArg some (by kernel_rfl))
  t0 := Try.underlying0
  a0 := Try.isAgg0
  z0 := Try.sizeOf0
  v0 := Try.zeroValue0
  t3 := Try.underlying3
  a3 := Try.isAgg3
  z3 := Try.sizeOf3
  v3 := Try.zeroValue3
  t4 := Try.underlying4
  a4 := Try.isAgg4
  z4 := Try.sizeOf4
  v4 := Try.zeroValue4
  t28 := Try.underlying22
  a28 := Try.isAgg22
  z28 := Try.sizeOf22
  v28 := Try.zeroValue22 }
open Go.Lib in
/-- slices.Contains at []int: "Contains reports whether v is present in s.": IT RETURNS 'elements.contains v'; the world is as it was. ITS CALLEE slices.Index IS MET BY ITS OWN CONTRACT OFF THE SHELF (lay that first): no loop is walked here. (LAID: no walk: one application.) -/
theorem Try.slices_Contains_int (b off n c : Nat) (zs : List Int) (x : Int) (w : World) (hz : n ≤ zs.length) (hbig : n ≤ 9223372036854775807) (hc : ∀ j, j < zs.length → w.cell? ⟨b, off + j, none⟩ = some (.int .i64 (zs.getD j 0))) :
    Calls Try.prog 46 #[.slice (some ⟨b, off, none⟩) n c, .int .i64 x] w fun e w' => e = .returned (.bool ((zs.take n).contains x)) ∧ w' = w := Any.slices_Contains_int Try.lays107 b off n c zs x w hz hbig hc
open Go.Lib in
/-- The same at a slice of length 0, a nil one too. (LAID: no walk: one application.) -/
theorem Try.slices_Contains_int_empty (a : Option Addr) (c : Nat) (x : Int) (w : World) :
    Calls Try.prog 46 #[.slice a 0 c, .int .i64 x] w fun e w' => e = .returned (.bool false) ∧ w' = w := Any.slices_Contains_int_empty Try.lays107 a c x w
def Try.laysNm215_ren : Go.Shelf.Ren := ⟨fun | 15 => 67 | n => n, fun | 22 => 22 | 3 => 3 | 4 => 4 | n => n, fun | n => n⟩
theorem Try.laysNm215 : Go.Proofs.Lays2.n15 Try.prog Try.laysNm215_ren := {
  mixed := by kernel_rfl
  f15 := Try.func67.trans (congrArg some (by kernel_rfl))
  t3 := Try.underlying3
  a3 := Try.isAgg3
  z3 := Try.sizeOf3
  v3 := Try.zeroValue3
  t4 := Try.underlying4
  a4 := Try.isAgg4
  z4 := Try.sizeOf4
  v4 := Try.zeroValue4
  t22 := Try.underlying22
  a22 := Try.isAgg22
  z22 := Try.sizeOf22
  v22 := Try.zeroValue22
  i3 := by kernel_rfl }
open Go.RowKit Go.Lib in
/-- slices.Clone at []int: "Clone returns a copy of the slice. The elements are copied using assignment, so this is a shallow clone. The result may have additional unused capacity. The result preserves the nilness of s.": OF A SLICE THAT IS NOT nil IT RETURNS A SLICE THAT IS NOT nil, OF THE SAME ELEMENTS, IN MEMORY OF THE CALL's OWN: in the how-to's words (6f): 'w'.ownsRow B e 1 v' n cells': v' begins at the head of a row among the blocks from B on (B: the heap's size at the call), not frozen, whose first cells are the elements · 'Below B w w'': below B all is as it was. The capacity is whatever the run-time gives. 'zs': what the cells behind the slice's address hold; 'zs.take n': its elements. (LAID: no walk: one application.) -/
theorem Try.slices_Clone_int (b off n c : Nat) (zs : List Int) (w : World) (hz : n ≤ zs.length) (hbig : n * 8 ≤ 140737488355328) (hc : ∀ j, j < zs.length → w.cell? ⟨b, off + j, none⟩ = some (.int .i64 (zs.getD j 0))) :
    Calls Try.prog 67 #[.slice (some ⟨b, off, none⟩) n c] w fun e w' => ∃ v', e = .returned v' ∧ w'.ownsRow w.heap.size 3 1 v' n ((zs.take n).map (Value.int .i64)) ∧ v' ≠ .slice none 0 0 ∧ Below w.heap.size w w' := Any.slices_Clone_int Try.laysNm215 b off n c zs w hz hbig hc
open Go.RowKit Go.Lib in
/-- The same at nil: nil comes back; the world is as it was. (LAID: no walk: one application.) -/
theorem Try.slices_Clone_int_nil (n c : Nat) (w : World) :
    Calls Try.prog 67 #[.slice none n c] w fun e w' => e = .returned (.slice none 0 0) ∧ w' = w := Any.slices_Clone_int_nil Try.laysNm215 n c w
open Go.RowKit Go.Lib in
/-- The same at a slice of length 0 that is not nil, WHATEVER ITS ADDRESS (no cell is asked for): a slice that is not nil and owns nothing comes back. (LAID: no walk: one application.) -/
theorem Try.slices_Clone_int_zero (a : Addr) (c : Nat) (w : World) :
    Calls Try.prog 67 #[.slice (some a) 0 c] w fun e w' => ∃ v', e = .returned v' ∧ w'.ownsRow w.heap.size 3 1 v' 0 [] ∧ v' ≠ .slice none 0 0 ∧ Below w.heap.size w w' := Any.slices_Clone_int_zero Try.laysNm215 a c w
def Try.laysNm220_ren : Go.Shelf.Ren := ⟨fun | 20 => 41 | n => n, fun | 22 => 22 | 3 => 3 | 4 => 4 | 0 => 0 | n => n, fun | n => n⟩
theorem Try.laysNm220 : Go.Proofs.Lays2.n20 Try.prog Try.laysNm220_ren := {
  mixed := by kernel_rfl
  f20 := Try.func41.trans (congrArg some (by kernel_rfl))
  t0 := Try.underlying0
  a0 := Try.isAgg0
  z0 := Try.sizeOf0
  v0 := Try.zeroValue0
  t3 := Try.underlying3
  a3 := Try.isAgg3
  z3 := Try.sizeOf3
  v3 := Try.zeroValue3
  t4 := Try.underlying4
  a4 := Try.isAgg4
  z4 := Try.sizeOf4
  v4 := Try.zeroValue4
  t22 := Try.underlying22
  a22 := Try.isAgg22
  z22 := Try.sizeOf22
  v22 := Try.zeroValue22
  i3 := by kernel_rfl }
open Go.RowKit Go.Lib Go.Sort in
/-- slices.Compact at []int, over an array: the library's two loops are walked. (LAID: no walk: one application.) -/
theorem Try.slices_Compact_int_arr (blk off cap : Nat) (d : Array Int) (w : World) (hH : Holds encI w blk off d) (hsz : d.size ≤ 9223372036854775807) (hcap : d.size ≤ cap) :
    Calls Try.prog 41 #[.slice (some ⟨blk, off, none⟩) d.size cap] w fun e w' => e = .returned (.slice (some ⟨blk, off, none⟩) (compactUpTo d d.size).length cap) ∧ ∃ q, w' = putRow encI (Sort.ahead w q) blk off (compactUpTo d d.size ++ List.replicate (d.size - (compactUpTo d d.size).length) 0).toArray := Any.slices_Compact_int_arr Try.laysNm220 blk off cap d w hH hsz hcap
open Go.RowKit Go.Lib Go.Sort in
/-- slices.Compact at []int: "Compact replaces consecutive runs of equal elements with a single copy. This is like the uniq command found on Unix. Compact modifies the contents of the slice s and returns the modified slice, which may have a smaller length. Compact zeroes the elements between the new length and the original length. The result preserves the nilness of s.": IT RETURNS THE SLICE CUT TO 'Lib.compact zs'; ITS CELLS HOLD 'Lib.compact zs', THEN ZERO VALUES up to the old length; all else is as it was, but for the count of draws. IN THE WORDS OF slices.Sort's CONTRACT ('Holds', 'putRow'): so the everyday 'slices.Sort(xs); xs = slices.Compact(xs)' goes from the one contract to the other. It asks 'zs.length ≤ cap' (every slice's: the reslicing 's[:k]' looks at it). Length 0, nil: '.._empty'. (LAID: no walk: one application.) -/
theorem Try.slices_Compact_int (blk off cap : Nat) (zs : List Int) (w : World) (hH : Holds (Value.int .i64) w blk off zs.toArray) (hsz : zs.length ≤ 9223372036854775807) (hcap : zs.length ≤ cap) :
    Calls Try.prog 41 #[.slice (some ⟨blk, off, none⟩) zs.length cap] w fun e w' => e = .returned (.slice (some ⟨blk, off, none⟩) (Lib.compact zs).length cap) ∧ ∃ q, w' = putRow (Value.int .i64) (Sort.ahead w q) blk off (Lib.compact zs ++ List.replicate (zs.length - (Lib.compact zs).length) 0).toArray := Any.slices_Compact_int Try.laysNm220 blk off cap zs w hH hsz hcap
open Go.RowKit Go.Lib Go.Sort in
/-- The same at a slice of length 0, a nil one too: it comes back as it is. (LAID: no walk: one application.) -/
theorem Try.slices_Compact_int_empty (a : Option Addr) (cap : Nat) (w : World) :
    Calls Try.prog 41 #[.slice a 0 cap] w fun e w' => e = .returned (.slice a 0 cap) ∧ w' = w := Any.slices_Compact_int_empty Try.laysNm220 a cap w
def Try.laysNm237_ren : Go.Shelf.Ren := ⟨fun | 37 => 119 | n => n, fun | 3 => 3 | 4 => 4 | n => n, fun | n => n⟩
theorem Try.laysNm237 : Go.Proofs.Lays2.n37 Try.prog Try.laysNm237_ren := {
  mixed := by kernel_rfl
  f37 := Try.func119.trans (congrArg some (by kernel_rfl))
  t3 := Try.underlying3
  a3 := Try.isAgg3
  z3 := Try.sizeOf3
  v3 := Try.zeroValue3
  t4 := Try.underlying4
  a4 := Try.isAgg4
  z4 := Try.sizeOf4
  v4 := Try.zeroValue4 }
open Go.RowKit Go.Lib in
/-- cmp.isNaN[int]: 'x != x': false. (LAID: no walk: one application.) -/
theorem Try.cmp_isNaN_int2 (x : Int) (w : World) :
    Calls Try.prog 119 #[.int .i64 x] w fun e w' => e = .returned (.bool false) ∧ w' = w := Any.cmp_isNaN_int2 Try.laysNm237 x w
def Try.laysNm231_ren : Go.Shelf.Ren := ⟨fun | 31 => 98 | 37 => 119 | n => n, fun | 3 => 3 | 4 => 4 | n => n, fun | n => n⟩
theorem Try.laysNm231 : Go.Proofs.Lays2.n31 Try.prog Try.laysNm231_ren := {
  mixed := by kernel_rfl
  f31 := Try.func98.trans (congrArg some (by kernel_rfl))
  f37 := Try.func119.trans (congrArg some (by kernel_rfl))
  t3 := Try.underlying3
  a3 := Try.isAgg3
  z3 := Try.sizeOf3
  v3 := Try.zeroValue3
  t4 := Try.underlying4
  a4 := Try.isAgg4
  z4 := Try.sizeOf4
  v4 := Try.zeroValue4 }
open Go.RowKit Go.Lib in
/-- cmp.Less[int]: "Less reports whether x is less than y.": 'x < y'; the world is as it was. (LAID: no walk: one application.) -/
theorem Try.cmp_Less_int2 (x y : Int) (w : World) :
    Calls Try.prog 98 #[.int .i64 x, .int .i64 y] w fun e w' => e = .returned (.bool (decide (x < y))) ∧ w' = w := Any.cmp_Less_int2 Try.laysNm231 x y w
open Go.RowKit Go.Lib Go.Sort in
/-- slices.Compact at []int, of an argument: the slice cut to 'Lib.compact (elements)'; the n cells hold that, then zeros. (LAID: no walk: one application.) -/
theorem Try.slices_Compact_int_cells (b off n c : Nat) (zs : List Int) (w : World) (hz : n ≤ zs.length) (hbig : n ≤ 9223372036854775807) (hcap : n ≤ c) (hc : ∀ j, j < zs.length → w.cell? ⟨b, off + j, none⟩ = some (.int .i64 (zs.getD j 0))) (hf : ∀ j, j < n → w.frozen? ⟨b, off + j, none⟩ = false) :
    Calls Try.prog 41 #[.slice (some ⟨b, off, none⟩) n c] w fun e w' => e = .returned (.slice (some ⟨b, off, none⟩) (Lib.compact (zs.take n)).length c) ∧ ∃ q, w' = (w.drewN q).setCells b off ((Lib.compact (zs.take n) ++ List.replicate (n - (Lib.compact (zs.take n)).length) 0).map (Value.int .i64)) := Any.slices_Compact_int_cells Try.laysNm220 b off n c zs w hz hbig hcap hc hf
open Go.RowKit Go.Sort in
/-- .. and plain. (LAID: no walk: one application.) -/
theorem Try.slices_Sort_int_none (p : Option Addr) (cap : Nat) (w : World) :
    Calls Try.prog 40 #[.slice p 0 cap] w fun e w' => e = .returned (.tuple #[]) ∧ w' = w := Any.slices_Sort_int_none Try.lays189 p cap w
end Go.Proofs
end
section
/-
  The library's functions on rows of integers of the call's own: sort, compact; contains, clone on rows that are read.
  Conditions: the rows' lengths fit.
-/
namespace Mu
open Go Go.RowKit Go.Proofs Go.Sort

theorem holds_ints {w : World} {g : Nat} {e : TypeId} {cur : Array Value} {zs : List Int} (hb : w.heap[g]? = some (.cells cur e (0, 0))) (h4 : cur.toList.take (zs.length * 1) = zs.map (Value.int .i64)) :
    Holds (Value.int .i64) w g 0 zs.toArray := by
  intro j hj
  have hj' : j < zs.length := by simpa using hj
  have h5 : cur[j]? = some (.int .i64 zs[j]) := by
    have : (cur.toList.take (zs.length * 1))[j]? = some (.int .i64 zs[j]) := by rw [h4]; simp [hj']
    rw [List.getElem?_take_of_lt (by omega)] at this
    simpa using this
  refine ⟨?_, by simp [World.frozen?, hb]⟩
  have e1 : zs.toArray[j]! = zs[j] := by simp [getElem!_pos, hj']
  rw [e1, Nat.zero_add]
  simp [World.cell?, hb, h5]

/-- a row of ints of the call's own -/
def OwnI (w : World) (base : Nat) (v : Value) (l : List Int) : Prop := w.ownsRow base 3 1 v l.length (l.map (Value.int .i64))

theorem OwnI.of {w : World} {base n : Nat} {v : Value} {l : List Int} {cs : List Value} (h : w.ownsRow base 3 1 v n cs) (hn : n = l.length) (hc : cs = l.map (Value.int .i64)) : OwnI w base v l := by
  subst hn hc
  exact h
theorem OwnI.alloc {w : World} {base : Nat} {v : Value} {l : List Int} (h : OwnI w base v l) (o : Obj) : OwnI (w.alloc o) base v l := World.ownsRow.alloc h o
theorem OwnI.nil (w : World) (base : Nat) : OwnI w base (.slice none 0 0) [] := World.ownsRow_nil _ _ _ _
theorem OwnI.base {w : World} {base base' : Nat} {v : Value} {l : List Int} (h : OwnI w base v l) (hb : base' ≤ base) : OwnI w base' v l := by
  obtain ⟨h1, h2⟩ := h
  refine ⟨h1, ?_⟩
  rcases h2 with h2 | ⟨g, cap, cur, hv, hg, r⟩
  · exact .inl h2
  · exact .inr ⟨g, cap, cur, hv, by omega, r⟩
theorem OwnI.kept {w w' : World} {base : Nat} {v : Value} {l : List Int} (h : OwnI w base v l) (hb : Below w.heap.size w w') : OwnI w' base v l := by
  obtain ⟨h1, h2⟩ := h
  refine ⟨h1, ?_⟩
  rcases h2 with h2 | ⟨g, cap, cur, hv, hg, hh, r⟩
  · exact .inl h2
  · exact .inr ⟨g, cap, cur, hv, hg, (hb.block g (Array.getElem?_eq_some_iff.1 hh).1).trans hh, r⟩
theorem OwnI.lt {w : World} {base : Nat} {v : Value} {l : List Int} (h : OwnI w base v l) : ∀ k, v.ownBlock = some k → base ≤ k ∧ k < w.heap.size := World.ownsRow.lt h
theorem OwnI.grown {w w' w0 : World} {base : Nat} {v : Value} {l : List Int} (h : OwnI w base v l) (hb : Below base w0 w) (hs : base ≤ w.heap.size) (hg : w.grownBy w' v.ownBlock) : Below base w0 w' :=
  hb.grown hg hs (fun q hq => (h.lt q hq).1)
theorem OwnI.read {w : World} {base : Nat} {v : Value} {l : List Int} (h : OwnI w base v l) (hw : ∀ x ∈ l, wfI .i64 x) : (Ty.int .i64).slice.R w w.heap.size [v] l := own_ints h hw
theorem int_info : (Try.prog.info? 3).map (fun i => (i.zero, i.size, i.bytes)) = some (some (.int .i64 0), 1, 8) := by kernel_rfl

theorem clone_any {v : Value} {xs : List Int} {w : World} (h : (Ty.int .i64).slice.R w w.heap.size [v] xs) (hn : xs.length ≤ 2147483648) :
    Calls Try.prog 67 #[v] w fun e w' => ∃ v', e = .returned v' ∧ OwnI w' w.heap.size v' xs ∧ Below w.heap.size w w' := by
  obtain ⟨A, c, rfl⟩ := slice_form h
  rcases A with _ | ad
  · obtain ⟨rfl, _, rfl⟩ := slice_nil_at h
    refine (Try.slices_Clone_int_nil _ _ _).mono fun e w' ⟨he, hw⟩ => ?_
    subst hw
    exact ⟨_, he, OwnI.nil _ _, Below.refl _ _⟩
  · by_cases hz : xs = []
    · subst hz
      refine (Try.slices_Clone_int_zero ad c w).mono fun e w' ⟨v', he, ho, _, hb⟩ => ?_
      exact ⟨v', he, ho, hb⟩
    · have hpos : 0 < xs.length := List.length_pos_iff.2 hz
      obtain ⟨b, o, e, _⟩ := int_at h (List.getElem?_eq_getElem hpos)
      cases e
      refine (Try.slices_Clone_int b o xs.length c xs w (Nat.le_refl _) (by omega) (fun j hj => ?_)).mono fun e w' ⟨v', he, ho, _, hb⟩ => ?_
      · obtain ⟨b', o', e', _, hc, _⟩ := int_at h (List.getElem?_eq_getElem hj)
        cases e'
        rw [hc]
        simp [List.getD, hj]
      · rw [List.take_length] at ho
        exact ⟨v', he, ho, hb⟩

theorem sort_own {base : Nat} {v : Value} {zs : List Int} {w : World} (hown : OwnI w base v zs) (hn : zs.length ≤ 2147483648) :
    Calls Try.prog 40 #[v] w fun e w' => e = .returned (.tuple #[]) ∧ OwnI w' base v (zs.mergeSort fun x y => decide (x ≤ y)) ∧ w.grownBy w' v.ownBlock := by
  rcases hown.2 with ⟨rfl, h0⟩ | ⟨g, cap, cur, rfl, hbase, hb, h1, h2, h3, h4⟩
  · have : zs = [] := List.eq_nil_of_length_eq_zero h0
    subst this
    refine (Try.slices_Sort_int_none _ _ _).mono fun e w' ⟨he, hw⟩ => ?_
    subst hw
    exact ⟨he, by simpa using hown, World.grownBy.refl _ _⟩
  · have hgl : g < w.heap.size := (Array.getElem?_eq_some_iff.1 hb).1
    refine (Try.slices_Sort_int g 0 cap zs w (holds_ints hb h4) hgl (by omega)).mono fun e w' ⟨he, nn, os, hw⟩ => ?_
    subst hw
    exact ⟨he, .of (ownsRow_sortedI (by simp) hbase hb h1 h2 h3) (by simp) rfl, grownBy_sortedI _⟩

theorem compact_own {base : Nat} {v : Value} {zs : List Int} {w : World} (hown : OwnI w base v zs) (hn : zs.length ≤ 2147483648) :
    Calls Try.prog 41 #[v] w fun e w' => ∃ v', e = .returned v' ∧ OwnI w' base v' (Lib.compact zs) ∧ w.grownBy w' v.ownBlock ∧ v'.ownBlock = v.ownBlock := by
  rcases hown.2 with ⟨rfl, h0⟩ | ⟨g, cap, cur, rfl, hbase, hb, h1, h2, h3, h4⟩
  · have : zs = [] := List.eq_nil_of_length_eq_zero h0
    subst this
    refine (Try.slices_Compact_int_empty _ _ _).mono fun e w' ⟨he, hw⟩ => ?_
    subst hw
    exact ⟨_, he, by simpa [Lib.compact, Lib.compactUpTo] using hown, World.grownBy.refl _ _, rfl⟩
  · have hlen : (Lib.compact zs).length ≤ zs.length := by
      unfold Lib.compact Lib.compactUpTo
      rw [List.length_map]
      exact Nat.le_trans (List.length_filter_le _ _) (by simp)
    refine (Try.slices_Compact_int g 0 cap zs w (holds_ints hb h4) (by omega) h1).mono fun e w' ⟨he, nn, hw⟩ => ?_
    subst hw
    refine ⟨_, he, ?_, ?_, rfl⟩
    · have hr := ownsRow_sortedI (os := #[]) (n := nn) (ts := Lib.compact zs ++ List.replicate (zs.length - (Lib.compact zs).length) 0) (ss := zs) (by simp; omega) hbase hb h1 h2 h3
      rw [grow_empty] at hr
      rcases hr.2 with ⟨h0, _⟩ | ⟨g', cap', cur', hv, hg', hh', k1, k2, k3, k4⟩
      · cases h0
      · cases hv
        refine ⟨by simp, .inr ⟨g, cap, cur', rfl, hg', hh', by omega, k2, k3, ?_⟩⟩
        have e2 := congrArg (List.take (Lib.compact zs).length) k4
        rw [List.take_take, Nat.mul_one, Nat.min_eq_left hlen, ← List.map_take, List.take_left' rfl] at e2
        rw [Nat.mul_one]
        exact e2
    · have hg := grownBy_sortedI (w := w) (g := g) (n := nn) (os := #[]) (Lib.compact zs ++ List.replicate (zs.length - (Lib.compact zs).length) 0).toArray
      rw [grow_empty] at hg
      exact hg
end Mu
end
section
/-
  Rows of rows of numbers, of the call's own.
  Conditions: none.
-/
namespace Mu
open Go Go.RowKit Go.Proofs

/-- a row of rows of ints, the call's own from 'base' on; the inner rows lie beside the outer one -/
def OwnS (w : World) (base : Nat) (v : Value) (ls : List (List Int)) : Prop :=
  ∃ cells, w.ownsRow base 22 1 v ls.length cells ∧ ∀ (i : Nat) (l : List Int), ls[i]? = some l → ∃ u, cells[i]? = some u ∧ tInt.slice.RS w (fun b => base ≤ b ∧ b < w.heap.size ∧ v.ownBlock ≠ some b) [u] l

theorem OwnS.nil (w : World) (base : Nat) : OwnS w base (.slice none 0 0) [] := ⟨[], World.ownsRow_nil _ _ _ _, by simp⟩

theorem ownsRow_keep {w w' : World} {base n size : Nat} {e : TypeId} {v : Value} {xs : List Value} (h : w.ownsRow base e size v n xs) (hk : ∀ g, v.ownBlock = some g → w'.heap[g]? = w.heap[g]?) : w'.ownsRow base e size v n xs := by
  obtain ⟨h1, h2⟩ := h
  refine ⟨h1, ?_⟩
  rcases h2 with h2 | ⟨g, cap, cur, rfl, hg, hh, r⟩
  · exact .inl h2
  · exact .inr ⟨g, cap, cur, rfl, hg, (hk g rfl).trans hh, r⟩

theorem OwnS.keep {w w' : World} {base : Nat} {v : Value} {ls : List (List Int)} (h : OwnS w base v ls) (hk : ∀ k, base ≤ k → k < w.heap.size → w'.heap[k]? = w.heap[k]?) (hs : w.heap.size ≤ w'.heap.size) : OwnS w' base v ls := by
  obtain ⟨cells, ho, hi⟩ := h
  refine ⟨cells, ownsRow_keep ho (fun g hg => hk g (ho.lt g hg).1 (ho.lt g hg).2), fun i l hl => ?_⟩
  obtain ⟨u, hu, hR⟩ := hi i l hl
  exact ⟨u, hu, Ty.keepS _ hR (fun k hk' => hk k hk'.1 hk'.2.1) (fun k hk' => ⟨hk'.1, by omega, hk'.2.2⟩)⟩
theorem OwnS.kept {w w' : World} {base : Nat} {v : Value} {ls : List (List Int)} (h : OwnS w base v ls) (hb : Below w.heap.size w w') : OwnS w' base v ls := h.keep (fun k _ hk => hb.block k hk) hb.size
theorem OwnS.setCell {w : World} {base : Nat} {v : Value} {ls : List (List Int)} (h : OwnS w base v ls) {a : Addr} (ha : a.block < base) (u : Value) : OwnS (w.setCell a u) base v ls :=
  h.keep (fun k hk _ => Below.heap_setCell _ _ _ _ (by omega)) (by simp [World.setCell])
theorem OwnS.drewN {w : World} {base : Nat} {v : Value} {ls : List (List Int)} (h : OwnS w base v ls) (n : Nat) : OwnS (w.drewN n) base v ls := h.keep (fun _ _ _ => rfl) (Nat.le_refl _)
theorem OwnS.lt {w : World} {base : Nat} {v : Value} {ls : List (List Int)} (h : OwnS w base v ls) : ∀ k, v.ownBlock = some k → base ≤ k ∧ k < w.heap.size := by
  obtain ⟨cells, ho, _⟩ := h
  exact ho.lt

/-- one row more: it lies in the own memory of a callee; then the append -/
theorem OwnS.snoc {w w1 w2 : World} {base g cap : Nat} {v u : Value} {ls : List (List Int)} {l : List Int} {cells : List Value} {n : Nat} (ho : w.ownsRow base 22 1 v ls.length cells)
    (hi : ∀ (i : Nat) (l : List Int), ls[i]? = some l → ∃ u, cells[i]? = some u ∧ tInt.slice.RS w (fun b => base ≤ b ∧ b < w.heap.size ∧ v.ownBlock ≠ some b) [u] l)
    (hb1 : Below w.heap.size w w1) (hu : OwnI w1 w.heap.size u l) (hw : ∀ x ∈ l, wfI .i64 x) (hbase : base ≤ w.heap.size)
    (ho2 : w2.ownsRow base 22 1 (.slice (some ⟨g, 0, none⟩) n cap) n (cells ++ [u])) (hn : n = ls.length + 1) (hgr : w1.grownBy w2 v.ownBlock) (hg : v.ownBlock = some g ∨ w1.heap.size ≤ g) :
    OwnS w2 base (.slice (some ⟨g, 0, none⟩) n cap) (ls ++ [l]) := by
  have hlen : cells.length = ls.length := by have := ho.1; omega
  refine ⟨cells ++ [u], by rw [List.length_append, List.length_singleton, ← hn]; exact ho2, fun i l' hl' => ?_⟩
  by_cases hlt : i < ls.length
  · rw [List.getElem?_append_left hlt] at hl'
    obtain ⟨u', hu', hR⟩ := hi i l' hl'
    refine ⟨u', by rw [List.getElem?_append_left (by omega)]; exact hu', Ty.keepS _ hR (fun k hk => ?_) (fun k hk => ?_)⟩
    · rw [hgr.block k (by have := hb1.size; omega) (fun e => hk.2.2 e.symm), hb1.block k hk.2.1]
    · refine ⟨hk.1, by have := hb1.size; have := hgr.size; omega, ?_⟩
      simp only [Value.ownBlock, ne_eq, Option.some.injEq]
      rintro rfl
      rcases hg with hg | hg
      · exact hk.2.2 hg
      · have := hb1.size; omega
  · have hil : i = ls.length := by
      have := (List.getElem?_eq_some_iff.1 hl').1
      simp at this
      omega
    subst hil
    rw [List.getElem?_append_right (Nat.le_refl _)] at hl'
    simp at hl'
    subst hl'
    refine ⟨u, by rw [List.getElem?_append_right (by omega)]; simp [hlen], Ty.keepS _ (own_intsS hu hw) (fun k hk => ?_) (fun k hk => ?_)⟩
    · have h1 := hu.lt k hk
      refine hgr.block k h1.2 (fun e => ?_)
      have := ho.lt k e.symm
      omega
    · have h1 := hu.lt k hk
      refine ⟨by omega, by have := hgr.size; omega, ?_⟩
      simp only [Value.ownBlock, ne_eq, Option.some.injEq]
      rintro rfl
      rcases hg with hg | hg
      · have := ho.lt _ hg; omega
      · omega

/-- .. read as data -/
theorem OwnS.read {w : World} {base : Nat} {v : Value} {ls : List (List Int)} (h : OwnS w base v ls) : tInt.slice.slice.RS w (fun b => base ≤ b ∧ b < w.heap.size) [v] ls := by
  obtain ⟨cells, ho, hi⟩ := h
  refine own_slice (T := tInt.slice) ho (fun i d hd => ?_) (fun g hg => ho.lt g hg)
  obtain ⟨u, hu, hR⟩ := hi i d hd
  have : ((cells.drop (i * tInt.slice.size)).take tInt.slice.size) = [u] := by
    show (cells.drop (i * 1)).take 1 = _
    obtain ⟨hi', he⟩ := List.getElem?_eq_some_iff.1 hu
    rw [Nat.mul_one, List.drop_eq_getElem_cons hi', he]
    simp
  rw [this]
  exact Ty.keepS _ hR (fun _ _ => rfl) (fun k hk => ⟨hk.1, hk.2.1⟩)
end Mu
end
section
/-
  Odds and ends: a box, and what stays readable behind it; the form of rows of integers.
  Conditions: none.
-/
namespace Mu
open Go Go.RowKit Go.Proofs

/-- w' is what calls made of w0, in which cs were boxed -/
def Bx (w0 : World) (cs : List Value) (T : TypeId) (w' : World) : Prop := Below (w0.heap.size + 1) (w0.alloc (.cells cs.toArray T)) w'
section
variable {w0 w' w'' : World} {cs : List Value} {T : TypeId}
theorem Bx.refl : Bx w0 cs T (w0.alloc (.cells cs.toArray T)) := Below.refl _ _
theorem Bx.cell (h : Bx w0 cs T w') {j : Nat} {v : Value} (hv : cs[j]? = some v) : w'.cell? ⟨w0.heap.size, j, none⟩ = some v := (boxed h).2.1 j v hv
theorem Bx.far (h : Bx w0 cs T w') {a : Addr} (ha : a.block < w0.heap.size) : w'.cell? a = w0.cell? a := (boxed h).1 a ha
theorem Bx.lt (h : Bx w0 cs T w') : w0.heap.size < w'.heap.size := (boxed h).2.2.1
theorem Bx.below (h : Bx w0 cs T w') : Below w0.heap.size w0 w' := (boxed h).2.2.2
theorem Bx.call (h : Bx w0 cs T w') (hb : Below w'.heap.size w' w'') : Bx w0 cs T w'' := Below.trans h (hb.mono h.lt)
theorem Bx.alloc (h : Bx w0 cs T w') (o : Obj) : Bx w0 cs T (w'.alloc o) := Below.alloc h h.lt o
theorem Bx.drewN (h : Bx w0 cs T w') (n : Nat) : Bx w0 cs T (w'.drewN n) := bdrew h n
theorem Bx.drew (h : Bx w0 cs T w') : Bx w0 cs T w'.drew := ⟨h.os, h.tape, h.output, h.size, h.block⟩
theorem Bx.R {α : Type} {U : Ty α} {us : List Value} {d : α} (h : Bx w0 cs T w') (hR : U.R w0 w0.heap.size us d) : U.R w' w'.heap.size us d := Ty.below hR h.below h.below.size
end

theorem one_max : 1 ≤ maxLen := by decide

theorem grown_trans {a b c : World} {row : Option Nat} (h : a.grownBy b row) (k : b.grownBy c row) : a.grownBy c row :=
  ⟨k.os.trans h.os, k.tape.trans h.tape, k.output.trans h.output, Nat.le_trans h.size k.size, fun i hi hr => (k.block i (Nat.lt_of_lt_of_le hi h.size) hr).trans (h.block i hi hr)⟩

theorem own_form {w : World} {base : Nat} {v : Value} {l : List Int} (h : OwnI w base v l) : ∃ A c, v = .slice A l.length c := by
  rcases h.2 with ⟨rfl, h0⟩ | ⟨g, cap, cur, rfl, _⟩
  · rw [h0]; exact ⟨_, _, rfl⟩
  · exact ⟨_, _, rfl⟩

theorem slc_info : (Try.prog.info? 22).map (fun i => (i.zero, i.size, i.bytes)) = some (some (.slice none 0 0), 1, 24) := by kernel_rfl

theorem own_cell {w : World} {base g cap n : Nat} {l : List Int} {i : Nat} {z : Int} (h : OwnI w base (.slice (some ⟨g, 0, none⟩) n cap) l) (hz : l[i]? = some z) : w.cell? ⟨g, i, none⟩ = some (.int .i64 z) := by
  have hi := (List.getElem?_eq_some_iff.1 hz).1
  rcases h.2 with ⟨h0, _⟩ | ⟨g', cap', cur, e, _, hh, _, _, _, h4⟩
  · cases h0
  · cases e
    have h5 := h.cells (g := g) rfl i (.int .i64 z) (by simp [hz])
    have e1 : (⟨g, 0, none⟩ : Addr).add i = ⟨g, i, none⟩ := by
      unfold Addr.add
      by_cases hz : i = 0 <;> simp [hz]
    rwa [e1] at h5

theorem own_form' {w : World} {base : Nat} {v : Value} {l : List Int} (h : OwnI w base v l) (hp : 0 < l.length) : ∃ g c, v = .slice (some ⟨g, 0, none⟩) l.length c ∧ base ≤ g ∧ g < w.heap.size := by
  rcases h.2 with ⟨rfl, h0⟩ | ⟨g, cap, cur, rfl, hg, hh, _⟩
  · omega
  · exact ⟨g, cap, rfl, hg, (Array.getElem?_eq_some_iff.1 hh).1⟩
end Mu
end
section
/-
  flow.goes, the iterator over where one goes from a block: its contract.
  Conditions: the function's blocks lie where the rounds leave them as they are.
-/
namespace Mu
open Go Go.RowKit Go.Proofs Go.Shelf
attribute [local go_sem] Oper.semAt_some

/-- some blocks lie as they lay -/
structure KS (S : Nat → Prop) (W W' : World) : Prop where
  size : W.heap.size ≤ W'.heap.size
  block : ∀ k, S k → W'.heap[k]? = W.heap[k]?
theorem KS.refl {S : Nat → Prop} {W : World} : KS S W W := ⟨Nat.le_refl _, fun _ _ => rfl⟩
theorem KS.trans {S : Nat → Prop} {A B C : World} (h : KS S A B) (k : KS S B C) : KS S A C := ⟨Nat.le_trans h.size k.size, fun i hi => (k.block i hi).trans (h.block i hi)⟩
theorem KS.cell {S : Nat → Prop} {W W' : World} (h : KS S W W') {a : Addr} {v : Value} (ha : S a.block) (hc : W.cell? a = some v) : W'.cell? a = some v := (World.cell?_of_block (h.block a.block ha)).trans hc
theorem KS.alloc {S : Nat → Prop} {W W' : World} (h : KS S W W') (hS : ∀ k, S k → k < W'.heap.size) (o : Obj) : KS S W (W'.alloc o) := ⟨by have := h.size; simp; omega, fun k hk => (Below.heap_alloc _ _ _ (hS k hk)).trans (h.block k hk)⟩

/-- what the iterator reads: the function's box, the number's box, the block -/
structure GoesAt (W : World) (S : Nat → Prop) (f : Func) (bi : Int) (Bf Bb : Nat) : Prop where
  fS : S Bf
  f3 : ∃ A c, W.cell? ⟨Bf, 3, none⟩ = some (.slice A f.blocks.length c) ∧ tBlock.slice.RS W S [.slice A f.blocks.length c] f.blocks
  bS : S Bb
  b0 : W.cell? ⟨Bb, 0, none⟩ = some (.int .i64 bi)
  len : f.blocks.length ≤ 2097152
  ins : ∀ b ∈ f.blocks, b.ins.length ≤ 2097152

theorem abides_alloc {β : Type} {B : Nat} {J : List β → World → Prop} (hJ : AbidesFrom B J) {s : List β} {A : World} (h : J s A) (o : Obj) : J s (A.alloc o) := hJ s A _ none h (World.grownBy_alloc _ _ _) (fun r e => by cases e)
/-- how the iterator ends -/
def GPost {f : Func} (xs : List (Blk f)) (J Jx : List (Blk f) → World → Prop) (W' : World) : Prop := (∃ ys, ys = xs ∧ J ys W') ∨ (∃ pre, pre <+: xs ∧ Jx pre W')
theorem filtB_append (f : Func) (l m : List Int) : filtB f (l ++ m) = filtB f l ++ filtB f m := List.filterMap_append
theorem filtB_one_yes {f : Func} {m : Nat} (h : m < f.blocks.length) {a : Int} (e : a = m) : filtB f [a] = [⟨m, h⟩] := by
  unfold filtB
  rw [e, List.filterMap_cons, toBlk_yes h]
  rfl
theorem filtB_one_no {f : Func} {a : Int} (h : ¬ (0 ≤ a ∧ a < f.blocks.length)) : filtB f [a] = [] := by
  unfold filtB
  rw [List.filterMap_cons, toBlk_no h]
  rfl
theorem filtB_nil (f : Func) : filtB f [] = [] := rfl

set_option maxRecDepth 100000 in
set_option maxHeartbeats 4000000 in
theorem goes1_in (F : Fence) (n : Nat) (h89 : F.fn 89) (hro : F.round = none) (hn : 1 ≤ n) (l : Nat) (f : Func) (bi : Int) (Bf Bb : Nat) (S : Nat → Prop) (J Jx : List (Blk f) → World → Prop) (W : World)
    (hJ : AbidesFrom W.heap.size J) (hS : ∀ k, S k → k < W.heap.size)
    (hY : ∀ pre x W, J pre W → pre.length < 2 → YieldAt F (n - 1) Try.prog l #[.int .i64 ((x : Blk f).1 : Int)] W fun e W' =>
      (e = .returned (.bool true) ∧ J (pre ++ [x]) W' ∧ KS S W W') ∨ (e = .returned (.bool false) ∧ Jx (pre ++ [x]) W'))
    (hG : GoesAt W S f bi Bf Bb) (h0 : J [] W) :
    CallsIn F n Try.prog 89 #[.func (.yield l) #[] #[], .pointer (some ⟨Bb, 0, none⟩), .pointer (some ⟨Bf, 0, none⟩)] W fun e W' => (∃ v, e = .returned v) ∧ GPost (nextS f bi) J Jx W' := by
  obtain ⟨hfS, ⟨A, c, hf3, hBR⟩, hbS, hb0, hlen, hins⟩ := hG
  have HBR := Lib.hid hBR
  have HINS := Lib.hid hins
  have HY := Lib.hid hY
  have H0 := Lib.hid h0
  clear hBR hins hY h0
  by_cases h0 : bi < 0
  · have d0 : decide (bi < 0) = true := decide_eq_true h0
    have hnx : Hid (nextS f bi = []) := by
      show _ = _
      unfold nextS
      rw [if_neg (by omega)]
    refine callsIn_of_wp Try.func89 rfl h89 ?_ hro
    simp only [Try.ntmps89, List.size_toArray, List.length_cons, List.length_nil, Nat.reduceAdd, Nat.reduceSub, Array.replicate_succ, Array.replicate_zero, List.push_toArray, List.append_toArray, List.nil_append, List.cons_append]
    gi_wp2
    refine bodyPost_ret (results_none rfl _ _ _) rfl ?_
    exact ⟨⟨_, rfl⟩, .inl ⟨_, hnx.out.symm, H0.out⟩⟩
  · have d0 : decide (bi < 0) = false := decide_eq_false h0
    obtain ⟨q, rfl⟩ := Int.eq_ofNat_of_zero_le (show 0 ≤ bi by omega)
    by_cases h1 : q < f.blocks.length
    · have d1 : decide ((f.blocks.length : Int) ≤ (q : Int)) = false := decide_eq_false (by omega)
      obtain ⟨bl, hbk⟩ : ∃ bl, f.blocks[q]? = some bl := ⟨_, List.getElem?_eq_getElem h1⟩
      obtain ⟨bb, bo, Ai, ci, rfl, hbb, hc0, hc1, hnm, hIR⟩ := block_at HBR.out hbk
      have hnb : Hid (nextS f (q : Int) = nextB f bl) := by
        show _ = _
        unfold nextS
        rw [if_pos (by omega), show ((q : Int)).toNat = q from by omega, hbk]
      have hil : bl.ins.length ≤ 2097152 := HINS.out bl (List.mem_of_getElem? hbk)
      have HIR := Lib.hid hIR
      have HBK := Lib.hid hbk
      clear hIR hbk hc0
      by_cases h2 : bl.ins = []
      · have hz : bl.ins.length = 0 := by rw [h2]; rfl
        rw [hz] at hc1
        have hnx : Hid (nextS f (q : Int) = []) := by
          show _ = _
          rw [hnb.out]
          unfold nextB
          rw [h2]
          rfl
        clear h2
        refine callsIn_of_wp Try.func89 rfl h89 ?_ hro
        simp only [Try.ntmps89, List.size_toArray, List.length_cons, List.length_nil, Nat.reduceAdd, Nat.reduceSub, Array.replicate_succ, Array.replicate_zero, List.push_toArray, List.append_toArray, List.nil_append, List.cons_append]
        gi_wp2
        refine bodyPost_ret (results_none rfl _ _ _) rfl ?_
        exact ⟨⟨_, rfl⟩, .inl ⟨_, hnx.out.symm, H0.out⟩⟩
      · obtain ⟨li, hli⟩ : ∃ li, bl.ins.length = li + 1 := ⟨bl.ins.length - 1, by have := List.length_pos_iff.2 h2; omega⟩
        obtain ⟨x, hxk⟩ : ∃ x, bl.ins[li]? = some x := ⟨_, List.getElem?_eq_getElem (by omega)⟩
        obtain ⟨ib, io, Aa, ca, rfl, hib, hat⟩ := ins_at HIR.out hxk
        have hnx : Hid (nextS f (q : Int) = filtB f (rawWays x)) := by
          show _ = _
          rw [hnb.out]
          unfold nextB
          rw [List.getLast?_eq_getElem?, show bl.ins.length - 1 = li from by omega, hxk]
        have e0 := hat.c0
        have e1 := hat.c1
        have e2 := hat.c2
        have e3 := hat.c3
        have e4 := hat.c4
        have e5 := hat.c5
        have e6 := hat.c6
        have e7 := hat.c7
        have e8 := hat.c8
        rw [hli] at hc1
        have dz : ((li : Int) + 1 == 0) = false := beq_eq_false_iff_ne.2 (by omega)
        have hll : li ≤ 2097152 := by omega
        clear hat h2 hli hxk hil
        have hcs : (x.op = 9 ∧ x.l2 ≠ x.l1) ∨ (x.op = 9 ∧ x.l2 = x.l1) ∨ x.op = 8 ∨ (x.op ≠ 9 ∧ x.op ≠ 8) := by omega
        rcases hcs with ⟨h9, hne⟩ | ⟨h9, heq⟩ | h8 | ⟨n9, n8⟩
        · have k9 : (x.op == 9) = true := beq_iff_eq.2 h9
          have k9' : (x.op != 9) = false := by rw [h9]; rfl
          have kn : (x.l2 != x.l1) = true := by rw [bne_iff_ne]; exact hne
          have hws : Hid (rawWays x = [x.l1, x.l2]) := by
            show _ = _
            unfold rawWays
            rw [if_pos h9, if_neg hne]
          have hJ1 : Hid (J [] ((W.alloc (.cells #[.int .u8 x.op, .int .i64 x.d, .int .i64 x.a, .int .i64 x.b, .int .u32 x.n, .int .i64 x.f, .slice Aa x.args.length ca, .int .i64 x.l1, .int .i64 x.l2] 39)).alloc (.cells #[.int .i64 x.l1, .int .i64 x.l2] 118))) :=
            abides_alloc hJ (abides_alloc hJ H0.out _) _
          have hK1 : Hid (KS S W ((W.alloc (.cells #[.int .u8 x.op, .int .i64 x.d, .int .i64 x.a, .int .i64 x.b, .int .u32 x.n, .int .i64 x.f, .slice Aa x.args.length ca, .int .i64 x.l1, .int .i64 x.l2] 39)).alloc (.cells #[.int .i64 x.l1, .int .i64 x.l2] 118))) :=
            (KS.refl.alloc hS _).alloc (fun k hk => by have := hS k hk; simp; omega) _
          clear h9 hne
          refine callsIn_of_wp Try.func89 rfl h89 ?_ hro
          simp only [Try.ntmps89, List.size_toArray, List.length_cons, List.length_nil, Nat.reduceAdd, Nat.reduceSub, Array.replicate_succ, Array.replicate_zero, List.push_toArray, List.append_toArray, List.nil_append, List.cons_append]
          gi_wp2
          have i0 : ∀ w, (Instr.index 118 (.agg #[.int .i64 x.l1, .int .i64 x.l2]) (.int .i64 0)).run Try.prog w = .ok (.int .i64 x.l1) w := fun _ => by kernel_rfl
          have i1 : ∀ w, (Instr.index 118 (.agg #[.int .i64 x.l1, .int .i64 x.l2]) (.int .i64 1)).run Try.prog w = .ok (.int .i64 x.l2) w := fun _ => by kernel_rfl
          gi_loopw [67] (fun i wr => ∃ k : Nat, k ≤ 2 ∧ i = .int .i64 k ∧ J (filtB f ([x.l1, x.l2].take k)) wr ∧ KS S W wr) (fun i _ => 2 - (RowKit.intOf i).toNat)
          case atStart => exact ⟨0, Nat.zero_le _, rfl, hJ1.out, hK1.out⟩
          case round =>
            obtain ⟨k, hk, rfl, hJk, hKk⟩ := hrel
            have hf3' := hKk.cell (a := ⟨Bf, 3, none⟩) hfS hf3
            have hk3 : k = 0 ∨ k = 1 ∨ k = 2 := by omega
            clear hJ1 hK1
            rcases hk3 with rfl | rfl | rfl
            · by_cases hin : 0 ≤ x.l1 ∧ x.l1 < (f.blocks.length : Int)
              · obtain ⟨m, hm⟩ := Int.eq_ofNat_of_zero_le hin.1
                have hml : m < f.blocks.length := by have := hin.2; omega
                have hst : Hid (filtB f [x.l1] = filtB f [] ++ [⟨m, hml⟩]) := by
                  show _ = _
                  rw [filtB_one_yes hml hm]; rfl
                have hprf : Hid (filtB f [] ++ [⟨m, hml⟩] <+: nextS f (q : Int)) := by
                  show _ <+: _
                  rw [← hst.out, hnx.out, hws.out]
                  exact List.IsPrefix.filterMap _ ⟨[x.l2], rfl⟩
                obtain ⟨fn, tmps, assign, body, hy, hR⟩ := HY.out _ (⟨m, hml⟩ : Blk f) wr hJk (Nat.lt_of_le_of_lt (filtB_len _ _) (by simp))
                have t0 : decide (0 ≤ x.l1) = true := decide_eq_true hin.1
                have t1 : decide (x.l1 < (f.blocks.length : Int)) = true := decide_eq_true hin.2
                dsimp only at hy
                rw [← hm] at hy
                clear hin hm
                gi_wp2
                refine hR.mono ?_
                rintro e W3 (⟨rfl, hJ3, hk3⟩ | ⟨rfl, hJx3⟩)
                · gi_wp2
                  go_roundw
                  case rel => exact ⟨1, by omega, by rfl, by rw [show ([x.l1, x.l2].take 1) = [x.l1] from rfl, hst.out]; exact hJ3, hKk.trans hk3⟩
                  case measure => simp [RowKit.intOf]
                · gi_wp2
                  refine bodyPost_ret (results_none rfl _ _ _) rfl ?_
                  exact ⟨⟨_, rfl⟩, .inr ⟨_, hprf.out, hJx3⟩⟩
              · have hst : Hid (filtB f [x.l1] = filtB f []) := by
                  show _ = _
                  rw [filtB_one_no hin]; rfl
                have hJn : J (filtB f [x.l1]) wr := by rw [hst.out]; exact hJk
                by_cases h0' : 0 ≤ x.l1
                · have t0 : decide (0 ≤ x.l1) = true := decide_eq_true h0'
                  have t1 : decide (x.l1 < (f.blocks.length : Int)) = false := decide_eq_false (by omega)
                  gi_wp2
                  refine ⟨fun _ h => (by cases h), ?_⟩
                  gi_wp2
                  go_roundw
                  case rel => exact ⟨1, by omega, by rfl, hJn, hKk⟩
                  case measure => simp [RowKit.intOf]
                · have t0 : decide (0 ≤ x.l1) = false := decide_eq_false h0'
                  gi_wp2
                  refine ⟨fun _ h => (by cases h), ?_⟩
                  gi_wp2
                  go_roundw
                  case rel => exact ⟨1, by omega, by rfl, hJn, hKk⟩
                  case measure => simp [RowKit.intOf]
            · by_cases hin : 0 ≤ x.l2 ∧ x.l2 < (f.blocks.length : Int)
              · obtain ⟨m, hm⟩ := Int.eq_ofNat_of_zero_le hin.1
                have hml : m < f.blocks.length := by have := hin.2; omega
                have hst : Hid (filtB f [x.l1, x.l2] = filtB f [x.l1] ++ [⟨m, hml⟩]) := by
                  show _ = _
                  exact (filtB_append f [x.l1] [_]).trans (by rw [filtB_one_yes hml hm])
                have hprf : Hid (filtB f [x.l1] ++ [⟨m, hml⟩] <+: nextS f (q : Int)) := by
                  show _ <+: _
                  rw [← hst.out, hnx.out, hws.out]
                  exact List.prefix_rfl
                obtain ⟨fn, tmps, assign, body, hy, hR⟩ := HY.out _ (⟨m, hml⟩ : Blk f) wr hJk (Nat.lt_of_le_of_lt (filtB_len _ _) (by simp))
                have t0 : decide (0 ≤ x.l2) = true := decide_eq_true hin.1
                have t1 : decide (x.l2 < (f.blocks.length : Int)) = true := decide_eq_true hin.2
                dsimp only at hy
                rw [← hm] at hy
                clear hin hm
                gi_wp2
                refine hR.mono ?_
                rintro e W3 (⟨rfl, hJ3, hk3⟩ | ⟨rfl, hJx3⟩)
                · gi_wp2
                  go_roundw
                  case rel => exact ⟨2, by omega, by rfl, by rw [show ([x.l1, x.l2].take 2) = [x.l1, x.l2] from rfl, hst.out]; exact hJ3, hKk.trans hk3⟩
                  case measure => simp [RowKit.intOf]
                · gi_wp2
                  refine bodyPost_ret (results_none rfl _ _ _) rfl ?_
                  exact ⟨⟨_, rfl⟩, .inr ⟨_, hprf.out, hJx3⟩⟩
              · have hst : Hid (filtB f [x.l1, x.l2] = filtB f [x.l1]) := by
                  show _ = _
                  exact (filtB_append f [x.l1] [_]).trans (by rw [filtB_one_no hin, List.append_nil])
                have hJn : J (filtB f [x.l1, x.l2]) wr := by rw [hst.out]; exact hJk
                by_cases h0' : 0 ≤ x.l2
                · have t0 : decide (0 ≤ x.l2) = true := decide_eq_true h0'
                  have t1 : decide (x.l2 < (f.blocks.length : Int)) = false := decide_eq_false (by omega)
                  gi_wp2
                  refine ⟨fun _ h => (by cases h), ?_⟩
                  gi_wp2
                  go_roundw
                  case rel => exact ⟨2, by omega, by rfl, hJn, hKk⟩
                  case measure => simp [RowKit.intOf]
                · have t0 : decide (0 ≤ x.l2) = false := decide_eq_false h0'
                  gi_wp2
                  refine ⟨fun _ h => (by cases h), ?_⟩
                  gi_wp2
                  go_roundw
                  case rel => exact ⟨2, by omega, by rfl, hJn, hKk⟩
                  case measure => simp [RowKit.intOf]
            · have hfin : Hid (J (nextS f (q : Int)) wr) := by
                show J _ _
                rw [hnx.out, hws.out]
                exact hJk
              gi_wp2
              go_end0
              exact ⟨⟨_, rfl⟩, .inl ⟨_, rfl, hfin.out⟩⟩
        · have k9 : (x.op == 9) = true := beq_iff_eq.2 h9
          have k9' : (x.op != 9) = false := by rw [h9]; rfl
          have kn : (x.l2 != x.l1) = false := by rw [heq]; simp
          have hws : Hid (rawWays x = [x.l1, (-1)]) := by
            show _ = _
            unfold rawWays
            rw [if_pos h9, if_pos heq]
          have hJ1 : Hid (J [] ((W.alloc (.cells #[.int .u8 x.op, .int .i64 x.d, .int .i64 x.a, .int .i64 x.b, .int .u32 x.n, .int .i64 x.f, .slice Aa x.args.length ca, .int .i64 x.l1, .int .i64 x.l2] 39)).alloc (.cells #[.int .i64 x.l1, .int .i64 (-1)] 118))) :=
            abides_alloc hJ (abides_alloc hJ H0.out _) _
          have hK1 : Hid (KS S W ((W.alloc (.cells #[.int .u8 x.op, .int .i64 x.d, .int .i64 x.a, .int .i64 x.b, .int .u32 x.n, .int .i64 x.f, .slice Aa x.args.length ca, .int .i64 x.l1, .int .i64 x.l2] 39)).alloc (.cells #[.int .i64 x.l1, .int .i64 (-1)] 118))) :=
            (KS.refl.alloc hS _).alloc (fun k hk => by have := hS k hk; simp; omega) _
          clear h9 heq
          refine callsIn_of_wp Try.func89 rfl h89 ?_ hro
          simp only [Try.ntmps89, List.size_toArray, List.length_cons, List.length_nil, Nat.reduceAdd, Nat.reduceSub, Array.replicate_succ, Array.replicate_zero, List.push_toArray, List.append_toArray, List.nil_append, List.cons_append]
          gi_wp2
          have i0 : ∀ w, (Instr.index 118 (.agg #[.int .i64 x.l1, .int .i64 (-1)]) (.int .i64 0)).run Try.prog w = .ok (.int .i64 x.l1) w := fun _ => by kernel_rfl
          have i1 : ∀ w, (Instr.index 118 (.agg #[.int .i64 x.l1, .int .i64 (-1)]) (.int .i64 1)).run Try.prog w = .ok (.int .i64 (-1)) w := fun _ => by kernel_rfl
          gi_loopw [67] (fun i wr => ∃ k : Nat, k ≤ 2 ∧ i = .int .i64 k ∧ J (filtB f ([x.l1, (-1)].take k)) wr ∧ KS S W wr) (fun i _ => 2 - (RowKit.intOf i).toNat)
          case atStart => exact ⟨0, Nat.zero_le _, rfl, hJ1.out, hK1.out⟩
          case round =>
            obtain ⟨k, hk, rfl, hJk, hKk⟩ := hrel
            have hf3' := hKk.cell (a := ⟨Bf, 3, none⟩) hfS hf3
            have hk3 : k = 0 ∨ k = 1 ∨ k = 2 := by omega
            clear hJ1 hK1
            rcases hk3 with rfl | rfl | rfl
            · by_cases hin : 0 ≤ x.l1 ∧ x.l1 < (f.blocks.length : Int)
              · obtain ⟨m, hm⟩ := Int.eq_ofNat_of_zero_le hin.1
                have hml : m < f.blocks.length := by have := hin.2; omega
                have hst : Hid (filtB f [x.l1] = filtB f [] ++ [⟨m, hml⟩]) := by
                  show _ = _
                  rw [filtB_one_yes hml hm]; rfl
                have hprf : Hid (filtB f [] ++ [⟨m, hml⟩] <+: nextS f (q : Int)) := by
                  show _ <+: _
                  rw [← hst.out, hnx.out, hws.out]
                  exact List.IsPrefix.filterMap _ ⟨[(-1)], rfl⟩
                obtain ⟨fn, tmps, assign, body, hy, hR⟩ := HY.out _ (⟨m, hml⟩ : Blk f) wr hJk (Nat.lt_of_le_of_lt (filtB_len _ _) (by simp))
                have t0 : decide (0 ≤ x.l1) = true := decide_eq_true hin.1
                have t1 : decide (x.l1 < (f.blocks.length : Int)) = true := decide_eq_true hin.2
                dsimp only at hy
                rw [← hm] at hy
                clear hin hm
                gi_wp2
                refine hR.mono ?_
                rintro e W3 (⟨rfl, hJ3, hk3⟩ | ⟨rfl, hJx3⟩)
                · gi_wp2
                  go_roundw
                  case rel => exact ⟨1, by omega, by rfl, by rw [show ([x.l1, (-1)].take 1) = [x.l1] from rfl, hst.out]; exact hJ3, hKk.trans hk3⟩
                  case measure => simp [RowKit.intOf]
                · gi_wp2
                  refine bodyPost_ret (results_none rfl _ _ _) rfl ?_
                  exact ⟨⟨_, rfl⟩, .inr ⟨_, hprf.out, hJx3⟩⟩
              · have hst : Hid (filtB f [x.l1] = filtB f []) := by
                  show _ = _
                  rw [filtB_one_no hin]; rfl
                have hJn : J (filtB f [x.l1]) wr := by rw [hst.out]; exact hJk
                by_cases h0' : 0 ≤ x.l1
                · have t0 : decide (0 ≤ x.l1) = true := decide_eq_true h0'
                  have t1 : decide (x.l1 < (f.blocks.length : Int)) = false := decide_eq_false (by omega)
                  gi_wp2
                  refine ⟨fun _ h => (by cases h), ?_⟩
                  gi_wp2
                  go_roundw
                  case rel => exact ⟨1, by omega, by rfl, hJn, hKk⟩
                  case measure => simp [RowKit.intOf]
                · have t0 : decide (0 ≤ x.l1) = false := decide_eq_false h0'
                  gi_wp2
                  refine ⟨fun _ h => (by cases h), ?_⟩
                  gi_wp2
                  go_roundw
                  case rel => exact ⟨1, by omega, by rfl, hJn, hKk⟩
                  case measure => simp [RowKit.intOf]
            · have hst : Hid (filtB f [x.l1, (-1)] = filtB f [x.l1]) := by
                show _ = _
                exact (filtB_append f [x.l1] [_]).trans (by rw [filtB_one_no (a := -1) (by omega), List.append_nil])
              have hJn : J (filtB f [x.l1, (-1)]) wr := by rw [hst.out]; exact hJk
              gi_wp2
              refine ⟨fun _ h => (by cases h), ?_⟩
              gi_wp2
              go_roundw
              case rel => exact ⟨2, by omega, by rfl, hJn, hKk⟩
              case measure => simp [RowKit.intOf]
            · have hfin : Hid (J (nextS f (q : Int)) wr) := by
                show J _ _
                rw [hnx.out, hws.out]
                exact hJk
              gi_wp2
              go_end0
              exact ⟨⟨_, rfl⟩, .inl ⟨_, rfl, hfin.out⟩⟩
        · have k9 : (x.op == 9) = false := by rw [h8]; rfl
          have k9' : (x.op != 9) = true := by rw [h8]; rfl
          have k8' : (x.op != 8) = false := by rw [h8]; rfl
          have hws : Hid (rawWays x = [x.l1, (-1)]) := by
            show _ = _
            unfold rawWays
            rw [if_neg (by omega), if_pos h8]
          have hJ1 : Hid (J [] ((W.alloc (.cells #[.int .u8 x.op, .int .i64 x.d, .int .i64 x.a, .int .i64 x.b, .int .u32 x.n, .int .i64 x.f, .slice Aa x.args.length ca, .int .i64 x.l1, .int .i64 x.l2] 39)).alloc (.cells #[.int .i64 x.l1, .int .i64 (-1)] 118))) :=
            abides_alloc hJ (abides_alloc hJ H0.out _) _
          have hK1 : Hid (KS S W ((W.alloc (.cells #[.int .u8 x.op, .int .i64 x.d, .int .i64 x.a, .int .i64 x.b, .int .u32 x.n, .int .i64 x.f, .slice Aa x.args.length ca, .int .i64 x.l1, .int .i64 x.l2] 39)).alloc (.cells #[.int .i64 x.l1, .int .i64 (-1)] 118))) :=
            (KS.refl.alloc hS _).alloc (fun k hk => by have := hS k hk; simp; omega) _
          clear h8
          refine callsIn_of_wp Try.func89 rfl h89 ?_ hro
          simp only [Try.ntmps89, List.size_toArray, List.length_cons, List.length_nil, Nat.reduceAdd, Nat.reduceSub, Array.replicate_succ, Array.replicate_zero, List.push_toArray, List.append_toArray, List.nil_append, List.cons_append]
          gi_wp2
          have i0 : ∀ w, (Instr.index 118 (.agg #[.int .i64 x.l1, .int .i64 (-1)]) (.int .i64 0)).run Try.prog w = .ok (.int .i64 x.l1) w := fun _ => by kernel_rfl
          have i1 : ∀ w, (Instr.index 118 (.agg #[.int .i64 x.l1, .int .i64 (-1)]) (.int .i64 1)).run Try.prog w = .ok (.int .i64 (-1)) w := fun _ => by kernel_rfl
          gi_loopw [67] (fun i wr => ∃ k : Nat, k ≤ 2 ∧ i = .int .i64 k ∧ J (filtB f ([x.l1, (-1)].take k)) wr ∧ KS S W wr) (fun i _ => 2 - (RowKit.intOf i).toNat)
          case atStart => exact ⟨0, Nat.zero_le _, rfl, hJ1.out, hK1.out⟩
          case round =>
            obtain ⟨k, hk, rfl, hJk, hKk⟩ := hrel
            have hf3' := hKk.cell (a := ⟨Bf, 3, none⟩) hfS hf3
            have hk3 : k = 0 ∨ k = 1 ∨ k = 2 := by omega
            clear hJ1 hK1
            rcases hk3 with rfl | rfl | rfl
            · by_cases hin : 0 ≤ x.l1 ∧ x.l1 < (f.blocks.length : Int)
              · obtain ⟨m, hm⟩ := Int.eq_ofNat_of_zero_le hin.1
                have hml : m < f.blocks.length := by have := hin.2; omega
                have hst : Hid (filtB f [x.l1] = filtB f [] ++ [⟨m, hml⟩]) := by
                  show _ = _
                  rw [filtB_one_yes hml hm]; rfl
                have hprf : Hid (filtB f [] ++ [⟨m, hml⟩] <+: nextS f (q : Int)) := by
                  show _ <+: _
                  rw [← hst.out, hnx.out, hws.out]
                  exact List.IsPrefix.filterMap _ ⟨[(-1)], rfl⟩
                obtain ⟨fn, tmps, assign, body, hy, hR⟩ := HY.out _ (⟨m, hml⟩ : Blk f) wr hJk (Nat.lt_of_le_of_lt (filtB_len _ _) (by simp))
                have t0 : decide (0 ≤ x.l1) = true := decide_eq_true hin.1
                have t1 : decide (x.l1 < (f.blocks.length : Int)) = true := decide_eq_true hin.2
                dsimp only at hy
                rw [← hm] at hy
                clear hin hm
                gi_wp2
                refine hR.mono ?_
                rintro e W3 (⟨rfl, hJ3, hk3⟩ | ⟨rfl, hJx3⟩)
                · gi_wp2
                  go_roundw
                  case rel => exact ⟨1, by omega, by rfl, by rw [show ([x.l1, (-1)].take 1) = [x.l1] from rfl, hst.out]; exact hJ3, hKk.trans hk3⟩
                  case measure => simp [RowKit.intOf]
                · gi_wp2
                  refine bodyPost_ret (results_none rfl _ _ _) rfl ?_
                  exact ⟨⟨_, rfl⟩, .inr ⟨_, hprf.out, hJx3⟩⟩
              · have hst : Hid (filtB f [x.l1] = filtB f []) := by
                  show _ = _
                  rw [filtB_one_no hin]; rfl
                have hJn : J (filtB f [x.l1]) wr := by rw [hst.out]; exact hJk
                by_cases h0' : 0 ≤ x.l1
                · have t0 : decide (0 ≤ x.l1) = true := decide_eq_true h0'
                  have t1 : decide (x.l1 < (f.blocks.length : Int)) = false := decide_eq_false (by omega)
                  gi_wp2
                  refine ⟨fun _ h => (by cases h), ?_⟩
                  gi_wp2
                  go_roundw
                  case rel => exact ⟨1, by omega, by rfl, hJn, hKk⟩
                  case measure => simp [RowKit.intOf]
                · have t0 : decide (0 ≤ x.l1) = false := decide_eq_false h0'
                  gi_wp2
                  refine ⟨fun _ h => (by cases h), ?_⟩
                  gi_wp2
                  go_roundw
                  case rel => exact ⟨1, by omega, by rfl, hJn, hKk⟩
                  case measure => simp [RowKit.intOf]
            · have hst : Hid (filtB f [x.l1, (-1)] = filtB f [x.l1]) := by
                show _ = _
                exact (filtB_append f [x.l1] [_]).trans (by rw [filtB_one_no (a := -1) (by omega), List.append_nil])
              have hJn : J (filtB f [x.l1, (-1)]) wr := by rw [hst.out]; exact hJk
              gi_wp2
              refine ⟨fun _ h => (by cases h), ?_⟩
              gi_wp2
              go_roundw
              case rel => exact ⟨2, by omega, by rfl, hJn, hKk⟩
              case measure => simp [RowKit.intOf]
            · have hfin : Hid (J (nextS f (q : Int)) wr) := by
                show J _ _
                rw [hnx.out, hws.out]
                exact hJk
              gi_wp2
              go_end0
              exact ⟨⟨_, rfl⟩, .inl ⟨_, rfl, hfin.out⟩⟩
        · have hny : Hid (nextS f (q : Int) = []) := by
            show _ = _
            rw [hnx.out]
            unfold rawWays
            rw [if_neg n9, if_neg n8]
            rfl
          have k9 : (x.op == 9) = false := beq_eq_false_iff_ne.2 n9
          have k9' : (x.op != 9) = true := by rw [bne_iff_ne]; exact n9
          have k8' : (x.op != 8) = true := by rw [bne_iff_ne]; exact n8
          have hJ1 : Hid (J [] ((W.alloc (.cells #[.int .u8 x.op, .int .i64 x.d, .int .i64 x.a, .int .i64 x.b, .int .u32 x.n, .int .i64 x.f, .slice Aa x.args.length ca, .int .i64 x.l1, .int .i64 x.l2] 39)).alloc (.cells #[.int .i64 x.l1, .int .i64 (-1)] 118))) :=
            abides_alloc hJ (abides_alloc hJ H0.out _) _
          clear n9 n8
          refine callsIn_of_wp Try.func89 rfl h89 ?_ hro
          simp only [Try.ntmps89, List.size_toArray, List.length_cons, List.length_nil, Nat.reduceAdd, Nat.reduceSub, Array.replicate_succ, Array.replicate_zero, List.push_toArray, List.append_toArray, List.nil_append, List.cons_append]
          gi_wp2
          refine bodyPost_ret (results_none rfl _ _ _) rfl ?_
          exact ⟨⟨_, rfl⟩, .inl ⟨_, hny.out.symm, hJ1.out⟩⟩
    · have d1 : decide ((f.blocks.length : Int) ≤ (q : Int)) = true := decide_eq_true (by omega)
      have hnx : Hid (nextS f (q : Int) = []) := by
        show _ = _
        unfold nextS
        rw [if_pos (by omega), show ((q : Int)).toNat = q from by omega, List.getElem?_eq_none (by omega)]
      refine callsIn_of_wp Try.func89 rfl h89 ?_ hro
      simp only [Try.ntmps89, List.size_toArray, List.length_cons, List.length_nil, Nat.reduceAdd, Nat.reduceSub, Array.replicate_succ, Array.replicate_zero, List.push_toArray, List.append_toArray, List.nil_append, List.cons_append]
      gi_wp2
      refine bodyPost_ret (results_none rfl _ _ _) rfl ?_
      exact ⟨⟨_, rfl⟩, .inl ⟨_, hnx.out.symm, H0.out⟩⟩
end Mu
end
section
/-
  A slice that is read, as one row of cells; a row of the call's own with one element turned.
  Conditions: none.
-/
namespace Mu
open Go Go.RowKit

theorem chunk_left {cells cs : List Value} {m i sz : Nat} (hl : cells.length = m * sz) (hi : i < m) : ((cells ++ cs).drop (i * sz)).take sz = (cells.drop (i * sz)).take sz := by
  have h1 : (i + 1) * sz ≤ m * sz := Nat.mul_le_mul (by omega) (Nat.le_refl _)
  rw [Nat.succ_mul] at h1
  rw [List.drop_append_of_le_length (by omega), List.take_append_of_le_length (by rw [List.length_drop]; omega)]
theorem chunk_last {cells cs : List Value} {m sz : Nat} (hl : cells.length = m * sz) (hc : cs.length = sz) : ((cells ++ cs).drop (m * sz)).take sz = cs := by
  rw [← hl, List.drop_left, ← hc, List.take_length]

theorem slice_cells {α : Type} {T : Ty α} {w : World} {S : Nat → Prop} {A : Option Addr} {n c : Nat} {ds : List α} (h : T.slice.RS w S [.slice A n c] ds) (h1 : ∀ cs d, T.RS w S cs d → ∀ u ∈ cs, u.oneCell' = true) :
    ∃ cells : List Value, cells.length = n * T.size ∧ (∀ b o, A = some ⟨b, o, none⟩ → ∀ j u, cells[j]? = some u → w.cell? ⟨b, o + j, none⟩ = some u) ∧
      (∀ i d, ds[i]? = some d → T.RS w S ((cells.drop (i * T.size)).take T.size) d) ∧ ∀ u ∈ cells, u.oneCell' = true := by
  obtain ⟨hn, _, _⟩ := slice_len h
  have key : ∀ m, m ≤ ds.length → ∃ cells : List Value, cells.length = m * T.size ∧ (∀ b o, A = some ⟨b, o, none⟩ → ∀ j u, cells[j]? = some u → w.cell? ⟨b, o + j, none⟩ = some u) ∧
      (∀ i d, i < m → ds[i]? = some d → T.RS w S ((cells.drop (i * T.size)).take T.size) d) ∧ ∀ u ∈ cells, u.oneCell' = true := by
    intro m
    induction m with
    | zero => intro _; exact ⟨[], by simp, by simp, by simp, by simp⟩
    | succ m ih =>
      intro hm
      obtain ⟨cells, hl, hc, hr, ho⟩ := ih (by omega)
      have hd : ds[m]? = some ds[m] := List.getElem?_eq_getElem (by omega)
      obtain ⟨b, o, rfl, _, cs, hR, hC⟩ := slice_at h hd
      have hcs := T.len hR
      refine ⟨cells ++ cs, by rw [List.length_append, hl, hcs, Nat.succ_mul], ?_, ?_, ?_⟩
      · intro b' o' e j u hu
        cases e
        rw [List.getElem?_append] at hu
        by_cases hj : j < cells.length
        · rw [if_pos hj] at hu
          exact hc b o rfl j u hu
        · rw [if_neg hj] at hu
          have := hC _ u hu
          rw [show o + m * T.size + (j - cells.length) = o + j from by omega] at this
          exact this
      · intro i d hi hdi
        by_cases e : i = m
        · subst e
          rw [hd] at hdi
          cases hdi
          rw [chunk_last hl hcs]
          exact hR
        · rw [chunk_left hl (by omega)]
          exact hr i d (by omega) hdi
      · intro u hu
        rcases List.mem_append.1 hu with hu | hu
        · exact ho u hu
        · exact h1 _ _ hR u hu
  obtain ⟨cells, hl, hc, hr, ho⟩ := key ds.length (Nat.le_refl _)
  exact ⟨cells, by rw [hn]; exact hl, hc, fun i d hd => hr i d (List.getElem?_eq_some_iff.1 hd).1 hd, ho⟩

/-- one cell of an element turned -/
theorem chunk_set {cells : List Value} {i k sz j : Nat} {v : Value} (hj : j < sz) (hi : (i + 1) * sz ≤ cells.length) :
    ((cells.set (k * sz + j) v).drop (i * sz)).take sz = if i = k then (((cells.drop (i * sz)).take sz).set j v) else (cells.drop (i * sz)).take sz := by
  rw [Nat.succ_mul] at hi
  apply List.ext_getElem?
  intro x
  by_cases hx : x < sz
  · rw [List.getElem?_take_of_lt hx, List.getElem?_drop, List.getElem?_set]
    by_cases e : i = k
    · subst e
      rw [if_pos rfl, List.getElem?_set, List.getElem?_take_of_lt hx, List.getElem?_drop]
      by_cases e2 : j = x
      · subst e2
        rw [if_pos rfl, if_pos rfl, if_pos (by omega), if_pos (by simp; omega)]
      · rw [if_neg (by omega), if_neg e2]
    · rw [if_neg e, List.getElem?_take_of_lt hx, List.getElem?_drop, if_neg]
      intro h
      rcases Nat.lt_or_gt_of_ne e with h1 | h1
      · have : (i + 1) * sz ≤ k * sz := Nat.mul_le_mul (by omega) (Nat.le_refl _)
        rw [Nat.succ_mul] at this
        omega
      · have : (k + 1) * sz ≤ i * sz := Nat.mul_le_mul (by omega) (Nat.le_refl _)
        rw [Nat.succ_mul] at this
        omega
  · rw [List.getElem?_eq_none (by simp; omega)]
    symm
    split
    · exact List.getElem?_eq_none (by simp; omega)
    · exact List.getElem?_eq_none (by simp; omega)
end Mu
end
section
/-
  append onto a row of the call's own, whatever the source (nil too), in a plain region and in one that draws its order; a row that a literal makes; blocks known whole.
  Conditions: none; generic, no program in sight.
-/
namespace Mu
open Go Go.RowKit

/-- the cells of a source -/
structure Src (w : World) (size : Nat) (A : Option Addr) (m : Nat) (news : List Value) : Prop where
  len : news.length = m * size
  cells : ∀ j u, news[j]? = some u → ∃ ad, A = some ad ∧ w.cell? (ad.add j) = some u

theorem Src.keep {w w' : World} {size m : Nat} {A : Option Addr} {news : List Value} (h : Src w size A m news) (hk : ∀ ad, A = some ad → w'.heap[ad.block]? = w.heap[ad.block]?) : Src w' size A m news :=
  ⟨h.len, fun j u hu => by
    obtain ⟨ad, e, hc⟩ := h.cells j u hu
    refine ⟨ad, e, (World.cell?_of_block ?_).trans hc⟩
    have : (ad.add j).block = ad.block := by unfold Addr.add; split <;> rfl
    rw [this]
    exact hk ad e⟩
theorem src_row {w : World} {B : Nat} {cs : Array Value} {t : TypeId} {fr : Nat × Nat} {size m : Nat} (h : w.heap[B]? = some (.cells cs t fr)) (hl : cs.size = m * size) : Src w size (some ⟨B, 0, none⟩) m cs.toList :=
  ⟨by simpa using hl, fun j u hu => ⟨_, rfl, World.news_of_block h j u hu⟩⟩

section
variable {P : Program} {w : World}
theorem run_more {base : Nat} {t ty e : TypeId} {i : TypeInfo} {z : Value} {size bytes : Nat} (ht : P.underlying t = some (.slice e)) (hi : P.info? e = some i) (hz : i.zero = some z)
    (hsize : i.size = size) (hby : i.bytes = bytes) (hzs : z.cells.size = size) (hsz : 0 < size)
    {v : Value} {n : Nat} {xs : List Value} (hown : w.ownsRow base e size v n xs) {A : Option Addr} {m c : Nat} {news : List Value} (hs : Src w size A m news) (h1 : ∀ u ∈ news, u.oneCell' = true)
    (h63 : n + m ≤ maxLen) (hbytes : (n + m) * bytes ≤ 140737488355328) (hbase : base ≤ w.heap.size) :
    ∃ v' w', (Builtin.append_ #[t, t] ty #[v, .slice A m c]).run P w = .ok v' w' ∧ w'.ownsRow base e size v' (n + m) (xs ++ news) ∧ w.grownBy w' v.ownBlock ∧ (v'.ownBlock = v.ownBlock ∨ v'.ownBlock = some w.heap.size) := by
  have key : ∀ c, (Builtin.append_ #[t, t] ty #[v, .slice none 0 c]).run P w = .ok v w := by
    intro c
    rcases hown.2 with ⟨rfl, rfl⟩ | ⟨g, cap, cur, rfl, _, _, hnc, _⟩
    · simp [Builtin.append_, run_underlying ht, Go.sizeOf, typeInfo, hi, Builtin.lenOf, Builtin.firstCells]
    · simp [Builtin.append_, run_underlying ht, Go.sizeOf, typeInfo, hi, Builtin.lenOf, Builtin.firstCells, hnc, storeCells]
  rcases A with _ | ad
  · have hn : news = [] := by
      rcases news with _ | ⟨u, l⟩
      · rfl
      · obtain ⟨ad, e, _⟩ := hs.cells 0 u rfl
        cases e
    subst hn
    have hm : m = 0 := by
      have := hs.len
      rcases Nat.eq_zero_or_pos m with h | h
      · exact h
      · have := Nat.mul_pos h hsz
        simp at *
        omega
    subst hm
    exact ⟨v, w, key c, by simpa using hown, World.grownBy.refl w _, .inl rfl⟩
  · obtain ⟨v', w', hr, h2, h3, _, h5⟩ := run_append_own_at (P := P) w base t ty e i z size bytes ht hi hz hsize hby hzs hsz v n xs hown ad m c news hs.len
      (fun j u hu => by obtain ⟨ad', e', hc⟩ := hs.cells j u hu; cases e'; exact hc) h1 h63 hbytes hbase
    exact ⟨v', w', hr, h2, h3, h5⟩

theorem wp_more {o : Oper} {a : Act} {K : Act → World → Prop} {Q : Exit → Act → World → Prop} (s x : Operand) (t : TypeId)
    (ho : o.op = .call { callee := .builtin .append, args := #[s, x], argTypes := #[t, t] }) (base : Nat) (e : TypeId) (i : TypeInfo) (z : Value) (size bytes : Nat)
    (ht : P.underlying t = some (.slice e)) (hi : P.info? e = some i) (hz : i.zero = some z) (hsize : i.size = size) (hby : i.bytes = bytes) (hzs : z.cells.size = size) (hsz : 0 < size)
    {v : Value} {n : Nat} {xs : List Value} (hs : a.eval s = v) (hown : w.ownsRow base e size v n xs) {A : Option Addr} {m c : Nat} {news : List Value} (hx : a.eval x = .slice A m c)
    (hr : Src w size A m news) (h1 : ∀ u ∈ news, u.oneCell' = true) (h63 : n + m ≤ maxLen) (hbytes : (n + m) * bytes ≤ 140737488355328) (hbase : base ≤ w.heap.size)
    (h : ∀ v' w', w'.ownsRow base e size v' (n + m) (xs ++ news) → w.grownBy w' v.ownBlock → (v'.ownBlock = v.ownBlock ∨ v'.ownBlock = some w.heap.size) → K (a.put o.dst v') w') : o.wp P a w K Q := by
  obtain ⟨v', w', hrun, h2, h3, h4⟩ := run_more (P := P) (ty := o.type) (c := c) ht hi hz hsize hby hzs hsz hown hr h1 h63 hbytes hbase
  unfold Oper.wp execOp
  simp only [ho, resolve, invoke, builtin, Sem.run_bind, Sem.run_pure, Result.andThen_ok, List.map_toArray, List.map_cons, List.map_nil, hs, hx, hrun]
  exact h v' w' h2 h3 h4

theorem list_more {ops : Array Oper} {rest : List Oper} {o : Oper} {a : Act} {Q : Exit → Act → World → Prop} (hgd : o.guard = none) (s x : Operand) (t : TypeId)
    (ho : o.op = .call { callee := .builtin .append, args := #[s, x], argTypes := #[t, t] }) (base : Nat) (e : TypeId) (i : TypeInfo) (z : Value) (size bytes : Nat)
    (ht : P.underlying t = some (.slice e)) (hi : P.info? e = some i) (hz : i.zero = some z) (hsize : i.size = size) (hby : i.bytes = bytes) (hzs : z.cells.size = size) (hsz : 0 < size)
    {v : Value} {n : Nat} {xs : List Value} (hs : a.eval s = v) (hown : w.ownsRow base e size v n xs) {A : Option Addr} {m c : Nat} {news : List Value} (hx : a.eval x = .slice A m c)
    (hr : Src w size A m news) (h1 : ∀ u ∈ news, u.oneCell' = true) (h63 : n + m ≤ maxLen) (hbytes : (n + m) * bytes ≤ 140737488355328) (hbase : base ≤ w.heap.size)
    (h : ∀ v' w', w'.ownsRow base e size v' (n + m) (xs ++ news) → w.grownBy w' v.ownBlock → (v'.ownBlock = v.ownBlock ∨ v'.ownBlock = some w.heap.size) → wpList P ops Q rest (a.put o.dst v') w') : wpList P ops Q (o :: rest) a w :=
  wpList_plain hgd fun _ hK => wp_more s x t ho base e i z size bytes ht hi hz hsize hby hzs hsz hs hown hx hr h1 h63 hbytes hbase fun v' w' h2 h3 h4 => hK _ _ (h v' w' h2 h3 h4)

theorem step_more {ops : Array Oper} {o : Oper} {a : Act} {K : Act → World → Prop} {Q : Exit → Act → World → Prop} {E : Prop} (hgd : o.guard = none) (s x : Operand) (t : TypeId)
    (ho : o.op = .call { callee := .builtin .append, args := #[s, x], argTypes := #[t, t] }) (base : Nat) (e : TypeId) (i : TypeInfo) (z : Value) (size bytes : Nat)
    (ht : P.underlying t = some (.slice e)) (hi : P.info? e = some i) (hz : i.zero = some z) (hsize : i.size = size) (hby : i.bytes = bytes) (hzs : z.cells.size = size) (hsz : 0 < size)
    {v : Value} {n : Nat} {xs : List Value} (hs : a.eval s = v) (hown : w.ownsRow base e size v n xs) {A : Option Addr} {m c : Nat} {news : List Value} (hx : a.eval x = .slice A m c)
    (hr : Src w size A m news) (h1 : ∀ u ∈ news, u.oneCell' = true) (h63 : n + m ≤ maxLen) (hbytes : (n + m) * bytes ≤ 140737488355328) (hbase : base ≤ w.heap.size)
    (h : ∀ v' w', w'.ownsRow base e size v' (n + m) (xs ++ news) → w.grownBy w' v.ownBlock → (v'.ownBlock = v.ownBlock ∨ v'.ownBlock = some w.heap.size) → K (a.put o.dst v') w') :
    if Region.wanted o (yielded ops a.tmps) = true then Oper.wp P o a w K Q else E := by
  have hw : Region.wanted o (yielded ops a.tmps) = true := by simp [Region.wanted, hgd]
  rw [if_pos hw]
  exact wp_more s x t ho base e i z size bytes ht hi hz hsize hby hzs hsz hs hown hx hr h1 h63 hbytes hbase h
end

/-- a row that a literal has just made -/
theorem row_lit {w : World} {base sz n g : Nat} {e : TypeId} {cs : List Value} (hg : w.heap[g]? = some (.cells cs.toArray e (0, 0))) (hb : base ≤ g) (hn : cs.length = n * sz) (hm : n ≤ maxLen) :
    w.ownsRow base e sz (.slice (some ⟨g, 0, none⟩) n n) n cs :=
  ⟨by simpa using hn, .inr ⟨_, n, _, rfl, hb, hg, Nat.le_refl _, hm, by simp [hn], by simp [← hn]⟩⟩
theorem box_set {w : World} {B j : Nat} {cs : List Value} {t : TypeId} {fr : Nat × Nat} {v : Value} (h : w.heap[B]? = some (.cells cs.toArray t fr)) : (w.setCell ⟨B, j, none⟩ v).heap[B]? = some (.cells (cs.set j v).toArray t fr) := by
  simp [World.setCell, Array.getElem?_modify, h]
theorem box_far {w : World} {B : Nat} {p : Addr} {o : Option Obj} {v : Value} (h : w.heap[B]? = o) (hp : B ≠ p.block) : (w.setCell p v).heap[B]? = o := (Below.heap_setCell w p v B hp).trans h
theorem box_alloc {w : World} {B : Nat} {c : Array Value} {t : TypeId} {fr : Nat × Nat} (h : w.heap[B]? = some (.cells c t fr)) (o : Obj) : (w.alloc o).heap[B]? = some (.cells c t fr) :=
  (Below.heap_alloc w o B (by rcases Nat.lt_or_ge B w.heap.size with hl | hg; exact hl; rw [Array.getElem?_eq_none hg] at h; cases h)).trans h
theorem box_lt {w : World} {B : Nat} {o : Obj} (h : w.heap[B]? = some o) : B < w.heap.size := by
  rcases Nat.lt_or_ge B w.heap.size with hl | hg
  · exact hl
  · rw [Array.getElem?_eq_none hg] at h; cases h
theorem box_cell {w : World} {B j : Nat} {cs : List Value} {t : TypeId} {fr : Nat × Nat} {v : Value} (h : w.heap[B]? = some (.cells cs.toArray t fr)) (hv : cs[j]? = some v) : w.cell? ⟨B, j, none⟩ = some v := by
  rw [cell_of_row w B j cs.toArray t fr h]
  simpa using hv
theorem box_free {w : World} {B j : Nat} {c : Array Value} {t : TypeId} (h : w.heap[B]? = some (.cells c t (0, 0))) : w.frozen? ⟨B, j, none⟩ = false := by
  simp [World.frozen?, h]

/-- a slice that is read, as a source of cells -/
theorem slice_src {α : Type} {T : Ty α} {w : World} {S : Nat → Prop} {A : Option Addr} {n c : Nat} {ds : List α} (h : T.slice.RS w S [.slice A n c] ds) (h1 : ∀ cs d, T.RS w S cs d → ∀ u ∈ cs, u.oneCell' = true) :
    ∃ cells : List Value, cells.length = n * T.size ∧ (∀ w' : World, (∀ k, S k → w'.heap[k]? = w.heap[k]?) → Src w' T.size A n cells) ∧ (∀ i d, ds[i]? = some d → T.RS w S ((cells.drop (i * T.size)).take T.size) d) ∧ ∀ u ∈ cells, u.oneCell' = true := by
  obtain ⟨cells, hl, hc, hr, ho⟩ := slice_cells h h1
  refine ⟨cells, hl, fun w' hk => ⟨hl, fun j u hu => ?_⟩, hr, ho⟩
  have hj : j < n * T.size := by
    rw [← hl]
    exact (List.getElem?_eq_some_iff.1 hu).1
  have hn : 0 < ds.length := by
    rw [← (slice_len h).1]
    rcases Nat.eq_zero_or_pos n with e | e
    · rw [e] at hj; simp at hj
    · exact e
  obtain ⟨b, o, rfl, hS, _⟩ := slice_at h (List.getElem?_eq_getElem hn)
  refine ⟨_, rfl, ?_⟩
  rw [Go.WideShapes.add_plain]
  exact (World.cell?_of_block (w := w) (a := ⟨b, o + j, none⟩) (hk b hS)).trans (hc b o rfl j u hu)
theorem Src.below {w w' : World} {size m B : Nat} {A : Option Addr} {news : List Value} (h : ∀ w' : World, (∀ k, k < B → w'.heap[k]? = w.heap[k]?) → Src w' size A m news) (hb : Below B w w') : Src w' size A m news := h w' hb.block

/-- all blocks that there were are as they were, but one -/
structure Fx (g : Nat) (w w' : World) : Prop where
  size : w.heap.size ≤ w'.heap.size
  block : ∀ k, k < w.heap.size → k ≠ g → w'.heap[k]? = w.heap[k]?
section
variable {g : Nat} {w w1 w2 : World}
theorem Fx.refl : Fx g w w := ⟨Nat.le_refl _, fun _ _ _ => rfl⟩
theorem Fx.drew (h : Fx g w w1) : Fx g w w1.drew := ⟨h.size, h.block⟩
theorem Fx.drewN (h : Fx g w w1) (n : Nat) : Fx g w (w1.drewN n) := ⟨h.size, h.block⟩
theorem Fx.alloc (h : Fx g w w1) (o : Obj) : Fx g w (w1.alloc o) := ⟨by have := h.size; simp; omega, fun k hk hg => by rw [Below.heap_alloc _ _ _ (by have := h.size; omega)]; exact h.block k hk hg⟩
theorem Fx.set_ (h : Fx g w w1) (j : Nat) (v : Value) : Fx g w (w1.setCell ⟨g, j, none⟩ v) := ⟨by have := h.size; simpa [World.setCell] using this, fun k hk hg => by rw [Below.heap_setCell _ _ _ _ (by show k ≠ g; exact hg)]; exact h.block k hk hg⟩
theorem Fx.below (h : Fx g w w1) (hb : Below w1.heap.size w1 w2) : Fx g w w2 := ⟨Nat.le_trans h.size hb.size, fun k hk hg => (hb.block k (Nat.lt_of_lt_of_le hk h.size)).trans (h.block k hk hg)⟩
theorem Fx.grown {row : Option Nat} (h : Fx g w w1) (hg : w1.grownBy w2 row) (hr : ∀ r, row = some r → r = g ∨ w.heap.size ≤ r) : Fx g w w2 :=
  ⟨Nat.le_trans h.size hg.size, fun k hk hne => (hg.block k (Nat.lt_of_lt_of_le hk h.size) (fun e => by rcases hr k e.symm with h1 | h1; exact hne h1; omega)).trans (h.block k hk hne)⟩
theorem Fx.cell (h : Fx g w w1) {a : Addr} {v : Value} (hl : a.block < w.heap.size) (hg : a.block ≠ g) (hc : w.cell? a = some v) : w1.cell? a = some v := (World.cell?_of_block (h.block a.block hl hg)).trans hc
end
end Mu
end
section
/-
  Rows of the call's own whose elements are readings: grown by one, read as a slice.
  Conditions: none.
-/
namespace Mu
open Go Go.RowKit
variable {α : Type}

/-- a row of the call's own; its elements are readings among the blocks of S, which are not the row's own -/
def OwnT (T : Ty α) (e : TypeId) (w : World) (base : Nat) (v : Value) (ds : List α) (S : Nat → Prop) : Prop :=
  ∃ cells, w.ownsRow base e T.size v ds.length cells ∧ (∀ i d, ds[i]? = some d → T.RS w S ((cells.drop (i * T.size)).take T.size) d) ∧ ∀ k, S k → k < w.heap.size ∧ v.ownBlock ≠ some k

section
variable {T : Ty α} {e : TypeId} {w w' w2 X : World} {base : Nat} {v v' : Value} {ds : List α} {S S' : Nat → Prop}
theorem OwnT.nil (hS : ∀ k, S k → k < w.heap.size) : OwnT T e w base (.slice none 0 0) [] S := ⟨[], World.ownsRow_nil _ _ _ _, by simp, fun k hk => ⟨hS k hk, by simp [Value.ownBlock]⟩⟩
theorem OwnT.lt (h : OwnT T e w base v ds S) : ∀ k, v.ownBlock = some k → base ≤ k ∧ k < w.heap.size := by
  obtain ⟨_, ho, _⟩ := h
  exact World.ownsRow.lt ho
theorem OwnT.far (h : OwnT T e w base v ds S) : ∀ k, S k → k < w.heap.size ∧ v.ownBlock ≠ some k := by
  obtain ⟨_, _, _, hs⟩ := h
  exact hs
theorem OwnT.keep (h : OwnT T e w base v ds S) (hk : ∀ k, (S k ∨ v.ownBlock = some k) → w'.heap[k]? = w.heap[k]?) (hs : w.heap.size ≤ w'.heap.size) : OwnT T e w' base v ds S := by
  obtain ⟨cells, ho, hr, hf⟩ := h
  exact ⟨cells, ownsRow_keep ho (fun k h => hk k (.inr h)), fun i d hd => T.keepS (hr i d hd) (fun k h => hk k (.inl h)) (fun _ h => h), fun k h => ⟨Nat.lt_of_lt_of_le (hf k h).1 hs, (hf k h).2⟩⟩
theorem OwnT.below (h : OwnT T e w base v ds S) (hb : Below w.heap.size w w') : OwnT T e w' base v ds S :=
  h.keep (fun k hk => hb.block k (by rcases hk with hk | hk; exact (h.far k hk).1; exact (h.lt k hk).2)) hb.size
theorem OwnT.form (h : OwnT T e w base v ds S) : ∃ A c, v = .slice A ds.length c := by
  obtain ⟨cells, ho, _⟩ := h
  rcases ho.2 with ⟨rfl, h0⟩ | ⟨g, cap, cur, rfl, _⟩
  · rw [h0]; exact ⟨_, _, rfl⟩
  · exact ⟨_, _, rfl⟩
theorem OwnT.read (h : OwnT T e w base v ds S) : T.slice.RS w (fun k => S k ∨ v.ownBlock = some k) [v] ds := by
  obtain ⟨cells, ho, hr, _⟩ := h
  exact own_slice ho (fun i d hd => T.keepS (hr i d hd) (fun _ _ => rfl) (fun _ h => .inl h)) (fun g hg => .inr hg)
/-- one element more -/
theorem OwnT.snoc {cells cs : List Value} {d : α} {n : Nat} (ho : w.ownsRow base e T.size v ds.length cells) (hr : ∀ i d, ds[i]? = some d → T.RS w S ((cells.drop (i * T.size)).take T.size) d)
    (hS : ∀ k, S k → k < w.heap.size ∧ v.ownBlock ≠ some k) (hX : ∀ k, S k → X.heap[k]? = w.heap[k]?) (hs : w.heap.size ≤ X.heap.size) (hr' : T.RS X S' cs d) (hS' : ∀ k, S' k → k < X.heap.size ∧ v.ownBlock ≠ some k)
    (hn : n = ds.length + 1) (ho2 : w2.ownsRow base e T.size v' n (cells ++ cs)) (hg : X.grownBy w2 v.ownBlock) (hat : v'.ownBlock = v.ownBlock ∨ v'.ownBlock = some X.heap.size) :
    OwnT T e w2 base v' (ds ++ [d]) (fun k => S k ∨ S' k) := by
  have hsz := hg.size
  have hin : ∀ k, S k → w2.heap[k]? = w.heap[k]? := fun k hk => (hg.block k (by have := (hS k hk).1; omega) (fun e => (hS k hk).2 e.symm)).trans (hX k hk)
  have hin' : ∀ k, S' k → w2.heap[k]? = X.heap[k]? := fun k hk => hg.block k (hS' k hk).1 (fun e => (hS' k hk).2 e.symm)
  have hcl : cells.length = ds.length * T.size := ho.1
  have hcs : cs.length = T.size := T.len hr'
  refine ⟨cells ++ cs, by rw [List.length_append, List.length_singleton, ← hn]; exact ho2, fun i d' hd' => ?_, fun k hk => ?_⟩
  · by_cases hi : i < ds.length
    · rw [List.getElem?_append_left hi] at hd'
      rw [chunk_left hcl hi]
      exact T.keepS (hr i d' hd') hin (fun _ h => .inl h)
    · have hil : i = ds.length := by
        have := (List.getElem?_eq_some_iff.1 hd').1
        simp at this
        omega
      subst hil
      simp at hd'
      subst hd'
      rw [chunk_last hcl hcs]
      exact T.keepS hr' hin' (fun _ h => .inr h)
  · have hk2 : k < X.heap.size ∧ v.ownBlock ≠ some k := by
      rcases hk with hk | hk
      · exact ⟨by have := (hS k hk).1; omega, (hS k hk).2⟩
      · exact hS' k hk
    refine ⟨by omega, fun e => ?_⟩
    rcases hat with h | h
    · exact hk2.2 (h ▸ e)
    · rw [h] at e
      injection e with e
      omega
theorem OwnT.congr (h : OwnT T e w base v ds S) (hS : ∀ k, S k ↔ S' k) : OwnT T e w base v ds S' := by
  obtain ⟨cells, ho, hr, hf⟩ := h
  exact ⟨cells, ho, fun i d hd => T.keepS (hr i d hd) (fun _ _ => rfl) (fun k hk => (hS k).1 hk), fun k hk => hf k ((hS k).2 hk)⟩
theorem OwnT.base_le {base' : Nat} (h : OwnT T e w base v ds S) (hb : base' ≤ base) : OwnT T e w base' v ds S := by
  obtain ⟨cells, ⟨h1, h2⟩, r⟩ := h
  refine ⟨cells, ⟨h1, ?_⟩, r⟩
  rcases h2 with h2 | ⟨g, cap, cur, hv, hg, r⟩
  · exact .inl h2
  · exact .inr ⟨g, cap, cur, hv, by omega, r⟩
end
theorem src_one {w : World} {size m : Nat} {cs : Array Value} {t : TypeId} (hl : cs.size = m * size) : Src (w.alloc (.cells cs t)) size (some ⟨w.heap.size, 0, none⟩) m cs.toList := src_row (heap_alloc_new w _) hl
theorem src_two {w : World} {o : Obj} {size m : Nat} {cs : Array Value} {t : TypeId} (hl : cs.size = m * size) : Src ((w.alloc o).alloc (.cells cs t)) size (some ⟨w.heap.size + 1, 0, none⟩) m cs.toList := by
  have h := src_one (w := w.alloc o) (t := t) hl
  rwa [show (w.alloc o).heap.size = w.heap.size + 1 from by simp] at h
end Mu
end
section
/-
  flow.goes and flow.Next, walked.
  Conditions: at most 2^21 blocks and instructions.
-/
namespace Mu
open Go Go.RowKit Go.Proofs Go.Shelf
attribute [local go_sem] Oper.semAt_some

/-- flow.goes: the function and the number are boxed; the function value holds the boxes -/
theorem goes_in (F : Fence) (n : Nat) (h60 : F.fn 60) (hro : F.round = none) (cs : List Value) (bi : Int) (w : World) (hcs : cs.length = 4) :
    CallsIn F n Try.prog 60 #[.agg cs.toArray, .int .i64 bi] w fun e w' => e = .returned (.func (.func 89) #[] #[.pointer (some ⟨w.heap.size + 1, 0, none⟩), .pointer (some ⟨w.heap.size, 0, none⟩)]) ∧
      w' = (w.alloc (.cells cs.toArray 31)).alloc (.cells #[.int .i64 bi] 3) := by
  match cs, hcs with
  | [a, b, c, d], _ =>
    refine callsIn_of_wp Try.func60 rfl h60 ?_ hro
    simp only [Try.ntmps60, List.size_toArray, List.length_cons, List.length_nil, Nat.reduceAdd, Nat.reduceSub, Array.replicate_succ, Array.replicate_zero, List.push_toArray, List.append_toArray, List.nil_append, List.cons_append]
    gi_wp2
    go_ret
    exact ⟨rfl, rfl⟩

/-- what the iterator reads lies in a world -/
theorem goes_at {W : World} {S : Nat → Prop} {cs : List Value} {f : Func} {bi : Int} (hR : tFunc.RS W S cs f) (hS : ∀ k, S k → k < W.heap.size) (hl : f.blocks.length ≤ 2097152) (hi : ∀ b ∈ f.blocks, b.ins.length ≤ 2097152) :
    GoesAt ((W.alloc (.cells cs.toArray 31)).alloc (.cells #[.int .i64 bi] 3)) (fun k => S k ∨ k = W.heap.size ∨ k = W.heap.size + 1) f bi W.heap.size (W.heap.size + 1) := by
  obtain ⟨A, c, rfl, _, _, _, hB⟩ := tFunc_R.1 hR
  refine ⟨.inr (.inl rfl), ⟨A, c, ?_, ?_⟩, .inr (.inr rfl), ?_, hl, hi⟩
  · exact box_cell (box_alloc (heap_alloc_new W _) _) rfl
  · refine tBlock.slice.keepS hB (fun k hk => ?_) (fun k hk => .inl hk)
    have hk' := hS k hk
    rw [Below.heap_alloc _ _ _ (by simp; omega), Below.heap_alloc _ _ _ hk']
  · have h := heap_alloc_new (W.alloc (.cells [.string f.name, .int .i64 f.args, .int .i64 f.regs, .slice A f.blocks.length c].toArray 31)) (.cells #[.int .i64 bi] 3)
    rw [show (W.alloc (.cells [.string f.name, .int .i64 f.args, .int .i64 f.regs, .slice A f.blocks.length c].toArray 31)).heap.size = W.heap.size + 1 from by simp] at h
    exact box_cell (cs := [_]) h rfl
theorem GoesAt.keep {W W' : World} {S : Nat → Prop} {f : Func} {bi : Int} {Bf Bb : Nat} (h : GoesAt W S f bi Bf Bb) (hk : ∀ k, S k → W'.heap[k]? = W.heap[k]?) : GoesAt W' S f bi Bf Bb := by
  obtain ⟨h1, ⟨A, c, h2, h3⟩, h4, h5, h6, h7⟩ := h
  exact ⟨h1, ⟨A, c, (World.cell?_of_block (w := W) (a := ⟨Bf, 3, none⟩) (hk _ h1)).trans h2, tBlock.slice.keepS h3 hk (fun _ h => h)⟩, h4, (World.cell?_of_block (w := W) (a := ⟨Bb, 0, none⟩) (hk _ h4)).trans h5, h6, h7⟩

/-- the iterator's contract -/
theorem goes_stops (F : Fence) (n : Nat) (h89 : F.fn 89) (hro : F.round = none) (hn : 1 ≤ n) (f : Func) (bi : Int) (Bf Bb : Nat) (S : Nat → Prop) (w : World) (hS : ∀ k, S k → k < w.heap.size) (hG : GoesAt w S f bi Bf Bb) :
    SeqStopsK F n Try.prog 89 #[.pointer (some ⟨Bb, 0, none⟩), .pointer (some ⟨Bf, 0, none⟩)] (fun x : Blk f => #[Value.int .i64 ((x.1 : Nat) : Int)]) (KS S) (fun ys => ys = nextS f bi) (fun pre => pre <+: nextS f bi) 2 w := fun l J Jx W hW hJ _ hY h0 =>
  goes1_in F n h89 hro hn l f bi Bf Bb S J Jx W hJ (fun k hk => Nat.lt_of_lt_of_le (hS k hk) hW.size) hY (hG.keep (fun k hk => hW.block k (hS k hk))) h0
theorem ksK_t {S : Nat → Prop} {A B C : World} (h : KS S A B) (k : KS S B C) : KS S A C := h.trans k
theorem ksK_b {S : Nat → Prop} {w : World} (hS : ∀ k, S k → k < w.heap.size) (W : World) (l : Nat) (o o' : Obj) (hl : w.heap.size ≤ l) (h : W.heap[l]? = some o) (_ : o.isCells = false) (_ : o.isWalk = false) : KS S W (W.putObj l o') := by
  have hg := grownBy_putObj' W l o'
  refine ⟨hg.size, fun k hk => hg.block k ?_ ?_⟩
  · have := hS k hk; have := (Array.getElem?_eq_some_iff.1 h).1; omega
  · intro e; injection e with e; have := hS k hk; omega

/-- an append to what a box holds, the row's own blocks above the boxes -/
theorem box_app {W w1 : World} {n₀ B : Nat} {t e : TypeId} {size : Nat} {v v' : Value} {k m : Nat} {xs ys : List Value} {tmp : Obj} (hv : Boxed W B t v) (hBn : B < n₀) (hrow : W.ownsRow n₀ e size v k xs) (hn₀ : n₀ ≤ W.heap.size)
    (hown' : w1.ownsRow n₀ e size v' m ys) (hgrow : (W.alloc tmp).grownBy w1 v.ownBlock) :
    Boxed w1 B t v ∧ Boxed (w1.setCell ⟨B, 0, none⟩ v') B t v' ∧ (w1.setCell ⟨B, 0, none⟩ v').ownsRow n₀ e size v' m ys ∧ KeepsOthers W (w1.setCell ⟨B, 0, none⟩ v') ∧ Below B W (w1.setCell ⟨B, 0, none⟩ v') ∧
      ∀ q, q < n₀ → q ≠ B → (w1.setCell ⟨B, 0, none⟩ v').heap[q]? = W.heap[q]? := by
  have hne : ∀ q, q < n₀ → some q ≠ v.ownBlock := fun q hq e => by have := (World.ownsRow.lt hrow q e.symm).1; omega
  have hs := hgrow.size
  have hs2 : (W.alloc tmp).heap.size = W.heap.size + 1 := by simp
  have hold : ∀ q, q < n₀ → w1.heap[q]? = W.heap[q]? := fun q hq => (hgrow.block q (by omega) (hne q hq)).trans (Below.heap_alloc _ _ _ (by omega))
  have hv1 : Boxed w1 B t v := (hold B hBn).trans hv
  refine ⟨hv1, hv1.set v', ownsRow_keep hown' (fun q hq => Below.heap_setCell _ _ _ _ (by have := (World.ownsRow.lt hown' q hq).1; show q ≠ B; omega)), ?_, ?_, fun q hq hqB => (Below.heap_setCell _ _ _ _ (by show q ≠ B; exact hqB)).trans (hold q hq)⟩
  · refine ((KeepsOthers.alloc W tmp).trans (KeepsOthers.of_grownBy hgrow fun j o ej hj => ?_)).trans (KeepsOthers.setCell _ _ _)
    rcases (hrow.alloc tmp).2 with ⟨rfl, _⟩ | ⟨g, cap, cur, rfl, _, hgb, _⟩
    · simp [Value.ownBlock] at ej
    · obtain rfl : g = j := by simpa [Value.ownBlock] using ej
      rw [hgb] at hj; cases hj; rfl
  · exact (((Below.refl B W).alloc (by omega) tmp).grown hgrow (by omega) fun j ej => by have := (World.ownsRow.lt hrow j ej).1; omega).setCell (p := ⟨B, 0, none⟩) (Nat.le_refl _) v'

def blkI {f : Func} (x : Blk f) : Int := ((x.1 : Nat) : Int)
/-- where one goes from a block, as numbers -/
def nextL (f : Func) (b : Int) : List Int := (nextS f b).map blkI

set_option maxRecDepth 100000 in
set_option maxHeartbeats 2000000 in
theorem next_in (F : Fence) (n : Nat) (h35 : F.fn 35) (h60 : F.fn 60) (h89 : F.fn 89) (hro : F.round = none) (hn : 3 ≤ n) (f : Func) (bi : Int) (cs : List Value) (w : World) (hR : tFunc.R w w.heap.size cs f)
    (hl : f.blocks.length ≤ 2097152) (hi : ∀ b ∈ f.blocks, b.ins.length ≤ 2097152) :
    CallsIn F n Try.prog 35 #[.agg cs.toArray, .int .i64 bi] w fun e W' => ∃ v, e = .returned v ∧ OwnI W' w.heap.size v (nextL f bi) ∧ Below w.heap.size w W' := by
  have h1 : 1 ≤ n := by omega
  obtain ⟨i0, hiI, hz0, hz1, hz2⟩ := info_parts int_info
  obtain ⟨A, c, rfl, _, _, _, _⟩ := tFunc_R.1 hR
  obtain ⟨W, hW⟩ : ∃ W : World, W = (w.alloc (.cells [.string f.name, .int .i64 f.args, .int .i64 f.regs, .slice A f.blocks.length c].toArray 31)).alloc (.cells #[.slice none 0 0] 22) := ⟨_, rfl⟩
  have hWs : W.heap.size = w.heap.size + 1 + 1 := by rw [hW]; simp
  have hWb : Hid (Below w.heap.size w W) := by rw [hW]; exact ((Below.refl _ _).alloc (Nat.le_refl _) _).alloc (by simp) _
  have hWO : Hid (Boxed W (w.heap.size + 1) 22 (.slice none 0 0)) := by
    rw [hW]
    have h := Boxed.new (w.alloc (.cells [.string f.name, .int .i64 f.args, .int .i64 f.regs, .slice A f.blocks.length c].toArray 31)) 22 (.slice none 0 0)
    rwa [show (w.alloc (.cells [.string f.name, .int .i64 f.args, .int .i64 f.regs, .slice A f.blocks.length c].toArray 31)).heap.size = w.heap.size + 1 from by simp] at h
  have hRW : Hid (tFunc.RS W (fun k => k < w.heap.size) [.string f.name, .int .i64 f.args, .int .i64 f.regs, .slice A f.blocks.length c] f) := tFunc.keepS hR hWb.out.block (fun _ h => h)
  have hG := Lib.hid (goes_at (bi := bi) hRW.out (fun k hk => by omega) hl hi)
  have cG : ∀ W', CallsIn F (n - 1) Try.prog 60 #[.agg #[.string f.name, .int .i64 f.args, .int .i64 f.regs, .slice A f.blocks.length c], .int .i64 bi] W' fun e w'' => e = .returned (.func (.func 89) #[] #[.pointer (some ⟨W'.heap.size + 1, 0, none⟩), .pointer (some ⟨W'.heap.size, 0, none⟩)]) ∧
      w'' = (W'.alloc (.cells #[.string f.name, .int .i64 f.args, .int .i64 f.regs, .slice A f.blocks.length c] 31)).alloc (.cells #[.int .i64 bi] 3) := fun W' => goes_in F (n - 1) h60 hro [.string f.name, .int .i64 f.args, .int .i64 f.regs, .slice A f.blocks.length c] bi W' rfl
  clear hR hi
  refine callsIn_of_wp_marks Try.func35 rfl h35 ?_ hro
  simp only [Try.ntmps35, List.size_toArray, List.length_cons, List.length_nil, Nat.reduceAdd, Nat.reduceSub, Array.replicate_succ, Array.replicate_zero, List.push_toArray, List.append_toArray, List.nil_append, List.cons_append]
  gi_wp2_with (gi_at_call 60; refine (cG _).mono ?_; rintro e w' ⟨rfl, rfl⟩)
  have hWW : (w.alloc (.cells #[.string f.name, .int .i64 f.args, .int .i64 f.regs, .slice A f.blocks.length c] 31)).alloc (.cells #[.slice none 0 0] 22) = W := hW.symm
  rw [hWW]
  have hG2 := hG.out
  rw [hWs] at hG2
  have hWO2 : Hid (Boxed ((W.alloc (.cells #[.string f.name, .int .i64 f.args, .int .i64 f.regs, .slice A f.blocks.length c] 31)).alloc (.cells #[.int .i64 bi] 3)) (w.heap.size + 1) 22 (.slice none 0 0)) := (hWO.out.alloc _).alloc _
  have hBl : Hid (Below w.heap.size w ((W.alloc (.cells #[.string f.name, .int .i64 f.args, .int .i64 f.regs, .slice A f.blocks.length c] 31)).alloc (.cells #[.int .i64 bi] 3))) := (hWb.out.alloc (by omega) _).alloc (by simp; omega) _
  have hLs : ((W.alloc (.cells #[.string f.name, .int .i64 f.args, .int .i64 f.regs, .slice A f.blocks.length c] 31)).alloc (.cells #[.int .i64 bi] 3)).heap.size = w.heap.size + 1 + 1 + 1 + 1 := by simp [hWs]
  obtain ⟨Wl, hWl⟩ : ∃ Wl : World, Wl = ((W.alloc (.cells #[.string f.name, .int .i64 f.args, .int .i64 f.regs, .slice A f.blocks.length c] 31)).alloc (.cells #[.int .i64 bi] 3)) := ⟨_, rfl⟩
  have hWl2 : (W.alloc (.cells [.string f.name, .int .i64 f.args, .int .i64 f.regs, .slice A f.blocks.length c].toArray 31)).alloc (.cells #[.int .i64 bi] 3) = Wl := hWl.symm
  rw [← hWl] at hWO2 hBl hLs ⊢
  rw [hWl2] at hG2
  have hS : ∀ k, (k < w.heap.size ∨ k = w.heap.size + 1 + 1 ∨ k = w.heap.size + 1 + 1 + 1) → k < Wl.heap.size := fun k hk => by rw [hLs]; omega
  refine wpIn_rangeFunc_ownG hro h1 (gf := 89) (lb := #[.pointer (some ⟨w.heap.size + 1 + 1 + 1, 0, none⟩), .pointer (some ⟨w.heap.size + 1 + 1, 0, none⟩)]) rfl h89 (enters_of Try.func89 (by kernel_rfl) rfl)
    (goes_stops F (n - 1) h89 hro (by omega) f bi (w.heap.size + 1 + 1) (w.heap.size + 1 + 1 + 1) (fun k => k < w.heap.size ∨ k = w.heap.size + 1 + 1 ∨ k = w.heap.size + 1 + 1 + 1) _ hS hG2) ksK_t (ksK_b hS) (Below.refl _ _) (fun _ => rfl)
    (fun (pre : List (Blk f)) W' => (∃ v, Boxed W' (w.heap.size + 1) 22 v ∧ W'.ownsRow (w.heap.size + 1 + 1 + 1 + 1) 3 1 v pre.length (pre.map fun x => Value.int .i64 (blkI x)) ∧ True) ∧ Below w.heap.size Wl W')
    (fun _ _ _ => False)
    (OwnFrom.and (Own.from (holdsRow_own (β := List (Blk f)) (w.heap.size + 1 + 1 + 1 + 1) (w.heap.size + 1) 22 3 1 (fun pre => pre.length) (fun pre => pre.map fun x => Value.int .i64 (blkI x)) (fun _ _ => True)) _) (ownFrom_below (by rw [hLs]; omega) (by rw [hLs]; omega)))
    (fun _ _ _ _ _ hs _ _ => hs)
    ⟨⟨_, hWO2.out, World.ownsRow_nil _ _ _ _, trivial⟩, Below.refl _ _⟩
    (fun x => { tmps := #[.agg #[.string f.name, .int .i64 f.args, .int .i64 f.regs, .slice A f.blocks.length c], .int .i64 bi, .pointer (some ⟨w.heap.size, 0, none⟩), undef, .slice none 0 0, .pointer (some ⟨w.heap.size + 1, 0, none⟩), .int .i64 (blkI x), .agg #[.string f.name, .int .i64 f.args, .int .i64 f.regs, .slice A f.blocks.length c], .int .i64 bi, .func (.func 89) #[] #[.pointer (some ⟨w.heap.size + 1 + 1 + 1, 0, none⟩), .pointer (some ⟨w.heap.size + 1 + 1, 0, none⟩)], .int .i64 (blkI x), undef, undef, undef, undef, undef], defers := [] }) ?assign ?body ?done ?stop
  case assign =>
    intro l x W K hK
    gi_wp2
    exact hK
  case body =>
    rintro l pre x W' ⟨⟨v, hv, hrow, _⟩, hB⟩ hlt
    have hc := hv.cell
    have hws : w.heap.size + 1 + 1 + 1 + 1 ≤ W'.heap.size := by have := hB.size; omega
    gi_wp2_with (gi_at_builtin; refine wpListIn_append_own _ rfl _ _ 22 rfl (w.heap.size + 1 + 1 + 1 + 1) 3 i0 (.int .i64 0) 1 8 Try.underlying22 hiI hz0 hz1 hz2 rfl (by decide) _ _ _ rfl (hrow.alloc _) ⟨W'.heap.size, 0, none⟩ 1 1 [.int .i64 (blkI x)] rfl rfl (cell_one_new _ _ _) (by simp [Value.oneCell']) (by unfold maxLen; omega) (by omega) (by simp; omega) ?_; intro v' w1 hown' hgrow _; obtain ⟨g', cap', rfl⟩ := ownsRow_succ hown'; obtain ⟨hv1, hv2, hr2, hk2, hb2, hks⟩ := box_app hv (by omega) hrow hws hown' hgrow; have hc1 := hv1.cell; have hf1 := hv1.frozen)
    exact ⟨hk2.from _, ⟨hk2.size, fun k hk => hks k (by omega) (by omega)⟩, ⟨_, hv2, by simpa using hr2, trivial⟩, hB.trans (hb2.mono (by omega))⟩
  case done =>
    rintro D ys W' hD rfl ⟨⟨v, hv, hrow, _⟩, hB⟩ hK
    have hc := hv.cell
    rw [hLs] at hD
    gi_wp2
    refine ⟨by simp, .inl ⟨_, _, rfl, run_takeDeferred hK, ?_⟩⟩
    refine ⟨_, results_tmp rfl _ _ _, v, rfl, ?_, hBl.out.trans (hB.trans (belowK_b (w := w) (Nat.le_refl _) W' D _ _ (by omega) hK rfl rfl))⟩
    have h2 : OwnI (W'.putObj D (.deferred none)) (w.heap.size + 1 + 1 + 1 + 1) v (nextL f bi) := .of (ownsRow_putObj hrow _ hK rfl) (by simp [nextL]) (by simp [nextL])
    exact h2.base (by omega)
  case stop =>
    rintro D c pre W _ _ h _
    exact h.elim

theorem next_any (f : Func) (bi : Int) (cs : List Value) (w : World) (hR : tFunc.R w w.heap.size cs f) (hl : f.blocks.length ≤ 2097152) (hi : ∀ b ∈ f.blocks, b.ins.length ≤ 2097152) :
    Calls Try.prog 35 #[.agg cs.toArray, .int .i64 bi] w fun e W' => ∃ v, e = .returned v ∧ OwnI W' w.heap.size v (nextL f bi) ∧ Below w.heap.size w W' :=
  (callsIn_wide (n := 6)).1 (next_in Fence.wide 6 trivial trivial trivial rfl (by omega) f bi cs w hR hl hi)
end Mu
end
section
/-
  slices.Backward over instructions: its contract.
  Conditions: at most 2^21 instructions, which lie where the rounds leave them as they are.
-/
namespace Mu
open Go Go.RowKit Go.Proofs Go.Shelf
attribute [local go_sem] Oper.semAt_some

/-- an instruction with its place, as it is handed over -/
abbrev BkE (W0 : World) (S : Nat → Prop) (ds : List Ins) := { x : Nat × List Value // ∃ d, ds[x.1]? = some d ∧ tIns.RS W0 S x.2 d }
def bkEnc {W0 : World} {S : Nat → Prop} {ds : List Ins} (x : BkE W0 S ds) : Array Value := #[.int .i64 ((x.1.1 : Nat) : Int), .agg x.1.2.toArray]
def bkIdx {W0 : World} {S : Nat → Prop} {ds : List Ins} (xs : List (BkE W0 S ds)) : List Nat := xs.map fun x => x.1.1
/-- how the iterator ends -/
def BPost {W0 : World} {S : Nat → Prop} {ds : List Ins} (J Jx : List (BkE W0 S ds) → World → Prop) (W' : World) : Prop := (∃ ys, bkIdx ys = (List.range ds.length).reverse ∧ J ys W') ∨ (∃ pre, True ∧ Jx pre W')
theorem rev_take {n j : Nat} (h : j < n) : (List.range n).reverse.take (n - (j + 1)) ++ [j] = (List.range n).reverse.take (n - j) := by
  have e : n - j = (n - (j + 1)) + 1 := by omega
  rw [e, List.take_add_one]
  congr 1
  rw [List.getElem?_reverse (by simp; omega)]
  simp
  rw [List.getElem?_range (by omega)]
  simp
  omega

set_option maxRecDepth 100000 in
set_option maxHeartbeats 4000000 in
theorem backward1_in (F : Fence) (n : Nat) (h105 : F.fn 105) (hro : F.round = none) (hn : 1 ≤ n) (l : Nat) (ds : List Ins) (A : Option Addr) (c Bb : Nat) (S : Nat → Prop) (W0 W : World) (J Jx : List (BkE W0 S ds) → World → Prop)
    (hW : KS S W0 W)
    (hY : ∀ pre x W, J pre W → pre.length < ds.length → YieldAt F (n - 1) Try.prog l (bkEnc x) W fun e W' =>
      (e = .returned (.bool true) ∧ J (pre ++ [x]) W' ∧ KS S W W') ∨ (e = .returned (.bool false) ∧ Jx (pre ++ [x]) W'))
    (hB : S Bb) (hB0 : W0.cell? ⟨Bb, 0, none⟩ = some (.slice A ds.length c)) (hR : tIns.slice.RS W0 S [.slice A ds.length c] ds) (hl : ds.length ≤ 2097152) (h0 : J [] W) :
    CallsIn F n Try.prog 105 #[.func (.yield l) #[] #[], .pointer (some ⟨Bb, 0, none⟩)] W fun e W' => (∃ v, e = .returned v) ∧ BPost J Jx W' := by
  have HR := Lib.hid hR
  have HY := Lib.hid hY
  have H0 := Lib.hid h0
  have x1 : IntKind.i64.wrap ((ds.length : Int) - 1) = (ds.length : Int) - 1 := IntWalk.i64_in _ (by omega)
  have hb0 := hW.cell hB hB0
  clear hR hY h0
  refine callsIn_of_wp Try.func105 rfl h105 ?_ hro
  simp only [Try.ntmps105, List.size_toArray, List.length_cons, List.length_nil, Nat.reduceAdd, Nat.reduceSub, Array.replicate_succ, Array.replicate_zero, List.push_toArray, List.append_toArray, List.nil_append, List.cons_append]
  gi_wp2
  gi_loopw [3] (fun i wr => ∃ m : Nat, m ≤ ds.length ∧ i = .int .i64 ((m : Int) - 1) ∧ (∃ pre, bkIdx pre = (List.range ds.length).reverse.take (ds.length - m) ∧ J pre wr) ∧ KS S W wr) (fun i _ => (RowKit.intOf i + 1).toNat)
  case atStart => exact ⟨ds.length, Nat.le_refl _, rfl, ⟨[], by simp [bkIdx], H0.out⟩, KS.refl⟩
  case round =>
    obtain ⟨m, hm, rfl, ⟨pre, hpre, hJ⟩, hK⟩ := hrel
    have HP := Lib.hid hpre
    clear hpre
    rcases m with _ | j
    · have d0 : decide ((0 : Int) ≤ ((0 : Nat) : Int) - 1) = false := decide_eq_false (by omega)
      gi_wp2
      go_end0
      exact ⟨⟨_, rfl⟩, .inl ⟨pre, by rw [HP.out]; exact List.take_of_length_le (by simp), hJ⟩⟩
    · have ej : ((j + 1 : Nat) : Int) - 1 = (j : Int) := by omega
      rw [ej]
      have d0 : decide ((0 : Int) ≤ (j : Int)) = true := decide_eq_true (by omega)
      have x2 : IntKind.i64.wrap ((j : Int) - 1) = (j : Int) - 1 := IntWalk.i64_in _ (by omega)
      obtain ⟨x, hxk⟩ : ∃ x, ds[j]? = some x := ⟨_, List.getElem?_eq_getElem (by omega)⟩
      obtain ⟨ib, io, Aa, ca, rfl, hib, hat⟩ := ins_at HR.out hxk
      have hK0 := hW.trans hK
      have e0 := hK0.cell (a := ⟨ib, _, none⟩) hib hat.c0
      have e1 := hK0.cell (a := ⟨ib, _, none⟩) hib hat.c1
      have e2 := hK0.cell (a := ⟨ib, _, none⟩) hib hat.c2
      have e3 := hK0.cell (a := ⟨ib, _, none⟩) hib hat.c3
      have e4 := hK0.cell (a := ⟨ib, _, none⟩) hib hat.c4
      have e5 := hK0.cell (a := ⟨ib, _, none⟩) hib hat.c5
      have e6 := hK0.cell (a := ⟨ib, _, none⟩) hib hat.c6
      have e7 := hK0.cell (a := ⟨ib, _, none⟩) hib hat.c7
      have e8 := hK0.cell (a := ⟨ib, _, none⟩) hib hat.c8
      have eb := hK0.cell hB hB0
      have hjl : (j : Int) < (ds.length : Int) := by omega
      have HX := Lib.hid (show ∃ d, ds[j]? = some d ∧ tIns.RS W0 S [.int .u8 x.op, .int .i64 x.d, .int .i64 x.a, .int .i64 x.b, .int .u32 x.n, .int .i64 x.f, .slice Aa x.args.length ca, .int .i64 x.l1, .int .i64 x.l2] d from ⟨x, hxk, tIns_R.2 ⟨Aa, ca, hat.raw⟩⟩)
      have hpl : pre.length < ds.length := by
        have := congrArg List.length HP.out
        simp [bkIdx] at this
        omega
      obtain ⟨fn, tmps, assign, body, hy, hR⟩ := HY.out pre ⟨(j, [.int .u8 x.op, .int .i64 x.d, .int .i64 x.a, .int .i64 x.b, .int .u32 x.n, .int .i64 x.f, .slice Aa x.args.length ca, .int .i64 x.l1, .int .i64 x.l2]), HX.out⟩ wr hJ hpl
      dsimp only [bkEnc] at hy
      clear hat hxk
      gi_wp2
      refine hR.mono ?_
      rintro e W3 (⟨rfl, hJ3, hk3⟩ | ⟨rfl, hJx3⟩)
      · gi_wp2
        go_roundw
        case rel =>
          refine ⟨j, by omega, rfl, ⟨_, ?_, hJ3⟩, hK.trans hk3⟩
          have h := HP.out
          unfold bkIdx at h ⊢
          rw [List.map_append, h]
          exact rev_take (by omega)
        case measure => simp [RowKit.intOf]
      · gi_wp2
        refine bodyPost_ret (results_none rfl _ _ _) rfl ?_
        exact ⟨⟨_, rfl⟩, .inr ⟨_, trivial, hJx3⟩⟩

/-- the iterator's contract -/
theorem backward_stops (F : Fence) (n : Nat) (h105 : F.fn 105) (hro : F.round = none) (hn : 1 ≤ n) (ds : List Ins) (A : Option Addr) (c Bb : Nat) (S : Nat → Prop) (W0 : World) (hS : ∀ k, S k → k < W0.heap.size)
    (hB : S Bb) (hB0 : W0.cell? ⟨Bb, 0, none⟩ = some (.slice A ds.length c)) (hR : tIns.slice.RS W0 S [.slice A ds.length c] ds) (hl : ds.length ≤ 2097152) :
    SeqStopsK F n Try.prog 105 #[.pointer (some ⟨Bb, 0, none⟩)] (fun x : BkE W0 S ds => bkEnc x) (KS S) (fun ys => bkIdx ys = (List.range ds.length).reverse) (fun _ => True) ds.length W0 := fun l J Jx W hW _ _ hY h0 =>
  backward1_in F n h105 hro hn l ds A c Bb S W0 W J Jx ⟨hW.size, fun k hk => hW.block k (hS k hk)⟩ hY hB hB0 hR hl h0

theorem backward_in (F : Fence) (n : Nat) (h78 : F.fn 78) (hro : F.round = none) (A : Option Addr) (m c : Nat) (w : World) :
    CallsIn F n Try.prog 78 #[.slice A m c] w fun e w' => e = .returned (.func (.func 105) #[] #[.pointer (some ⟨w.heap.size, 0, none⟩)]) ∧ w' = w.alloc (.cells #[.slice A m c] 40) := by
  refine callsIn_of_wp Try.func78 rfl h78 ?_ hro
  simp only [Try.ntmps78, List.size_toArray, List.length_cons, List.length_nil, Nat.reduceAdd, Nat.reduceSub, Array.replicate_succ, Array.replicate_zero, List.push_toArray, List.append_toArray, List.nil_append, List.cons_append]
  gi_wp2
  go_ret
  exact ⟨rfl, rfl⟩
end Mu
end
section
/-
  A region that draws, inside a round of a range over a function; a function that leaves with some such loops' marks.
  Conditions: no fence.
-/
namespace Mu
open Go Go.RowKit
variable {P : Program} {Q : Exit → Act → World → Prop} {ops : Array Oper} {l n : Nat}

theorem rowsIn_of {row : String} {args : Array Value} {w : World} {R : Value → World → Prop} (h : Rows P row args w R) : RowsIn (Fence.wide.inRound l) n P row args w R :=
  fun c cs _ => let ⟨v, w', r, s⟩ := h c cs; ⟨v, w', r, stepsIn_wide.2 s⟩
theorem callsIn_of {f : FuncId} {args : Array Value} {w : World} {R : Ending → World → Prop} (h : Calls P f args w R) : CallsIn (Fence.wide.inRound l) n P f args w R :=
  CallsIn.inRound l (callsIn_wide.2 h)

theorem wpOpIn_of {i : Nat} {K K' : Act → World → Prop} {a : Act} {w : World} (hd : ∀ (o : Oper), ops[i]? = some o → ∀ c, o.op ≠ .defer c) (hQ : ¬ LetsOut Q) (hK : ∀ a w, K a w → K' a w) (h : wpOp P ops Q i K a w) :
    wpOpIn (Fence.wide.inRound l) n P ops Q i K' a w := by
  unfold wpOpIn
  unfold wpOp at h
  cases hi : ops[i]? with
  | none => rw [hi] at h; exact hK _ _ h
  | some o =>
    simp only [hi] at h ⊢
    split
    · rename_i hw
      rw [if_pos hw] at h
      rcases h with h | h
      · refine ⟨fun _ _ => trivial, ?_⟩
        rw [Oper.semAt_eq _ _ _ (hd o hi)]
        unfold Oper.wp at h
        generalize (execOp a.eval o).run P w = r at *
        cases r with
        | ok x w' =>
          cases x <;> simp only [Oper.uponIn, Oper.upon] at h ⊢
          case value => exact hK _ _ h
          case skip => exact hK _ _ h
          case defer => exact hK _ _ h
          case enter => exact ⟨fun h => (by cases h), (callsIn_of h).mono fun e w'' he => by cases e <;> first | exact hK _ _ he | exact he⟩
          case row => exact ⟨fun h => (by cases h), (rowsIn_of h).mono fun _ _ he => hK _ _ he⟩
        | halt x w' => cases x <;> simp only [Oper.uponIn, Oper.upon] at h ⊢ <;> exact h
      · exact absurd h.2 hQ
    · rename_i hw
      rw [if_neg hw] at h
      exact ⟨fun _ _ => trivial, hK _ _ h⟩

theorem wpAnyIn_of {md : Region.Mode} (hd : ∀ (i : Nat) (o : Oper), ops[i]? = some o → ∀ c, o.op ≠ .defer c) (hQ : ¬ LetsOut Q) : ∀ (fuel : Nat) (listed : Array Bool) (a : Act) (w : World),
    wpAny P md ops Q fuel listed a w → wpAnyIn (Fence.wide.inRound l) n P md ops Q fuel listed a w
  | 0, _, _, _, h => h
  | fuel + 1, _, _, _, h => ⟨h.1, fun i hi => wpOpIn_of (hd i) hQ (fun a w h => wpAnyIn_of hd hQ fuel _ a w h) (h.2 i hi)⟩

def noDefer (ops : Array Oper) : Bool := ops.all fun o => match o.op with | .defer _ => false | _ => true
theorem noDefer_spec (h : noDefer ops = true) : ∀ (i : Nat) (o : Oper), ops[i]? = some o → ∀ c, o.op ≠ .defer c := by
  intro i o hi c e
  have := Array.all_eq_true'.1 h o (Array.mem_of_getElem? hi)
  rw [e] at this
  cases this

/-- A REGION THAT DRAWS, IN A ROUND -/
theorem wpIn_region_round {S : World → Prop} {id : Nat} {a : Act} {w : World} (hm : P.follows .mixedOrders = true) (hd : noDefer ops = true) (hQ : ∀ a w, ¬ Q .outgrown a w) (hS : S w.drew)
    (h : S w.drew → wpAnyH P .any ops Q S ops.size (Array.replicate ops.size false) a w.drew) : (Code.region id ops true).wpIn (Fence.wide.inRound l) n P Q a w :=
  wpIn_region_any hm (wpAnyIn_of (noDefer_spec hd) (fun ⟨a, w, h⟩ => hQ a w h) _ _ _ _ (wpAny_of_held _ _ _ _ (h hS)))

/-- the marks of some loops over functions -/
def mark (D : Nat) : Deferred := { target := .collected D, args := #[] }

theorem leaves_marks {F : Fence} {fn : Go.Func} {tmps : Array Value} {R : Ending → World → Prop} (Pst : World → Prop) (B : Nat) {v : Value}
    (hst : ∀ W D, Pst W → B ≤ D → W.heap[D]? = some (.deferred (some [])) → Pst (W.putObj D (.deferred none)))
    (hres : ∀ W, (results fn tmps).run P W = .ok v W) (hfin : ∀ W, Pst W → R (.returned v) W) :
    ∀ (ds : List Nat) (W : World), ds.Nodup → (∀ D ∈ ds, B ≤ D ∧ W.heap[D]? = some (.deferred (some []))) → Pst W → LeavesInM F n P fn tmps R (ds.map mark) .returning W
  | [], W, _, _, h => ⟨v, hres W, hfin W h⟩
  | D :: ds, W, hn, hd, h => by
    have hD := hd D (by simp)
    refine ⟨by simp, .inl ⟨_, _, rfl, run_takeDeferred hD.2, ?_⟩⟩
    refine leaves_marks Pst B hst hres hfin ds _ (List.nodup_cons.1 hn).2 (fun D' hD' => ⟨(hd D' (by simp [hD'])).1, ?_⟩) (hst W D h hD.1 hD.2)
    have hne : D' ≠ D := fun e => (List.nodup_cons.1 hn).1 (e ▸ hD')
    rw [World.putObj_heap_other hne]
    exact (hd D' (by simp [hD'])).2
end Mu
end
section
/-
  Abstract states: what a frame's slots, and the memory of the call's own, are known to be; and that such knowledge is kept.
  Conditions: none; generic.
-/
namespace Mu
open Go Go.RowKit

/-- what is known of a value -/
inductive AV : Type 1
  | any
  | lit (v : Value)
  | bs {α : Type} (T : Ty α) (l : List α)
  | tv {α : Type} (T : Ty α) (d : α)
  | own (i ver : Nat)
  | ptr (i off : Nat)
  | rp (i ver k off : Nat)
  | bp {α : Type} (T : Ty α) (d : α) (off : Nat)
  | agg (l : List AV)
  | tup (l : List AV)

/-- some memory of the call's own, of which something is known -/
structure Res where
  /-- marks of loops over functions, the newest first -/
  mrk : List Nat
  F : Nat → Prop
  R : World → (Nat → Prop) → Prop
  keep : ∀ {w w' : World} {S S' : Nat → Prop}, R w S → (∀ k, F k → w'.heap[k]? = w.heap[k]?) → (∀ k, S k → w'.heap[k]? = w.heap[k]?) → (∀ k, S k → S' k) → R w' S'

/-- what is known of a block of the call's own -/
inductive ABlk : Type 1
  | dead
  | box (cells : List AV)
  | row (ver : Nat) (e : TypeId) {α : Type} (T : Ty α) (l : List α)
  | res (R : Res)

def ABlk.mrk : ABlk → List Deferred
  | .res R => R.mrk.map mark
  | _ => []
/-- the marks of the loops over functions that are over -/
def mkD : List ABlk → List Deferred
  | [] => []
  | b :: h => mkD h ++ b.mrk
theorem mkD_push (h : List ABlk) (b : ABlk) : mkD (h ++ [b]) = b.mrk ++ mkD h := by
  induction h with
  | nil => simp [mkD]
  | cons c h ih => simp [mkD, ih]
theorem mkD_set {h : List ABlk} {i : Nat} {b b' : ABlk} (hi : h[i]? = some b) (e : b'.mrk = b.mrk) : mkD (h.set i b') = mkD h := by
  induction h generalizing i with
  | nil => simp at hi
  | cons c h ih =>
    cases i with
    | zero =>
      simp at hi
      subst hi
      simp [mkD, e]
    | succ i =>
      simp only [List.set_cons_succ, mkD]
      rw [ih (by simpa using hi)]
def ABlk.ver : Option ABlk → Option Nat
  | some (.row ver _ _ _) => some ver
  | _ => none
def ABlk.sz : Option ABlk → Nat
  | some (.row _ _ T _) => T.size
  | _ => 0
def ABlk.isBox : Option ABlk → Bool
  | some (.box _) => true
  | _ => false
def ABlk.live : Option ABlk → Bool
  | some (.box _) => true
  | some (.row _ _ _ _) => true
  | some (.res _) => true
  | _ => false
def blkOf : Value → Option Nat
  | .pointer (some a) => some a.block
  | .slice (some a) _ _ => some a.block
  | _ => none
/-- the blocks of it -/
def ftp : Option ABlk → Value → Nat → Prop
  | some (.res R), _, g => R.F g
  | _, v, g => blkOf v = some g

mutual
def AV.rel (w : World) (S : Nat → Prop) (h : List ABlk) (ψ : Nat → Value) : AV → Value → Prop
  | .any, _ => True
  | .lit u, v => v = u
  | .bs T l, v => T.slice.RS w S [v] l
  | .tv T d, v => T.RS w S [v] d
  | .own i ver, v => i < h.length ∧ ∀ c, ABlk.ver h[i]? = some c → ver ≤ c ∧ (ver = c → v = ψ i)
  | .ptr i off, v => i < h.length ∧ (ABlk.isBox h[i]? = true → ∃ g, ψ i = .pointer (some ⟨g, 0, none⟩) ∧ v = .pointer (some ⟨g, off, none⟩))
  | .rp i ver k off, v => i < h.length ∧ ∀ c, ABlk.ver h[i]? = some c → ver ≤ c ∧ (ver = c → ∃ g n c, ψ i = .slice (some ⟨g, 0, none⟩) n c ∧ v = .pointer (some ⟨g, k * ABlk.sz h[i]? + off, none⟩))
  | .bp T d off, v => ∃ b o, v = .pointer (some ⟨b, o + off, none⟩) ∧ T.AtS w S b o d
  | .agg l, v => ∃ cs : List Value, v = .agg cs.toArray ∧ AV.relL w S h ψ l cs
  | .tup l, v => ∃ cs : List Value, v = .tuple cs.toArray ∧ AV.relL w S h ψ l cs
def AV.relL (w : World) (S : Nat → Prop) (h : List ABlk) (ψ : Nat → Value) : List AV → List Value → Prop
  | [], cs => cs = []
  | x :: l, cs => ∃ v vs, cs = v :: vs ∧ AV.rel w S h ψ x v ∧ AV.relL w S h ψ l vs
end

/-- what is known stays known -/
structure Ext (w : World) (S : Nat → Prop) (h : List ABlk) (ψ : Nat → Value) (w' : World) (S' : Nat → Prop) (h' : List ABlk) (ψ' : Nat → Value) : Prop where
  blk : ∀ k, S k → w'.heap[k]? = w.heap[k]?
  sub : ∀ k, S k → S' k
  len : h.length ≤ h'.length
  ver : ∀ i c', i < h.length → ABlk.ver h'[i]? = some c' → ∃ c, ABlk.ver h[i]? = some c ∧ c ≤ c' ∧ (c = c' → ψ' i = ψ i ∧ ABlk.sz h'[i]? = ABlk.sz h[i]?)
  box : ∀ i, i < h.length → ABlk.isBox h'[i]? = true → ABlk.isBox h[i]? = true ∧ ψ' i = ψ i

section
variable {w : World} {S : Nat → Prop} {h : List ABlk} {ψ : Nat → Value} {w' : World} {S' : Nat → Prop} {h' : List ABlk} {ψ' : Nat → Value}

mutual
theorem AV.rel_ext (X : Ext w S h ψ w' S' h' ψ') : ∀ (x : AV) (v : Value), AV.rel w S h ψ x v → AV.rel w' S' h' ψ' x v
  | .any, _, _ => by unfold AV.rel; trivial
  | .lit u, v, H => by unfold AV.rel at H ⊢; exact H
  | .bs T l, v, H => by unfold AV.rel at H ⊢; exact T.slice.keepS H X.blk X.sub
  | .tv T d, v, H => by unfold AV.rel at H ⊢; exact T.keepS H X.blk X.sub
  | .own i ver, v, H => by
    unfold AV.rel at H ⊢
    refine ⟨Nat.lt_of_lt_of_le H.1 X.len, fun c' hv => ?_⟩
    obtain ⟨c, h1, h2, h3⟩ := X.ver i c' H.1 hv
    obtain ⟨k1, k2⟩ := H.2 c h1
    refine ⟨Nat.le_trans k1 h2, fun e => ?_⟩
    have e1 : c = c' := by omega
    rw [(h3 e1).1]
    exact k2 (by omega)
  | .ptr i off, v, H => by
    unfold AV.rel at H ⊢
    refine ⟨Nat.lt_of_lt_of_le H.1 X.len, fun hv => ?_⟩
    obtain ⟨h1, h2⟩ := X.box i H.1 hv
    rw [h2]
    exact H.2 h1
  | .rp i ver k off, v, H => by
    unfold AV.rel at H ⊢
    refine ⟨Nat.lt_of_lt_of_le H.1 X.len, fun c' hv => ?_⟩
    obtain ⟨c, h1, h2, h3⟩ := X.ver i c' H.1 hv
    obtain ⟨k1, k2⟩ := H.2 c h1
    refine ⟨Nat.le_trans k1 h2, fun e => ?_⟩
    have e1 : c = c' := by omega
    rw [(h3 e1).1, (h3 e1).2]
    exact k2 (by omega)
  | .bp T d off, v, H => by
    unfold AV.rel at H ⊢
    obtain ⟨b, o, e, hat⟩ := H
    exact ⟨b, o, e, hat.keep X.blk X.sub⟩
  | .agg l, v, H => by
    unfold AV.rel at H ⊢
    obtain ⟨cs, e, hl⟩ := H
    exact ⟨cs, e, AV.relL_ext X l cs hl⟩
  | .tup l, v, H => by
    unfold AV.rel at H ⊢
    obtain ⟨cs, e, hl⟩ := H
    exact ⟨cs, e, AV.relL_ext X l cs hl⟩
theorem AV.relL_ext (X : Ext w S h ψ w' S' h' ψ') : ∀ (l : List AV) (cs : List Value), AV.relL w S h ψ l cs → AV.relL w' S' h' ψ' l cs
  | [], cs, H => by unfold AV.relL at H ⊢; exact H
  | x :: l, cs, H => by
    unfold AV.relL at H ⊢
    obtain ⟨v, vs, e, h1, h2⟩ := H
    exact ⟨v, vs, e, AV.rel_ext X x v h1, AV.relL_ext X l vs h2⟩
end

theorem relL_len : ∀ {l : List AV} {cs : List Value}, AV.relL w S h ψ l cs → cs.length = l.length
  | [], cs, H => by unfold AV.relL at H; subst H; rfl
  | x :: l, cs, H => by
    unfold AV.relL at H
    obtain ⟨v, vs, rfl, _, h2⟩ := H
    simp [relL_len h2]
theorem relL_get : ∀ {l : List AV} {cs : List Value}, AV.relL w S h ψ l cs → ∀ {i : Nat} {x : AV}, l[i]? = some x → ∃ v, cs[i]? = some v ∧ AV.rel w S h ψ x v
  | [], cs, _, i, x, hx => by simp at hx
  | y :: l, cs, H, i, x, hx => by
    unfold AV.relL at H
    obtain ⟨v, vs, rfl, h1, h2⟩ := H
    cases i with
    | zero => simp at hx; subst hx; exact ⟨v, by simp, h1⟩
    | succ i => simpa using relL_get h2 (i := i) (by simpa using hx)
theorem relL_of : ∀ {l : List AV} {cs : List Value}, cs.length = l.length → (∀ (i : Nat) (x : AV) (v : Value), l[i]? = some x → cs[i]? = some v → AV.rel w S h ψ x v) → AV.relL w S h ψ l cs
  | [], cs, hl, _ => by unfold AV.relL; exact List.eq_nil_of_length_eq_zero hl
  | y :: l, v :: vs, hl, H => by
    unfold AV.relL
    exact ⟨v, vs, rfl, H 0 y v rfl rfl, relL_of (by simpa using hl) fun i x u hx hu => H (i + 1) x u (by simpa using hx) (by simpa using hu)⟩
theorem relL_set {l : List AV} {cs : List Value} (H : AV.relL w S h ψ l cs) (i : Nat) {x : AV} {v : Value} (hv : AV.rel w S h ψ x v) : AV.relL w S h ψ (l.set i x) (cs.set i v) := by
  refine relL_of (by simp [relL_len H]) fun j y u hy hu => ?_
  by_cases hj : i = j
  · subst hj
    have h1 : i < l.length := by
      rcases Nat.lt_or_ge i l.length with h | h
      · exact h
      · simp [h] at hy
    rw [List.getElem?_set_self h1] at hy
    rw [List.getElem?_set_self (by rw [relL_len H]; exact h1)] at hu
    cases hy
    cases hu
    exact hv
  · rw [List.getElem?_set_ne hj] at hy hu
    obtain ⟨u', h1, h2⟩ := relL_get H hy
    rw [h1] at hu
    cases hu
    exact h2
theorem relL_append {l m : List AV} {cs ds : List Value} (H : AV.relL w S h ψ l cs) (G : AV.relL w S h ψ m ds) : AV.relL w S h ψ (l ++ m) (cs ++ ds) := by
  refine relL_of (by simp [relL_len H, relL_len G]) fun j y u hy hu => ?_
  by_cases hj : j < l.length
  · rw [List.getElem?_append_left hj] at hy
    rw [List.getElem?_append_left (by rw [relL_len H]; exact hj)] at hu
    obtain ⟨u', h1, h2⟩ := relL_get H hy
    rw [h1] at hu
    cases hu
    exact h2
  · rw [List.getElem?_append_right (by omega)] at hy
    rw [List.getElem?_append_right (by rw [relL_len H]; omega), relL_len H] at hu
    obtain ⟨u', h1, h2⟩ := relL_get G hy
    rw [h1] at hu
    cases hu
    exact h2
theorem relL_drop {l : List AV} {cs : List Value} (H : AV.relL w S h ψ l cs) (n : Nat) : AV.relL w S h ψ (l.drop n) (cs.drop n) := by
  refine relL_of (by simp [relL_len H]) fun j y u hy hu => ?_
  rw [List.getElem?_drop] at hy hu
  obtain ⟨u', h1, h2⟩ := relL_get H hy
  rw [h1] at hu
  cases hu
  exact h2
theorem relL_take {l : List AV} {cs : List Value} (H : AV.relL w S h ψ l cs) (n : Nat) : AV.relL w S h ψ (l.take n) (cs.take n) := by
  refine relL_of (by simp [relL_len H]) fun j y u hy hu => ?_
  rw [List.getElem?_take] at hy hu
  split at hy
  · rename_i hj
    rw [if_pos hj] at hu
    obtain ⟨u', h1, h2⟩ := relL_get H hy
    rw [h1] at hu
    cases hu
    exact h2
  · cases hy
end

/-- one block of the call's own -/
def BRel (N : Nat → Prop) (w : World) (S : Nat → Prop) (h : List ABlk) (ψ : Nat → Value) (v : Value) : ABlk → Prop
  | .dead => True
  | .box cells => ∃ g cs e, v = .pointer (some ⟨g, 0, none⟩) ∧ ¬ N g ∧ ¬ S g ∧ w.heap[g]? = some (.cells (List.toArray cs) e (0, 0)) ∧ AV.relL w S h ψ cells cs
  | .row _ e T l => ∃ cells, w.ownsRow 0 e T.size v l.length cells ∧ 0 < T.size ∧ (∀ i d, l[i]? = some d → T.RS w S ((cells.drop (i * T.size)).take T.size) d) ∧ ∀ g, v.ownBlock = some g → ¬ N g ∧ ¬ S g
  | .res R => (∀ g, R.F g → ¬ N g ∧ ¬ S g ∧ g < w.heap.size) ∧ R.R w S

/-- the frame of a call: the world at its beginning; what it may read; what it must leave -/
structure Ctx where
  w0 : World
  S0 : Nat → Prop
  N : Nat → Prop
  /-- the loop over a function, in a round of which one is -/
  rd : Option Nat
def Ctx.std (C : Ctx) : Prop := ∀ k, k < C.w0.heap.size → C.N k
/-- blocks that are left as they are -/
structure Kp (N : Nat → Prop) (w w' : World) : Prop where
  os : w'.os = w.os
  tape : w'.tape = w.tape
  output : w'.output = w.output
  size : w.heap.size ≤ w'.heap.size
  block : ∀ k, N k → w'.heap[k]? = w.heap[k]?
theorem Kp.refl (N : Nat → Prop) (w : World) : Kp N w w := ⟨rfl, rfl, rfl, Nat.le_refl _, fun _ _ => rfl⟩
theorem Kp.trans {N : Nat → Prop} {a b c : World} (h : Kp N a b) (k : Kp N b c) : Kp N a c :=
  ⟨k.os.trans h.os, k.tape.trans h.tape, k.output.trans h.output, Nat.le_trans h.size k.size, fun i hi => (k.block i hi).trans (h.block i hi)⟩
theorem Kp.of_below {N : Nat → Prop} {B : Nat} {a b : World} (h : Below B a b) (hN : ∀ k, N k → k < B) : Kp N a b := ⟨h.os, h.tape, h.output, h.size, fun k hk => h.block k (hN k hk)⟩
theorem Kp.below {N : Nat → Prop} {B : Nat} {a b : World} (h : Kp N a b) (hN : ∀ k, k < B → N k) : Below B a b := ⟨h.os, h.tape, h.output, h.size, fun k hk => h.block k (hN k hk)⟩

structure HRel (C : Ctx) (h : List ABlk) (S : Nat → Prop) (ψ : Nat → Value) (w : World) : Prop where
  bel : Kp C.N C.w0 w
  nlt : ∀ k, C.N k → k < C.w0.heap.size
  lt : ∀ k, S k → k < w.heap.size
  sub : ∀ k, C.S0 k → S k
  new : ∀ k, S k → C.S0 k ∨ C.w0.heap.size ≤ k
  blk : ∀ i b, h[i]? = some b → BRel C.N w S h ψ (ψ i) b
  dis : ∀ i j, i ≠ j → ABlk.live h[i]? = true → ABlk.live h[j]? = true → ∀ g, ftp h[i]? (ψ i) g → ¬ ftp h[j]? (ψ j) g

theorem ownBlock_blkOf {v : Value} {g : Nat} (h : v.ownBlock = some g) : blkOf v = some g := by
  cases v <;> simp [Value.ownBlock, blkOf] at h ⊢
  rename_i a _ _
  cases a <;> simp [] at h ⊢
  exact h
theorem ownsRow_same {w w' : World} {base : Nat} {e : TypeId} {size : Nat} {v : Value} {n : Nat} {xs : List Value} (h : w.ownsRow base e size v n xs) (hb : ∀ g, blkOf v = some g → w'.heap[g]? = w.heap[g]?) : w'.ownsRow base e size v n xs := by
  obtain ⟨h1, h2⟩ := h
  refine ⟨h1, ?_⟩
  rcases h2 with h2 | ⟨g, cap, cur, rfl, hg, hh, r⟩
  · exact .inl h2
  · exact .inr ⟨g, cap, cur, rfl, hg, (hb g rfl).trans hh, r⟩
theorem BRel.keep {N : Nat → Prop} {w w' : World} {S S' : Nat → Prop} {h h' : List ABlk} {ψ ψ' : Nat → Value} {v : Value} {b : ABlk} (H : BRel N w S h ψ v b) (X : Ext w S h ψ w' S' h' ψ')
    (hb : ∀ g, ftp (some b) v g → w'.heap[g]? = w.heap[g]? ∧ (¬ S g → ¬ S' g)) : BRel N w' S' h' ψ' v b := by
  cases b with
  | dead => trivial
  | box cells =>
    obtain ⟨g, cs, e, rfl, h1, h2, h3, h4⟩ := H
    obtain ⟨k1, k2⟩ := hb g rfl
    exact ⟨g, cs, e, rfl, h1, k2 h2, k1.trans h3, AV.relL_ext X _ _ h4⟩
  | row ver e T l =>
    obtain ⟨cells, h1, h0, h2, h3⟩ := H
    refine ⟨cells, ownsRow_same h1 fun g hg => (hb g hg).1, h0, fun i d hd => T.keepS (h2 i d hd) X.blk X.sub, fun g hg => ⟨(h3 g hg).1, (hb g (ownBlock_blkOf hg)).2 (h3 g hg).2⟩⟩
  | res R =>
    obtain ⟨h1, h2⟩ := H
    refine ⟨fun g hg => ?_, R.keep h2 (fun k hk => (hb k hk).1) X.blk X.sub⟩
    obtain ⟨k1, k2, k3⟩ := h1 g hg
    obtain ⟨k4, k5⟩ := hb g hg
    refine ⟨k1, k5 k2, ?_⟩
    rw [Array.getElem?_eq_getElem k3] at k4
    exact (Array.getElem?_eq_some_iff.1 k4).1
theorem BRel.lt {N : Nat → Prop} {w : World} {S : Nat → Prop} {h : List ABlk} {ψ : Nat → Value} {v : Value} {b : ABlk} (H : BRel N w S h ψ v b) (hl : ABlk.live (some b) = true) : ∀ g, ftp (some b) v g → ¬ N g ∧ g < w.heap.size ∧ ¬ S g := by
  cases b with
  | dead => simp [ABlk.live] at hl
  | box cells =>
    obtain ⟨g, cs, e, rfl, h1, h2, h3, h4⟩ := H
    intro g' hg
    simp [ftp, blkOf] at hg
    subst hg
    exact ⟨h1, (Array.getElem?_eq_some_iff.1 h3).1, h2⟩
  | row ver e T l =>
    obtain ⟨cells, h1, h0, h2, h3⟩ := H
    intro g hg
    have hg' : v.ownBlock = some g := by
      rcases h1.2 with ⟨rfl, _⟩ | ⟨g', cap, cur, rfl, _⟩
      · simp [ftp, blkOf] at hg
      · simpa [ftp, blkOf, Value.ownBlock] using hg
    obtain ⟨k1, k2⟩ := World.ownsRow.lt h1 g hg'
    exact ⟨(h3 g hg').1, k2, (h3 g hg').2⟩
  | res R =>
    intro g hg
    obtain ⟨k1, k2, k3⟩ := H.1 g hg
    exact ⟨k1, k3, k2⟩

/-- the world grows, and what may be read with it; the blocks of the call's own stay -/
theorem Ext.grow {w w' : World} {S S' : Nat → Prop} (h : List ABlk) (ψ : Nat → Value) (hb : ∀ k, S k → w'.heap[k]? = w.heap[k]?) (hs : ∀ k, S k → S' k) : Ext w S h ψ w' S' h ψ :=
  ⟨hb, hs, Nat.le_refl _, fun _ c' _ hv => ⟨c', hv, Nat.le_refl _, fun _ => ⟨rfl, rfl⟩⟩, fun _ _ hv => ⟨hv, rfl⟩⟩
theorem HRel.grow {C : Ctx} {h : List ABlk} {S S' : Nat → Prop} {ψ : Nat → Value} {w w' : World} (H : HRel C h S ψ w) (hb : Below w.heap.size w w') (hs : ∀ k, S k → S' k) (hn : ∀ k, S' k → S k ∨ w.heap.size ≤ k) (hl : ∀ k, S' k → k < w'.heap.size) :
    HRel C h S' ψ w' := by
  refine ⟨H.bel.trans (Kp.of_below hb fun k hk => Nat.lt_of_lt_of_le (H.nlt k hk) H.bel.size), H.nlt, hl, fun k hk => hs k (H.sub k hk), fun k hk => ?_, fun i b hi => ?_, H.dis⟩
  · rcases hn k hk with h1 | h1
    · exact H.new k h1
    · exact .inr (Nat.le_trans H.bel.size h1)
  · by_cases hlv : ABlk.live (some b) = true
    · refine (H.blk i b hi).keep (Ext.grow h ψ (fun k hk => hb.block k (H.lt k hk)) hs) fun g hg => ?_
      obtain ⟨k1, k2, k3⟩ := (H.blk i b hi).lt hlv g hg
      refine ⟨hb.block g k2, fun _ hg' => ?_⟩
      rcases hn g hg' with h1 | h1
      · exact k3 h1
      · omega
    · cases b <;> simp [ABlk.live] at hlv
      trivial

structure St where
  t : List AV
  h : List ABlk
def St.rel (C : Ctx) (s : St) (a : Act) (w : World) : Prop := a.defers = mkD s.h ∧ ∃ S ψ, HRel C s.h S ψ w ∧ AV.relL w S s.h ψ s.t a.tmps.toList

def evA (t : List AV) : Operand → AV
  | .tmp i => (t[i]?).getD (.lit undef)
  | .const v => .lit v
  | .global g => .lit (.pointer (some ⟨g, 0, none⟩))
  | .func f => .lit (.func (.func f) #[] #[])
def putA (t : List AV) (dst : Option Tmp) (r : AV) : List AV :=
  match dst with
  | some d => t.set d r
  | none => t
theorem ev_rel {w : World} {S : Nat → Prop} {h : List ABlk} {ψ : Nat → Value} {t : List AV} {a : Act} (H : AV.relL w S h ψ t a.tmps.toList) (x : Operand) : AV.rel w S h ψ (evA t x) (a.eval x) := by
  cases x with
  | tmp i =>
    show AV.rel w S h ψ ((t[i]?).getD (.lit undef)) (a.tmps.getD i undef)
    rw [Array.getD_eq_getD_getElem?]
    cases hi : t[i]? with
    | none =>
      have : a.tmps[i]? = none := by
        rw [List.getElem?_eq_none_iff] at hi
        have := relL_len H
        simp at this
        rw [Array.getElem?_eq_none_iff]
        omega
      rw [this]
      simp [AV.rel]
    | some x =>
      obtain ⟨v, h1, h2⟩ := relL_get H hi
      have : a.tmps[i]? = some v := by simpa using h1
      rw [this]
      exact h2
  | const v => simp [evA, Act.eval, AV.rel]
  | global g => simp [evA, Act.eval, AV.rel]
  | func f => simp [evA, Act.eval, AV.rel]
theorem put_rel {w : World} {S : Nat → Prop} {h : List ABlk} {ψ : Nat → Value} {t : List AV} {a : Act} (H : AV.relL w S h ψ t a.tmps.toList) (d : Option Tmp) {r : AV} {v : Value} (hr : AV.rel w S h ψ r v) : AV.relL w S h ψ (putA t d r) (a.put d v).tmps.toList := by
  cases d with
  | none => exact H
  | some d =>
    unfold putA Act.put
    simp only [Array.toList_setIfInBounds]
    exact relL_set H d hr
theorem put_defers (a : Act) (d : Option Tmp) (v : Value) : (a.put d v).defers = a.defers := by cases d <;> rfl
end Mu
end
section
/-
  Walking over abstract states: the rules of the control; regions, whatever their order.
  Conditions: none; generic.
-/
namespace Mu
open Go Go.RowKit

section
variable {P : Program} {C : Ctx}

/-- no bounds; in a round, or not -/
def fnc : Option Nat → Fence
  | none => Fence.wide
  | some l => Fence.wide.inRound l
theorem fnc_round (rd : Option Nat) : (fnc rd).round = rd := by cases rd <;> rfl
theorem fnc_fn (rd : Option Nat) (f : FuncId) : (fnc rd).fn f := by cases rd <;> trivial
theorem fnc_room (rd : Option Nat) (n : Nat) : (fnc rd).room n := by cases rd <;> exact fun _ h => by simp [fnc, Fence.wide, Fence.inRound] at h
theorem fnc_depth (rd : Option Nat) : (fnc rd).depth = none := by cases rd <;> rfl
theorem fnc_n {rd : Option Nat} {n m : Nat} {c : Code} {Q : Exit → Act → World → Prop} {a : Act} {w : World} (h : c.wpIn (fnc rd) n P Q a w) : c.wpIn (fnc rd) m P Q a w := fun b k cs h1 h2 _ => h b k cs h1 h2 (fnc_room _ _)
theorem fnc_calls {rd : Option Nat} {n : Nat} {f : FuncId} {args : Array Value} {w : World} {R : Ending → World → Prop} (h : Calls P f args w R) : CallsIn (fnc rd) n P f args w R := by
  cases rd with
  | none => exact callsIn_wide.2 h
  | some l => exact callsIn_of h
theorem fnc_rows {rd : Option Nat} {n : Nat} {row : String} {args : Array Value} {w : World} {R : Value → World → Prop} (h : Rows P row args w R) : RowsIn (fnc rd) n P row args w R := by
  cases rd with
  | none => exact fun c cs _ => let ⟨v, w', r, s⟩ := h c cs; ⟨v, w', r, stepsIn_wide.2 s⟩
  | some l => exact rowsIn_of h
theorem fnc_oper {rd : Option Nat} {n : Nat} {o : Oper} {a : Act} {w : World} {K : Act → World → Prop} {Q : Exit → Act → World → Prop} (hd : ∀ c, o.op ≠ .defer c) (_hQ : ¬ LetsOut Q) (h : o.wp P a w K Q) : o.wpIn (fnc rd) n P a w K Q := by
  refine ⟨fun _ _ => fnc_fn _ _, ?_⟩
  rw [Oper.semAt_eq _ _ _ hd]
  unfold Oper.wp at h
  generalize (execOp a.eval o).run P w = r at *
  cases r with
  | ok x w' =>
    cases x <;> simp only [Oper.uponIn, Oper.upon] at h ⊢
    case value => exact h
    case skip => exact h
    case defer => exact h
    case enter => exact ⟨fun h => (by rw [fnc_depth] at h; cases h), (fnc_calls h).mono fun e w'' he => by cases e <;> exact he⟩
    case row => exact ⟨fun h => (by rw [fnc_depth] at h; cases h), (fnc_rows h).mono fun _ _ he => he⟩
  | halt x w' => cases x <;> simp only [Oper.uponIn, Oper.upon] at h ⊢ <;> exact h
theorem fnc_region {rd : Option Nat} {n id : Nat} {ops : Array Oper} {Q : Exit → Act → World → Prop} {a : Act} {w : World} (hm : P.follows .mixedOrders = true) (hd : noDefer ops = true)
    (h : wpAny P .any ops (fun e a w => e = .normal ∧ Q e a w) ops.size (Array.replicate ops.size false) a w.drew) : (Code.region id ops true).wpIn (fnc rd) n P Q a w := by
  cases rd with
  | none => exact wpIn_wide.2 (wp_mono (wp_region_any hm h) fun e a w h => h.2)
  | some l => exact wpIn_mono (wpIn_region_any hm (wpAnyIn_of (noDefer_spec hd) (fun ⟨_, _, h⟩ => by cases h.1) _ _ _ _ h)) fun e a w h => h.2

def Awp (P : Program) (C : Ctx) (c : Code) (Q : Exit → St → Prop) (s : St) : Prop :=
  ∀ a w, s.rel C a w → c.wpIn (fnc C.rd) 4 P (fun e a' w' => ∃ s', Q e s' ∧ s'.rel C a' w') a w
theorem Awp.wp {c : Code} {Q : Exit → St → Prop} {s : St} (hr : C.rd = none) (h : Awp P C c Q s) {a : Act} {w : World} (H : s.rel C a w) : c.wp P (fun e a' w' => ∃ s', Q e s' ∧ s'.rel C a' w') a w := by
  have := h a w H
  rw [hr] at this
  exact wpIn_wide.1 this
def athen (K : St → Prop) (Q : Exit → St → Prop) : Exit → St → Prop
  | .normal, s => K s
  | e, s => Q e s
def ablock (id : Nat) (Q : Exit → St → Prop) : Exit → St → Prop
  | .exit i, s => if i = id then Q .normal s else Q (.exit i) s
  | e, s => Q e s
def ascope (Q : Exit → St → Prop) : Exit → St → Prop
  | .goto _, _ => False
  | e, s => Q e s
def St.le (C : Ctx) (s s' : St) : Prop := ∀ a w, s.rel C a w → s'.rel C a w

theorem Awp.mono {c : Code} {Q Q' : Exit → St → Prop} {s : St} (h : Awp P C c Q s) (hq : ∀ e s, Q e s → Q' e s) : Awp P C c Q' s :=
  fun a w H => wpIn_mono (h a w H) fun e _ _ ⟨s', q, r⟩ => ⟨s', hq e s' q, r⟩
theorem Awp.le {c : Code} {Q : Exit → St → Prop} {s s' : St} (hl : St.le C s s') (h : Awp P C c Q s') : Awp P C c Q s := fun a w H => h a w (hl a w H)
theorem Awp.skip {Q : Exit → St → Prop} {s : St} (h : Q .normal s) : Awp P C .skip Q s := fun _ _ H => wpIn_skip ⟨s, h, H⟩
theorem Awp.label {l : Nat} {Q : Exit → St → Prop} {s : St} (h : Q .normal s) : Awp P C (.label l) Q s := fun _ _ H => wpIn_label ⟨s, h, H⟩
theorem Awp.exit {id : Nat} {Q : Exit → St → Prop} {s : St} (h : Q (.exit id) s) : Awp P C (.exit id) Q s := fun _ _ H => wpIn_exit ⟨s, h, H⟩
theorem Awp.ret {Q : Exit → St → Prop} {s : St} (h : Q .ret s) : Awp P C .ret Q s := fun _ _ H => wpIn_ret ⟨s, h, H⟩
theorem Awp.seq {x y : Code} {Q : Exit → St → Prop} {s : St} (h : ∀ K : St → Prop, (∀ s, Awp P C y Q s → K s) → Awp P C x (athen K Q) s) : Awp P C (.seq x y) Q s := fun a w H =>
  wpIn_seq (wpIn_mono (h _ (fun _ h => h) a w H) fun e a' w' ⟨s', q, r⟩ => by
    cases e with
    | normal => exact q a' w' r
    | _ => exact ⟨s', q, r⟩)
theorem Awp.cond {k : Operand} {x y : Code} {b : Bool} {Q : Exit → St → Prop} {s : St} (hc : evA s.t k = .lit (.bool b)) (ht : b = true → Awp P C x Q s) (hf : b = false → Awp P C y Q s) : Awp P C (.cond k x y) Q s := fun a w H => by
  obtain ⟨_, S, ψ, _, hl⟩ := id H
  have := ev_rel hl k
  rw [hc] at this
  unfold AV.rel at this
  exact wpIn_cond_split this (fun e => ht e a w H) (fun e => hf e a w H)
theorem Awp.block {id : Nat} {c : Code} {Q : Exit → St → Prop} {s : St} (h : Awp P C c (ablock id Q) s) : Awp P C (.block id c) Q s := fun a w H =>
  wpIn_block (wpIn_mono (h a w H) fun e a' w' ⟨s', q, r⟩ => by
    cases e with
    | exit i =>
      by_cases hi : i = id
      · simp only [ablock, Exit.inBlock, hi, if_true] at q ⊢
        exact ⟨s', q, r⟩
      · simp only [ablock, Exit.inBlock, hi, if_false] at q ⊢
        exact ⟨s', q, r⟩
    | _ => exact ⟨s', q, r⟩)
theorem wpIn_scope_straight {F : Fence} {n : Nat} {c : Code} {Q : Exit → Act → World → Prop} {a : Act} {w : World} (h : c.wpIn F n P (Exit.noGoto Q) a w) : (Code.scope c).wpIn F n P Q a w := by
  intro b k cs hro hb hr
  obtain ⟨e, a₁, w₁, hq, harr⟩ := h b (.inScope c :: k) cs hro hb hr
  have h0 : (lone (b.atR a (.code (.scope c) :: k)) cs w).fenced P F := fenced_calm hb hr rfl
  have s0 : step P (lone (b.atR a (.code (.scope c) :: k)) cs w) = .next (lone (b.atR a (.code c :: .inScope c :: k)) cs w) := step_lone_go (by simp [stepG, stepG.exec, Frame.atR])
  have s1 : step P (lone (b.atR a₁ (.inScope c :: k)) cs w₁) = .next (lone (b.atR a₁ k) cs w₁) := step_lone_go (by simp [stepG, stepG.exec, Frame.atR])
  have h1 : (lone (b.atR a₁ (.inScope c :: k)) cs w₁).fenced P F := fenced_calm hb hr rfl
  cases e with
  | normal => exact ⟨.normal, a₁, w₁, hq, .head h0 s0 (StepsIn.trans harr (.one h1 s1))⟩
  | exit id =>
    refine ⟨.exit id, a₁, w₁, hq, fun k' hk => .head h0 s0 (harr.1 k' (by simp [exitTo, hk])), fun hr' hk => ?_⟩
    obtain ⟨k₁, h2, h3⟩ := harr.2 hr' (by simp [exitTo, hk])
    exact ⟨k₁, h2, .head h0 s0 h3⟩
  | goto l => exact hq.elim
  | ret => exact ⟨_, a₁, w₁, hq, .of_steps (.one h0 s0) harr⟩
  | panic ch => exact ⟨_, a₁, w₁, hq, .of_steps (.one h0 s0) harr⟩
  | outgrown => exact ⟨_, a₁, w₁, hq, .of_steps (.one h0 s0) harr⟩
theorem Awp.scope {c : Code} {Q : Exit → St → Prop} {s : St} (h : Awp P C c (ascope Q) s) : Awp P C (.scope c) Q s := fun a w H =>
  wpIn_scope_straight (wpIn_mono (h a w H) fun e a' w' ⟨s', q, r⟩ => by
    cases e with
    | goto l => exact q.elim
    | _ => exact ⟨s', q, r⟩)
theorem least_of {p : Nat → Prop} (h : ∃ m, p m) : ∃ m, p m ∧ ∀ k, p k → m ≤ k := by
  obtain ⟨m, hm⟩ := h
  induction m using Nat.strongRecOn with
  | _ m ih =>
    by_cases hk : ∃ k, k < m ∧ p k
    · obtain ⟨k, hkm, hpk⟩ := hk
      exact ih k hkm hpk
    · exact ⟨m, hm, fun k hpk => Nat.le_of_not_lt fun hlt => hk ⟨k, hlt, hpk⟩⟩
theorem Awp.loop {c : Code} {Q : Exit → St → Prop} {s : St} (J : Nat → St → Prop) (m : Nat) (h0 : ∃ s', St.le C s s' ∧ J m s')
    (hr : ∀ m s, J m s → Awp P C c (athen (fun s' => ∃ m', m' < m ∧ ∃ s'', St.le C s' s'' ∧ J m' s'') Q) s) : Awp P C (.loop c) Q s := fun a w H => by
  classical
  let In : Act → World → Prop := fun a w => ∃ m, ∃ s, J m s ∧ s.rel C a w
  let μ : Act → World → Nat := fun a w => if h : ∃ m, ∃ s, J m s ∧ s.rel C a w then Classical.choose (least_of h) else 0
  obtain ⟨s', hle, hJ⟩ := h0
  refine wpIn_loop In μ ⟨m, s', hJ, hle a w H⟩ fun a w hI => ?_
  have hf := (Classical.choose_spec (least_of hI)).1
  obtain ⟨s1, h1, h2⟩ := hf
  have hμ : μ a w = Classical.choose (least_of hI) := dif_pos hI
  refine wpIn_mono (hr _ s1 h1 a w h2) fun e a' w' ⟨s2, q, r⟩ => ?_
  cases e with
  | normal =>
    obtain ⟨m', hm, s3, hle3, hJ3⟩ := q
    have hI' : In a' w' := ⟨m', s3, hJ3, hle3 a' w' r⟩
    refine ⟨hI', ?_⟩
    have : μ a' w' = Classical.choose (least_of hI') := dif_pos hI'
    rw [this, hμ]
    exact Nat.lt_of_le_of_lt ((Classical.choose_spec (least_of hI')).2 _ ⟨s3, hJ3, hle3 a' w' r⟩) hm
  | _ => exact ⟨s2, q, r⟩

/-! ### operations -/
def AOp (P : Program) (C : Ctx) (o : Oper) (s : St) (K : St → Prop) : Prop :=
  ∀ (Q' : Exit → Act → World → Prop) a w, s.rel C a w → (∀ c, o.op ≠ .defer c) ∧ o.wp P a w (fun a' w' => ∃ s', K s' ∧ s'.rel C a' w') Q'
def gA (ops : Array Oper) (t : List AV) (o : Oper) : Option Bool :=
  match o.guard with
  | none => some true
  | some (j, want) =>
    match ((ops[j]?).bind (·.dst)).bind (t[·]?) with
    | some (.lit (.bool b)) => some (b == want)
    | some (.lit (.tuple _)) => some false
    | _ => none
theorem gA_wanted {ops : Array Oper} {t : List AV} {o : Oper} {b : Bool} {a : Act} {w : World} {S : Nat → Prop} {h : List ABlk} {ψ : Nat → Value} (hg : gA ops t o = some b) (hl : AV.relL w S h ψ t a.tmps.toList) :
    Region.wanted o (yielded ops a.tmps) = b := by
  unfold gA at hg
  unfold Region.wanted
  cases ho : o.guard with
  | none => simpa [ho] using hg
  | some p =>
    obtain ⟨j, want⟩ := p
    rw [ho] at hg
    simp only at hg ⊢
    unfold yielded
    cases hd : (ops[j]?).bind (·.dst) with
    | none => rw [hd] at hg; simp at hg
    | some d =>
      rw [hd] at hg
      simp only [Option.bind_some] at hg ⊢
      cases hx : t[d]? with
      | none => rw [hx] at hg; simp at hg
      | some x =>
        rw [hx] at hg
        obtain ⟨v, h1, h2⟩ := relL_get hl hx
        have h1' : a.tmps[d]? = some v := by simpa using h1
        rw [h1']
        split at hg
        · rename_i b' heq
          cases heq
          unfold AV.rel at h2
          subst h2
          simpa using hg
        · rename_i vs heq
          cases heq
          unfold AV.rel at h2
          subst h2
          simpa using hg
        · cases hg
def aSeq (P : Program) (C : Ctx) (ops : Array Oper) (K : St → Prop) : List Oper → St → Prop
  | [], s => K s
  | o :: rest, s => ∃ b, gA ops s.t o = some b ∧ (b = true → AOp P C o s (aSeq P C ops K rest)) ∧ (b = false → aSeq P C ops K rest ⟨putA s.t o.dst (.lit undef), s.h⟩)
theorem undef_rel {s : St} {a : Act} {w : World} (H : s.rel C a w) (d : Option Tmp) : St.rel C ⟨putA s.t d (.lit undef), s.h⟩ (a.put d undef) w := by
  obtain ⟨hd, S, ψ, hh, hl⟩ := H
  exact ⟨by rw [put_defers]; exact hd, S, ψ, hh, put_rel hl d (by unfold AV.rel; rfl)⟩
theorem wpList_of_aSeq {ops : Array Oper} {K : St → Prop} {Q' : Exit → Act → World → Prop} (hQ : ∀ s a w, K s → s.rel C a w → Q' .normal a w) : ∀ (l : List Oper) (s : St) (a : Act) (w : World), aSeq P C ops K l s → s.rel C a w → wpList P ops Q' l a w
  | [], s, a, w, h, H => hQ s a w h H
  | o :: rest, s, a, w, h, H => by
    obtain ⟨b, hg, ht, hf⟩ := h
    obtain ⟨_, S, ψ, _, hl⟩ := id H
    have hw := gA_wanted hg hl
    unfold wpList
    rw [hw]
    cases b with
    | true =>
      rw [if_pos rfl]
      exact .inl (Oper.wp_mono (fun a' w' ⟨s', h1, h2⟩ => wpList_of_aSeq hQ rest s' a' w' h1 h2) (ht rfl Q' a w H).2)
    | false =>
      rw [if_neg (by simp)]
      exact wpList_of_aSeq hQ rest _ _ w (hf rfl) (undef_rel H o.dst)
theorem wpListIn_of_aSeq {rd : Option Nat} {ops : Array Oper} {K : St → Prop} {Q' : Exit → Act → World → Prop} (hlo : ¬ LetsOut Q') (hQ : ∀ s a w, K s → s.rel C a w → Q' .normal a w) : ∀ (l : List Oper) (s : St) (a : Act) (w : World), aSeq P C ops K l s → s.rel C a w → wpListIn (fnc rd) 4 P ops Q' l a w
  | [], s, a, w, h, H => hQ s a w h H
  | o :: rest, s, a, w, h, H => by
    obtain ⟨b, hg, ht, hf⟩ := h
    obtain ⟨_, S, ψ, _, hl⟩ := id H
    have hw := gA_wanted hg hl
    unfold wpListIn
    rw [hw]
    cases b with
    | true =>
      rw [if_pos rfl]
      exact fnc_oper (ht rfl Q' a w H).1 hlo (Oper.wp_mono (fun a' w' ⟨s', h1, h2⟩ => wpListIn_of_aSeq hlo hQ rest s' a' w' h1 h2) (ht rfl Q' a w H).2)
    | false =>
      rw [if_neg (by simp)]
      exact ⟨fun _ _ => fnc_fn _ _, wpListIn_of_aSeq hlo hQ rest _ _ w (hf rfl) (undef_rel H o.dst)⟩
theorem Awp.region {id : Nat} {l : List Oper} {Q : Exit → St → Prop} {s : St} (h : aSeq P C l.toArray (Q .normal) l s) : Awp P C (.region id l.toArray false) Q s := fun a w H =>
  wpIn_mono (wpIn_region_lit (wpListIn_of_aSeq (Q' := fun e a' w' => e = .normal ∧ ∃ s', Q e s' ∧ s'.rel C a' w') (fun ⟨_, _, h⟩ => by cases h.1) (fun s a w h H => ⟨rfl, s, h, H⟩) l s a w h H)) fun _ _ _ h => h.2

/-! ### operations that leave the call's own memory alone -/
def Good (w : World) (S : Nat → Prop) (h : List ABlk) (ψ : Nat → Value) (r : AV) (v : Value) (w' : World) : Prop :=
  Below w.heap.size w w' ∧ ∃ S' : Nat → Prop, (∀ k, S k → S' k) ∧ (∀ k, S' k → S k ∨ w.heap.size ≤ k) ∧ (∀ k, S' k → k < w'.heap.size) ∧ AV.rel w' S' h ψ r v
def qUpon (P : Program) (w : World) (S : Nat → Prop) (h : List ABlk) (ψ : Nat → Value) (r : AV) : Result Next → Prop
  | .ok (.value v) w' => Good w S h ψ r v w'
  | .ok .skip w' => Good w S h ψ r undef w'
  | .ok (.enter f args) w1 => w1 = w ∧ Calls P f args w fun e w' => ∃ v, e = .returned v ∧ Good w S h ψ r v w'
  | _ => False
def Quiet (P : Program) (C : Ctx) (t : List AV) (h : List ABlk) (o : Oper) (r : AV) : Prop :=
  ∀ S ψ w (ρ : Operand → Value), HRel C h S ψ w → (∀ x ∈ o.op.operands, AV.rel w S h ψ (evA t x) (ρ x)) → qUpon P w S h ψ r ((execOp ρ o).run P w)
theorem Good.same {w : World} {S : Nat → Prop} {h : List ABlk} {ψ : Nat → Value} {r : AV} {v : Value} (hl : ∀ k, S k → k < w.heap.size) (hr : AV.rel w S h ψ r v) : Good w S h ψ r v w :=
  ⟨Below.refl _ _, S, fun _ h => h, fun _ h => .inl h, hl, hr⟩
theorem upon_of_q {o : Oper} {s : St} {r : AV} {a : Act} {w : World} {S : Nat → Prop} {ψ : Nat → Value} {K : Act → World → Prop} {Q' : Exit → Act → World → Prop} {res : Result Next} (hd : a.defers = mkD s.h) (H : HRel C s.h S ψ w) (hl : AV.relL w S s.h ψ s.t a.tmps.toList)
    (hq : qUpon P w S s.h ψ r res) (hK : ∀ a' w', St.rel C ⟨putA s.t o.dst r, s.h⟩ a' w' → K a' w') : o.upon P a K Q' res := by
  have key : ∀ v w', Good w S s.h ψ r v w' → K (a.put o.dst v) w' := by
    rintro v w' ⟨hb, S', h1, h2, h3, h4⟩
    have X : Ext w S s.h ψ w' S' s.h ψ := Ext.grow s.h ψ (fun k hk => hb.block k (H.lt k hk)) h1
    exact hK _ _ ⟨by rw [put_defers]; exact hd, S', ψ, H.grow hb h1 h2 h3, put_rel (AV.relL_ext X _ _ hl) o.dst h4⟩
  cases res with
  | ok n w' =>
    cases n <;> simp only [qUpon] at hq <;> simp only [Oper.upon]
    case value v => exact key v w' hq
    case skip => exact key undef w' hq
    case enter f args =>
      obtain ⟨rfl, hc⟩ := hq
      exact hc.mono fun e w'' ⟨v, he, hg⟩ => by subst he; exact key v w'' hg
  | halt x w' => simp only [qUpon] at hq
theorem qUpon_noDefer {o : Oper} {r : AV} {h : List ABlk} {w : World} {S : Nat → Prop} {ψ : Nat → Value} {ρ : Operand → Value} (hq : qUpon P w S h ψ r ((execOp ρ o).run P w)) : ∀ c, o.op ≠ .defer c := fun c e => by
  simp only [execOp, e, Sem.run_bind] at hq
  generalize (resolve ρ c o.type).run P w = x at hq
  cases x with
  | ok d w' => exact hq
  | halt x w' => exact hq
theorem AOp.quiet {o : Oper} {s : St} {r : AV} {K : St → Prop} (hq : Quiet P C s.t s.h o r) (hK : K ⟨putA s.t o.dst r, s.h⟩) : AOp P C o s K := by
  rintro Q' a w ⟨hd, S, ψ, H, hl⟩
  refine ⟨qUpon_noDefer (hq S ψ w a.eval H fun x _ => ev_rel hl x), ?_⟩
  exact upon_of_q hd H hl (hq S ψ w a.eval H fun x _ => ev_rel hl x) fun a' w' h => ⟨_, hK, h⟩

/-! ### regions that draw their order -/
section
variable {ops : Array Oper} {md : Region.Mode} {h : List ABlk}
def aYields (P : Program) (C : Ctx) (ops : Array Oper) (h : List ABlk) (o : Oper) (r : AV) (t : List AV) : Prop :=
  (gA ops t o = some true ∧ Quiet P C t h o r) ∨ (gA ops t o = some false ∧ r = .lit undef)
def aOp (P : Program) (C : Ctx) (ops : Array Oper) (h : List ABlk) (i : Nat) (K : List AV → Prop) (t : List AV) : Prop :=
  match ops[i]? with
  | none => K t
  | some o => ∃ r, aYields P C ops h o r t ∧ K (putA t o.dst r)
theorem aOp_mono {i : Nat} {t : List AV} {K K' : List AV → Prop} (hk : ∀ t, K t → K' t) (hh : aOp P C ops h i K t) : aOp P C ops h i K' t := by
  unfold aOp at *
  split
  · exact hk _ (by simpa [*] using hh)
  · rename_i o ho
    simp only [ho] at hh
    obtain ⟨r, h1, h2⟩ := hh
    exact ⟨r, h1, hk _ h2⟩
def aAny (P : Program) (C : Ctx) (md : Region.Mode) (ops : Array Oper) (h : List ABlk) (n : Nat) (L : Array Bool → List AV → Prop) : Nat → Array Bool → List AV → Prop
  | 0, listed, t => L listed t
  | f + 1, listed, t =>
    Region.ready md ops listed ≠ [] ∧ ∀ i ∈ Region.ready md ops listed, i < n ∧ aOp P C ops h i (aAny P C md ops h n L f (listed.setIfInBounds i true)) t
theorem wpOp_of_aOp {i : Nat} {t : List AV} {a : Act} {w : World} {K : List AV → Prop} {K' : Act → World → Prop} {Q' : Exit → Act → World → Prop} (H : St.rel C ⟨t, h⟩ a w) (hK : ∀ t a w, K t → St.rel C ⟨t, h⟩ a w → K' a w)
    (hh : aOp P C ops h i K t) : wpOp P ops Q' i K' a w := by
  unfold aOp at hh
  unfold wpOp
  split
  · rename_i ho; simp only [ho] at hh; exact hK _ _ _ hh H
  · rename_i o ho
    simp only [ho] at hh
    obtain ⟨r, hy, hk⟩ := hh
    obtain ⟨hd, S, ψ, hh', hl⟩ := id H
    rcases hy with ⟨hg, hq⟩ | ⟨hg, rfl⟩
    · have hw := gA_wanted hg hl
      rw [hw, if_pos rfl]
      exact .inl (upon_of_q (s := ⟨t, h⟩) hd hh' hl (hq S ψ w a.eval hh' fun x _ => ev_rel hl x) fun a' w' h => hK _ _ _ hk h)
    · have hw := gA_wanted hg hl
      rw [hw, if_neg (by simp)]
      exact hK _ _ _ hk (undef_rel H o.dst)
theorem wpAny_of_a {n g : Nat} {L : Array Bool → List AV → Prop} {Q' : Exit → Act → World → Prop} (hL : ∀ listed t a w, L listed t → St.rel C ⟨t, h⟩ a w → wpAny P md ops Q' g listed a w) :
    ∀ (f : Nat) (listed : Array Bool) (t : List AV) (a : Act) (w : World), aAny P C md ops h n L f listed t → St.rel C ⟨t, h⟩ a w → wpAny P md ops Q' (f + g) listed a w
  | 0, listed, t, a, w, hh, H => by rw [Nat.zero_add]; exact hL _ _ _ _ hh H
  | f + 1, listed, t, a, w, hh, H => by
    rw [show f + 1 + g = (f + g) + 1 by omega]
    exact ⟨fun h0 => absurd h0 hh.1, fun i hi => wpOp_of_aOp H (fun t' a' w' h' H' => wpAny_of_a hL f _ t' a' w' h' H') (hh.2 i hi).2⟩

theorem evA_put {t : List AV} {dst : Option Tmp} {r : AV} {x : Operand} (hx : ∀ d, dst = some d → x ≠ .tmp d) : evA (putA t dst r) x = evA t x := by
  cases dst with
  | none => rfl
  | some d =>
    cases x with
    | tmp i =>
      have : d ≠ i := fun e => hx d rfl (by rw [e])
      simp [evA, putA, List.getElem?_set_ne this]
    | _ => rfl
theorem quiet_put {o : Oper} {t : List AV} {dst : Option Tmp} {u r : AV} (hdst : ∀ d, dst = some d → d ∉ o.looksAt ops) : Quiet P C (putA t dst u) h o r ↔ Quiet P C t h o r := by
  have key : ∀ x ∈ o.op.operands, evA (putA t dst u) x = evA t x := fun x hx => evA_put fun d hd hxd => hdst d hd (by
    subst hxd
    exact List.mem_append_left _ (List.mem_filterMap.2 ⟨.tmp d, by simpa using hx, rfl⟩))
  constructor
  · intro H S ψ w ρ h1 h2
    exact H S ψ w ρ h1 fun x hx => by rw [key x hx]; exact h2 x hx
  · intro H S ψ w ρ h1 h2
    exact H S ψ w ρ h1 fun x hx => by rw [← key x hx]; exact h2 x hx
theorem gA_put {o : Oper} {t : List AV} {dst : Option Tmp} {u : AV} (hdst : ∀ d, dst = some d → d ∉ o.looksAt ops) : gA ops (putA t dst u) o = gA ops t o := by
  cases dst with
  | none => rfl
  | some d =>
    unfold gA
    cases hg : o.guard with
    | none => rfl
    | some p =>
      obtain ⟨j, want⟩ := p
      simp only
      cases hd : (ops[j]?).bind (·.dst) with
      | none => rfl
      | some k =>
        have : d ≠ k := fun e => hdst d rfl (by
          subst e
          unfold Oper.looksAt
          rw [hg]
          simp only
          rw [hd]
          simp)
        simp [putA, List.getElem?_set_ne this]
theorem aYields_put {o : Oper} {t : List AV} {dst : Option Tmp} {u r : AV} (hdst : ∀ d, dst = some d → d ∉ o.looksAt ops) : aYields P C ops h o r (putA t dst u) ↔ aYields P C ops h o r t := by
  unfold aYields
  rw [gA_put hdst, quiet_put hdst]
theorem putA_comm (t : List AV) {x y : Option Tmp} (v u : AV) (hne : ∀ d, x = some d → y ≠ some d) : putA (putA t x v) y u = putA (putA t y u) x v := by
  cases x with
  | none => rfl
  | some d =>
    cases y with
    | none => rfl
    | some e =>
      have : d ≠ e := fun h => hne d rfl (by rw [h])
      exact List.set_comm _ _ this
theorem aOp_put {j : Nat} {oi oj : Oper} {v : AV} (hj : ops[j]? = some oj) (hap : oi.apart ops oj = true) {K : List AV → Prop} {t : List AV} (hy : aYields P C ops h oi v t) (hh : aOp P C ops h j K (putA t oi.dst v)) :
    aOp P C ops h j (fun t' => aYields P C ops h oi v t' ∧ K (putA t' oi.dst v)) t := by
  obtain ⟨h1, h2, h3⟩ := Oper.apart_spec hap
  unfold aOp at *
  simp only [hj] at *
  obtain ⟨r, hr, hk⟩ := hh
  exact ⟨r, (aYields_put h1).1 hr, (aYields_put h3).2 hy, by rw [← putA_comm t v r h2]; exact hk⟩
theorem aAny_first {n i : Nat} {oi : Oper} {v : AV} {L : Array Bool → List AV → Prop} (hi : ops[i]? = some oi)
    (htail : ∀ listed i, HeadInv md ops n listed → i < n → listed.getD i true = false → ∀ t, n ≤ t → t ∉ Region.ready md ops listed) (hin : i < n)
    (hdone : ∀ listed t, L listed t → ∀ j ∈ Region.ready md ops listed, n ≤ j) :
    ∀ (f : Nat) (listed : Array Bool) (t : List AV), HeadInv md ops n listed →
      (∀ j oj, ops[j]? = some oj → j ≠ i → listed.getD j true = false → (∀ e ∈ oj.after, Region.binds md e = true → e.on ≠ i) → oi.apart ops oj = true) →
      i ∈ Region.ready md ops listed → aYields P C ops h oi v t →
      aAny P C md ops h n L f (listed.setIfInBounds i true) (putA t oi.dst v) → aAny P C md ops h n L (f + 1) listed t := by
  intro f
  induction f with
  | zero =>
    intro listed t inv _ hr hy H
    have hun := (mem_ready.1 hr).1
    refine ⟨fun h => (by rw [h] at hr; cases hr), fun j hj => ?_⟩
    have hjn : j < n := by
      rcases Nat.lt_or_ge j n with h | h
      · exact h
      · exact absurd hj (htail _ i inv hin hun j h)
    refine ⟨hjn, ?_⟩
    by_cases hji : j = i
    · subst hji
      unfold aOp
      simp only [hi]
      exact ⟨v, hy, H⟩
    · have := hdone _ _ H j (ready_mono hj hji)
      omega
  | succ f ih =>
    intro listed t inv hfree hr hy H
    have hun := (mem_ready.1 hr).1
    refine ⟨fun h => (by rw [h] at hr; cases hr), fun j hj => ?_⟩
    have hjn : j < n := by
      rcases Nat.lt_or_ge j n with h | h
      · exact h
      · exact absurd hj (htail _ i inv hin hun j h)
    refine ⟨hjn, ?_⟩
    by_cases hji : j = i
    · subst hji
      unfold aOp
      simp only [hi]
      exact ⟨v, hy, H⟩
    · have h1 := (H.2 j (ready_mono hj hji)).2
      obtain ⟨hjun, oj, hoj, hall⟩ := mem_ready.1 hj
      have hnot : ∀ e ∈ oj.after, Region.binds md e = true → e.on ≠ i := fun e he hb heq => by
        have h1 := hall e he hb
        rw [heq, getD_both hun] at h1
        cases h1
      have h2 := aOp_put hoj (hfree j oj hoj hji hjun hnot) hy h1
      have hfree' : ∀ k ok, ops[k]? = some ok → k ≠ i → (listed.setIfInBounds j true).getD k true = false →
          (∀ e ∈ ok.after, Region.binds md e = true → e.on ≠ i) → oi.apart ops ok = true := fun k ok hk hki hun hno => by
        refine hfree k ok hk hki ?_ hno
        by_cases hjk : j = k
        · subst hjk; exact hjun
        · rw [getD_set_ne true hjk] at hun; exact hun
      refine aOp_mono (fun a' h3 => ih (listed.setIfInBounds j true) a' (inv.set hj hjn) hfree' (ready_mono hr (Ne.symm hji)) h3.1 ?_) h2
      rw [Array.setIfInBounds_comm _ _ hji]
      exact h3.2

/-- the walk of a region's first operations, one by one as they stand -/
def aQ (P : Program) (C : Ctx) (ops : Array Oper) (h : List ABlk) (K : List AV → Prop) : List Oper → List AV → Prop
  | [], t => K t
  | o :: rest, t => ∃ r, aYields P C ops h o r t ∧ aQ P C ops h K rest (putA t o.dst r)
theorem aAny_lex {n g : Nat} {Lq : List AV → Prop} (htail : ∀ listed i, HeadInv md ops n listed → i < n → listed.getD i true = false → ∀ t, n ≤ t → t ∉ Region.ready md ops listed) :
    ∀ (l : List Oper) (k : Nat) (listed : Array Bool) (t : List AV), (∀ j, j < l.length → l[j]? = ops[k + j]?) → k + l.length = n → HeadInv md ops n listed →
    Region.lexHead md ops g l.length k listed = true → aQ P C ops h Lq l t →
    aAny P C md ops h n (fun listed' t' => Region.seqB md ops g n listed' = true ∧ Lq t') l.length listed t
  | [], k, listed, t, _, hk, _, hB, hh => by
    have : k = n := by simpa using hk
    subst this
    exact ⟨by simpa [Region.lexHead] using hB, hh⟩
  | o :: l, k, listed, t, hl, hk, inv, hB, hh => by
    have h0 : ops[k]? = some o := by simpa using (hl 0 (by simp)).symm
    simp only [List.length_cons, Region.lexHead, Bool.and_eq_true] at hB
    obtain ⟨⟨hr, hf⟩, hB'⟩ := hB
    have hkn : k < n := by simp only [List.length_cons] at hk; omega
    have hr' : k ∈ Region.ready md ops listed := by simpa using hr
    obtain ⟨v, hy, hK⟩ := hh
    exact aAny_first h0 htail hkn (fun listed' a' hL => seqB_ready hL.1) l.length listed t inv (Region.free_spec h0 hf) hr' hy
      (aAny_lex htail l (k + 1) _ _ (fun j hj => by have := hl (j + 1) (by simp; omega); simpa [Nat.add_assoc, Nat.add_comm 1 j] using this) (by simp only [List.length_cons] at hk; omega) (inv.set hr' hkn) hB' hK)
def regB (ops : Array Oper) (n : Nat) : Bool :=
  (Region.noSelect ops && noDefer ops) && decide (n ≤ ops.size) && (n == ops.size || (Region.sinkB .any ops n && Region.chainB .any ops n)) && Region.lexHead .any ops (ops.size - n) n 0 (Array.replicate ops.size false)
end
theorem Awp.draw {id : Nat} {l : List Oper} {Q : Exit → St → Prop} {s : St} (n : Nat) (hm : P.follows .mixedOrders = true) (hB : regB l.toArray n = true)
    (hh : aQ P C l.toArray s.h (fun t => aSeq P C l.toArray (Q .normal) (l.drop n) ⟨t, s.h⟩) (l.take n) s.t) : Awp P C (.region id l.toArray true) Q s := fun a w H => by
  simp only [regB, Bool.and_eq_true, decide_eq_true_eq, Bool.or_eq_true, beq_iff_eq] at hB
  obtain ⟨⟨⟨⟨hsel, hnd⟩, hn⟩, hs⟩, hlex⟩ := hB
  have hn' : n ≤ l.length := by simpa using hn
  have htl : (l.take n).length = n := by simp; omega
  have hdl : (l.drop n).length = l.toArray.size - n := by simp
  have inv0 : HeadInv .any l.toArray n (Array.replicate l.toArray.size false) :=
    ⟨by simp, fun j oj _ hl => (by rw [getD_replicate_false] at hl; cases hl), fun t _ ht => getD_in (by simpa using ht) (getD_replicate_false _ _)⟩
  have htail : ∀ (listed : Array Bool) (i : Nat), HeadInv .any l.toArray n listed → i < n → listed.getD i true = false → ∀ t, n ≤ t → t ∉ Region.ready .any l.toArray listed := by
    intro listed i inv hi hun t ht
    rcases hs with hs | ⟨hs, hc⟩
    · intro hr
      obtain ⟨_, o, ho, _⟩ := mem_ready.1 hr
      have := (Array.getElem?_eq_some_iff.1 ho).1
      omega
    · by_cases hlt : n < l.toArray.size
      · exact tail_waits hs hc hlt inv _ i rfl hi hun t ht
      · intro hr
        obtain ⟨_, o, ho, _⟩ := mem_ready.1 hr
        have := (Array.getElem?_eq_some_iff.1 ho).1
        omega
  have HH := aAny_lex (md := .any) (g := l.toArray.size - n) htail (l.take n) 0 _ s.t (fun j hj => by
    have hj' : j < n := by rw [htl] at hj; exact hj
    simp [hj']) (by simpa using htl) inv0 (by rw [htl]; exact hlex) hh
  refine fnc_region hm hnd ?_
  have H' : St.rel C ⟨s.t, s.h⟩ a { w with drawn := w.drawn + 1 } := by
    obtain ⟨hd, S, ψ, hh', hl⟩ := H
    have hb : Below w.heap.size w { w with drawn := w.drawn + 1 } := ⟨rfl, rfl, rfl, Nat.le_refl _, fun _ _ => rfl⟩
    exact ⟨hd, S, ψ, hh'.grow hb (fun _ h => h) (fun _ h => .inl h) hh'.lt, AV.relL_ext (show Ext w S s.h ψ { w with drawn := w.drawn + 1 } S s.h ψ from Ext.grow s.h ψ (fun k hk => rfl) fun _ h => h) _ _ hl⟩
  have := wpAny_of_a (Q' := fun e a' w' => e = .normal ∧ ∃ s', Q e s' ∧ s'.rel C a' w') (g := l.toArray.size - n) (fun listed t a' w' hL H' => by
    have := wpAny_of_seq (md := .any) (l.drop n) n listed a' w' (fun j => by simp [List.getElem?_drop]) (by rw [hdl]; exact hL.1) (wpList_of_aSeq (Q' := fun e a' w' => e = .normal ∧ ∃ s', Q e s' ∧ s'.rel C a' w') (fun s a w h H => ⟨rfl, s, h, H⟩) _ _ _ _ hL.2 H')
    rwa [hdl] at this) _ _ _ _ _ HH H'
  rw [htl, show n + (l.toArray.size - n) = l.toArray.size by omega] at this
  exact this
end
end Mu
end
section
/-
  Contracts over abstract values; a function's contract from its walk; a call by its contract.
  Conditions: none; generic.
-/
namespace Mu
open Go Go.RowKit

mutual
def AV.cl : AV → Bool
  | .own _ _ => false
  | .ptr _ _ => false
  | .rp _ _ _ _ => false
  | .agg l => AV.clL l
  | .tup l => AV.clL l
  | _ => true
def AV.clL : List AV → Bool
  | [] => true
  | x :: l => AV.cl x && AV.clL l
end
section
variable {w : World} {S : Nat → Prop} {h h' : List ABlk} {ψ ψ' : Nat → Value}
mutual
theorem AV.rel_cl : ∀ (x : AV) (v : Value), AV.cl x = true → AV.rel w S h ψ x v → AV.rel w S h' ψ' x v
  | .any, _, _, _ => by unfold AV.rel; trivial
  | .lit u, v, _, H => by unfold AV.rel at H ⊢; exact H
  | .bs T l, v, _, H => by unfold AV.rel at H ⊢; exact H
  | .tv T d, v, _, H => by unfold AV.rel at H ⊢; exact H
  | .own i ver, v, hc, H => by simp [AV.cl] at hc
  | .ptr i off, v, hc, H => by simp [AV.cl] at hc
  | .rp i ver k off, v, hc, H => by simp [AV.cl] at hc
  | .bp T d off, v, _, H => by unfold AV.rel at H ⊢; exact H
  | .agg l, v, hc, H => by
    unfold AV.cl at hc
    unfold AV.rel at H ⊢
    obtain ⟨cs, e, hl⟩ := H
    exact ⟨cs, e, AV.relL_cl l cs hc hl⟩
  | .tup l, v, hc, H => by
    unfold AV.cl at hc
    unfold AV.rel at H ⊢
    obtain ⟨cs, e, hl⟩ := H
    exact ⟨cs, e, AV.relL_cl l cs hc hl⟩
theorem AV.relL_cl : ∀ (l : List AV) (cs : List Value), AV.clL l = true → AV.relL w S h ψ l cs → AV.relL w S h' ψ' l cs
  | [], cs, _, H => by unfold AV.relL at H ⊢; exact H
  | x :: l, cs, hc, H => by
    unfold AV.clL at hc
    rw [Bool.and_eq_true] at hc
    unfold AV.relL at H ⊢
    obtain ⟨v, vs, e, h1, h2⟩ := H
    exact ⟨v, vs, e, AV.rel_cl x v hc.1 h1, AV.relL_cl l vs hc.2 h2⟩
end
end

def ψ0 : Nat → Value := fun _ => undef
def Enters (P : Program) (f : FuncId) : Bool :=
  match P.funcs[f]? with
  | some fn => !(fn.name == "runtime.NumGoroutine") && !fn.body.isNone
  | none => false
/-- called with such values a function returns such a one, and leaves what is there as it is -/
def Fn (P : Program) (f : FuncId) (args : List AV) (r : AV) : Prop :=
  Enters P f = true ∧ ∀ (w : World) (S : Nat → Prop) (vs : List Value), (∀ k, S k → k < w.heap.size) → AV.relL w S [] ψ0 args vs →
    Calls P f vs.toArray w fun e w' => ∃ v, e = .returned v ∧ Good w S [] ψ0 r v w'

/-- a nil slice reads as an empty row -/
theorem Fn.nilRow {P : Program} {f : FuncId} {args : List AV} {α : Type} {T : Ty α} (h : Fn P f args (.lit (.slice none 0 0))) : Fn P f args (.bs T []) :=
  ⟨h.1, fun w S vs hS hr => (h.2 w S vs hS hr).mono fun e w' ⟨v, he, hb, S', k1, k2, k3, k4⟩ => ⟨v, he, hb, S', k1, k2, k3, by
    unfold AV.rel at k4 ⊢
    rw [k4]
    exact T.slice_nilS _ _⟩⟩
theorem relL_map {w : World} {S : Nat → Prop} {h : List ABlk} {ψ : Nat → Value} {t : List AV} {ρ : Operand → Value} : ∀ {l : List Operand}, (∀ x ∈ l, AV.rel w S h ψ (evA t x) (ρ x)) → AV.relL w S h ψ (l.map (evA t)) (l.map ρ)
  | [], _ => by unfold AV.relL; rfl
  | x :: l, H => by
    simp only [List.map_cons]
    unfold AV.relL
    exact ⟨_, _, rfl, H x (by simp), relL_map fun y hy => H y (by simp [hy])⟩
theorem run_call {P : Program} {o : Oper} {f : FuncId} {args : Array Operand} {tys : Array TypeId} (ho : o.op = .call { callee := .value (.func f), args := args, argTypes := tys }) (hE : Enters P f = true) (ρ : Operand → Value) (w : World) (hρ : ρ (.func f) = .func (.func f) #[] #[]) :
    (execOp ρ o).run P w = .ok (.enter f (args.map ρ)) w := by
  unfold Enters at hE
  cases hf : P.funcs[f]? with
  | none => rw [hf] at hE; cases hE
  | some fn =>
    rw [hf] at hE
    simp only [Bool.and_eq_true, Bool.not_eq_true'] at hE
    have h1 : ¬ fn.name = "runtime.NumGoroutine" := by simpa using hE.1
    have h2 : ¬ fn.body = none := fun e => by have := hE.2; rw [e] at this; cases this
    simp [execOp, ho, resolve, Deferred.ofValue, hρ, invoke, callFunc, hf, h1, h2]
theorem Quiet.call {P : Program} {C : Ctx} {t : List AV} {h : List ABlk} {o : Oper} {f : FuncId} {args : Array Operand} {tys : Array TypeId} {xs : List AV} {r : AV}
    (ho : o.op = .call { callee := .value (.func f), args := args, argTypes := tys }) (hF : Fn P f xs r) (hx : args.toList.map (evA t) = xs) (hc : AV.clL xs = true) (hr : AV.cl r = true) : Quiet P C t h o r := by
  intro S ψ w ρ H hρ
  have h1 : ρ (.func f) = .func (.func f) #[] #[] := by
    have := hρ (.func f) (by rw [ho]; exact Array.mem_append.2 (.inl (by simp)))
    simpa [evA, AV.rel] using this
  rw [run_call ho hF.1 ρ w h1]
  refine ⟨rfl, ?_⟩
  have h2 : AV.relL w S h ψ xs (args.toList.map ρ) := by
    rw [← hx]
    exact relL_map fun x hx' => hρ x (by rw [ho]; exact Array.mem_append.2 (.inr (Array.mem_toList_iff.1 hx')))
  have h3 := hF.2 w S (args.toList.map ρ) H.lt (AV.relL_cl _ _ hc h2)
  rw [show (args.map ρ) = (args.toList.map ρ).toArray from (by rw [← Array.toList_map])]
  refine h3.mono ?_
  rintro e w' ⟨v, he, hb, S', k1, k2, k3, k4⟩
  exact ⟨v, he, hb, S', k1, k2, k3, AV.rel_cl _ _ hr k4⟩

/-- rows of the call's own, lent to a function whose result does not lead to memory -/
inductive Lent (h : List ABlk) : List AV → List AV → Prop
  | nil : Lent h [] []
  | cl {x : AV} {l l' : List AV} (hx : AV.cl x = true) (hl : Lent h l l') : Lent h (x :: l) (x :: l')
  | own {i ver : Nat} {e : TypeId} {α : Type} {T : Ty α} {d : List α} {l l' : List AV} (hi : h[i]? = some (.row ver e T d)) (hl : Lent h l l') : Lent h (.own i ver :: l) (.bs T d :: l')
theorem Lent.rel {C : Ctx} {w : World} {S : Nat → Prop} {h : List ABlk} {ψ : Nat → Value} (H : HRel C h S ψ w) : ∀ {l l' : List AV} {vs : List Value}, Lent h l l' → AV.relL w S h ψ l vs → AV.relL w (fun k => k < w.heap.size) [] ψ0 l' vs
  | [], _, vs, hl, hr => by
    cases hl
    unfold AV.relL at hr ⊢
    exact hr
  | x :: l, _, vs, hl, hr => by
    have X : Ext w S h ψ w (fun k => k < w.heap.size) h ψ := Ext.grow h ψ (fun _ _ => rfl) H.lt
    unfold AV.relL at hr
    obtain ⟨v, vs', e, h1, h2⟩ := hr
    cases hl with
    | cl hx hl =>
      unfold AV.relL
      exact ⟨v, vs', e, AV.rel_cl _ _ hx (AV.rel_ext X _ _ h1), Lent.rel H hl h2⟩
    | own hi hl =>
      unfold AV.relL
      refine ⟨v, vs', e, ?_, Lent.rel H hl h2⟩
      unfold AV.rel at h1 ⊢
      have hv := (h1.2 _ (by rw [hi]; rfl)).2 rfl
      subst hv
      obtain ⟨cells, k1, k0, k2, k3⟩ := H.blk _ _ hi
      exact own_slice k1 (fun i d hd => Ty.keepS _ (k2 i d hd) (fun _ _ => rfl) H.lt) fun g hg => (World.ownsRow.lt k1 g hg).2
theorem Quiet.lend {P : Program} {C : Ctx} {t : List AV} {h : List ABlk} {o : Oper} {f : FuncId} {args : Array Operand} {tys : Array TypeId} {xs : List AV} {u : Value}
    (ho : o.op = .call { callee := .value (.func f), args := args, argTypes := tys }) (hF : Fn P f xs (.lit u)) (hx : Lent h (args.toList.map (evA t)) xs) : Quiet P C t h o (.lit u) := by
  intro S ψ w ρ H hρ
  have h1 : ρ (.func f) = .func (.func f) #[] #[] := by
    have := hρ (.func f) (by rw [ho]; exact Array.mem_append.2 (.inl (by simp)))
    simpa [evA, AV.rel] using this
  rw [run_call ho hF.1 ρ w h1]
  refine ⟨rfl, ?_⟩
  have h2 : AV.relL w S h ψ (args.toList.map (evA t)) (args.toList.map ρ) := relL_map fun x hx' => hρ x (by rw [ho]; exact Array.mem_append.2 (.inr (Array.mem_toList_iff.1 hx')))
  have h3 := hF.2 w _ (args.toList.map ρ) (fun _ h => h) (Lent.rel H hx h2)
  rw [show (args.map ρ) = (args.toList.map ρ).toArray from (by rw [← Array.toList_map])]
  refine h3.mono ?_
  rintro e w' ⟨v, he, hb, S', k1, k2, k3, k4⟩
  refine ⟨v, he, hb, S, fun _ h => h, fun _ h => .inl h, fun k hk => Nat.lt_of_lt_of_le (H.lt k hk) hb.size, ?_⟩
  unfold AV.rel at k4 ⊢
  exact k4

/-- what a result comes to, when the call is over -/
def Fin (h : List ABlk) (x r : AV) : Prop := mkD h = [] ∧
  ∀ (C : Ctx) (S : Nat → Prop) (ψ : Nat → Value) (w : World) (v : Value), C.std → HRel C h S ψ w → AV.rel w S h ψ x v →
    ∃ S' : Nat → Prop, (∀ k, S k → S' k) ∧ (∀ k, S' k → S k ∨ C.w0.heap.size ≤ k) ∧ (∀ k, S' k → k < w.heap.size) ∧ AV.rel w S' [] ψ0 r v
theorem Fin.cl {h : List ABlk} {r : AV} (hr : AV.cl r = true) (hm : mkD h = [] := by rfl) : Fin h r r := ⟨hm, fun _C S _ψ _w _v _ H hv => ⟨S, fun _ h => h, fun _ h => .inl h, H.lt, AV.rel_cl _ _ hr hv⟩⟩
theorem Fin.own {h : List ABlk} {i ver : Nat} {e : TypeId} {α : Type} {T : Ty α} {l : List α} (hi : h[i]? = some (.row ver e T l)) (hm : mkD h = [] := by rfl) : Fin h (.own i ver) (.bs T l) := ⟨hm, fun C S ψ w v hC H hv => by
  unfold AV.rel at hv
  have hv' := (hv.2 _ (by rw [hi]; rfl)).2 rfl
  subst hv'
  obtain ⟨cells, h1, h0, h2, h3⟩ := H.blk i _ hi
  refine ⟨fun k => S k ∨ (ψ i).ownBlock = some k, fun _ h => .inl h, fun k hk => ?_, fun k hk => ?_, ?_⟩
  · rcases hk with hk | hk
    · exact .inl hk
    · exact .inr (Nat.le_of_not_lt fun hlt => (h3 k hk).1 (hC k hlt))
  · rcases hk with hk | hk
    · exact H.lt k hk
    · exact (World.ownsRow.lt h1 k hk).2
  · unfold AV.rel
    exact own_slice h1 (fun i d hd => T.keepS (h2 i d hd) (fun _ _ => rfl) fun _ h => .inl h) fun g hg => .inr hg⟩
def Rets (t : Tmp) (r : AV) : Exit → St → Prop := fun e s => (e = .normal ∨ e = .ret) ∧ Fin s.h (evA s.t (.tmp t)) r
def Rets2 (t u : Tmp) (r q : AV) : Exit → St → Prop := fun e s => (e = .normal ∨ e = .ret) ∧ ∃ r' q', Fin s.h (.tup [evA s.t (.tmp t), evA s.t (.tmp u)]) (.tup [r', q']) ∧ r' = r ∧ q' = q
theorem start_rel {w : World} {S : Nat → Prop} {args : List AV} {vs : List Value} {n : Nat} (hS : ∀ k, S k → k < w.heap.size) (hr : AV.relL w S [] ψ0 args vs) :
    St.rel ⟨w, S, fun k => k < w.heap.size, none⟩ ⟨args ++ List.replicate (n - args.length) (.lit undef), []⟩ { tmps := vs.toArray ++ Array.replicate (n - vs.toArray.size) undef, defers := [] } w := by
  refine ⟨rfl, S, ψ0, ⟨Kp.refl _ _, fun _ h => h, hS, fun _ h => h, fun _ h => .inl h, fun i b hi => by simp at hi, fun i j _ hi => by simp [ABlk.live] at hi⟩, ?_⟩
  simp only [Array.toList_append, Array.toList_replicate, List.size_toArray]
  refine relL_append hr (relL_of (by simp [relL_len hr]) fun i x v hx hv => ?_)
  rw [List.getElem?_replicate] at hx hv
  split at hx <;> cases hx
  split at hv <;> cases hv
  unfold AV.rel
  rfl
theorem good_final {w : World} {S : Nat → Prop} {s : St} {w' : World} {x r : AV} {v : Value} {S1 : Nat → Prop} {ψ : Nat → Value} (H : HRel ⟨w, S, fun k => k < w.heap.size, none⟩ s.h S1 ψ w') (hf : Fin s.h x r) (hv : AV.rel w' S1 s.h ψ x v) : Good w S [] ψ0 r v w' := by
  obtain ⟨S', k1, k2, k3, k4⟩ := hf.2 _ _ _ _ _ (fun _ h => h) H hv
  refine ⟨H.bel.below fun _ h => h, S', fun k hk => k1 k (H.sub k hk), fun k hk => ?_, k3, k4⟩
  rcases k2 k hk with h1 | h1
  · exact H.new k h1
  · exact .inr h1
theorem Fn.of_awp {P : Program} {f : FuncId} {fn : Go.Func} {c : Code} {args : List AV} {r : AV} {t : Tmp} {n : Nat} (hf : P.funcs[f]? = some fn) (hb : fn.body = some c) (hE : Enters P f = true) (hres : fn.results = #[.tmp t]) (hn : fn.ntmps = n)
    (h : ∀ C : Ctx, C.std → Awp P C c (Rets t r) ⟨args ++ List.replicate (n - args.length) (.lit undef), []⟩) : Fn P f args r := by
  refine ⟨hE, fun w S vs hS hr => calls_of_wp hf hb ?_⟩
  rw [hn]
  refine wp_mono ((h ⟨w, S, fun k => k < w.heap.size, none⟩ (fun _ h => h)).wp rfl (start_rel hS hr)) ?_
  rintro e a' w' ⟨s, ⟨he, hfin⟩, hd, S1, ψ, H, hl⟩
  rw [hfin.1] at hd
  have hv := ev_rel hl (.tmp t)
  have hg := good_final H hfin hv
  have hres' : (results fn a'.tmps).run P w' = .ok (a'.eval (.tmp t)) w' := results_tmp hres _ _ _
  rcases he with rfl | rfl
  · exact ⟨hd, _, hres', _, rfl, hg⟩
  · exact ⟨hd, _, hres', _, rfl, hg⟩
theorem Fn.of_awp2 {P : Program} {f : FuncId} {fn : Go.Func} {c : Code} {args : List AV} {r q : AV} {t u : Tmp} {n : Nat} (hf : P.funcs[f]? = some fn) (hb : fn.body = some c) (hE : Enters P f = true) (hres : fn.results = #[.tmp t, .tmp u]) (hn : fn.ntmps = n)
    (h : ∀ C : Ctx, C.std → Awp P C c (Rets2 t u r q) ⟨args ++ List.replicate (n - args.length) (.lit undef), []⟩) : Fn P f args (.tup [r, q]) := by
  refine ⟨hE, fun w S vs hS hr => calls_of_wp hf hb ?_⟩
  rw [hn]
  refine wp_mono ((h ⟨w, S, fun k => k < w.heap.size, none⟩ (fun _ h => h)).wp rfl (start_rel hS hr)) ?_
  rintro e a' w' ⟨s, ⟨he, r', q', hfin, rfl, rfl⟩, hd, S1, ψ, H, hl⟩
  rw [hfin.1] at hd
  have hv : AV.rel w' S1 s.h ψ (.tup [evA s.t (.tmp t), evA s.t (.tmp u)]) (.tuple #[a'.eval (.tmp t), a'.eval (.tmp u)]) := by
    unfold AV.rel
    refine ⟨[a'.eval (.tmp t), a'.eval (.tmp u)], rfl, ?_⟩
    unfold AV.relL
    refine ⟨_, _, rfl, ev_rel hl (.tmp t), ?_⟩
    unfold AV.relL
    refine ⟨_, _, rfl, ev_rel hl (.tmp u), ?_⟩
    unfold AV.relL
    rfl
  have hg := good_final H hfin hv
  have hres' : (results fn a'.tmps).run P w' = .ok (.tuple #[a'.eval (.tmp t), a'.eval (.tmp u)]) w' := results_tmp2 hres _ _ _
  rcases he with rfl | rfl
  · exact ⟨hd, _, hres', _, rfl, hg⟩
  · exact ⟨hd, _, hres', _, rfl, hg⟩
end Mu
end
section
/-
  Operations that leave the call's own memory alone: what each yields.
  Conditions: none; generic.
-/
namespace Mu
open Go Go.RowKit Go.ChangeShapes Go.WideShapes

/-- data's cells, written out -/
def Enc {α : Type} (T : Ty α) (enc : α → List AV) : Prop := ∀ (w : World) (S : Nat → Prop) (h : List ABlk) (ψ : Nat → Value) (cs : List Value) (d : α), T.RS w S cs d → AV.relL w S h ψ (enc d) cs
def litI (k : IntKind) (n : Int) : AV := .lit (.int k n)

section
variable {P : Program} {C : Ctx} {t : List AV} {h : List ABlk} {o : Oper}
variable {w : World} {S : Nat → Prop} {ψ : Nat → Value}

theorem enc_int (k : IntKind) : Enc (Ty.int k) fun d => [.lit (.int k d)] := by
  rintro w S h ψ cs d ⟨rfl, _⟩
  simp [AV.relL, AV.rel]
theorem enc_bool : Enc Ty.bool fun d => [.lit (.bool d)] := by
  rintro w S h ψ cs d rfl
  simp [AV.relL, AV.rel]
theorem enc_str : Enc Ty.str fun d => [.lit (.string d)] := by
  rintro w S h ψ cs d ⟨rfl, _⟩
  simp [AV.relL, AV.rel]
theorem enc_slice {α : Type} (T : Ty α) : Enc T.slice fun l => [.bs T l] := by
  intro w S h ψ cs d H
  obtain ⟨A, c, rfl, _⟩ := id H
  unfold AV.relL
  refine ⟨_, _, rfl, ?_, ?_⟩
  · unfold AV.rel
    exact H
  · unfold AV.relL
    rfl

theorem Quiet.of_run {r : AV} (H : ∀ S ψ w (ρ : Operand → Value), HRel C h S ψ w → (∀ x ∈ o.op.operands, AV.rel w S h ψ (evA t x) (ρ x)) → ∃ v, (execOp ρ o).run P w = .ok (.value v) w ∧ AV.rel w S h ψ r v) : Quiet P C t h o r := by
  intro S ψ w ρ h1 h2
  obtain ⟨v, e, hv⟩ := H S ψ w ρ h1 h2
  rw [e]
  exact Good.same h1.lt hv

theorem Quiet.move {x : Operand} {r : AV} (ho : o.op = .move x) (hx : evA t x = r) : Quiet P C t h o r :=
  Quiet.of_run fun S ψ w ρ _ hρ => ⟨ρ x, by simp [execOp, ho], by rw [← hx]; exact hρ x (by simp [ho, Op.operands])⟩
theorem Quiet.assign {x : Operand} {r : AV} (ho : o.op = .assign x) (hx : evA t x = r) : Quiet P C t h o r :=
  Quiet.of_run fun S ψ w ρ _ hρ => ⟨ρ x, by simp [execOp, ho], by rw [← hx]; exact hρ x (by simp [ho, Op.operands])⟩
theorem Quiet.pick {c a b : Operand} {q : Bool} {r : AV} (ho : o.op = .pick c a b) (hc : evA t c = .lit (.bool q)) (hr : (if q then evA t a else evA t b) = r) : Quiet P C t h o r :=
  Quiet.of_run fun S ψ w ρ _ hρ => by
    have h1 := hρ c (by simp [ho, Op.operands])
    have h2 := hρ a (by simp [ho, Op.operands])
    have h3 := hρ b (by simp [ho, Op.operands])
    rw [hc] at h1
    unfold AV.rel at h1
    cases q
    · exact ⟨ρ b, by simp [execOp, ho, h1, asBool], by rw [← hr]; exact h3⟩
    · exact ⟨ρ a, by simp [execOp, ho, h1, asBool], by rw [← hr]; exact h2⟩
theorem Quiet.extract {x : Operand} {j : Nat} {xs : List AV} {r : AV} (ho : o.op = .extract x j) (hx : evA t x = .tup xs) (hr : xs[j]? = some r) : Quiet P C t h o r :=
  Quiet.of_run fun S ψ w ρ _ hρ => by
    have h1 := hρ x (by simp [ho, Op.operands])
    rw [hx] at h1
    unfold AV.rel at h1
    obtain ⟨cs, e, hl⟩ := h1
    obtain ⟨v, h2, h3⟩ := relL_get hl hr
    exact ⟨v, by simp [execOp, ho, e, Instr.extract, h2], h3⟩

/-- integers -/
def intBin (op : BinOp) (k : IntKind) (a b : Int) : Option Value :=
  match op with
  | .add => some (.int k (k.wrap (a + b)))
  | .sub => some (.int k (k.wrap (a - b)))
  | .mul => some (.int k (k.wrap (a * b)))
  | .eql => some (.bool (a == b))
  | .neq => some (.bool (a != b))
  | .lss => some (.bool (decide (a < b)))
  | .leq => some (.bool (decide (a ≤ b)))
  | .gtr => some (.bool (decide (a > b)))
  | .geq => some (.bool (decide (a ≥ b)))
  | .quo => if b = 0 then none else some (.int k (k.wrap (a.tdiv b)))
  | .rem => if b = 0 then none else some (.int k (a.tmod b))
  | _ => none
theorem Quiet.bin {op : BinOp} {xt yt : TypeId} {x y : Operand} {k : IntKind} {a b : Int} {v : Value} (ho : o.op = .binOp op xt x y yt) (hx : evA t x = .lit (.int k a)) (hy : evA t y = .lit (.int k b)) (hv : intBin op k a b = some v) : Quiet P C t h o (.lit v) :=
  Quiet.of_run fun S ψ w ρ _ hρ => by
    have h1 := hρ x (by simp [ho, Op.operands])
    have h2 := hρ y (by simp [ho, Op.operands])
    rw [hx] at h1
    rw [hy] at h2
    unfold AV.rel at h1 h2
    refine ⟨v, ?_, by unfold AV.rel; rfl⟩
    cases op <;> simp only [intBin, Option.some.injEq, reduceCtorEq] at hv
    case quo =>
      split at hv <;> simp only [Option.some.injEq, reduceCtorEq] at hv
      rename_i hb
      subst hv
      simp [execOp, ho, h1, h2, eqGuard, binOp, Op.intDiv, hb]
    case rem =>
      split at hv <;> simp only [Option.some.injEq, reduceCtorEq] at hv
      rename_i hb
      subst hv
      simp [execOp, ho, h1, h2, eqGuard, binOp, Op.intDiv, hb]
    all_goals
      subst hv
      simp [execOp, ho, h1, h2, eqGuard, binOp, Op.intArith, Op.intCmp]
theorem Quiet.add64 {xt yt : TypeId} {x y : Operand} {a b : Int} (ho : o.op = .binOp .add xt x y yt) (hx : evA t x = .lit (.int .i64 a)) (hy : evA t y = .lit (.int .i64 b)) (hb : -9223372036854775808 ≤ a + b ∧ a + b ≤ 9223372036854775807) : Quiet P C t h o (.lit (.int .i64 (a + b))) := by
  have := Quiet.bin (P := P) (C := C) (h := h) ho hx hy (v := .int .i64 (a + b)) (by simp only [intBin]; rw [IntWalk.i64_in _ ⟨by omega, by omega⟩])
  exact this
theorem Quiet.sub64 {xt yt : TypeId} {x y : Operand} {a b : Int} (ho : o.op = .binOp .sub xt x y yt) (hx : evA t x = .lit (.int .i64 a)) (hy : evA t y = .lit (.int .i64 b)) (hb : -9223372036854775808 ≤ a - b ∧ a - b ≤ 9223372036854775807) : Quiet P C t h o (.lit (.int .i64 (a - b))) := by
  have := Quiet.bin (P := P) (C := C) (h := h) ho hx hy (v := .int .i64 (a - b)) (by simp only [intBin]; rw [IntWalk.i64_in _ ⟨by omega, by omega⟩])
  exact this
theorem Quiet.bnot {xt : TypeId} {x : Operand} {b : Bool} (ho : o.op = .unOp .not xt x) (hx : evA t x = .lit (.bool b)) : Quiet P C t h o (.lit (.bool (!b))) :=
  Quiet.of_run fun S ψ w ρ _ hρ => by
    have h1 := hρ x (by simp [ho, Op.operands])
    rw [hx] at h1
    unfold AV.rel at h1
    exact ⟨_, by simp [execOp, ho, h1, Op.unary]; rfl, by unfold AV.rel; rfl⟩

/-! ### addresses -/
def aggT (P : Program) (ty : TypeId) : Option (Bool × Nat) :=
  match P.underlying ty, P.info? ty with
  | some (.struct _), some i => some (true, i.size)
  | some (.array _ _), some i => some (true, i.size)
  | some _, some i => some (false, i.size)
  | _, _ => none
theorem run_loadCells_at {b o : Nat} {cs : List Value} (w : World) (hc : ∀ j u, cs[j]? = some u → w.cell? ⟨b, o + j, none⟩ = some u) : (loadCells ⟨b, o, none⟩ cs.length).run P w = .ok cs.toArray w :=
  run_loadCells_list w _ cs fun j v hv => by
    have := hc j v hv
    unfold Addr.add
    split
    · rename_i hz
      subst hz
      exact this
    · exact this
/-- from cells in memory to what a load yields -/
theorem run_load_agg {ty : TypeId} {n b off : Nat} {cs : List Value} {w : World} (ha : aggT P ty = some (true, n)) (hn : cs.length = n) (hc : ∀ j u, cs[j]? = some u → w.cell? ⟨b, off + j, none⟩ = some u) :
    (Instr.loadAt ty (.pointer (some ⟨b, off, none⟩))).run P w = .ok (.agg cs.toArray) w := by
  have hl := run_loadCells_at (P := P) w hc
  rw [hn] at hl
  unfold aggT at ha
  split at ha <;> simp only [Option.some.injEq, Prod.mk.injEq, reduceCtorEq, Bool.false_eq_true, false_and, true_and] at ha
  · rename_i h1 h2
    simp [Instr.loadAt, Instr.sureAddr, loadVar, isAgg, underlying, h1, Go.sizeOf, typeInfo, h2, ha, hl]
  · rename_i h1 h2
    simp [Instr.loadAt, Instr.sureAddr, loadVar, isAgg, underlying, h1, Go.sizeOf, typeInfo, h2, ha, hl]
theorem run_load_one {ty : TypeId} {n b off : Nat} {u : Value} {w : World} (ha : aggT P ty = some (false, n)) (hc : w.cell? ⟨b, off, none⟩ = some u) :
    (Instr.loadAt ty (.pointer (some ⟨b, off, none⟩))).run P w = .ok u w := by
  unfold aggT at ha
  split at ha <;> simp only [Option.some.injEq, Prod.mk.injEq, reduceCtorEq, Bool.true_eq_false, false_and, true_and] at ha
  rename_i d i hs hi h1 h2
  have : (isAgg ty).run P w = .ok false w := by
    unfold isAgg underlying
    simp only [Sem.run_bind, run_program, Result.andThen_ok, h1]
    cases d <;> first | rfl | exact absurd rfl (hs _) | exact absurd rfl (hi _ _)
  simp [Instr.loadAt, Instr.sureAddr, loadVar, this, hc]

/-- the cells from an address on -/
def CellsOf (h : List ABlk) (x : AV) (cells : List AV) : Prop := ∀ (C : Ctx) (S : Nat → Prop) (ψ : Nat → Value) (w : World) (v : Value), HRel C h S ψ w → AV.rel w S h ψ x v →
  ∃ b off, v = .pointer (some ⟨b, off, none⟩) ∧ ∀ j y, cells[j]? = some y → ∃ u, w.cell? ⟨b, off + j, none⟩ = some u ∧ AV.rel w S h ψ y u
/-- an address so much further on -/
def Shift (h : List ABlk) (x : AV) (n : Nat) (y : AV) : Prop := ∀ (C : Ctx) (S : Nat → Prop) (ψ : Nat → Value) (w : World) (v : Value), HRel C h S ψ w → AV.rel w S h ψ x v →
  ∃ b off, v = .pointer (some ⟨b, off, none⟩) ∧ AV.rel w S h ψ y (.pointer (some ⟨b, off + n, none⟩))
theorem CellsOf.ptr {i off : Nat} {cells : List AV} (hi : h[i]? = some (.box cells)) : CellsOf h (.ptr i off) (cells.drop off) := fun C S ψ w v H hv => by
  unfold AV.rel at hv
  obtain ⟨g, h1, rfl⟩ := hv.2 (by rw [hi]; rfl)
  obtain ⟨g', cs, e, h2, _, _, h3, h4⟩ := H.blk i _ hi
  rw [h1] at h2
  cases h2
  refine ⟨g, off, rfl, fun j y hy => ?_⟩
  rw [List.getElem?_drop] at hy
  obtain ⟨u, h5, h6⟩ := relL_get h4 hy
  exact ⟨u, by simp [World.cell?, h3, h5], h6⟩
theorem Shift.ptr {i off n : Nat} {cells : List AV} (hi : h[i]? = some (.box cells)) : Shift h (.ptr i off) n (.ptr i (off + n)) := fun C S ψ w v H hv => by
  unfold AV.rel at hv ⊢
  obtain ⟨g, h1, rfl⟩ := hv.2 (by rw [hi]; rfl)
  exact ⟨g, off, rfl, hv.1, fun _ => ⟨g, h1, rfl⟩⟩
theorem CellsOf.bp {α : Type} {T : Ty α} {d : α} {off : Nat} {enc : α → List AV} (E : Enc T enc) : CellsOf h (.bp T d off) ((enc d).drop off) := fun C S ψ w v H hv => by
  unfold AV.rel at hv
  obtain ⟨b, o, rfl, hS, cs, hR, hc⟩ := hv
  refine ⟨b, o + off, rfl, fun j y hy => ?_⟩
  rw [List.getElem?_drop] at hy
  obtain ⟨u, h5, h6⟩ := relL_get (E w S h ψ cs d hR) hy
  exact ⟨u, by rw [Nat.add_assoc]; exact hc _ _ h5, h6⟩
theorem Shift.bp {α : Type} {T : Ty α} {d : α} {off n : Nat} : Shift h (.bp T d off) n (.bp T d (off + n)) := fun C S ψ w v H hv => by
  unfold AV.rel at hv
  obtain ⟨b, o, rfl, hat⟩ := hv
  exact ⟨b, o + off, rfl, by unfold AV.rel; exact ⟨b, o, by rw [Nat.add_assoc], hat⟩⟩
theorem CellsOf.rp {α : Type} {T : Ty α} {i ver k off : Nat} {e : TypeId} {l : List α} {d : α} {enc : α → List AV} (hi : h[i]? = some (.row ver e T l)) (hk : l[k]? = some d) (E : Enc T enc) : CellsOf h (.rp i ver k off) ((enc d).drop off) := fun C S ψ w v H hv => by
  unfold AV.rel at hv
  obtain ⟨g, n, c, h1, rfl⟩ := (hv.2 _ (by rw [hi]; rfl)).2 rfl
  obtain ⟨cells, h2, h0, h3, _⟩ := H.blk i _ hi
  rw [h1] at h2
  refine ⟨g, _, rfl, fun j y hy => ?_⟩
  rw [List.getElem?_drop] at hy
  obtain ⟨u, h5, h6⟩ := relL_get (E w S h ψ _ d (h3 k d hk)) hy
  have hj : off + j < T.size := by
    have := (List.getElem?_eq_some_iff.1 h5).1
    simp at this
    omega
  rw [List.getElem?_take_of_lt hj, List.getElem?_drop] at h5
  have hkl : k < l.length := (List.getElem?_eq_some_iff.1 hk).1
  have hlt : k * T.size + (off + j) < n * T.size := by
    have hn : n = l.length := by
      rcases h2.2 with ⟨e1, _⟩ | ⟨g', cap, cur, e1, _⟩
      · cases e1
      · cases e1; rfl
    have : (k + 1) * T.size ≤ n * T.size := Nat.mul_le_mul_right _ (by omega)
    rw [Nat.add_mul, Nat.one_mul] at this
    omega
  refine ⟨u, ?_, h6⟩
  have hcell := World.ownsRow.cells h2 (g := g) rfl _ _ h5
  rw [hi]
  show w.cell? ⟨g, k * T.size + off + j, none⟩ = some u
  rw [add_plain, Nat.zero_add, ← Nat.add_assoc] at hcell
  exact hcell
theorem Shift.rp {α : Type} {T : Ty α} {i ver k off n : Nat} {e : TypeId} {l : List α} (hi : h[i]? = some (.row ver e T l)) : Shift h (.rp i ver k off) n (.rp i ver k (off + n)) := fun C S ψ w v H hv => by
  unfold AV.rel at hv ⊢
  obtain ⟨g, m, c, h1, rfl⟩ := (hv.2 _ (by rw [hi]; rfl)).2 rfl
  exact ⟨g, _, rfl, hv.1, fun c' hc' => ⟨(hv.2 c' hc').1, fun _ => ⟨g, m, c, h1, by rw [Nat.add_assoc]⟩⟩⟩

theorem Quiet.load1 {ty : TypeId} {x : Operand} {n : Nat} {a r : AV} {cells : List AV} (ho : o.op = .load ty x) (ha : aggT P ty = some (false, n)) (hx : evA t x = a) (hc : CellsOf h a cells) (hr : cells[0]? = some r) : Quiet P C t h o r :=
  Quiet.of_run fun S ψ w ρ H hρ => by
    have h1 := hρ x (by simp [ho, Op.operands])
    rw [hx] at h1
    obtain ⟨b, off, e, hj⟩ := hc C S ψ w _ H h1
    obtain ⟨u, h2, h3⟩ := hj 0 r hr
    exact ⟨u, by simp [execOp, ho, e, run_load_one ha (by simpa using h2)], h3⟩
theorem Quiet.loadA {ty : TypeId} {x : Operand} {n : Nat} {a : AV} {cells rs : List AV} (ho : o.op = .load ty x) (ha : aggT P ty = some (true, n)) (hx : evA t x = a) (hc : CellsOf h a cells) (hr : cells.take n = rs) (hn : rs.length = n) : Quiet P C t h o (.agg rs) :=
  Quiet.of_run fun S ψ w ρ H hρ => by
    have h1 := hρ x (by simp [ho, Op.operands])
    rw [hx] at h1
    obtain ⟨b, off, e, hj⟩ := hc C S ψ w _ H h1
    have key : ∀ m, m ≤ n → ∃ cs : List Value, cs.length = m ∧ AV.relL w S h ψ (rs.take m) cs ∧ ∀ j u, cs[j]? = some u → w.cell? ⟨b, off + j, none⟩ = some u := by
      intro m
      induction m with
      | zero => exact fun _ => ⟨[], rfl, by simp [AV.relL], by simp⟩
      | succ m ih =>
        intro hm
        obtain ⟨cs, hl, hr1, hr2⟩ := ih (by omega)
        have hy : rs[m]? = some (rs[m]'(by omega)) := List.getElem?_eq_getElem (by omega)
        have hy0 : rs[m]? = cells[m]? := by rw [← hr, List.getElem?_take_of_lt (by omega)]
        have hy' : cells[m]? = some (rs[m]'(by omega)) := hy0.symm.trans hy
        obtain ⟨u, h2, h3⟩ := hj m _ hy'
        refine ⟨cs ++ [u], by simp [hl], ?_, fun j v hv => ?_⟩
        · rw [List.take_succ_eq_append_getElem (by omega)]
          refine relL_append hr1 ?_
          unfold AV.relL
          refine ⟨u, [], rfl, h3, ?_⟩
          unfold AV.relL
          rfl
        · by_cases hjm : j < m
          · exact hr2 j v (by rwa [List.getElem?_append_left (by omega)] at hv)
          · have : j = m := by
              have := (List.getElem?_eq_some_iff.1 hv).1
              simp [hl] at this
              omega
            subst this
            rw [List.getElem?_append_right (by omega), hl] at hv
            simp at hv
            subst hv
            exact h2
    obtain ⟨cs, hl, hr1, hr2⟩ := key n (Nat.le_refl _)
    rw [List.take_of_length_le (by omega)] at hr1
    refine ⟨.agg cs.toArray, by simp [execOp, ho, e, run_load_agg ha hl hr2], ?_⟩
    unfold AV.rel
    exact ⟨cs, rfl, hr1⟩

def fieldOff (P : Program) (st : TypeId) (j : Nat) : Option Nat :=
  match P.underlying st with
  | some (.struct fs) =>
    match fs[j]? with
    | some f => match P.info? f.type with
      | some i => if i.size = 0 then none else some f.offset
      | none => none
    | none => none
  | _ => none
theorem run_fieldAt {st : TypeId} {j n b off : Nat} {w : World} (hf : fieldOff P st j = some n) : (Instr.fieldAt st (.pointer (some ⟨b, off, none⟩)) j).run P w = .ok (.pointer (some ⟨b, off + n, none⟩)) w := by
  unfold fieldOff at hf
  split at hf <;> try (cases hf; done)
  rename_i fs h1
  split at hf <;> try (cases hf; done)
  rename_i f h2
  split at hf <;> try (cases hf; done)
  rename_i i h3
  split at hf <;> try (cases hf; done)
  rename_i h4
  cases hf
  simp [Instr.fieldAt, underlying, h1, h2, Instr.sureAddr, fieldPlace, Go.sizeOf, typeInfo, h3, h4, add_plain]
theorem Quiet.fieldAddr {st : TypeId} {x : Operand} {j n : Nat} {a r : AV} (ho : o.op = .fieldAddr st x j) (hf : fieldOff P st j = some n) (hx : evA t x = a) (hs : Shift h a n r) : Quiet P C t h o r :=
  Quiet.of_run fun S ψ w ρ H hρ => by
    have h1 := hρ x (by simp [ho, Op.operands])
    rw [hx] at h1
    obtain ⟨b, off, e, hr⟩ := hs C S ψ w _ H h1
    exact ⟨_, by simp [execOp, ho, e, run_fieldAt hf], hr⟩

def elemSz (P : Program) (ty : TypeId) : Option Nat :=
  match P.underlying ty with
  | some (.slice e) => (P.info? e).map (·.size)
  | _ => none
theorem run_indexAt_sl {ty : TypeId} {sz b off n c k : Nat} {ik : IntKind} {w : World} (hs : elemSz P ty = some sz) (hk : k < n) : (Instr.indexAt ty (.slice (some ⟨b, off, none⟩) n c) (.int ik (k : Int))).run P w = .ok (.pointer (some ⟨b, off + k * sz, none⟩)) w := by
  unfold elemSz at hs
  split at hs <;> try (cases hs; done)
  rename_i e h1
  cases h2 : P.info? e with
  | none => rw [h2] at hs; cases hs
  | some i =>
    rw [h2] at hs
    simp only [Option.map_some, Option.some.injEq] at hs
    have h3 : (0 : Int) ≤ (k : Int) ∧ (k : Int) < (n : Int) := by omega
    simp [Instr.indexAt, asIntOf, underlying, h1, Go.sizeOf, typeInfo, h2, hs, add_plain, hk]
theorem Quiet.index_bs {ty : TypeId} {x y : Operand} {ik : IntKind} {n : Int} {α : Type} {T : Ty α} {l : List α} {d : α} (ho : o.op = .indexAddr ty x y) (hs : elemSz P ty = some T.size) (hx : evA t x = .bs T l) (hy : evA t y = .lit (.int ik n)) (h0 : 0 ≤ n) (hd : l[n.toNat]? = some d) :
    Quiet P C t h o (.bp T d 0) :=
  Quiet.of_run fun S ψ w ρ H hρ => by
    have h1 := hρ x (by simp [ho, Op.operands])
    have h2 := hρ y (by simp [ho, Op.operands])
    rw [hx] at h1
    rw [hy] at h2
    unfold AV.rel at h1 h2
    obtain ⟨A, c, e, hc, -, hi⟩ := h1
    obtain ⟨b, off, rfl, hat⟩ := hi _ _ hd
    have hk : n.toNat < l.length := (List.getElem?_eq_some_iff.1 hd).1
    have hn : n = (n.toNat : Int) := by omega
    simp only [List.cons.injEq, and_true] at e
    have hr := run_indexAt_sl (P := P) (w := w) (b := b) (off := off) (c := c) (ik := ik) hs hk
    rw [← hn] at hr
    refine ⟨_, by simp [execOp, ho, e, h2, hr]; rfl, ?_⟩
    unfold AV.rel
    exact ⟨b, _, rfl, hat⟩
theorem Quiet.index_own {ty : TypeId} {x y : Operand} {ik : IntKind} {n : Int} {i ver : Nat} {e : TypeId} {α : Type} {T : Ty α} {l : List α} (ho : o.op = .indexAddr ty x y) (hx : evA t x = .own i ver) (hi : h[i]? = some (.row ver e T l)) (hs : elemSz P ty = some T.size)
    (hy : evA t y = .lit (.int ik n)) (h0 : 0 ≤ n) (hk : n.toNat < l.length) : Quiet P C t h o (.rp i ver n.toNat 0) :=
  Quiet.of_run fun S ψ w ρ H hρ => by
    have h1 := hρ x (by simp [ho, Op.operands])
    have h2 := hρ y (by simp [ho, Op.operands])
    rw [hx] at h1
    rw [hy] at h2
    unfold AV.rel at h1 h2
    have h3 := (h1.2 _ (by rw [hi]; rfl)).2 rfl
    obtain ⟨cells, hown, h0', -, -⟩ := H.blk i _ hi
    rcases hown.2 with ⟨e1, e2⟩ | ⟨g, cap, cur, e1, -⟩
    · omega
    · have hn : n = (n.toNat : Int) := by omega
      have hr := run_indexAt_sl (P := P) (w := w) (b := g) (off := 0) (n := l.length) (c := cap) (ik := ik) hs hk
      rw [← hn] at hr
      rw [e1] at h3
      refine ⟨_, by simp [execOp, ho, h3, h2, hr]; rfl, ?_⟩
      unfold AV.rel
      refine ⟨h1.1, fun c' hc' => ⟨(h1.2 c' hc').1, fun _ => ⟨g, l.length, cap, e1, ?_⟩⟩⟩
      rw [hi]
      show _ = Value.pointer (some ⟨g, n.toNat * T.size + 0, none⟩)
      simp
def isSlice (P : Program) (ty : TypeId) : Bool :=
  match P.underlying ty with
  | some (.slice _) => true
  | _ => false
theorem run_len {ty ty' : TypeId} {a : Option Addr} {n c : Nat} {w : World} (hs : isSlice P ty = true) : (Builtin.len_ #[ty] ty' #[.slice a n c]).run P w = .ok (.int .i64 (n : Int)) w := by
  unfold isSlice at hs
  split at hs <;> try (cases hs; done)
  rename_i e h1
  simp [Builtin.len_, underlying, h1, goInt]
theorem Quiet.len_bs {ty : TypeId} {x : Operand} {α : Type} {T : Ty α} {l : List α} (ho : o.op = .call { callee := .builtin .len, args := #[x], argTypes := #[ty] }) (hs : isSlice P ty = true) (hx : evA t x = .bs T l) : Quiet P C t h o (.lit (.int .i64 (l.length : Int))) :=
  Quiet.of_run fun S ψ w ρ H hρ => by
    have h1 := hρ x (by simp [ho, Op.operands, Call.operands])
    rw [hx] at h1
    unfold AV.rel at h1
    obtain ⟨A, c, e, -⟩ := h1
    simp only [List.cons.injEq, and_true] at e
    refine ⟨_, by simp [execOp, ho, resolve, invoke, builtin, e, run_len hs]; rfl, ?_⟩
    unfold AV.rel
    rfl
theorem Quiet.len_own {ty : TypeId} {x : Operand} {i ver : Nat} {e : TypeId} {α : Type} {T : Ty α} {l : List α} (ho : o.op = .call { callee := .builtin .len, args := #[x], argTypes := #[ty] }) (hx : evA t x = .own i ver) (hi : h[i]? = some (.row ver e T l)) (hs : isSlice P ty = true) : Quiet P C t h o (.lit (.int .i64 (l.length : Int))) :=
  Quiet.of_run fun S ψ w ρ H hρ => by
    have h1 := hρ x (by simp [ho, Op.operands, Call.operands])
    rw [hx] at h1
    unfold AV.rel at h1
    have h3 := (h1.2 _ (by rw [hi]; rfl)).2 rfl
    obtain ⟨cells, hown, h0', -, -⟩ := H.blk i _ hi
    rcases hown.2 with ⟨e1, e2⟩ | ⟨g, cap, cur, e1, -⟩
    · rw [e1] at h3
      refine ⟨_, by simp [execOp, ho, resolve, invoke, builtin, h3, run_len hs]; rfl, ?_⟩
      unfold AV.rel
      rw [e2]
      rfl
    · rw [e1] at h3
      refine ⟨_, by simp [execOp, ho, resolve, invoke, builtin, h3, run_len hs]; rfl, ?_⟩
      unfold AV.rel
      rfl
theorem Quiet.len_lit {ty : TypeId} {x : Operand} {a : Option Addr} {n c : Nat} (ho : o.op = .call { callee := .builtin .len, args := #[x], argTypes := #[ty] }) (hx : evA t x = .lit (.slice a n c)) (hs : isSlice P ty = true) : Quiet P C t h o (.lit (.int .i64 (n : Int))) :=
  Quiet.of_run fun S ψ w ρ H hρ => by
    have h1 := hρ x (by simp [ho, Op.operands, Call.operands])
    rw [hx] at h1
    unfold AV.rel at h1
    refine ⟨_, by simp [execOp, ho, resolve, invoke, builtin, h1, run_len hs]; rfl, ?_⟩
    unfold AV.rel
    rfl
theorem Quiet.max2 {tys : Array TypeId} {x y : Operand} {k : IntKind} {a b : Int} (ho : o.op = .call { callee := .builtin .max, args := #[x, y], argTypes := tys }) (hx : evA t x = .lit (.int k a)) (hy : evA t y = .lit (.int k b)) : Quiet P C t h o (.lit (.int k (if b > a then b else a))) :=
  Quiet.of_run fun S ψ w ρ H hρ => by
    have h1 := hρ x (by simp [ho, Op.operands, Call.operands])
    have h2 := hρ y (by simp [ho, Op.operands, Call.operands])
    rw [hx] at h1
    rw [hy] at h2
    unfold AV.rel at h1 h2
    refine ⟨_, by simp [execOp, ho, resolve, invoke, builtin, h1, h2, Builtin.max_, Builtin.max2]; rfl, ?_⟩
    unfold AV.rel
    rfl
theorem Quiet.min2 {tys : Array TypeId} {x y : Operand} {k : IntKind} {a b : Int} (ho : o.op = .call { callee := .builtin .min, args := #[x, y], argTypes := tys }) (hx : evA t x = .lit (.int k a)) (hy : evA t y = .lit (.int k b)) : Quiet P C t h o (.lit (.int k (if b < a then b else a))) :=
  Quiet.of_run fun S ψ w ρ H hρ => by
    have h1 := hρ x (by simp [ho, Op.operands, Call.operands])
    have h2 := hρ y (by simp [ho, Op.operands, Call.operands])
    rw [hx] at h1
    rw [hy] at h2
    unfold AV.rel at h1 h2
    refine ⟨_, by simp [execOp, ho, resolve, invoke, builtin, h1, h2, Builtin.min_, Builtin.min2]; rfl, ?_⟩
    unfold AV.rel
    rfl
end
end Mu
end
