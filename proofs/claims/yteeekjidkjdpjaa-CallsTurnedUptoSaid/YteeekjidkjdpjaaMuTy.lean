/-
  Readings of Go data as plain Lean data: a 'Ty' says how cells in a world stand for a plain value; such a reading is kept while the blocks below a bound stay as they are.
  Conditions: none; generic, no program in sight.
-/
import Derived.WalkKit
import Derived.ProofKit
import Derived.Deep.Slices
import Derived.Lib.Hide
namespace Mu
open Go Go.RowKit Go.ChangeShapes Go.WideShapes

/-- the cells from an address on -/
def CellsAt (w : World) (b o : Nat) (cs : List Value) : Prop := ∀ j u, cs[j]? = some u → w.cell? ⟨b, o + j, none⟩ = some u

theorem CellsAt.keep {w w' : World} {b o : Nat} {cs : List Value} (h : CellsAt w b o cs) (hb : w'.heap[b]? = w.heap[b]?) : CellsAt w' b o cs :=
  fun j u hu => (World.cell?_of_block (w := w) (a := ⟨b, o + j, none⟩) hb).trans (h j u hu)

/-- a reading: the cells stand for d, and all blocks that are reached are among those of S -/
structure Ty (α : Type) where
  size : Nat
  bulk : α → Nat
  RS : World → (Nat → Prop) → List Value → α → Prop
  len : ∀ {w S cs d}, RS w S cs d → cs.length = size
  keepS : ∀ {w w' : World} {S S' : Nat → Prop} {cs d}, RS w S cs d → (∀ k, S k → w'.heap[k]? = w.heap[k]?) → (∀ k, S k → S' k) → RS w' S' cs d

variable {α β : Type}

/-- .. all blocks below B -/
def Ty.R (T : Ty α) (w : World) (B : Nat) (cs : List Value) (d : α) : Prop := T.RS w (fun k => k < B) cs d

theorem Ty.keep {T : Ty α} {w w' : World} {B B' : Nat} {cs d} (h : T.R w B cs d) (hb : ∀ k, k < B → w'.heap[k]? = w.heap[k]?) (hB : B ≤ B') : T.R w' B' cs d :=
  T.keepS h hb (fun _ hk => Nat.lt_of_lt_of_le hk hB)
theorem Ty.toR {T : Ty α} {w : World} {S : Nat → Prop} {B : Nat} {cs d} (h : T.RS w S cs d) (hB : ∀ k, S k → k < B) : T.R w B cs d := T.keepS h (fun _ _ => rfl) hB
theorem Ty.below {T : Ty α} {w w' : World} {B : Nat} {cs d} (h : T.R w B cs d) (hb : Below B w w') (hB : B ≤ w'.heap.size) : T.R w' w'.heap.size cs d :=
  T.keep h hb.block hB
theorem Ty.below' {T : Ty α} {w w' : World} {B : Nat} {cs d} (h : T.R w B cs d) (hb : Below B w w') : T.R w' B cs d :=
  T.keep h hb.block (Nat.le_refl _)

/-- one element at an address -/
def Ty.AtS (T : Ty α) (w : World) (S : Nat → Prop) (b o : Nat) (d : α) : Prop := S b ∧ ∃ cs, T.RS w S cs d ∧ CellsAt w b o cs
def Ty.At (T : Ty α) (w : World) (B b o : Nat) (d : α) : Prop := T.AtS w (fun k => k < B) b o d

theorem Ty.AtS.keep {T : Ty α} {w w' : World} {S S' : Nat → Prop} {b o : Nat} {d : α} (h : T.AtS w S b o d) (hb : ∀ k, S k → w'.heap[k]? = w.heap[k]?) (hS : ∀ k, S k → S' k) : T.AtS w' S' b o d :=
  let ⟨h1, cs, h2, h3⟩ := h
  ⟨hS b h1, cs, T.keepS h2 hb hS, h3.keep (hb b h1)⟩

/-! ### integers, bools, strings -/
def Ty.int (k : IntKind) : Ty Int where
  size := 1
  bulk := fun _ => 1
  RS := fun _ _ cs d => cs = [.int k d] ∧ (Lit.int k d).wf = true
  len := by rintro _ _ _ _ ⟨rfl, _⟩; rfl
  keepS := fun h _ _ => h
def Ty.bool : Ty Bool where
  size := 1
  bulk := fun _ => 1
  RS := fun _ _ cs d => cs = [.bool d]
  len := by rintro _ _ _ _ rfl; rfl
  keepS := fun h _ _ => h
def Ty.str : Ty ByteArray where
  size := 1
  bulk := fun s => s.size + 1
  RS := fun _ _ cs d => cs = [.string d] ∧ d.size ≤ maxLen
  len := by rintro _ _ _ _ ⟨rfl, _⟩; rfl
  keepS := fun h _ _ => h

/-! ### slices -/
def bulkL (f : α → Nat) : List α → Nat
  | [] => 0
  | x :: l => f x + bulkL f l

theorem bulkL_append (f : α → Nat) (l m : List α) : bulkL f (l ++ m) = bulkL f l + bulkL f m := by
  induction l with
  | nil => simp [bulkL]
  | cons x l ih => simp only [List.cons_append, bulkL, ih]; omega
theorem bulkL_mem {f : α → Nat} {l : List α} {x : α} (h : x ∈ l) : f x ≤ bulkL f l := by
  induction l with
  | nil => cases h
  | cons y l ih =>
    unfold bulkL
    cases h with
    | head => omega
    | tail _ h => have := ih h; omega
theorem bulkL_length {f : α → Nat} (hf : ∀ x, 1 ≤ f x) (l : List α) : l.length ≤ bulkL f l := by
  induction l with
  | nil => simp [bulkL]
  | cons y l ih => unfold bulkL; have := hf y; simp only [List.length_cons]; omega

def Ty.slice (T : Ty α) : Ty (List α) where
  size := 1
  bulk := fun ds => bulkL T.bulk ds + 1
  RS := fun w S cs ds => ∃ A c, cs = [.slice A ds.length c] ∧ ds.length ≤ c ∧ (c ≤ maxLen ∧ (A = none → c = 0)) ∧ ∀ i d, ds[i]? = some d → ∃ b o, A = some ⟨b, o, none⟩ ∧ T.AtS w S b (o + i * T.size) d
  len := by rintro _ _ _ _ ⟨A, c, rfl, _⟩; rfl
  keepS := by
    rintro w w' S S' cs ds ⟨A, c, rfl, hl, hc, hi⟩ hb hS
    refine ⟨A, c, rfl, hl, hc, fun i d hd => ?_⟩
    obtain ⟨b, o, rfl, h⟩ := hi i d hd
    exact ⟨b, o, rfl, h.keep hb hS⟩

theorem Ty.slice_nilS (T : Ty α) (w : World) (S : Nat → Prop) : T.slice.RS w S [.slice none 0 0] [] := ⟨none, 0, rfl, Nat.le_refl _, ⟨Nat.zero_le _, fun _ => rfl⟩, by simp⟩
theorem Ty.slice_nil (T : Ty α) (w : World) (B : Nat) : T.slice.R w B [.slice none 0 0] [] := T.slice_nilS w _

/-! ### rows of fields -/
def Ty.none_ : Ty Unit where
  size := 0
  bulk := fun _ => 0
  RS := fun _ _ cs _ => cs = []
  len := by rintro _ _ _ _ rfl; rfl
  keepS := fun h _ _ => h
def Ty.cons (T : Ty α) (U : Ty β) : Ty (α × β) where
  size := T.size + U.size
  bulk := fun d => T.bulk d.1 + U.bulk d.2
  RS := fun w S cs d => ∃ c1 c2, cs = c1 ++ c2 ∧ T.RS w S c1 d.1 ∧ U.RS w S c2 d.2
  len := by
    rintro _ _ _ _ ⟨c1, c2, rfl, h1, h2⟩
    rw [List.length_append, T.len h1, U.len h2]
  keepS := by
    rintro w w' S S' cs d ⟨c1, c2, rfl, h1, h2⟩ hb hS
    exact ⟨c1, c2, rfl, T.keepS h1 hb hS, U.keepS h2 hb hS⟩
def Ty.via (U : Ty β) (f : β → α) (g : α → β) : Ty α where
  size := U.size
  bulk := fun d => U.bulk (g d) + 1
  RS := fun w S cs d => U.RS w S cs (g d) ∧ f (g d) = d
  len := fun h => U.len h.1
  keepS := fun h hb hS => ⟨U.keepS h.1 hb hS, h.2⟩

/-! ### what can be read is so -/
def bulkD {H : Type} : DataW H → Nat
  | .lit (.string bytes) => bytes.length + 1
  | .slice elems spare => go elems + go spare + 1
  | .agg parts => go parts + 1
  | _ => 1
where go : List (DataW H) → Nat
  | [] => 0
  | d :: r => bulkD d + go r

theorem bulkD_go_append {H : Type} (l m : List (DataW H)) : bulkD.go (l ++ m) = bulkD.go l + bulkD.go m := by
  induction l with
  | nil => simp [bulkD.go]
  | cons x l ih => simp only [List.cons_append, bulkD.go, ih]; omega

structure Opens (P : Program) (t : TypeId) (T : Ty α) : Prop where
  go : ∀ (H : Type) (enc : TypeId × Value → H) (w : World) (base : Nat) (spare : Nat → Bool) (held : Bool) (n : Nat) (cs : List Value) (x : DataW H × List MemPlace) (B : Nat),
    DataW.trod enc P w base spare held n t cs = some x → (∀ p ∈ x.2, p.block < B) → ∃ d, T.R w B cs d ∧ T.bulk d ≤ bulkD x.1

theorem opens_int {P : Program} {t : TypeId} {k : IntKind} (ht : P.underlying t = some (.int k)) : Opens P t (Ty.int k) := by
  refine ⟨fun H enc => ?_⟩
  intro w base spare held n cs x B h _
  obtain ⟨m, rfl, rfl, hw⟩ := DataW.trod_int ht h
  exact ⟨m, ⟨rfl, hw⟩, by simp [Ty.int, bulkD]⟩
theorem opens_bool {P : Program} {t : TypeId} (ht : P.underlying t = some .bool) : Opens P t Ty.bool := by
  refine ⟨fun H enc => ?_⟩
  intro w base spare held n cs x B h _
  obtain ⟨m, rfl, rfl⟩ := DataW.trod_bool ht h
  exact ⟨m, rfl, by simp [Ty.bool, bulkD]⟩
theorem opens_str {P : Program} {t : TypeId} (ht : P.underlying t = some .string) : Opens P t Ty.str := by
  refine ⟨fun H enc => ?_⟩
  intro w base spare held n cs x B h _
  obtain ⟨s, rfl, rfl, hw⟩ := DataW.trod_string ht h
  refine ⟨s, ⟨rfl, hw⟩, ?_⟩
  have : s.data.toList.length = s.size := by rw [Array.length_toList]; rfl
  show s.size + 1 ≤ s.data.toList.length + 1
  omega

theorem cellsAt_of_cells? {w : World} {base n : Nat} {a : Addr} {cs : List Value} (h : w.cells? base a n = some cs) (hn : 0 < n) : a.spot = none ∧ CellsAt w a.block a.off cs := by
  obtain ⟨hb, hl, hat⟩ := World.cells?_some h
  have hs : a.spot = none := by
    have h0 := hat 0 hn
    rw [show a.add 0 = a from by simp [Addr.add]] at h0
    have hv : cs[0]? = some (cs[0]'(by omega)) := List.getElem?_eq_getElem (by omega)
    rw [hv] at h0
    unfold World.cell? at h0
    split at h0
    · split at h0
      · cases h0
      · rename_i hsp
        cases hsx : a.spot with
        | none => rfl
        | some z => simp [hsx] at hsp
    · cases h0
  refine ⟨hs, fun j u hu => ?_⟩
  have hj : j < n := by
    have := (List.getElem?_eq_some_iff.1 hu).1
    omega
  have := hat j hj
  rw [hu] at this
  rw [← this]
  congr 1
  obtain ⟨b, o, s⟩ := a
  simp only at hs
  subst hs
  unfold Addr.add
  by_cases hz : j = 0 <;> simp [hz]

theorem opens_slice {P : Program} {t e : TypeId} {T : Ty α} (ht : P.underlying t = some (.slice e)) (hC : P.cellsOf e = T.size) (hp : 0 < T.size) (he : Opens P e T) : Opens P t T.slice := by
  refine ⟨fun H enc => ?_⟩
  intro w base spare held n cs x B h hB
  rcases DataW.trod_slice ht h with ⟨rfl, rfl⟩ | ⟨a, len, cap, elems, rest, m, _, rfl, rfl, hb, hl, hm, hlen, hel, hsp, hns⟩
  · exact ⟨[], T.slice_nil w B, by simp [Ty.slice, bulkL, bulkD]⟩
  · have hone : ∀ i, i < len → ∃ d, (a.add (i * T.size)).spot = none ∧ T.At w B (a.add (i * T.size)).block (a.add (i * T.size)).off d ∧ ∃ y, elems[i]? = some y ∧ T.bulk d ≤ bulkD y.1 := by
      intro i hi
      have hi' := hel i hi
      have hy : elems[i]? = some (elems[i]'(by omega)) := List.getElem?_eq_getElem (by omega)
      rw [hy, hC] at hi'
      obtain ⟨cs', h1, h2⟩ := Option.bind_eq_some_iff.1 hi'
      obtain ⟨hs, hat⟩ := cellsAt_of_cells? h1 hp
      obtain ⟨d, hd, hbk⟩ := he.go H enc w base spare held m cs' _ B h2 (fun p hp => hB p (by
        simp only [List.mem_append, List.mem_flatMap]
        exact .inr ⟨elems[i]'(by omega), .inl (List.getElem_mem _), hp⟩))
      refine ⟨d, hs, ⟨?_, cs', hd, hat⟩, _, hy, hbk⟩
      have hblk : (a.add (i * T.size)).block = a.block := by unfold Addr.add; split <;> rfl
      rw [hblk]
      refine hB (.cell a.block a.off) ?_
      simp only [List.mem_append]
      left
      rw [hC]
      have hpos : 0 < (elems.length + rest.length) * T.size := Nat.mul_pos (by omega) hp
      exact List.mem_map.2 ⟨0, by simpa using hpos, by simp⟩
    have key : ∀ k, k ≤ len → ∃ ds : List α, ds.length = k ∧ bulkL T.bulk ds ≤ bulkD.go ((elems.take k).map (·.1)) ∧ ∀ i d, ds[i]? = some d → (a.add (i * T.size)).spot = none ∧ T.At w B (a.add (i * T.size)).block (a.add (i * T.size)).off d := by
      intro k
      induction k with
      | zero => exact fun _ => ⟨[], rfl, by simp [bulkL], by simp⟩
      | succ k ih =>
        intro hk
        obtain ⟨ds, hdl, hdb, hdi⟩ := ih (by omega)
        obtain ⟨d, hs, hat, y, hy, hbk⟩ := hone k (by omega)
        refine ⟨ds ++ [d], by simp [hdl], ?_, ?_⟩
        · rw [List.take_add_one, hy, bulkL_append]
          simp only [Option.toList_some, List.map_append, bulkD_go_append, List.map_cons, List.map_nil, bulkL, bulkD.go]
          omega
        · intro i d' hd'
          by_cases hi : i < k
          · exact hdi i d' (by rwa [List.getElem?_append_left (by omega)] at hd')
          · have hik : i = k := by
              have := (List.getElem?_eq_some_iff.1 hd').1
              simp [hdl] at this
              omega
            subst hik
            rw [List.getElem?_append_right (by omega), hdl] at hd'
            simp at hd'
            subst hd'
            exact ⟨hs, hat⟩
    obtain ⟨ds, hdl, hdb, hdi⟩ := key len (Nat.le_refl _)
    refine ⟨ds, ⟨some a, cap, by rw [hdl], by omega, ⟨hm, fun e => by cases e⟩, fun i d hd => ?_⟩, ?_⟩
    · have h0 : ∃ d0, ds[0]? = some d0 := by
        have := (List.getElem?_eq_some_iff.1 hd).1
        exact ⟨ds[0]'(by omega), List.getElem?_eq_getElem (by omega)⟩
      obtain ⟨d0, hd0⟩ := h0
      have hs0 := (hdi 0 d0 hd0).1
      obtain ⟨b, o, s⟩ := a
      have : s = none := by simpa [Addr.add] using hs0
      subst this
      refine ⟨b, o, rfl, ?_⟩
      have := (hdi i d hd).2
      rwa [add_plain] at this
    · have ht2 : elems.take len = elems := List.take_of_length_le (by omega)
      rw [ht2] at hdb
      simp only [Ty.slice, bulkD]
      omega

/-- the fields of a struct, from one on -/
structure OpensF (P : Program) (fs : List Field) (off : Nat) (U : Ty β) : Prop where
  go : ∀ (H : Type) (enc : TypeId × Value → H) (w : World) (base : Nat) (spare : Nat → Bool) (held : Bool) (n : Nat) (cs : List Value) (ys : List (DataW H × List MemPlace)) (B : Nat),
    cs.length = off + U.size → ys.length = fs.length →
    (∀ (j : Nat) (f : Field), fs[j]? = some f → DataW.trod enc P w base spare held n f.type ((cs.drop f.offset).take (P.cellsOf f.type)) = ys[j]?) →
    (∀ p ∈ ys.flatMap (·.2), p.block < B) → ∃ d, U.R w B (cs.drop off) d ∧ U.bulk d ≤ bulkD.go (ys.map (·.1))

theorem opensF_nil {P : Program} {off : Nat} : OpensF P [] off Ty.none_ := by
  refine ⟨fun H enc => ?_⟩
  intro w base spare held n cs ys B hcs hys _ _
  refine ⟨(), ?_, Nat.zero_le _⟩
  have : cs.length ≤ off := by simp [Ty.none_] at hcs; omega
  exact List.drop_eq_nil_of_le this
theorem opensF_cons {P : Program} {f : Field} {fs : List Field} {off : Nat} {T : Ty α} {U : Ty β} (ho : f.offset = off) (hC : P.cellsOf f.type = T.size) (hT : Opens P f.type T) (hU : OpensF P fs (off + T.size) U) :
    OpensF P (f :: fs) off (T.cons U) := by
  refine ⟨fun H enc => ?_⟩
  intro w base spare held n cs ys B hcs hys hf hB
  match ys, hys with
  | y :: ys, hys =>
    have h0 := hf 0 f rfl
    rw [ho, hC] at h0
    simp only [List.getElem?_cons_zero] at h0
    obtain ⟨d, hd, hbd⟩ := hT.go H enc w base spare held n _ y B h0 (fun p hp => hB p (by simp; exact .inl hp))
    obtain ⟨e, he, hbe⟩ := hU.go H enc w base spare held n cs ys B (by simp [Ty.cons] at hcs; omega) (by simpa using hys)
      (fun j g hg => by have := hf (j + 1) g (by simpa using hg); simpa using this) (fun p hp => hB p (by simp only [List.flatMap_cons, List.mem_append]; exact .inr hp))
    refine ⟨(d, e), ⟨_, _, ?_, hd, he⟩, ?_⟩
    · rw [← List.drop_drop]
      exact (List.take_append_drop T.size (cs.drop off)).symm
    · simp only [Ty.cons, List.map_cons, bulkD.go]; omega

theorem opens_struct {P : Program} {t : TypeId} {fs : List Field} {U : Ty β} {f : β → α} {g : α → β} (ht : P.underlying t = some (.struct fs.toArray)) (hC : P.cellsOf t = U.size) (hU : OpensF P fs 0 U) (hgf : ∀ b, g (f b) = b) :
    Opens P t (U.via f g) := by
  refine ⟨fun H enc => ?_⟩
  intro w base spare held n cs x B h hB
  obtain ⟨ys, m, _, rfl, hlen, hyl, hf⟩ := DataW.trod_struct ht h
  obtain ⟨d, hd, hbd⟩ := hU.go H enc w base spare held m cs ys B (by omega) (by simpa using hyl) (fun j g hg => hf j g (by simpa using hg)) hB
  refine ⟨f d, ⟨?_, by rw [hgf]⟩, ?_⟩
  · rw [hgf]; rw [List.drop_zero] at hd; exact hd
  · simp only [Ty.via, hgf, bulkD]; omega
end Mu
