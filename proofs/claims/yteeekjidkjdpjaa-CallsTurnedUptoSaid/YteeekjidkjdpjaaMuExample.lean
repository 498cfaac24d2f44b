/-
  The document's program, made: what its making leaves.
  Conditions: none.
-/
import Derived.Test.YteeekjidkjdpjaaMuGreat
namespace Mu
open Go Go.RowKit Go.Proofs

theorem block_slice {α : Type} {T : Ty α} {w : World} {g n : Nat} {t : TypeId} {cs : List Value} {ds : List α} {S : Nat → Prop} (h : w.heap[g]? = some (.cells cs.toArray t (0, 0))) (hn : n = ds.length) (hl : cs.length = n * T.size) (hm : n ≤ maxLen)
    (hc : ∀ i d, ds[i]? = some d → T.RS w S ((cs.drop (i * T.size)).take T.size) d) (hS : S g) : T.slice.RS w S [.slice (some ⟨g, 0, none⟩) n n] ds := by
  subst hn
  refine own_slice (base := 0) (e := t) (cells := cs) ⟨hl, .inr ⟨g, ds.length, cs.toArray, rfl, Nat.zero_le _, h, Nat.le_refl _, hm, by simpa using hl, ?_⟩⟩ hc (fun g' hg => ?_)
  · rw [← hl]; simp
  · cases hg
    exact hS

theorem wf0 : wfI .i64 0 := (by decide : (Lit.int .i64 0).wf = true)
theorem wf0u : wfI .u32 0 := (by decide : (Lit.int .u32 0).wf = true)
theorem sz0 : (⟨#[]⟩ : ByteArray).size ≤ maxLen := by decide
theorem one_max : 1 ≤ maxLen := by decide
theorem four_max : 4 ≤ maxLen := by decide
def emptyIns (op f : Int) : Ins := ⟨op, 0, 0, 0, 0, f, [], 0, 0⟩
def insVals (op f : Int) : List Value := [.int .u8 op, .int .i64 0, .int .i64 0, .int .i64 0, .int .u32 0, .int .i64 f, .slice none 0 0, .int .i64 0, .int .i64 0]
theorem ins_lit {w : World} {S : Nat → Prop} {op f : Int} (h1 : wfI .u8 op) (h2 : wfI .i64 f) : tIns.RS w S (insVals op f) (emptyIns op f) :=
  tIns_R.2 ⟨none, 0, ⟨rfl, h1, wf0, wf0, wf0, wf0u, h2, wf0, wf0, Ty.slice_nilS _ _ _⟩⟩

def fun0 (l : List Ins) : Func := ⟨⟨#[]⟩, 0, 0, [⟨⟨#[]⟩, l⟩]⟩

set_option maxRecDepth 100000 in
set_option maxHeartbeats 1000000 in
theorem func0_any (l : List Ins) (v : Value) (w : World) (B : Nat) (hB : B ≤ w.heap.size) (hR : tIns.slice.RS w (fun k => B ≤ k ∧ k < w.heap.size) [v] l) :
    Calls Try.prog 63 #[v] w fun e w' => ∃ g, e = .returned (.agg #[.string ⟨#[]⟩, .int .i64 0, .int .i64 0, .slice (some ⟨g, 0, none⟩) 1 1]) ∧ tFunc.RS w' (fun k => B ≤ k ∧ k < w'.heap.size) [.string ⟨#[]⟩, .int .i64 0, .int .i64 0, .slice (some ⟨g, 0, none⟩) 1 1] (fun0 l) ∧ Below w.heap.size w w' := by
  obtain ⟨A, c, rfl⟩ := slice_form hR
  have HR := Lib.hid hR
  clear hR
  go_enter Try.func63, Try.ntmps63
  go_wp2_with fail
  have hb : Below w.heap.size w ((w.alloc (.cells #[.string ⟨#[]⟩, .int .i64 0, .int .i64 0, .slice (some ⟨w.heap.size + 1, 0, none⟩) 1 1] 31)).alloc (.cells [.string ⟨#[]⟩, .slice A l.length c].toArray 42)) :=
    ((Below.refl _ _).alloc (Nat.le_refl _) _).alloc (by simp) _
  refine bodyPost_ret (v := .agg #[.string ⟨#[]⟩, .int .i64 0, .int .i64 0, .slice (some ⟨w.heap.size + 1, 0, none⟩) 1 1]) (by simp [results, Try.results63, go_sem]) rfl ⟨w.heap.size + 1, rfl, ?_, hb⟩
  refine tFunc_R.2 ⟨_, _, rfl, sz0, wf0, wf0, ?_⟩
  have e1 : (w.alloc (.cells #[.string ⟨#[]⟩, .int .i64 0, .int .i64 0, .slice (some ⟨w.heap.size + 1, 0, none⟩) 1 1] 31)).heap.size = w.heap.size + 1 := by simp
  have hh := heap_alloc_new (w.alloc (.cells #[.string ⟨#[]⟩, .int .i64 0, .int .i64 0, .slice (some ⟨w.heap.size + 1, 0, none⟩) 1 1] 31)) (.cells [.string ⟨#[]⟩, .slice A l.length c].toArray 42)
  rw [e1] at hh
  refine block_slice hh rfl rfl one_max (fun i d hd => ?_) (by simp; omega)
  match i, hd with
  | 0, hd =>
    simp [fun0] at hd
    subst hd
    exact tBlock_R.2 ⟨A, c, rfl, sz0, Ty.keepS _ HR.out (fun k hk => hb.block k hk.2) (fun k hk => ⟨hk.1, Nat.lt_of_lt_of_le hk.2 hb.size⟩)⟩

theorem flat_drop {α β : Type} (f : α → List β) (k : Nat) (hf : ∀ x, (f x).length = k) : ∀ (l : List α) (i : Nat) (x : α), l[i]? = some x → ((l.flatMap f).drop (i * k)).take k = f x := by
  intro l
  induction l with
  | nil => intro i x h; simp at h
  | cons y l ih =>
    intro i x h
    cases i with
    | zero =>
      simp at h
      subst h
      rw [Nat.zero_mul, List.drop_zero, List.flatMap_cons, ← hf y, List.take_left' rfl]
    | succ i =>
      rw [List.flatMap_cons, Nat.succ_mul, Nat.add_comm, ← List.drop_drop, List.drop_left' (hf y)]
      exact ih i x (by simpa using h)
theorem flat_len {α β : Type} (f : α → List β) (k : Nat) (hf : ∀ x, (f x).length = k) (l : List α) : (l.flatMap f).length = l.length * k := by
  induction l with
  | nil => simp
  | cons y l ih => rw [List.flatMap_cons, List.length_append, hf, ih, List.length_cons, Nat.succ_mul]; omega

theorem ins_block {w : World} {g B : Nat} {t : TypeId} (l : List (Int × Int)) (h : w.heap[g]? = some (.cells (l.flatMap fun x => insVals x.1 x.2).toArray t (0, 0))) (hw : ∀ x ∈ l, wfI .u8 x.1 ∧ wfI .i64 x.2) (hl : l.length ≤ 100) (hg : B ≤ g) :
    tIns.slice.RS w (fun k => B ≤ k ∧ k < w.heap.size) [.slice (some ⟨g, 0, none⟩) l.length l.length] (l.map fun x => emptyIns x.1 x.2) := by
  refine block_slice h (by simp) (flat_len _ 9 (fun _ => rfl) l) (by unfold maxLen; omega) (fun i d hd => ?_) ⟨hg, (Array.getElem?_eq_some_iff.1 h).1⟩
  rw [List.getElem?_map, Option.map_eq_some_iff] at hd
  obtain ⟨x, hx, rfl⟩ := hd
  rw [tIns_size, flat_drop _ 9 (fun _ => rfl) l i x hx]
  obtain ⟨h1, h2⟩ := hw x (List.mem_of_getElem? hx)
  exact ins_lit h1 h2
theorem wfl {l : List (Int × Int)} (h : (l.all fun x => (Lit.int .u8 x.1).wf && (Lit.int .i64 x.2).wf) = true) : ∀ x ∈ l, wfI .u8 x.1 ∧ wfI .i64 x.2 := by
  intro x hx
  have := List.all_eq_true.1 h x hx
  rwa [Bool.and_eq_true] at this

theorem boxed_fz {w wr : World} {cs : List Value} {T : TypeId} (h : Below (w.heap.size + 1) (w.alloc (.cells cs.toArray T)) wr) (j : Nat) : wr.frozen? ⟨w.heap.size, j, none⟩ = false := by
  rw [h.frozen (p := ⟨w.heap.size, j, none⟩) (by show w.heap.size < _; omega)]
  have e := heap_alloc_new w (.cells cs.toArray T)
  simp only [World.frozen?, e]
  simp
/-- a box, and a row of instructions behind it; then a call -/
theorem ex_step {W w1 : World} {o : Obj} (h : Below (W.alloc o).heap.size (W.alloc o) w1) : Below W.heap.size W w1 := ((Below.refl _ _).alloc (Nat.le_refl _) _).trans (h.mono (by simp))
def fvals (g : Nat) : List Value := [.string ⟨#[]⟩, .int .i64 0, .int .i64 0, .slice (some ⟨g, 0, none⟩) 1 1]

/-- the world in which the program has been made -/
def exWorld (w w4 : World) (a b : List Value) : World :=
  ((((w4.setCell ⟨w.heap.size, 0, none⟩ (.int .i64 0)).setCell ⟨w.heap.size, 1, none⟩ (.slice none 0 0)).setCell ⟨w.heap.size, 2, none⟩ (.slice (some ⟨w4.heap.size + 1, 0, none⟩) 4 4)).alloc (.cells a.toArray 31)).alloc (.cells b.toArray 31)
theorem ex_final (w w4 : World) (a b : List Value) (hb : Below w.heap.size w w4) (hl : w.heap.size < w4.heap.size) :
    Below w.heap.size w (exWorld w w4 a b) ∧ (∀ k, w.heap.size + 1 ≤ k → k < w4.heap.size → (exWorld w w4 a b).heap[k]? = w4.heap[k]?) ∧ (exWorld w w4 a b).heap[w4.heap.size + 1]? = some (.cells b.toArray 31 (0, 0)) := by
  have hX : Below w.heap.size w (((w4.setCell ⟨w.heap.size, 0, none⟩ (.int .i64 0)).setCell ⟨w.heap.size, 1, none⟩ (.slice none 0 0)).setCell ⟨w.heap.size, 2, none⟩ (.slice (some ⟨w4.heap.size + 1, 0, none⟩) 4 4)) :=
    ((hb.setCell (Nat.le_refl _) _).setCell (Nat.le_refl _) _).setCell (Nat.le_refl _) _
  have hs : (((w4.setCell ⟨w.heap.size, 0, none⟩ (.int .i64 0)).setCell ⟨w.heap.size, 1, none⟩ (.slice none 0 0)).setCell ⟨w.heap.size, 2, none⟩ (.slice (some ⟨w4.heap.size + 1, 0, none⟩) 4 4)).heap.size = w4.heap.size := by simp [World.setCell]
  refine ⟨(hX.alloc (by omega) _).alloc (by simp; omega) _, fun k h1 h2 => ?_, ?_⟩
  · unfold exWorld
    rw [Below.heap_alloc _ _ _ (by simp; omega), Below.heap_alloc _ _ _ (by omega), Below.heap_setCell _ _ _ _ (by show k ≠ w.heap.size; omega), Below.heap_setCell _ _ _ _ (by show k ≠ w.heap.size; omega), Below.heap_setCell _ _ _ _ (by show k ≠ w.heap.size; omega)]
  · unfold exWorld
    generalize hX' : (((w4.setCell ⟨w.heap.size, 0, none⟩ (.int .i64 0)).setCell ⟨w.heap.size, 1, none⟩ (.slice none 0 0)).setCell ⟨w.heap.size, 2, none⟩ (.slice (some ⟨w4.heap.size + 1, 0, none⟩) 4 4)) = X at *
    have e1 : (X.alloc (.cells a.toArray 31)).heap.size = w4.heap.size + 1 := by simp [hs]
    rw [← e1]
    exact heap_alloc_new _ _
def ex1 : Func := fun0 [emptyIns 5 2, emptyIns 5 1, emptyIns 5 2]
def ex2 : Func := fun0 [emptyIns 5 2]
def ex3 : Func := fun0 [emptyIns 7 0]
def ex4 : Func := fun0 [emptyIns 5 3, emptyIns 5 0]
def exProg : Prog := ⟨0, [], [ex1, ex2, ex3, ex4]⟩

set_option maxRecDepth 100000 in
set_option maxHeartbeats 2000000 in
theorem example_any (w : World) :
    Calls Try.prog 37 #[] w fun e w' => ∃ cs, e = .returned (.agg cs.toArray) ∧ tProg.R w' w'.heap.size cs exProg ∧ Below w.heap.size w w' := by
  go_enter Try.func37, Try.ntmps37
  go_wp2_with fail
  have hh1 : ((w.alloc (.cells #[.int .i64 0, .slice none 0 0, .slice none 0 0] 25)).alloc (.cells ([((5 : Int), (2 : Int)), (5, 1), (5, 2)].flatMap fun x => insVals x.1 x.2).toArray 39)).heap[w.heap.size + 1]? = some (.cells ([((5 : Int), (2 : Int)), (5, 1), (5, 2)].flatMap fun x => insVals x.1 x.2).toArray 39) := by
    have := heap_alloc_new (w.alloc (.cells #[.int .i64 0, .slice none 0 0, .slice none 0 0] 25)) (.cells ([((5 : Int), (2 : Int)), (5, 1), (5, 2)].flatMap fun x => insVals x.1 x.2).toArray 39)
    rwa [show (w.alloc (.cells #[.int .i64 0, .slice none 0 0, .slice none 0 0] 25)).heap.size = w.heap.size + 1 from by simp] at this
  refine (func0_any [emptyIns 5 2, emptyIns 5 1, emptyIns 5 2] _ _ (w.heap.size + 1) (by simp) (ins_block [(5, 2), (5, 1), (5, 2)] hh1 (wfl (by decide)) (by decide) (by omega))).mono ?_
  rintro e w1 ⟨g1, rfl, hR1, hb1⟩
  have HB1 := Lib.hid (ex_step hb1)
  have lw1 : w.heap.size + 1 ≤ w1.heap.size := by have := hb1.size; simp at this; omega
  have HR1 := Lib.hid hR1
  clear hb1 hR1 hh1
  go_wp2_with fail
  have hh2 : ((w1.alloc (.cells (fvals g1).toArray 31)).alloc (.cells ([((5 : Int), (2 : Int))].flatMap fun x => insVals x.1 x.2).toArray 39)).heap[w1.heap.size + 1]? = some (.cells ([((5 : Int), (2 : Int))].flatMap fun x => insVals x.1 x.2).toArray 39) := by
    have := heap_alloc_new (w1.alloc (.cells (fvals g1).toArray 31)) (.cells ([((5 : Int), (2 : Int))].flatMap fun x => insVals x.1 x.2).toArray 39)
    rwa [show (w1.alloc (.cells (fvals g1).toArray 31)).heap.size = w1.heap.size + 1 from by simp] at this
  refine (func0_any [emptyIns 5 2] _ _ (w.heap.size + 1) (by have := lw1; simp; omega) (ins_block [(5, 2)] hh2 (wfl (by decide)) (by decide) (by have := lw1; omega))).mono ?_
  rintro e w2 ⟨g2, rfl, hR2, hb2⟩
  have HB2 := Lib.hid (ex_step hb2)
  have lw2 : w.heap.size + 1 ≤ w2.heap.size := by have := hb2.size; simp at this; omega
  have HR2 := Lib.hid hR2
  clear hb2 hR2 hh2
  go_wp2_with fail
  have hh3 : ((w2.alloc (.cells (fvals g2).toArray 31)).alloc (.cells ([((7 : Int), (0 : Int))].flatMap fun x => insVals x.1 x.2).toArray 39)).heap[w2.heap.size + 1]? = some (.cells ([((7 : Int), (0 : Int))].flatMap fun x => insVals x.1 x.2).toArray 39) := by
    have := heap_alloc_new (w2.alloc (.cells (fvals g2).toArray 31)) (.cells ([((7 : Int), (0 : Int))].flatMap fun x => insVals x.1 x.2).toArray 39)
    rwa [show (w2.alloc (.cells (fvals g2).toArray 31)).heap.size = w2.heap.size + 1 from by simp] at this
  refine (func0_any [emptyIns 7 0] _ _ (w.heap.size + 1) (by have := lw2; simp; omega) (ins_block [(7, 0)] hh3 (wfl (by decide)) (by decide) (by have := lw2; omega))).mono ?_
  rintro e w3 ⟨g3, rfl, hR3, hb3⟩
  have HB3 := Lib.hid (ex_step hb3)
  have lw3 : w.heap.size + 1 ≤ w3.heap.size := by have := hb3.size; simp at this; omega
  have HR3 := Lib.hid hR3
  clear hb3 hR3 hh3
  go_wp2_with fail
  have hh4 : ((w3.alloc (.cells (fvals g3).toArray 31)).alloc (.cells ([((5 : Int), (3 : Int)), (5, 0)].flatMap fun x => insVals x.1 x.2).toArray 39)).heap[w3.heap.size + 1]? = some (.cells ([((5 : Int), (3 : Int)), (5, 0)].flatMap fun x => insVals x.1 x.2).toArray 39) := by
    have := heap_alloc_new (w3.alloc (.cells (fvals g3).toArray 31)) (.cells ([((5 : Int), (3 : Int)), (5, 0)].flatMap fun x => insVals x.1 x.2).toArray 39)
    rwa [show (w3.alloc (.cells (fvals g3).toArray 31)).heap.size = w3.heap.size + 1 from by simp] at this
  refine (func0_any [emptyIns 5 3, emptyIns 5 0] _ _ (w.heap.size + 1) (by have := lw3; simp; omega) (ins_block [(5, 3), (5, 0)] hh4 (wfl (by decide)) (by decide) (by have := lw3; omega))).mono ?_
  rintro e w4 ⟨g4, rfl, hR4, hb4⟩
  have HB4 := Lib.hid (ex_step hb4)
  have HR4 := Lib.hid hR4
  clear hb4 hR4 hh4
  have s1 : ∀ (W : World) (o : Obj), (W.alloc o).heap.size = W.heap.size + 1 := fun W o => by simp
  have B3 : Below (w3.heap.size + 1) (w3.alloc (.cells (fvals g3).toArray 31)) w4 := by have := HB4.out; rwa [s1] at this
  have B2 : Below (w2.heap.size + 1) (w2.alloc (.cells (fvals g2).toArray 31)) w4 := by
    have h := HB3.out
    rw [s1] at h
    exact h.trans ((boxed B3).2.2.2.mono (by have := h.size; rw [s1] at this; omega))
  have B1 : Below (w1.heap.size + 1) (w1.alloc (.cells (fvals g1).toArray 31)) w4 := by
    have h := HB2.out
    rw [s1] at h
    exact h.trans ((boxed B2).2.2.2.mono (by have := h.size; rw [s1] at this; omega))
  have B0 : Below (w.heap.size + 1) (w.alloc (.cells [.int .i64 0, .slice none 0 0, .slice none 0 0].toArray 25)) w4 := by
    have h := HB1.out
    rw [s1] at h
    exact h.trans ((boxed B1).2.2.2.mono (by have := h.size; rw [s1] at this; omega))
  obtain ⟨_, q1, l1, c1⟩ := boxed B1
  obtain ⟨_, q2, l2, c2⟩ := boxed B2
  obtain ⟨_, q3, l3, c3⟩ := boxed B3
  obtain ⟨_, q0, l0, c0⟩ := boxed B0
  have a10 := q1 0 _ rfl
  have a11 := q1 1 _ rfl
  have a12 := q1 2 _ rfl
  have a13 := q1 3 _ rfl
  have a20 := q2 0 _ rfl
  have a21 := q2 1 _ rfl
  have a22 := q2 2 _ rfl
  have a23 := q2 3 _ rfl
  have a30 := q3 0 _ rfl
  have a31 := q3 1 _ rfl
  have a32 := q3 2 _ rfl
  have a33 := q3 3 _ rfl
  have a00 := q0 0 _ rfl
  have a01 := q0 1 _ rfl
  have a02 := q0 2 _ rfl
  have f00 := boxed_fz B0 0
  have f01 := boxed_fz B0 1
  have f02 := boxed_fz B0 2
  have HC := Lib.hid (And.intro c0 (And.intro c1 (And.intro c2 c3)))
  clear q1 q2 q3 q0 B0 B1 B2 B3 c1 c2 c3 s1
  have HK0 := Lib.hid (ex_final w w4 (fvals g4) (fvals g1 ++ fvals g2 ++ fvals g3 ++ fvals g4) c0 l0)
  have hlt4 := l0
  go_wp2_with fail
  refine bodyPost_ret (v := .agg #[.int .i64 0, .slice none 0 0, .slice (some ⟨w4.heap.size + 1, 0, none⟩) 4 4]) (by simp [results, Try.results37, go_sem, a00, a01, a02, hlt4]) rfl ⟨[.int .i64 0, .slice none 0 0, .slice (some ⟨w4.heap.size + 1, 0, none⟩) 4 4], rfl, ?_, HK0.out.1⟩
  obtain ⟨k1, k2, k3⟩ := HK0.out
  refine tProg_R.2 ⟨_, _, _, _, rfl, wf0, Ty.slice_nilS _ _ _, ?_⟩
  refine block_slice k3 rfl rfl four_max (fun i d hd => ?_) (Array.getElem?_eq_some_iff.1 k3).1
  obtain ⟨_, c1, c2, c3⟩ := HC.out
  have hkk : ∀ k, w.heap.size + 1 ≤ k ∧ k < w4.heap.size → _ := fun k hk => k2 k hk.1 hk.2
  have hfs := (Array.getElem?_eq_some_iff.1 k3).1
  match i, hd with
  | 0, hd => cases hd; exact Ty.keepS _ HR1.out (fun k hk => (hkk k ⟨hk.1, by have := c1.size; omega⟩).trans (c1.block k hk.2)) (fun k hk => Nat.lt_trans (Nat.lt_of_lt_of_le hk.2 c1.size) (Nat.lt_of_succ_lt hfs))
  | 1, hd => cases hd; exact Ty.keepS _ HR2.out (fun k hk => (hkk k ⟨hk.1, by have := c2.size; omega⟩).trans (c2.block k hk.2)) (fun k hk => Nat.lt_trans (Nat.lt_of_lt_of_le hk.2 c2.size) (Nat.lt_of_succ_lt hfs))
  | 2, hd => cases hd; exact Ty.keepS _ HR3.out (fun k hk => (hkk k ⟨hk.1, by have := c3.size; omega⟩).trans (c3.block k hk.2)) (fun k hk => Nat.lt_trans (Nat.lt_of_lt_of_le hk.2 c3.size) (Nat.lt_of_succ_lt hfs))
  | 3, hd => cases hd; exact Ty.keepS _ HR4.out (fun k hk => hkk k hk) (fun k hk => Nat.lt_trans hk.2 (Nat.lt_of_succ_lt hfs))
end Mu
