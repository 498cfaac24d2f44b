/-
  append onto a row of the call's own, whatever the source (nil too), in a plain region and in one that draws its order; a row that a literal makes; blocks known whole.
  Conditions: none; generic, no program in sight.
-/
import Derived.Test.YteeekjidkjdpjaaMuFlat
import Derived.Maps.AppendAt
import Derived.Deep.AppendLies
import Derived.RegionTactic
import Derived.Deep.Draws
namespace Mu
open Go Go.RowKit

/-- the cells of a source -/
structure Src (w : World) (size : Nat) (A : Option Addr) (m : Nat) (news : List Value) : Prop where
  len : news.length = m * size
  cells : ∀ j u, news[j]? = some u → ∃ ad, A = some ad ∧ w.cell? (ad.add j) = some u

theorem Src.keep {w w' : World} {size m : Nat} {A : Option Addr} {news : List Value} (h : Src w size A m news) (hk : ∀ ad, A = some ad → w'.heap[ad.block]? = w.heap[ad.block]?) : Src w' size A m news :=
  ⟨h.len, fun j u hu => by
    obtain ⟨ad, e, hc⟩ := h.cells j u hu
    refine ⟨ad, e, (World.cell?_of_block ?_).trans hc⟩
    have : (ad.add j).block = ad.block := by unfold Addr.add; split <;> rfl
    rw [this]
    exact hk ad e⟩
theorem src_row {w : World} {B : Nat} {cs : Array Value} {t : TypeId} {fr : Nat × Nat} {size m : Nat} (h : w.heap[B]? = some (.cells cs t fr)) (hl : cs.size = m * size) : Src w size (some ⟨B, 0, none⟩) m cs.toList :=
  ⟨by simpa using hl, fun j u hu => ⟨_, rfl, World.news_of_block h j u hu⟩⟩

section
variable {P : Program} {w : World}
theorem run_more {base : Nat} {t ty e : TypeId} {i : TypeInfo} {z : Value} {size bytes : Nat} (ht : P.underlying t = some (.slice e)) (hi : P.info? e = some i) (hz : i.zero = some z)
    (hsize : i.size = size) (hby : i.bytes = bytes) (hzs : z.cells.size = size) (hsz : 0 < size)
    {v : Value} {n : Nat} {xs : List Value} (hown : w.ownsRow base e size v n xs) {A : Option Addr} {m c : Nat} {news : List Value} (hs : Src w size A m news) (h1 : ∀ u ∈ news, u.oneCell' = true)
    (h63 : n + m ≤ maxLen) (hbytes : (n + m) * bytes ≤ 140737488355328) (hbase : base ≤ w.heap.size) :
    ∃ v' w', (Builtin.append_ #[t, t] ty #[v, .slice A m c]).run P w = .ok v' w' ∧ w'.ownsRow base e size v' (n + m) (xs ++ news) ∧ w.grownBy w' v.ownBlock ∧ (v'.ownBlock = v.ownBlock ∨ v'.ownBlock = some w.heap.size) := by
  have key : ∀ c, (Builtin.append_ #[t, t] ty #[v, .slice none 0 c]).run P w = .ok v w := by
    intro c
    rcases hown.2 with ⟨rfl, rfl⟩ | ⟨g, cap, cur, rfl, _, _, hnc, _⟩
    · simp [Builtin.append_, run_underlying ht, Go.sizeOf, typeInfo, hi, Builtin.lenOf, Builtin.firstCells]
    · simp [Builtin.append_, run_underlying ht, Go.sizeOf, typeInfo, hi, Builtin.lenOf, Builtin.firstCells, hnc, storeCells]
  rcases A with _ | ad
  · have hn : news = [] := by
      rcases news with _ | ⟨u, l⟩
      · rfl
      · obtain ⟨ad, e, _⟩ := hs.cells 0 u rfl
        cases e
    subst hn
    have hm : m = 0 := by
      have := hs.len
      rcases Nat.eq_zero_or_pos m with h | h
      · exact h
      · have := Nat.mul_pos h hsz
        simp at *
        omega
    subst hm
    exact ⟨v, w, key c, by simpa using hown, World.grownBy.refl w _, .inl rfl⟩
  · obtain ⟨v', w', hr, h2, h3, _, h5⟩ := run_append_own_at (P := P) w base t ty e i z size bytes ht hi hz hsize hby hzs hsz v n xs hown ad m c news hs.len
      (fun j u hu => by obtain ⟨ad', e', hc⟩ := hs.cells j u hu; cases e'; exact hc) h1 h63 hbytes hbase
    exact ⟨v', w', hr, h2, h3, h5⟩

theorem wp_more {o : Oper} {a : Act} {K : Act → World → Prop} {Q : Exit → Act → World → Prop} (s x : Operand) (t : TypeId)
    (ho : o.op = .call { callee := .builtin .append, args := #[s, x], argTypes := #[t, t] }) (base : Nat) (e : TypeId) (i : TypeInfo) (z : Value) (size bytes : Nat)
    (ht : P.underlying t = some (.slice e)) (hi : P.info? e = some i) (hz : i.zero = some z) (hsize : i.size = size) (hby : i.bytes = bytes) (hzs : z.cells.size = size) (hsz : 0 < size)
    {v : Value} {n : Nat} {xs : List Value} (hs : a.eval s = v) (hown : w.ownsRow base e size v n xs) {A : Option Addr} {m c : Nat} {news : List Value} (hx : a.eval x = .slice A m c)
    (hr : Src w size A m news) (h1 : ∀ u ∈ news, u.oneCell' = true) (h63 : n + m ≤ maxLen) (hbytes : (n + m) * bytes ≤ 140737488355328) (hbase : base ≤ w.heap.size)
    (h : ∀ v' w', w'.ownsRow base e size v' (n + m) (xs ++ news) → w.grownBy w' v.ownBlock → (v'.ownBlock = v.ownBlock ∨ v'.ownBlock = some w.heap.size) → K (a.put o.dst v') w') : o.wp P a w K Q := by
  obtain ⟨v', w', hrun, h2, h3, h4⟩ := run_more (P := P) (ty := o.type) (c := c) ht hi hz hsize hby hzs hsz hown hr h1 h63 hbytes hbase
  unfold Oper.wp execOp
  simp only [ho, resolve, invoke, builtin, Sem.run_bind, Sem.run_pure, Result.andThen_ok, List.map_toArray, List.map_cons, List.map_nil, hs, hx, hrun]
  exact h v' w' h2 h3 h4

theorem list_more {ops : Array Oper} {rest : List Oper} {o : Oper} {a : Act} {Q : Exit → Act → World → Prop} (hgd : o.guard = none) (s x : Operand) (t : TypeId)
    (ho : o.op = .call { callee := .builtin .append, args := #[s, x], argTypes := #[t, t] }) (base : Nat) (e : TypeId) (i : TypeInfo) (z : Value) (size bytes : Nat)
    (ht : P.underlying t = some (.slice e)) (hi : P.info? e = some i) (hz : i.zero = some z) (hsize : i.size = size) (hby : i.bytes = bytes) (hzs : z.cells.size = size) (hsz : 0 < size)
    {v : Value} {n : Nat} {xs : List Value} (hs : a.eval s = v) (hown : w.ownsRow base e size v n xs) {A : Option Addr} {m c : Nat} {news : List Value} (hx : a.eval x = .slice A m c)
    (hr : Src w size A m news) (h1 : ∀ u ∈ news, u.oneCell' = true) (h63 : n + m ≤ maxLen) (hbytes : (n + m) * bytes ≤ 140737488355328) (hbase : base ≤ w.heap.size)
    (h : ∀ v' w', w'.ownsRow base e size v' (n + m) (xs ++ news) → w.grownBy w' v.ownBlock → (v'.ownBlock = v.ownBlock ∨ v'.ownBlock = some w.heap.size) → wpList P ops Q rest (a.put o.dst v') w') : wpList P ops Q (o :: rest) a w :=
  wpList_plain hgd fun _ hK => wp_more s x t ho base e i z size bytes ht hi hz hsize hby hzs hsz hs hown hx hr h1 h63 hbytes hbase fun v' w' h2 h3 h4 => hK _ _ (h v' w' h2 h3 h4)

theorem step_more {ops : Array Oper} {o : Oper} {a : Act} {K : Act → World → Prop} {Q : Exit → Act → World → Prop} {E : Prop} (hgd : o.guard = none) (s x : Operand) (t : TypeId)
    (ho : o.op = .call { callee := .builtin .append, args := #[s, x], argTypes := #[t, t] }) (base : Nat) (e : TypeId) (i : TypeInfo) (z : Value) (size bytes : Nat)
    (ht : P.underlying t = some (.slice e)) (hi : P.info? e = some i) (hz : i.zero = some z) (hsize : i.size = size) (hby : i.bytes = bytes) (hzs : z.cells.size = size) (hsz : 0 < size)
    {v : Value} {n : Nat} {xs : List Value} (hs : a.eval s = v) (hown : w.ownsRow base e size v n xs) {A : Option Addr} {m c : Nat} {news : List Value} (hx : a.eval x = .slice A m c)
    (hr : Src w size A m news) (h1 : ∀ u ∈ news, u.oneCell' = true) (h63 : n + m ≤ maxLen) (hbytes : (n + m) * bytes ≤ 140737488355328) (hbase : base ≤ w.heap.size)
    (h : ∀ v' w', w'.ownsRow base e size v' (n + m) (xs ++ news) → w.grownBy w' v.ownBlock → (v'.ownBlock = v.ownBlock ∨ v'.ownBlock = some w.heap.size) → K (a.put o.dst v') w') :
    if Region.wanted o (yielded ops a.tmps) = true then Oper.wp P o a w K Q else E := by
  have hw : Region.wanted o (yielded ops a.tmps) = true := by simp [Region.wanted, hgd]
  rw [if_pos hw]
  exact wp_more s x t ho base e i z size bytes ht hi hz hsize hby hzs hsz hs hown hx hr h1 h63 hbytes hbase h
end

/-- a row that a literal has just made -/
theorem row_lit {w : World} {base sz n g : Nat} {e : TypeId} {cs : List Value} (hg : w.heap[g]? = some (.cells cs.toArray e (0, 0))) (hb : base ≤ g) (hn : cs.length = n * sz) (hm : n ≤ maxLen) :
    w.ownsRow base e sz (.slice (some ⟨g, 0, none⟩) n n) n cs :=
  ⟨by simpa using hn, .inr ⟨_, n, _, rfl, hb, hg, Nat.le_refl _, hm, by simp [hn], by simp [← hn]⟩⟩
theorem box_set {w : World} {B j : Nat} {cs : List Value} {t : TypeId} {fr : Nat × Nat} {v : Value} (h : w.heap[B]? = some (.cells cs.toArray t fr)) : (w.setCell ⟨B, j, none⟩ v).heap[B]? = some (.cells (cs.set j v).toArray t fr) := by
  simp [World.setCell, Array.getElem?_modify, h]
theorem box_far {w : World} {B : Nat} {p : Addr} {o : Option Obj} {v : Value} (h : w.heap[B]? = o) (hp : B ≠ p.block) : (w.setCell p v).heap[B]? = o := (Below.heap_setCell w p v B hp).trans h
theorem box_alloc {w : World} {B : Nat} {c : Array Value} {t : TypeId} {fr : Nat × Nat} (h : w.heap[B]? = some (.cells c t fr)) (o : Obj) : (w.alloc o).heap[B]? = some (.cells c t fr) :=
  (Below.heap_alloc w o B (by rcases Nat.lt_or_ge B w.heap.size with hl | hg; exact hl; rw [Array.getElem?_eq_none hg] at h; cases h)).trans h
theorem box_lt {w : World} {B : Nat} {o : Obj} (h : w.heap[B]? = some o) : B < w.heap.size := by
  rcases Nat.lt_or_ge B w.heap.size with hl | hg
  · exact hl
  · rw [Array.getElem?_eq_none hg] at h; cases h
theorem box_cell {w : World} {B j : Nat} {cs : List Value} {t : TypeId} {fr : Nat × Nat} {v : Value} (h : w.heap[B]? = some (.cells cs.toArray t fr)) (hv : cs[j]? = some v) : w.cell? ⟨B, j, none⟩ = some v := by
  rw [cell_of_row w B j cs.toArray t fr h]
  simpa using hv
theorem box_free {w : World} {B j : Nat} {c : Array Value} {t : TypeId} (h : w.heap[B]? = some (.cells c t (0, 0))) : w.frozen? ⟨B, j, none⟩ = false := by
  simp [World.frozen?, h]

/-- a slice that is read, as a source of cells -/
theorem slice_src {α : Type} {T : Ty α} {w : World} {S : Nat → Prop} {A : Option Addr} {n c : Nat} {ds : List α} (h : T.slice.RS w S [.slice A n c] ds) (h1 : ∀ cs d, T.RS w S cs d → ∀ u ∈ cs, u.oneCell' = true) :
    ∃ cells : List Value, cells.length = n * T.size ∧ (∀ w' : World, (∀ k, S k → w'.heap[k]? = w.heap[k]?) → Src w' T.size A n cells) ∧ (∀ i d, ds[i]? = some d → T.RS w S ((cells.drop (i * T.size)).take T.size) d) ∧ ∀ u ∈ cells, u.oneCell' = true := by
  obtain ⟨cells, hl, hc, hr, ho⟩ := slice_cells h h1
  refine ⟨cells, hl, fun w' hk => ⟨hl, fun j u hu => ?_⟩, hr, ho⟩
  have hj : j < n * T.size := by
    rw [← hl]
    exact (List.getElem?_eq_some_iff.1 hu).1
  have hn : 0 < ds.length := by
    rw [← (slice_len h).1]
    rcases Nat.eq_zero_or_pos n with e | e
    · rw [e] at hj; simp at hj
    · exact e
  obtain ⟨b, o, rfl, hS, _⟩ := slice_at h (List.getElem?_eq_getElem hn)
  refine ⟨_, rfl, ?_⟩
  rw [Go.WideShapes.add_plain]
  exact (World.cell?_of_block (w := w) (a := ⟨b, o + j, none⟩) (hk b hS)).trans (hc b o rfl j u hu)
theorem Src.below {w w' : World} {size m B : Nat} {A : Option Addr} {news : List Value} (h : ∀ w' : World, (∀ k, k < B → w'.heap[k]? = w.heap[k]?) → Src w' size A m news) (hb : Below B w w') : Src w' size A m news := h w' hb.block

/-- all blocks that there were are as they were, but one -/
structure Fx (g : Nat) (w w' : World) : Prop where
  size : w.heap.size ≤ w'.heap.size
  block : ∀ k, k < w.heap.size → k ≠ g → w'.heap[k]? = w.heap[k]?
section
variable {g : Nat} {w w1 w2 : World}
theorem Fx.refl : Fx g w w := ⟨Nat.le_refl _, fun _ _ _ => rfl⟩
theorem Fx.drew (h : Fx g w w1) : Fx g w w1.drew := ⟨h.size, h.block⟩
theorem Fx.drewN (h : Fx g w w1) (n : Nat) : Fx g w (w1.drewN n) := ⟨h.size, h.block⟩
theorem Fx.alloc (h : Fx g w w1) (o : Obj) : Fx g w (w1.alloc o) := ⟨by have := h.size; simp; omega, fun k hk hg => by rw [Below.heap_alloc _ _ _ (by have := h.size; omega)]; exact h.block k hk hg⟩
theorem Fx.set_ (h : Fx g w w1) (j : Nat) (v : Value) : Fx g w (w1.setCell ⟨g, j, none⟩ v) := ⟨by have := h.size; simpa [World.setCell] using this, fun k hk hg => by rw [Below.heap_setCell _ _ _ _ (by show k ≠ g; exact hg)]; exact h.block k hk hg⟩
theorem Fx.below (h : Fx g w w1) (hb : Below w1.heap.size w1 w2) : Fx g w w2 := ⟨Nat.le_trans h.size hb.size, fun k hk hg => (hb.block k (Nat.lt_of_lt_of_le hk h.size)).trans (h.block k hk hg)⟩
theorem Fx.grown {row : Option Nat} (h : Fx g w w1) (hg : w1.grownBy w2 row) (hr : ∀ r, row = some r → r = g ∨ w.heap.size ≤ r) : Fx g w w2 :=
  ⟨Nat.le_trans h.size hg.size, fun k hk hne => (hg.block k (Nat.lt_of_lt_of_le hk h.size) (fun e => by rcases hr k e.symm with h1 | h1; exact hne h1; omega)).trans (h.block k hk hne)⟩
theorem Fx.cell (h : Fx g w w1) {a : Addr} {v : Value} (hl : a.block < w.heap.size) (hg : a.block ≠ g) (hc : w.cell? a = some v) : w1.cell? a = some v := (World.cell?_of_block (h.block a.block hl hg)).trans hc
end
end Mu
