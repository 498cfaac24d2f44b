/-
  Elements of slices of package api's types, cell by cell, in the form that a walk meets.
  Conditions: none.
-/
import Derived.Test.YteeekjidkjdpjaaMuApi
namespace Mu
open Go Go.RowKit

theorem slice_at {α : Type} {T : Ty α} {w : World} {S : Nat → Prop} {n c k : Nat} {A : Option Addr} {ds : List α} {x : α} (h : T.slice.RS w S [.slice A n c] ds) (hk : ds[k]? = some x) :
    ∃ b o, A = some ⟨b, o, none⟩ ∧ T.AtS w S b (o + k * T.size) x := by
  obtain ⟨A', c', e, _, _, hi⟩ := h
  simp only [List.cons.injEq, Value.slice.injEq, and_true] at e
  obtain ⟨rfl, _, _⟩ := e
  exact hi k x hk
theorem slice_len {α : Type} {T : Ty α} {w : World} {S : Nat → Prop} {n c : Nat} {A : Option Addr} {ds : List α} (h : T.slice.RS w S [.slice A n c] ds) : n = ds.length ∧ n ≤ c ∧ c ≤ maxLen := by
  obtain ⟨A', c', e, h1, h2, _⟩ := h
  simp only [List.cons.injEq, Value.slice.injEq, and_true] at e
  obtain ⟨_, rfl, rfl⟩ := e
  exact ⟨rfl, h1, h2.1⟩
theorem slice_form {α : Type} {T : Ty α} {w : World} {S : Nat → Prop} {v : Value} {ds : List α} (h : T.slice.RS w S [v] ds) : ∃ A c, v = .slice A ds.length c := by
  obtain ⟨A', c', e, h1, h2, _⟩ := h
  simp only [List.cons.injEq, and_true] at e
  exact ⟨A', c', e⟩

theorem slice_nil_at {α : Type} {T : Ty α} {w : World} {S : Nat → Prop} {n c : Nat} {ds : List α} (h : T.slice.RS w S [.slice none n c] ds) : ds = [] ∧ n = 0 ∧ c = 0 := by
  obtain ⟨A', c', e, h1, h2, _⟩ := h
  simp only [List.cons.injEq, Value.slice.injEq, and_true] at e
  obtain ⟨rfl, rfl, rfl⟩ := e
  have := h2.2 rfl
  exact ⟨List.eq_nil_of_length_eq_zero (by omega), by omega, this⟩

theorem cellsAt_0 {w : World} {b o : Nat} {v : Value} {l : List Value} (h : CellsAt w b o (v :: l)) : w.cell? ⟨b, o, none⟩ = some v := h 0 v rfl
theorem cellsAt_j {w : World} {b o : Nat} {cs : List Value} (h : CellsAt w b o cs) (j : Nat) {v : Value} (hv : cs[j]? = some v) : w.cell? ⟨b, o + j, none⟩ = some v := h j v hv

theorem int_at {w : World} {S : Nat → Prop} {n c k : Nat} {A : Option Addr} {ds : List Int} {x : Int} {kd : IntKind} (h : (Ty.int kd).slice.RS w S [.slice A n c] ds) (hk : ds[k]? = some x) :
    ∃ b o, A = some ⟨b, o, none⟩ ∧ S b ∧ w.cell? ⟨b, o + k, none⟩ = some (.int kd x) ∧ wfI kd x := by
  obtain ⟨b, o, rfl, hb, cs, ⟨rfl, hw⟩, hc⟩ := slice_at h hk
  refine ⟨b, o, rfl, hb, ?_, hw⟩
  have := cellsAt_0 hc
  rwa [show (Ty.int kd).size = 1 from rfl, Nat.mul_one] at this
theorem bool_at {w : World} {S : Nat → Prop} {n c k : Nat} {A : Option Addr} {ds : List Bool} {x : Bool} (h : Ty.bool.slice.RS w S [.slice A n c] ds) (hk : ds[k]? = some x) :
    ∃ b o, A = some ⟨b, o, none⟩ ∧ S b ∧ w.cell? ⟨b, o + k, none⟩ = some (.bool x) := by
  obtain ⟨b, o, rfl, hb, cs, rfl, hc⟩ := slice_at h hk
  refine ⟨b, o, rfl, hb, ?_⟩
  have := cellsAt_0 hc
  rwa [show Ty.bool.size = 1 from rfl, Nat.mul_one] at this
theorem slices_at {α : Type} {T : Ty α} {w : World} {S : Nat → Prop} {n c k : Nat} {A : Option Addr} {ds : List (List α)} {x : List α} (h : T.slice.slice.RS w S [.slice A n c] ds) (hk : ds[k]? = some x) :
    ∃ b o A' c', A = some ⟨b, o, none⟩ ∧ S b ∧ w.cell? ⟨b, o + k, none⟩ = some (.slice A' x.length c') ∧ T.slice.RS w S [.slice A' x.length c'] x := by
  obtain ⟨b, o, rfl, hb, cs, hR, hc⟩ := slice_at h hk
  have hR' := hR
  obtain ⟨A', c', rfl, _⟩ := hR
  refine ⟨b, o, A', c', rfl, hb, ?_, hR'⟩
  have := cellsAt_0 hc
  rwa [show T.slice.size = 1 from rfl, Nat.mul_one] at this

structure InsAt (w : World) (S : Nat → Prop) (b o : Nat) (x : Ins) (A : Option Addr) (c : Nat) : Prop where
  c0 : w.cell? ⟨b, o, none⟩ = some (.int .u8 x.op)
  c1 : w.cell? ⟨b, o + 1, none⟩ = some (.int .i64 x.d)
  c2 : w.cell? ⟨b, o + 2, none⟩ = some (.int .i64 x.a)
  c3 : w.cell? ⟨b, o + 3, none⟩ = some (.int .i64 x.b)
  c4 : w.cell? ⟨b, o + 4, none⟩ = some (.int .u32 x.n)
  c5 : w.cell? ⟨b, o + 5, none⟩ = some (.int .i64 x.f)
  c6 : w.cell? ⟨b, o + 6, none⟩ = some (.slice A x.args.length c)
  c7 : w.cell? ⟨b, o + 7, none⟩ = some (.int .i64 x.l1)
  c8 : w.cell? ⟨b, o + 8, none⟩ = some (.int .i64 x.l2)
  raw : InsCells w S [.int .u8 x.op, .int .i64 x.d, .int .i64 x.a, .int .i64 x.b, .int .u32 x.n, .int .i64 x.f, .slice A x.args.length c, .int .i64 x.l1, .int .i64 x.l2] x A c

theorem ins_at {w : World} {S : Nat → Prop} {n c k : Nat} {A : Option Addr} {ds : List Ins} {x : Ins} (h : tIns.slice.RS w S [.slice A n c] ds) (hk : ds[k]? = some x) :
    ∃ b o A' c', A = some ⟨b, o, none⟩ ∧ S b ∧ InsAt w S b (o + k * 9) x A' c' := by
  obtain ⟨b, o, rfl, hb, cs, hR, hc⟩ := slice_at h hk
  obtain ⟨A', c', hI⟩ := tIns_R.1 hR
  have e := hI.cs
  subst e
  rw [tIns_size] at hc
  exact ⟨b, o, A', c', rfl, hb, cellsAt_0 hc, cellsAt_j hc 1 rfl, cellsAt_j hc 2 rfl, cellsAt_j hc 3 rfl, cellsAt_j hc 4 rfl, cellsAt_j hc 5 rfl, cellsAt_j hc 6 rfl, cellsAt_j hc 7 rfl, cellsAt_j hc 8 rfl, hI⟩

theorem block_at {w : World} {S : Nat → Prop} {n c k : Nat} {A : Option Addr} {ds : List Block} {x : Block} (h : tBlock.slice.RS w S [.slice A n c] ds) (hk : ds[k]? = some x) :
    ∃ b o A' c', A = some ⟨b, o, none⟩ ∧ S b ∧ w.cell? ⟨b, o + k * 2, none⟩ = some (.string x.name) ∧ w.cell? ⟨b, o + k * 2 + 1, none⟩ = some (.slice A' x.ins.length c') ∧ x.name.size ≤ maxLen ∧
      tIns.slice.RS w S [.slice A' x.ins.length c'] x.ins := by
  obtain ⟨b, o, rfl, hb, cs, hR, hc⟩ := slice_at h hk
  obtain ⟨A', c', rfl, h1, h2⟩ := tBlock_R.1 hR
  rw [tBlock_size] at hc
  exact ⟨b, o, A', c', rfl, hb, cellsAt_0 hc, cellsAt_j hc 1 rfl, h1, h2⟩

theorem func_at {w : World} {S : Nat → Prop} {n c k : Nat} {A : Option Addr} {ds : List Func} {x : Func} (h : tFunc.slice.RS w S [.slice A n c] ds) (hk : ds[k]? = some x) :
    ∃ b o A' c', A = some ⟨b, o, none⟩ ∧ S b ∧ w.cell? ⟨b, o + k * 4, none⟩ = some (.string x.name) ∧ w.cell? ⟨b, o + k * 4 + 1, none⟩ = some (.int .i64 x.args) ∧ w.cell? ⟨b, o + k * 4 + 2, none⟩ = some (.int .i64 x.regs) ∧
      w.cell? ⟨b, o + k * 4 + 3, none⟩ = some (.slice A' x.blocks.length c') ∧ x.name.size ≤ maxLen ∧ wfI .i64 x.args ∧ wfI .i64 x.regs ∧ tBlock.slice.RS w S [.slice A' x.blocks.length c'] x.blocks := by
  obtain ⟨b, o, rfl, hb, cs, hR, hc⟩ := slice_at h hk
  obtain ⟨A', c', rfl, h1, h2, h3, h4⟩ := tFunc_R.1 hR
  rw [tFunc_size] at hc
  exact ⟨b, o, A', c', rfl, hb, cellsAt_0 hc, cellsAt_j hc 1 rfl, cellsAt_j hc 2 rfl, cellsAt_j hc 3 rfl, h1, h2, h3, h4⟩

/-! ### rows of the call's own, read as data -/
/-- a row of the call's own, whose cells stand for data: each as that datum's reading among the blocks of S; the row's own block beside them -/
theorem own_slice {α : Type} {T : Ty α} {w : World} {base : Nat} {e : TypeId} {v : Value} {cells : List Value} {ds : List α} {S : Nat → Prop} (h : w.ownsRow base e T.size v ds.length cells)
    (hc : ∀ i d, ds[i]? = some d → T.RS w S ((cells.drop (i * T.size)).take T.size) d) (hS : ∀ g, v.ownBlock = some g → S g) : T.slice.RS w S [v] ds := by
  rcases h.2 with ⟨rfl, hn⟩ | ⟨g, cap, cur, rfl, hg, hh, h1, h2, h3, h4⟩
  · have : ds = [] := List.eq_nil_of_length_eq_zero hn
    subst this
    exact Ty.slice_nilS _ _ _
  · refine ⟨some ⟨g, 0, none⟩, cap, rfl, h1, ⟨h2, fun e => by cases e⟩, fun i d hd => ⟨g, 0, rfl, hS g rfl, _, hc i d hd, ?_⟩⟩
    intro j u hu
    have hj : j < T.size := by
      have := (List.getElem?_eq_some_iff.1 hu).1
      rw [List.length_take] at this
      omega
    rw [List.getElem?_take_of_lt hj, List.getElem?_drop] at hu
    have hcell := h.cells (g := g) rfl (i * T.size + j) u hu
    have e1 : (⟨g, 0, none⟩ : Addr).add (i * T.size + j) = ⟨g, 0 + i * T.size + j, none⟩ := by
      unfold Addr.add
      by_cases hz : i * T.size + j = 0
      · rw [if_pos hz, show 0 + i * T.size + j = 0 from by omega]
      · rw [if_neg hz, show 0 + i * T.size + j = 0 + (i * T.size + j) from by omega]
    rw [e1] at hcell
    exact hcell
theorem own_intsS {w : World} {base : Nat} {e : TypeId} {v : Value} {k : IntKind} {xs : List Int} (h : w.ownsRow base e 1 v xs.length (xs.map (Value.int k))) (hw : ∀ x ∈ xs, wfI k x) :
    (Ty.int k).slice.RS w (fun b => v.ownBlock = some b) [v] xs := by
  refine own_slice (T := Ty.int k) h (fun i d hd => ?_) (fun g hg => hg)
  have hi : i < xs.length := (List.getElem?_eq_some_iff.1 hd).1
  refine ⟨?_, hw d (List.mem_of_getElem? hd)⟩
  show ((xs.map (Value.int k)).drop (i * 1)).take 1 = _
  rw [Nat.mul_one, List.drop_eq_getElem_cons (by simpa using hi)]
  have : xs[i] = d := by
    rw [List.getElem?_eq_getElem hi] at hd
    injection hd
  simp [this]
theorem own_ints {w : World} {base : Nat} {e : TypeId} {v : Value} {k : IntKind} {xs : List Int} (h : w.ownsRow base e 1 v xs.length (xs.map (Value.int k))) (hw : ∀ x ∈ xs, wfI k x) :
    (Ty.int k).slice.R w w.heap.size [v] xs := Ty.toR (own_intsS h hw) (fun b hb => (h.lt b hb).2)
end Mu
