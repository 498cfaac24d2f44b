/-
  calls.graphOf, walked: the table of what each function calls.
  Conditions: the program's bulk is at most 2^21.
-/
import Derived.Test.YteeekjidkjdpjaaMuCallsB
import Derived.Deep.RegionLaw
namespace Mu
open Go Go.RowKit Go.Proofs

def tab (p : Prog) (k : Nat) : List (List Int) := (List.range k).map fun (i : Nat) => callsC p (i : Int)
theorem tab_succ (p : Prog) (k : Nat) : tab p (k + 1) = tab p k ++ [callsC p k] := by
  unfold tab
  rw [List.range_succ, List.map_append]
  rfl
theorem tab_length (p : Prog) (k : Nat) : (tab p k).length = k := by simp [tab]

/-- the graph in the making: its struct at B + 2, its map at B + 1, the program's copy at B -/
structure GInv (B : Nat) (cs : List Value) (wr : World) (v : Value) (ls : List (List Int)) : Prop where
  box : wr.heap[B]? = some (.cells cs.toArray 25 (0, 0))
  map : wr.heap[B + 1]? = some (.map #[] 0)
  st : wr.heap[B + 1 + 1]? = some (.cells #[v, .map (some (B + 1))] 97 (0, 0))
  own : OwnS wr (B + 1 + 1 + 1) v ls
  lt : B + 1 + 1 < wr.heap.size

theorem graph_start (w : World) (cs : List Value) : GInv w.heap.size cs (((w.alloc (.cells cs.toArray 25)).alloc (.map #[] 0)).alloc (.cells #[.slice none 0 0, .map (some (w.heap.size + 1))] 97)) (.slice none 0 0) [] := by
  have e1 : (w.alloc (.cells cs.toArray 25)).heap.size = w.heap.size + 1 := by simp
  have e2 : ((w.alloc (.cells cs.toArray 25)).alloc (.map #[] 0)).heap.size = w.heap.size + 1 + 1 := by simp
  refine ⟨?_, ?_, ?_, OwnS.nil _ _, by simp⟩
  · rw [Below.heap_alloc _ _ _ (by omega), Below.heap_alloc _ _ _ (by omega)]
    exact heap_alloc_new w _
  · rw [Below.heap_alloc _ _ _ (by omega), ← e1]
    exact heap_alloc_new _ _
  · rw [← e2]
    exact heap_alloc_new _ _
theorem graph_below (w : World) (o1 o2 o3 : Obj) : Below w.heap.size w (((w.alloc o1).alloc o2).alloc o3) :=
  (((Below.refl _ _).alloc (Nat.le_refl _) _).alloc (by simp) _).alloc (by simp; omega) _
theorem undrew {B : Nat} {w w' : World} (h : Below B w.drew w') : Below B w w' := ⟨h.os, h.tape, h.output, h.size, h.block⟩
theorem graph_own {w w1 : World} {base n : Nat} {e : TypeId} {v : Value} {xs : List Value} (h : w.ownsRow base e 1 v n xs) (hb : Below w.heap.size w w1) (o : Obj) : (w1.alloc o).ownsRow base e 1 v n xs :=
  (ownsRow_keep h (fun g hg => hb.block g (h.lt g hg).2)).alloc _
theorem own_form {w : World} {base : Nat} {v : Value} {l : List Int} (h : OwnI w base v l) : ∃ A c, v = .slice A l.length c := by
  rcases h.2 with ⟨rfl, h0⟩ | ⟨g, cap, cur, rfl, _⟩
  · rw [h0]; exact ⟨_, _, rfl⟩
  · exact ⟨_, _, rfl⟩
theorem news_one (w : World) (u : Value) (t : TypeId) : ∀ j x, [u][j]? = some x → (w.alloc (.cells #[u] t)).cell? ((⟨w.heap.size, 0, none⟩ : Addr).add j) = some x := by
  intro j x hx
  match j, hx with
  | 0, hx =>
    simp at hx
    subst hx
    exact cell_of_row _ _ 0 _ _ _ (heap_alloc_new w _)
theorem own_one {w : World} {base n size : Nat} {e : TypeId} {v : Value} {xs : List Value} (h : w.ownsRow base e size v n xs) : v.oneCell' = true := by
  rcases h.2 with ⟨rfl, _⟩ | ⟨g, cap, cur, rfl, _⟩ <;> rfl
theorem one_cell {w : World} {base : Nat} {v : Value} {l : List Int} (h : OwnI w base v l) : ∀ u ∈ [v], u.oneCell' = true := by
  intro u hu
  simp at hu
  subst hu
  exact own_one h
theorem graph_cell {B : Nat} {cs : List Value} {w w1 w2 : World} {v : Value} {ls : List (List Int)} {o : Obj} (h : GInv B cs w v ls) (hb : Below w.heap.size w w1) (hg : (w1.alloc o).grownBy w2 v.ownBlock) :
    w2.cell? ⟨B + 1 + 1, 0, none⟩ = some v ∧ w2.frozen? ⟨B + 1 + 1, 0, none⟩ = false := by
  have hl := h.lt
  have hsz := hb.size
  have e : w2.heap[B + 1 + 1]? = some (.cells #[v, .map (some (B + 1))] 97 (0, 0)) := by
    rw [hg.block _ (by simp; omega) (fun e => by have := (h.own.lt _ e.symm).1; omega), Below.heap_alloc _ _ _ (by omega), hb.block _ hl]
    exact h.st
  exact ⟨cell_of_row _ _ 0 _ _ _ e, by simp [World.frozen?, e]⟩
theorem graph_step {B g cap : Nat} {cs : List Value} {w w1 w2 : World} {v u : Value} {ls : List (List Int)} {l : List Int} {o : Obj} {cells : List Value} (h : GInv B cs w v ls)
    (ho : w.ownsRow (B + 1 + 1 + 1) 22 1 v ls.length cells) (hin : ∀ (i : Nat) (l : List Int), ls[i]? = some l → ∃ u, cells[i]? = some u ∧ tInt.slice.RS w (fun b => B + 1 + 1 + 1 ≤ b ∧ b < w.heap.size ∧ v.ownBlock ≠ some b) [u] l)
    (hb : Below w.heap.size w w1) (hu : OwnI w1 w.heap.size u l) (hw : ∀ x ∈ l, wfI .i64 x)
    (ho2 : w2.ownsRow (B + 1 + 1 + 1) 22 1 (.slice (some ⟨g, 0, none⟩) (ls.length + 1) cap) (ls.length + 1) (cells ++ [u])) (hgr : (w1.alloc o).grownBy w2 v.ownBlock) (hg : v.ownBlock = some g ∨ g = w1.heap.size + 1) :
    GInv B cs (w2.setCell ⟨B + 1 + 1, 0, none⟩ (.slice (some ⟨g, 0, none⟩) (ls.length + 1) cap)) (.slice (some ⟨g, 0, none⟩) (ls.length + 1) cap) (ls ++ [l]) := by
  have hl := h.lt
  have hsz := hb.size
  have hgs := hgr.size
  have hold : ∀ k, k ≤ B + 1 + 1 → w2.heap[k]? = w.heap[k]? := fun k hk => by
    rw [hgr.block _ (by simp; omega) (fun e => by have := (h.own.lt _ e.symm).1; omega), Below.heap_alloc _ _ _ (by omega), hb.block _ (by omega)]
  have hs2 : (w1.alloc o).heap.size = w1.heap.size + 1 := by simp
  refine ⟨?_, ?_, ?_, ?_, by simp [World.setCell]; omega⟩
  · rw [Below.heap_setCell _ _ _ _ (by simp; omega), hold _ (by omega)]
    exact h.box
  · rw [Below.heap_setCell _ _ _ _ (by simp), hold _ (by omega)]
    exact h.map
  · have e := (hold (B + 1 + 1) (Nat.le_refl _)).trans h.st
    simp [World.setCell, Array.getElem?_modify, e]
  · have hb' : Below w.heap.size w (w1.alloc o) := hb.alloc hsz o
    exact (OwnS.snoc ho hin hb' (hu.alloc o) hw (by omega) ho2 rfl hgr (hg.imp id (fun e => by omega))).setCell (by show B + 1 + 1 < _; omega) _
theorem slc_info : (Try.prog.info? 22).map (fun i => (i.zero, i.size, i.bytes)) = some (some (.slice none 0 0), 1, 24) := by kernel_rfl

set_option maxRecDepth 100000 in
set_option maxHeartbeats 2000000 in
theorem graphOf_any (p : Prog) (w : World) (cs : List Value) (hR : tProg.R w w.heap.size cs p) (hsm : tProg.bulk p ≤ 2097152) :
    Calls Try.prog 43 #[.agg cs.toArray] w fun e w' => ∃ v, e = .returned (.pointer (some ⟨w.heap.size + 1 + 1, 0, none⟩)) ∧ GInv w.heap.size cs w' v (tab p p.funcs.length) ∧ Below w.heap.size w w' := by
  obtain ⟨A, c, A', c', rfl, _, _, hF⟩ := tProg_R.1 hR
  have hpl := prog_funcs_le p
  obtain ⟨i0, hi, hz0, hz1, hz2⟩ := info_parts slc_info
  have HR := Lib.hid hR
  clear hR hF
  have hmm := @run_makeMap Try.prog
  go_enter Try.func43, Try.ntmps43
  go_wp2_with fail
  go_loopw [11] (fun i wr => ∃ k : Nat, k ≤ p.funcs.length ∧ i = .int .i64 k ∧ Below w.heap.size w wr ∧ Hid (∃ v, GInv w.heap.size [.int .i64 p.heap, .slice A' p.threads.length c', .slice A p.funcs.length c] wr v (tab p k))) (fun i _ => p.funcs.length - (RowKit.intOf i).toNat)
  case atStart => exact ⟨0, Nat.zero_le _, rfl, graph_below w _ _ _, _, graph_start w _⟩
  case round =>
    obtain ⟨k, hk, rfl, hbw, hG⟩ := hrel
    obtain ⟨v, hG⟩ := hG.out
    have hbx := hG.box
    have hst := hG.st
    have hb0 : wr.cell? ⟨w.heap.size, 0, none⟩ = some (.int .i64 p.heap) := cell_of_row _ _ 0 _ _ _ hbx
    have hb1 : wr.cell? ⟨w.heap.size, 1, none⟩ = some (.slice A' p.threads.length c') := cell_of_row _ _ 1 _ _ _ hbx
    have hb2 : wr.cell? ⟨w.heap.size, 2, none⟩ = some (.slice A p.funcs.length c) := cell_of_row _ _ 2 _ _ _ hbx
    have hs0 : wr.cell? ⟨w.heap.size + 1 + 1, 0, none⟩ = some v := cell_of_row _ _ 0 _ _ _ hst
    have hlt0 := hG.lt
    obtain ⟨cells, ho, hin⟩ := hG.own
    have hRw : Hid (tProg.R wr wr.heap.size [.int .i64 p.heap, .slice A' p.threads.length c', .slice A p.funcs.length c] p) := Ty.below HR.out hbw hbw.size
    have HG := Lib.hid hG
    have HBW := Lib.hid hbw
    have HO := Lib.hid ho
    have HIN := Lib.hid hin
    clear hG hbw ho hin hbx hst
    by_cases hlt : k < p.funcs.length
    · have hkl := tab_length p k
      have HKL := Lib.hid hkl
      clear hkl
      go_wp2_with fail
      have hRd : Hid (tProg.R wr.drew wr.drew.heap.size [.int .i64 p.heap, .slice A' p.threads.length c', .slice A p.funcs.length c] p) := Ty.keep hRw.out (fun _ _ => rfl) (Nat.le_refl _)
      go_region_law (first
        | (refine step_append_lies _ (by rfl) (.tmp 18) (.tmp 22) 48 (by rfl) (w.heap.size + 1 + 1 + 1) 22 i0 (.slice none 0 0) 1 24 Try.underlying48 hi hz0 hz1 hz2 rfl (by decide) v (tab p k).length cells (by simp [Act.eval]) (graph_own HO.out HB1.out _) ⟨w1.heap.size, 0, none⟩ 1 1 [.slice Au (callsC p k).length cu] (by simp [Act.eval]) rfl (news_one _ _ _) (one_cell HU.out) (by decide) (by have := HKL.out; unfold maxLen; omega) (by have := HKL.out; omega) (by have := HB1.out.size; simp; omega) (w1.heap.size + 1) (by simp) ?_; intro g cap w2 ho2 hgr hg hgl; obtain ⟨hs2, hf2⟩ := graph_cell HG.out HB1.out hgr; have HO2 := Lib.hid ho2; have HGR := Lib.hid hgr; have HGG := Lib.hid hg; clear ho2 hgr hg)
        | (go_simp; go_at_call 17; refine (calls_any p (k : Int) wr.drew _ hRd.out hsm).mono ?_; rintro e w1 ⟨u, rfl, hu, hb1'⟩; obtain ⟨Au, cu, rfl⟩ := own_form hu; have HB1 := Lib.hid (show Below wr.heap.size wr w1 from undrew hb1'); have HU := Lib.hid (show OwnI w1 wr.heap.size (.slice Au (callsC p k).length cu) _ from hu); have hs1 := (HB1.out.cell (p := ⟨w.heap.size + 1 + 1, 0, none⟩) (by show w.heap.size + 1 + 1 < _; omega)).trans hs0; have hw1 : w.heap.size + 1 + 1 < w1.heap.size := Nat.lt_of_lt_of_le hlt0 HB1.out.size; clear hb1' hu))
      all_goals
        have hnew : Hid (GInv w.heap.size [.int .i64 p.heap, .slice A' p.threads.length c', .slice A p.funcs.length c] (w2.setCell ⟨w.heap.size + 1 + 1, 0, none⟩ (.slice (some ⟨g, 0, none⟩) ((tab p k).length + 1) cap)) (.slice (some ⟨g, 0, none⟩) ((tab p k).length + 1) cap) (tab p (k + 1))) := by
          rw [tab_succ]
          exact graph_step HG.out HO.out HIN.out HB1.out HU.out (callsC_wf hsm) HO2.out HGR.out HGG.out
        have hbn : Hid (Below w.heap.size w (w2.setCell ⟨w.heap.size + 1 + 1, 0, none⟩ (.slice (some ⟨g, 0, none⟩) ((tab p k).length + 1) cap))) :=
          (((HBW.out.trans (HB1.out.mono HBW.out.size)).alloc (by have := HBW.out.size; have := HB1.out.size; omega) _).grown HGR.out (by have := HBW.out.size; have := HB1.out.size; simp; omega) (fun q hq => by have := (HO.out.lt q hq).1; omega)).setCell (by simp; omega) _
        clear HGR HGG HO2 HG HBW HO HIN HB1 HU hs1 hs2 hf2 hb0 hb1 hb2 hs0
        go_wp2
        go_roundw
        case rel => exact ⟨k + 1, by omega, by go_num, hbn.out, _, hnew.out⟩
        case measure => simp [RowKit.intOf]; omega
    · obtain rfl : k = p.funcs.length := by omega
      go_wp2_with fail
      go_ret
      exact ⟨v, rfl, HG.out, HBW.out⟩
end Mu
