/-
  calls.Calls, walked: of a function that there is: the calls of its blocks' instructions, sorted, compacted.
  Conditions: at most 2^21 such calls.
-/
import Derived.Test.YteeekjidkjdpjaaMuLib
import Derived.Test.YteeekjidkjdpjaaMuCallsP
import Derived.BigQuiet
import Derived.WalkSpells
namespace Mu
open Go Go.RowKit Go.Proofs

/-- the world in which the loops run: the program's own copy first -/
def W0 (w : World) (p : Prog) (A A' : Option Addr) (c c' : Nat) : World := w.alloc (.cells #[.int .i64 p.heap, .slice A' p.threads.length c', .slice A p.funcs.length c] 25)

theorem W0_cell (w : World) (p : Prog) (A A' : Option Addr) (c c' : Nat) : (W0 w p A A' c c').cell? ⟨w.heap.size, 2, none⟩ = some (.slice A p.funcs.length c) := by
  exact cell_of_row _ _ 2 _ _ _ (heap_alloc_new w _)
theorem W0_below (w : World) (p : Prog) (A A' : Option Addr) (c c' : Nat) : Below w.heap.size w (W0 w p A A' c c') := (Below.refl _ _).alloc (Nat.le_refl _) _
theorem W0_lt {w wr : World} {p : Prog} {A A' : Option Addr} {c c' : Nat} (h : Below (w.heap.size + 1) (W0 w p A A' c c') wr) : w.heap.size < wr.heap.size := by
  have h1 : (W0 w p A A' c c').heap.size = w.heap.size + 1 := by simp [W0]
  have := h.size
  omega

theorem rel_skip {w : World} {base n j : Nat} {v : Value} {r : List Int} {l : List Ins} {y : Ins} (hs : rawIns n (l.take (j + 1)) = rawIns n (l.take j) ++ if isCall n y then [y.f] else []) (hc : isCall n y = false)
    (h : OwnI w base v (r ++ rawIns n (l.take j))) : Hid (OwnI w base v (r ++ rawIns n (l.take (j + 1)))) := by
  rw [hs, hc]
  show OwnI w base v _
  simpa using h

set_option maxRecDepth 100000 in
set_option maxHeartbeats 1000000 in
theorem calls_in (p : Prog) (f : Int) (fn : Func) (w : World) (A A' : Option Addr) (c c' : Nat) (hf : 0 ≤ f) (hfn : p.funcs[f.toNat]? = some fn) (hlen : p.funcs.length ≤ 2097152)
    (hR : tFunc.slice.R w w.heap.size [.slice A p.funcs.length c] p.funcs) (hbl : fn.blocks.length ≤ 2097152) (hil : ∀ b ∈ fn.blocks, b.ins.length ≤ 2097152) (hraw : (raw p.funcs.length fn.blocks).length ≤ 2097152) :
    Calls Try.prog 17 #[.agg #[.int .i64 p.heap, .slice A' p.threads.length c', .slice A p.funcs.length c], .int .i64 f] w fun e w' =>
      ∃ v, e = .returned v ∧ OwnI w' w.heap.size v (Lib.compact ((raw p.funcs.length fn.blocks).mergeSort fun x y => decide (x ≤ y))) ∧ Below w.heap.size w w' := by
  have hfl : f.toNat < p.funcs.length := (List.getElem?_eq_some_iff.1 hfn).1
  have hx : decide (f < 0) = false := by simp; omega
  have hy : decide ((p.funcs.length : Int) ≤ f) = false := by simp; omega
  have hy' : f < (p.funcs.length : Int) := by omega
  obtain ⟨b, o, Ab, cb, rfl, hb, _, _, _, hcb, _, _, _, hBR⟩ := func_at hR hfn
  obtain ⟨i0, hi, hz0, hz1, hz2⟩ := info_parts int_info
  have HR := Lib.hid hR
  have HF := Lib.hid hfn
  have HI := Lib.hid hi
  have HBR := Lib.hid hBR
  have HIL := Lib.hid hil
  have HRAW := Lib.hid hraw
  clear hR hfn hBR hil hraw
  go_enter Try.func17, Try.ntmps17
  go_wp2
  go_loopw [5, 26] (fun out i wr => ∃ k : Nat, k ≤ fn.blocks.length ∧ i = .int .i64 k ∧ Hid (OwnI wr (w.heap.size + 1) out (raw p.funcs.length (fn.blocks.take k))) ∧ Below (w.heap.size + 1) (W0 w p (some ⟨b, o, none⟩) A' c c') wr) (fun _ i _ => fn.blocks.length - (RowKit.intOf i).toNat)
  case atStart => exact ⟨0, Nat.zero_le _, rfl, OwnI.nil _ _, Below.refl _ _⟩
  case round =>
    obtain ⟨k, hk, rfl, hown, hbe⟩ := hrel
    by_cases hlt : k < fn.blocks.length
    · obtain ⟨x, hxk⟩ : ∃ x, fn.blocks[k]? = some x := ⟨_, List.getElem?_eq_getElem hlt⟩
      obtain ⟨bb, bo, Ai, ci, rfl, hbb, hc0, hc1, hnm, hIR⟩ := block_at (HBR.out) hxk
      have hw0 : ∀ q, q < w.heap.size → wr.heap[q]? = w.heap[q]? := fun q hq => (hbe.block q (by omega)).trans ((W0_below w p _ A' c c').block q hq)
      have hc0' := (World.cell?_of_block (w := w) (w' := wr) (a := ⟨bb, bo + k * 2, none⟩) (hw0 bb hbb)).trans hc0
      have hc1' := (World.cell?_of_block (w := w) (w' := wr) (a := ⟨bb, bo + k * 2 + 1, none⟩) (hw0 bb hbb)).trans hc1
      have hil' : x.ins.length ≤ 2097152 := HIL.out x (List.mem_of_getElem? hxk)
      have HXK := Lib.hid hxk
      have HIR := Lib.hid hIR
      have HBE := Lib.hid hbe
      clear hxk hIR hc0 hc1 hw0 hnm hbe
      go_wp2
      obtain ⟨wo, rfl⟩ : ∃ wo : World, wo = wr := ⟨_, rfl⟩
      go_loopw [5, 33] (fun out i ws => ∃ j : Nat, j ≤ x.ins.length ∧ i = .int .i64 j ∧ Hid (OwnI ws (w.heap.size + 1) out (raw p.funcs.length (fn.blocks.take k) ++ rawIns p.funcs.length (x.ins.take j))) ∧ Below (w.heap.size + 1) (W0 w p (some ⟨b, o, none⟩) A' c c') ws) (fun _ i _ => x.ins.length - (RowKit.intOf i).toNat)
      case atStart => exact ⟨0, Nat.zero_le _, rfl, by simpa [rawIns, Hid] using hown.out.alloc _, HBE.out.alloc (by have := HBE.out.size; simpa [W0] using this) _⟩
      case round =>
        obtain ⟨j, hj, rfl, hown2, hbe2⟩ := hrel
        by_cases hlt2 : j < x.ins.length
        · obtain ⟨y, hyk⟩ : ∃ y, x.ins[j]? = some y := ⟨_, List.getElem?_eq_getElem hlt2⟩
          obtain ⟨ib, io, Aa, ca, rfl, hib, hat⟩ := ins_at (HIR.out) hyk
          have hw0 : ∀ q, q < w.heap.size → wr.heap[q]? = w.heap[q]? := fun q hq => (hbe2.block q (by omega)).trans ((W0_below w p _ A' c c').block q hq)
          have tr : ∀ {d : Nat} {v : Value}, w.cell? ⟨ib, d, none⟩ = some v → wr.cell? ⟨ib, d, none⟩ = some v := fun h => (World.cell?_of_block (w := w) (w' := wr) (a := ⟨ib, _, none⟩) (hw0 ib hib)).trans h
          have e0 := tr hat.c0
          have e1 := tr hat.c1
          have e2 := tr hat.c2
          have e3 := tr hat.c3
          have e4 := tr hat.c4
          have e5 := tr hat.c5
          have e6 := tr hat.c6
          have e7 := tr hat.c7
          have e8 := tr hat.c8
          have hbox : wr.cell? ⟨w.heap.size, 2, none⟩ = some (.slice (some ⟨b, o, none⟩) p.funcs.length c) := (hbe2.cell (p := ⟨w.heap.size, 2, none⟩) (by show w.heap.size < _; omega)).trans (W0_cell w p _ A' c c')
          have hsz := hbe2.size
          have hsz2 : w.heap.size < wr.heap.size := W0_lt hbe2
          have hrs := rawIns_step (n := p.funcs.length) hyk
          have hle : (raw p.funcs.length (fn.blocks.take k) ++ rawIns p.funcs.length (x.ins.take (j + 1))).length ≤ 2097152 := by
            have h1 := rawIns_take_le (n := p.funcs.length) (k := j + 1) (l := x.ins)
            have h2 := raw_take_le (n := p.funcs.length) (k := k + 1) (bs := fn.blocks)
            rw [raw_step HXK.out] at h2
            have h3 := HRAW.out
            simp only [List.length_append] at h2 ⊢
            omega
          have HRS := Lib.hid hrs
          have HYK := Lib.hid hyk
          have HLE := Lib.hid hle
          have HBE2 := Lib.hid hbe2
          clear hrs hyk hat hw0 tr hbe2 hle hsz
          by_cases h5 : y.op = 5
          · by_cases h0 : 0 ≤ y.f
            · by_cases hn : y.f < p.funcs.length
              · have d5 : (y.op == 5) = true := by simp [h5]
                have d0 : decide (0 ≤ y.f) = true := by simp [h0]
                have dn : decide (y.f < (p.funcs.length : Int)) = true := by simp [hn]
                have hc : Hid (isCall p.funcs.length y = true) := by simp [Hid, isCall, h5, h0, hn]
                clear h5
                go_wp2_with (at_builtin; refine wpList_append_own _ rfl _ _ 22 rfl (w.heap.size + 1) 3 i0 (.int .i64 0) 1 8 Try.underlying22 hi hz0 hz1 hz2 rfl (by decide) _ _ _ rfl ((hown2.out.alloc _).alloc _) ⟨wr.heap.size + 1, 0, none⟩ 1 1 [.int .i64 y.f] rfl rfl ?c1 ?c2 ?c3 ?c4 ?c5 ?_)
                case c1 =>
                  intro q u hq
                  match q, hq with
                  | 0, hq => simp at hq; subst hq; simp [Addr.add]
                case c2 => intro u hu; simp at hu; subst hu; rfl
                case c3 => have := HLE.out; rw [HRS.out, hc.out] at this; simp at this ⊢; unfold maxLen; omega
                case c4 => have := HLE.out; rw [HRS.out, hc.out] at this; simp at this ⊢; omega
                case c5 => simp; omega
                intro v' w1 hown' hgrow _
                have hnew : Hid (OwnI w1 (w.heap.size + 1) v' (raw p.funcs.length (fn.blocks.take k) ++ rawIns p.funcs.length (x.ins.take (j + 1)))) := by
                  rw [HRS.out, hc.out, ← List.append_assoc]
                  exact .of hown' (by simp; omega) (by simp)
                have hbe3 : Hid (Below (w.heap.size + 1) (W0 w p (some ⟨b, o, none⟩) A' c c') w1) :=
                  ((HBE2.out.alloc (by omega) _).alloc (by simp; omega) _).grown hgrow (by simp; omega) (fun q hq => (hown2.out.lt q hq).1)
                clear hown' hgrow hown2 HBE2
                go_wp2
                go_roundw
                case rel => exact ⟨j + 1, by omega, by go_num, hnew, hbe3.out⟩
                case measure => simp [RowKit.intOf]; omega
              · have d5 : (y.op == 5) = true := by simp [h5]
                have d0 : decide (0 ≤ y.f) = true := by simp [h0]
                have dn : decide (y.f < (p.funcs.length : Int)) = false := by simp; omega
                have hc : Hid (isCall p.funcs.length y = false) := by simp [Hid, isCall, h5, h0]; omega
                clear h5
                go_wp2_with fail
                go_roundw
                case rel => exact ⟨j + 1, by omega, by go_num, rel_skip HRS.out hc.out ((hown2.out.alloc _)), HBE2.out.alloc (by omega) _⟩
                case measure => simp [RowKit.intOf]; omega
            · have d5 : (y.op == 5) = true := by simp [h5]
              have d0 : decide (0 ≤ y.f) = false := by simp; omega
              have hc : Hid (isCall p.funcs.length y = false) := by simp [Hid, isCall, h5, h0]
              clear h5
              go_wp2_with fail
              go_roundw
              case rel => exact ⟨j + 1, by omega, by go_num, rel_skip HRS.out hc.out ((hown2.out.alloc _)), HBE2.out.alloc (by omega) _⟩
              case measure => simp [RowKit.intOf]; omega
          · have d5 : (y.op == 5) = false := by simp [h5]
            have hc : Hid (isCall p.funcs.length y = false) := by simp [Hid, isCall, h5]
            clear h5
            go_wp2_with fail
            go_roundw
            case rel => exact ⟨j + 1, by omega, by go_num, rel_skip HRS.out hc.out ((hown2.out.alloc _)), HBE2.out.alloc (by omega) _⟩
            case measure => simp [RowKit.intOf]; omega
        · obtain rfl : j = x.ins.length := by omega
          have hnew : Hid (OwnI wr (w.heap.size + 1) u5 (raw p.funcs.length (fn.blocks.take (k + 1)))) := by
            have h := hown2.out
            rw [List.take_length] at h
            rw [raw_step HXK.out]
            exact h
          have HBE2 := Lib.hid hbe2
          clear hbe2 hown2
          go_wp2
          go_roundw
          case rel => exact ⟨k + 1, by omega, by go_num, hnew, HBE2.out⟩
          case measure => simp [RowKit.intOf]; omega
    · obtain rfl : k = fn.blocks.length := by omega
      have hnew : Hid (OwnI wr (w.heap.size + 1) u5 (raw p.funcs.length fn.blocks)) := by
        have h := hown.out
        rw [List.take_length] at h
        exact h
      have HBE := Lib.hid hbe
      clear hbe hown
      go_wp2_with fail
      refine (sort_own hnew.out (by have := HRAW.out; omega)).mono ?_
      rintro e w1 ⟨rfl, ho1, hg1⟩
      have HO1 := Lib.hid ho1
      have HG1 := Lib.hid hg1
      clear ho1 hg1
      go_wp2_with fail
      refine (compact_own HO1.out (by have := HRAW.out; rw [List.length_mergeSort]; omega)).mono ?_
      rintro e w2 ⟨v', rfl, ho2, hg2, _⟩
      have HO2 := Lib.hid ho2
      have HG2 := Lib.hid hg2
      clear ho2 hg2
      go_wp2_with fail
      go_ret
      have hs0 := W0_lt HBE.out
      have hb1 := hnew.out.grown HBE.out (by omega) HG1.out
      have hb2 := HO1.out.grown hb1 (by have := hb1.size; have := W0_lt hb1; omega) HG2.out
      exact ⟨_, rfl, HO2.out.base (by omega), (W0_below w p _ A' c c').trans (hb2.mono (by omega))⟩
end Mu
