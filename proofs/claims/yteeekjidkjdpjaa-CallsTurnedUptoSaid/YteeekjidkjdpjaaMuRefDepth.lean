/-
  muntinref20.Depth, walked.
  Conditions: the program's bulk is at most 2^21.
-/
import Derived.Test.YteeekjidkjdpjaaMuRefReach
import Derived.BigRegion
namespace Mu
open Go Go.RowKit Go.Proofs

/-- a row of numbers by an index function -/
def OwnD (w : World) (base g cap n : Nat) (d : Nat → Nat) : Prop := OwnI w base (.slice (some ⟨g, 0, none⟩) n cap) (ofN ((List.range n).map d))

theorem OwnD.cell {w : World} {base g cap n k : Nat} {d : Nat → Nat} (h : OwnD w base g cap n d) (hk : k < n) : w.cell? ⟨g, k, none⟩ = some (.int .i64 (d k)) :=
  own_cell h (ofN_get (by simp [hk]))
theorem OwnD.low {w : World} {base g cap n : Nat} {d : Nat → Nat} (h : OwnD w base g cap n d) : base ≤ g ∧ g < w.heap.size := OwnI.lt h g rfl
theorem OwnD.kept {w w' : World} {base g cap n : Nat} {d : Nat → Nat} (h : OwnD w base g cap n d) (hb : Below w.heap.size w w') : OwnD w' base g cap n d := OwnI.kept h hb
theorem OwnD.drewN {w : World} {base g cap n : Nat} {d : Nat → Nat} (h : OwnD w base g cap n d) (q : Nat) : OwnD (w.drewN q) base g cap n d := ownsRow_keep h (fun _ _ => rfl)
theorem OwnD.set_ {w : World} {base g cap n k x : Nat} {d d' : Nat → Nat} (h : OwnD w base g cap n d) (hx : d' k = x) (ho : ∀ j, j ≠ k → d' j = d j) : OwnD (w.setCell ⟨g, k, none⟩ (.int .i64 (x : Int))) base g cap n d' := by
  have h0 : w.ownsRow base 3 1 (.slice (some ⟨g, 0, none⟩) n cap) n ((ofN ((List.range n).map d)).map (Value.int .i64)) := by
    have := h
    unfold OwnD OwnI at this
    simpa [ofN] using this
  have h1 := (World.ownsRow.stored h0 k (.int .i64 (x : Int))).1
  have e : (((ofN ((List.range n).map d)).map (Value.int .i64)).set k (.int .i64 (x : Int))) = (ofN ((List.range n).map d')).map (Value.int .i64) := by
    apply List.ext_getElem?
    intro j
    rw [List.getElem?_set]
    by_cases hj : j < n
    · by_cases he : k = j
      · subst he
        simp [ofN, hj, hx]
      · simp [ofN, hj, he, ho j (Ne.symm he)]
    · simp [ofN, hj]
      omega
  rw [e] at h1
  exact .of h1 (by simp [ofN]) rfl

def depthC (p : Prog) (f : Int) : Int := if 0 ≤ f ∧ f < p.funcs.length ∧ turnsB p f.toNat = false then (relaxR (succ p) p.funcs.length p.funcs.length f.toNat : Nat) else -1

set_option maxRecDepth 100000 in
set_option maxHeartbeats 2000000 in
theorem refDepth_in (p : Prog) (f : Nat) (w : World) (cs : List Value) (hf : f < p.funcs.length) (ht : turnsB p f = false) (hR : tProg.R w w.heap.size cs p) (hsm : tProg.bulk p ≤ 2097152) :
    Calls Try.prog 22 #[.agg cs.toArray, .int .i64 f] w fun e w' => e = .returned (.int .i64 (relaxR (succ p) p.funcs.length p.funcs.length f : Nat)) ∧ Below w.heap.size w w' := by
  obtain ⟨A, c, A', c', rfl, _, _, hF⟩ := tProg_R.1 hR
  have hpl := prog_funcs_le p
  obtain ⟨i0, hi, hz0, hz1, hz2⟩ := info_parts int_info
  have d0 : decide ((f : Int) < 0) = false := decide_eq_false (by omega)
  have d1 : decide ((p.funcs.length : Int) ≤ (f : Int)) = false := decide_eq_false (by omega)
  have d2 : decide (p.funcs.length ≤ f) = false := decide_eq_false (by omega)
  have hb : Hid (Below (w.heap.size + 1) (w.alloc (.cells [.int .i64 p.heap, .slice A' p.threads.length c', .slice A p.funcs.length c].toArray 25)) (w.alloc (.cells [.int .i64 p.heap, .slice A' p.threads.length c', .slice A p.funcs.length c].toArray 25))) := Below.refl _ _
  have HR := Lib.hid hR
  have HR1 := Lib.hid (Ty.below hR (boxed hb.out).2.2.2 (boxed hb.out).2.2.2.size)
  have HT := Lib.hid ht
  clear hR hF ht
  go_enter Try.func22, Try.ntmps22
  go_wp2_with fail
  refine (turns_any p f _ _ hf HR1.out hsm).mono ?_
  rintro e wt ⟨rfl, hbt⟩
  rw [HT.out]
  obtain ⟨_, hbox, hlw, hbw⟩ := boxed (hb.out.trans (hbt.mono (by simp)))
  have hb2 := hbox 2 _ rfl
  have HBT := Lib.hid (hb.out.trans (hbt.mono (by simp)))
  clear hbox hbw hbt
  go_wp2_with (at_make; refine wpList_make_full _ rfl _ _ 22 rfl (w.heap.size + 1) 3 i0 (.int .i64 0) 1 Try.underlying22 hi hz0 hz1 .i64 .i64 (p.funcs.length : Int) (p.funcs.length : Int) p.funcs.length rfl rfl rfl rfl (by rw [hz2]; omega) (by unfold maxLen; omega) (by omega) ?_; intro w1 ho hg)
  have hL0 : Hid (OwnD w1 (w.heap.size + 1) wt.heap.size p.funcs.length p.funcs.length (fun _ => 0)) := by
    have e := made_all 1 p.funcs.length (by decide) (Value.int .i64 0)
    rw [Nat.mul_one] at e
    have ho' := ho
    rw [Nat.mul_one] at ho'
    have e2 : (madeCells (Value.int .i64 0).cells p.funcs.length).toList = (List.range p.funcs.length).map fun _ => Value.int .i64 0 := e
    rw [e2] at ho'
    exact .of ho' (by simp [ofN]) (by simp [ofN])
  have hB0 : Hid (Below (w.heap.size + 1) (w.alloc (.cells [.int .i64 p.heap, .slice A' p.threads.length c', .slice A p.funcs.length c].toArray 25)) w1) := HBT.out.grown hg (by omega) (fun _ h => by cases h)
  clear ho hg hb2
  obtain ⟨g, hgg⟩ : ∃ g, g = wt.heap.size := ⟨_, rfl⟩
  rw [← hgg] at hL0 ⊢
  clear hgg
  go_wp2_with fail
  clear hz0 hz1 hz2 hi
  go_loopw [6] (fun i wr => ∃ r : Nat, r ≤ p.funcs.length ∧ i = .int .i64 r ∧ Hid (OwnD wr (w.heap.size + 1) g p.funcs.length p.funcs.length (relaxR (succ p) p.funcs.length r)) ∧ Below (w.heap.size + 1) (w.alloc (.cells [.int .i64 p.heap, .slice A' p.threads.length c', .slice A p.funcs.length c].toArray 25)) wr) (fun i _ => p.funcs.length - (RowKit.intOf i).toNat)
  case atStart => exact ⟨0, Nat.zero_le _, rfl, hL0, hB0.out⟩
  case round =>
    obtain ⟨r, hr, rfl, hL1, hbe⟩ := hrel
    obtain ⟨hfar, hbox, hlw1, _⟩ := boxed hbe
    have hb2 := hbox 2 _ rfl
    have HBE := Lib.hid hbe
    clear hbe hbox hL0 hB0 hfar
    by_cases hlt : r < p.funcs.length
    · go_wp2_with fail
      obtain ⟨wo, rfl⟩ : ∃ wo : World, wo = wr := ⟨_, rfl⟩
      clear hb2 hlw1
      go_loopw [7] (fun i wr => ∃ k : Nat, k ≤ p.funcs.length ∧ i = .int .i64 k ∧ Hid (OwnD wr (w.heap.size + 1) g p.funcs.length p.funcs.length (relaxK (succ p) p.funcs.length (relaxR (succ p) p.funcs.length r) k)) ∧ Below (w.heap.size + 1) (w.alloc (.cells [.int .i64 p.heap, .slice A' p.threads.length c', .slice A p.funcs.length c].toArray 25)) wr) (fun i _ => p.funcs.length - (RowKit.intOf i).toNat)
      case atStart => exact ⟨0, Nat.zero_le _, rfl, hL1, HBE.out⟩
      case round =>
        obtain ⟨k, hk, rfl, hL2, hbe⟩ := hrel
        obtain ⟨hfar, hbox, hlw2, hbw⟩ := boxed hbe
        have hb0 := hbox 0 _ rfl
        have hb1 := hbox 1 _ rfl
        have hb2 := hbox 2 _ rfl
        have HBE2 := Lib.hid hbe
        have HBW := Lib.hid hbw
        clear hbe hbox hfar hbw hL1 HBE
        by_cases hlt2 : k < p.funcs.length
        · obtain ⟨d0, hS⟩ : ∃ d0, d0 = relaxK (succ p) p.funcs.length (relaxR (succ p) p.funcs.length r) k := ⟨_, rfl⟩
          rw [← hS] at hL2
          have HS := Lib.hid hS
          have hcap : ∀ j, d0 j ≤ p.funcs.length := by
            rw [hS]
            exact relaxK_cap (relaxR_cap r) k
          have HCAP := Lib.hid hcap
          clear hS hcap
          have HRr := Lib.hid (Ty.below HR.out HBW.out HBW.out.size)
          have hsl := succ_length p k
          have hcc : callsC p k = ofN (succ p k) := by
            rw [callsC, if_pos ⟨by omega, by omega⟩]
            simp
          have HCC := Lib.hid hcc
          clear hcc
          go_wp2_with fail
          refine (ref_calls_any p (k : Int) _ _ HRr.out hsm).mono ?_
          rintro e w2 ⟨v2, rfl, ho2, hbc⟩
          rw [HCC.out] at ho2
          have hL3 := Lib.hid (hL2.out.kept hbc)
          have hbe3 := Lib.hid (HBE2.out.trans (hbc.mono (by omega)))
          obtain ⟨A2, c2, rfl⟩ := own_form ho2
          have HO2 := Lib.hid ho2
          have hg2 := (fun g hg => (ho2.lt g hg).1 : ∀ g, (Value.slice A2 (ofN (succ p k)).length c2).ownBlock = some g → wr.heap.size ≤ g)
          have HG2 := Lib.hid hg2
          have holn := ofN_length (succ p k)
          have HOLN := Lib.hid holn
          have hlow := hL2.out.low
          have HLOW := Lib.hid hlow
          clear ho2 hbc hg2 hL2 holn hlow hb0 hb1 hb2 HBE2 HBW HRr
          go_wp2_with fail
          obtain ⟨wq, rfl⟩ : ∃ wq : World, wq = wr := ⟨_, rfl⟩
          clear hlw2
          go_loopw [9] (fun i wr => ∃ j : Nat, j ≤ (succ p k).length ∧ i = .int .i64 j ∧ Hid (OwnD wr (w.heap.size + 1) g p.funcs.length p.funcs.length (relaxL p.funcs.length k d0 ((succ p k).take j))) ∧ Hid (OwnI wr wq.heap.size (.slice A2 (ofN (succ p k)).length c2) (ofN (succ p k))) ∧ Below (w.heap.size + 1) (w.alloc (.cells [.int .i64 p.heap, .slice A' p.threads.length c', .slice A p.funcs.length c].toArray 25)) wr) (fun i _ => (succ p k).length - (RowKit.intOf i).toNat)
          case atStart => exact ⟨0, Nat.zero_le _, rfl, hL3, HO2, hbe3.out⟩
          case round =>
            obtain ⟨j, hj, rfl, hL4, hO4, hbe⟩ := hrel
            obtain ⟨hfar, hbox, hlw3, _⟩ := boxed hbe
            have hb2 := hbox 2 _ rfl
            have HBE4 := Lib.hid hbe
            clear hbe hL3 HO2 hbe3 hfar hbox
            by_cases hlt3 : j < (succ p k).length
            · obtain ⟨x, hx⟩ : ∃ x, (succ p k)[j]? = some x := ⟨_, List.getElem?_eq_getElem hlt3⟩
              have hxn : x < p.funcs.length := succ_lt p k x (List.mem_of_getElem? hx)
              obtain ⟨gx, cx, ex, hgx, _⟩ := own_form' hO4.out (by rw [HOLN.out]; omega)
              cases ex
              obtain ⟨d1, hd1⟩ : ∃ d1, d1 = relaxL p.funcs.length k d0 ((succ p k).take j) := ⟨_, rfl⟩
              have hstep : Hid (relaxL p.funcs.length k d0 ((succ p k).take (j + 1)) = relax1 p.funcs.length d1 k x) := by
                show _ = _
                rw [List.take_add_one, hx, Option.toList_some, relaxL_snoc, ← hd1]
              have hcap1 : ∀ j, d1 j ≤ p.funcs.length := by
                rw [hd1]
                exact relaxL_cap HCAP.out _ _
              rw [← hd1] at hL4
              have hdk := hcap1 k
              have hdx := hcap1 x
              have hcx := own_cell hO4.out (ofN_get hx)
              have hlen : j < (ofN (succ p k)).length := by rw [HOLN.out]; exact hlt3
              have hck := hL4.out.cell hlt2
              have hcd := hL4.out.cell hxn
              have hfz : wr.frozen? ⟨g, k, none⟩ = false := by
                have h0 : wr.ownsRow (w.heap.size + 1) 3 1 (.slice (some ⟨g, 0, none⟩) p.funcs.length p.funcs.length) p.funcs.length ((ofN ((List.range p.funcs.length).map d1)).map (Value.int .i64)) := by
                  have := hL4.out
                  unfold OwnD OwnI at this
                  simpa [ofN] using this
                exact World.ownsRow.frozenAt h0 k
              have hvv : (min (max (d1 k : Int) ((d1 x : Int) + 1)) (p.funcs.length : Int)) = ((min (max (d1 k) (d1 x + 1)) p.funcs.length : Nat) : Int) := by omega
              have hnew : Hid (OwnD (wr.setCell ⟨g, k, none⟩ (.int .i64 (min (max (d1 k : Int) ((d1 x : Int) + 1)) (p.funcs.length : Int)))) (w.heap.size + 1) g p.funcs.length p.funcs.length (relaxL p.funcs.length k d0 ((succ p k).take (j + 1)))) := by
                rw [hstep.out, hvv]
                exact hL4.out.set_ (by simp [relax1]) (fun j hj => by simp [relax1, hj])
              have hnewO : Hid (OwnI ((wr.setCell ⟨g, k, none⟩ (.int .i64 (min (max (d1 k : Int) ((d1 x : Int) + 1)) (p.funcs.length : Int)))).drew) wq.heap.size (.slice (some ⟨gx, 0, none⟩) (ofN (succ p k)).length c2) (ofN (succ p k))) :=
                ownsRow_keep hO4.out (fun q hq => Below.heap_setCell _ _ _ _ (by have := HG2.out q hq; have := HLOW.out; show q ≠ g; omega))
              have hnewB : Hid (Below (w.heap.size + 1) (w.alloc (.cells [.int .i64 p.heap, .slice A' p.threads.length c', .slice A p.funcs.length c].toArray 25)) (wr.setCell ⟨g, k, none⟩ (.int .i64 (min (max (d1 k : Int) ((d1 x : Int) + 1)) (p.funcs.length : Int))))) :=
                HBE4.out.setCell (by have := HLOW.out; show w.heap.size + 1 ≤ g; omega) _
              clear hx hd1 hcap1 hvv
              go_wp2_with fail
              go_region
              go_wp2_with fail
              go_roundw
              case rel => exact ⟨j + 1, by omega, by go_num, hnew.out.drewN 1, hnewO.out, bdrew hnewB.out 1⟩
              case measure => simp [RowKit.intOf]; omega
            · obtain rfl : j = (succ p k).length := by omega
              have hge : (ofN (succ p k)).length ≤ (succ p k).length := by rw [HOLN.out]; omega
              have hL4' : Hid (OwnD wr (w.heap.size + 1) g p.funcs.length p.funcs.length (relaxK (succ p) p.funcs.length (relaxR (succ p) p.funcs.length r) (k + 1))) := by
                have h := hL4.out
                rw [List.take_length, HS.out] at h
                exact h
              go_wp2_with fail
              go_roundw
              case rel => exact ⟨k + 1, by omega, by go_num, hL4', HBE4.out⟩
              case measure => simp [RowKit.intOf]; omega
        · obtain rfl : k = p.funcs.length := by omega
          go_wp2_with fail
          go_roundw
          case rel => exact ⟨r + 1, by omega, by go_num, hL2, HBE2.out⟩
          case measure => simp [RowKit.intOf]; omega
    · obtain rfl : r = p.funcs.length := by omega
      have hcf := hL1.out.cell hf
      go_wp2_with fail
      go_ret
      exact ⟨rfl, (boxed HBE.out).2.2.2⟩
end Mu
