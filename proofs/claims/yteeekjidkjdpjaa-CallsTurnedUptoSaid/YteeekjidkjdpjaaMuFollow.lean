/-
  muntinlaw20.CallsFollow, walked: it is true.
  Conditions: the program's bulk is at most 2^21.
-/
import Derived.Test.YteeekjidkjdpjaaMuBx
import Derived.Test.YteeekjidkjdpjaaMuFollowP
import Derived.StillTailTactics
import Derived.Deep.RegionHeld3
import Derived.BigQuiet
namespace Mu
open Go Go.RowKit Go.Proofs

/-- w' is made of w by calls and new blocks -/
def Fr (w w' : World) : Prop := Below w.heap.size w w'
theorem Fr.refl (w : World) : Fr w w := Below.refl _ _
theorem Fr.drew (w : World) : Fr w w.drew := (Below.refl _ _).drew
theorem Fr.call' {w w1 w2 : World} (hb : Hid (Below w1.heap.size w1 w2)) (h : Fr w w1) : Fr w w2 := Below.trans h (Below.mono hb.out h.size)
theorem Fr.cell {w w' : World} (h : Fr w w') {a : Addr} {v : Value} (hl : a.block < w.heap.size) (hc : w.cell? a = some v) : w'.cell? a = some v := (Below.cell h hl).trans hc
theorem Bx.fr {w0 w w' : World} {cs : List Value} {T : TypeId} (h : Bx w0 cs T w) (hf : Fr w w') : Bx w0 cs T w' := h.call hf
theorem Got.fr {v : Value} {l : List Int} {w w' : World} (h : Got v l w) (hf : Fr w w') : Got v l w' := Ty.below h hf hf.size
theorem bx_in {w0 w' : World} {bs : List Value} {T : TypeId} {u : Value} {l : List Int} (n : Int) (h : Bx w0 bs T w') (h1 : Got u l w') (hl : l.length ≤ 2097152) :
    Calls Try.prog 23 #[u, .int .i64 n] w' fun e w'' => e = .returned (.bool (l.contains n)) ∧ Bx w0 bs T w'' ∧ Hid (Below w'.heap.size w' w'') :=
  (law20_in l n u w' h1 hl).mono fun _ _ hp => ⟨hp.1, h.call hp.2, hp.2⟩

theorem bx_depthB {p : Prog} {w0 w' : World} {bs us : List Value} {T : TypeId} (f : Int) (h : Bx w0 bs T w') (hR : tProg.R w0 w0.heap.size us p) (hsm : tProg.bulk p ≤ 2097152) :
    Calls Try.prog 21 #[.agg us.toArray, .int .i64 f] w' fun e w'' => e = .returned (.int .i64 (depthC p f)) ∧ Bx w0 bs T w'' ∧ Hid (Below w'.heap.size w' w'') :=
  (Depth_any p f w' us (h.R hR) hsm).mono fun _ _ hp => ⟨hp.1, h.call hp.2, hp.2⟩

set_option maxRecDepth 100000 in
set_option maxHeartbeats 4000000 in
theorem callsFollow_any (p : Prog) (w : World) (cs : List Value) (hR : tProg.R w w.heap.size cs p) (hsm : tProg.bulk p ≤ 2097152) :
    Calls Try.prog 4 #[.agg cs.toArray] w fun e w' => e = .returned (.bool true) ∧ Below w.heap.size w w' := by
  obtain ⟨A, c, A', c', rfl, _, _, hF⟩ := tProg_R.1 hR
  have hpl := prog_funcs_le p
  have HR := Lib.hid hR
  have HF := Lib.hid hF
  clear hR hF
  obtain ⟨cs, hcs⟩ : ∃ cs : List Value, cs = [.int .i64 p.heap, .slice A' p.threads.length c', .slice A p.funcs.length c] := ⟨_, rfl⟩
  have q0 : ∀ w', Bx w cs 25 w' → w'.cell? ⟨w.heap.size, 0, none⟩ = some (.int .i64 p.heap) := fun w' h => h.cell (by rw [hcs]; rfl)
  have q1 : ∀ w', Bx w cs 25 w' → w'.cell? ⟨w.heap.size, 1, none⟩ = some (.slice A' p.threads.length c') := fun w' h => h.cell (by rw [hcs]; rfl)
  have q2 : ∀ w', Bx w cs 25 w' → w'.cell? ⟨w.heap.size, 2, none⟩ = some (.slice A p.funcs.length c) := fun w' h => h.cell (by rw [hcs]; rfl)
  have hstart : Hid (Bx w cs 25 (w.alloc (.cells [.int .i64 p.heap, .slice A' p.threads.length c', .slice A p.funcs.length c].toArray 25))) := by rw [← hcs]; exact Bx.refl
  clear hcs
  have H13 := Lib.hid fun w' (h : Bx w cs 25 w') => bx_head h
  go_enter Try.func4, Try.ntmps4
  go_wp2_with fail
  refine (bx_great hstart.out HR.out hsm).mono ?_
  rintro e w1 ⟨b, rfl, hx⟩
  clear hstart
  cases b
  · by_cases hn : p.funcs.length ≤ 20
    · have dn : decide (20 < p.funcs.length) = false := decide_eq_false (by omega)
      go_wp2_with fail
      go_loopw [3] (fun i wr => ∃ q : Nat, q ≤ p.funcs.length ∧ i = .int .i64 q ∧ Bx w cs 25 wr) (fun i _ => p.funcs.length - (RowKit.intOf i).toNat)
      case atStart => exact ⟨0, Nat.zero_le _, rfl, hx⟩
      case round =>
        obtain ⟨q, hq, rfl, hx'⟩ := hrel
        obtain ⟨wo, rfl⟩ : ∃ wo : World, wo = wr := ⟨_, rfl⟩
        by_cases hlt : q < p.funcs.length
        · obtain ⟨fn, b, o, Aq, cq, rfl, hbl, hfn, hfs, k0, k1, k2, k3, hRf⟩ := func_fact HF.out (k := q) hlt hsm
          have r0 : ∀ w', Bx w cs 25 w' → w'.cell? ⟨b, o + q * 4, none⟩ = some (.string fn.name) := fun w' h => (h.far hbl).trans k0
          have r1 : ∀ w', Bx w cs 25 w' → w'.cell? ⟨b, o + q * 4 + 1, none⟩ = some (.int .i64 fn.args) := fun w' h => (h.far hbl).trans k1
          have r2 : ∀ w', Bx w cs 25 w' → w'.cell? ⟨b, o + q * 4 + 2, none⟩ = some (.int .i64 fn.regs) := fun w' h => (h.far hbl).trans k2
          have r3 : ∀ w', Bx w cs 25 w' → w'.cell? ⟨b, o + q * 4 + 3, none⟩ = some (.slice Aq fn.blocks.length cq) := fun w' h => (h.far hbl).trans k3
          have H14 := Lib.hid fun w' (h : Bx w cs 25 w') => bx_leaf h hRf hfs
          have HFN := Lib.hid hfn
          have C1 := Lib.hid (calls_row hlt)
          have C2 := Lib.hid (reach_row hlt)
          clear hfn hfs k0 k1 k2 k3 hRf
          go_wp2_with fail
          go_region_held3 (fun w' => Bx w cs 25 w')
            (first | assumption | exact Bx.drew (by assumption))
            (first
              | (go_at_call 17; refine (bx_calls (q : Int) (by assumption) HR.out hsm).mono ?_; rintro e w4 ⟨v4, rfl, hx4, hg4, hb4⟩; rw [C1.out] at hg4)
              | (go_at_call 19; refine (bx_reach (q : Int) (by assumption) HR.out hsm).mono ?_; rintro e w5 ⟨v5, rfl, hx5, hg5, hb5⟩; rw [C2.out] at hg5))
          all_goals
            first
              | (have hG4 := Lib.hid (Got.keep hg4 hb5)
                 have hG5 := Lib.hid hg5)
              | (have hG4 := Lib.hid hg4
                 have hG5 := Lib.hid (Got.keep hg5 hb4))
            clear hg4 hg5 hb4 hb5 C1 C2
            obtain ⟨A4, c4, rfl⟩ := slice_form hG4.out
            obtain ⟨A5, c5, rfl⟩ := slice_form hG5.out
            have L4 : (ofN (succ p q)).length = (succ p q).length := ofN_length _
            have hL4 := succ_length p q
            have hL5 := reachC_len p q
            go_wp2_with fail
            refine (bx_in (q : Int) (by assumption) hG5.out (by omega)).mono ?_
            rintro e w6 ⟨rfl, hx6, hb6⟩
            have HG4 := Lib.hid (Got.keep hG4.out hb6)
            have HG5 := Lib.hid (Got.keep hG5.out hb6)
            have HL4 := Lib.hid L4
            clear hG4 hG5 hb6 L4
            rw [← tf_zero]
            go_wp2_with fail
            go_loopw [6, 7, 8] (fun d t i wr => ∃ j : Nat, j ≤ (succ p q).length ∧ d = .int .i64 (df p q j) ∧ t = .bool (tf p q j) ∧ i = .int .i64 j ∧ Bx w cs 25 wr ∧ Hid (Got (.slice A4 (ofN (succ p q)).length c4) (ofN (succ p q)) wr) ∧ Hid (Got (.slice A5 (reachC p q).length c5) (reachC p q) wr)) (fun _ _ i _ => (succ p q).length - (RowKit.intOf i).toNat)
            case atStart => exact ⟨0, Nat.zero_le _, rfl, rfl, rfl, hx6, HG4, HG5⟩
            case round =>
              obtain ⟨j, hj, rfl, rfl, rfl, hxr, hGr4, hGr5⟩ := hrel
              obtain ⟨wi, rfl⟩ : ∃ wi : World, wi = wr := ⟨_, rfl⟩
              clear HG4 HG5 hx6
              by_cases hlt2 : j < (succ p q).length
              · obtain ⟨k, hk⟩ : ∃ k, (succ p q)[j]? = some k := ⟨_, List.getElem?_eq_getElem hlt2⟩
                have hkn := succ_lt p q k (List.mem_of_getElem? hk)
                have hL9 := reachC_len p k
                have hlen : j < (ofN (succ p q)).length := by rw [HL4.out]; exact hlt2
                obtain ⟨b1, o1, e1, hb1, hc1, _⟩ := int_at hGr4.out (ofN_get hk)
                cases e1
                have f0 : ∀ w', Fr wi w' → w'.cell? ⟨w.heap.size, 0, none⟩ = some (.int .i64 p.heap) := fun w' h => q0 w' (hxr.fr h)
                have f1 : ∀ w', Fr wi w' → w'.cell? ⟨w.heap.size, 1, none⟩ = some (.slice A' p.threads.length c') := fun w' h => q1 w' (hxr.fr h)
                have f2 : ∀ w', Fr wi w' → w'.cell? ⟨w.heap.size, 2, none⟩ = some (.slice (some ⟨b, o, none⟩) p.funcs.length c) := fun w' h => q2 w' (hxr.fr h)
                have fc : ∀ w', Fr wi w' → w'.cell? ⟨b1, o1 + j, none⟩ = some (.int .i64 k) := fun w' h => h.cell hb1 hc1
                have C2 := Lib.hid (reach_row hkn)
                have HK := Lib.hid hk
                clear hk hc1
                go_wp2_with fail
                go_region_held3 (fun w' => Fr wi w')
                  (first | assumption | exact Fr.drew _ | exact Fr.call' hb9 (by assumption))
                  (first
                    | (go_at_call 19; refine (bx_reach (k : Int) (hxr.fr (by assumption)) HR.out hsm).mono ?_; rintro e w9 ⟨v9, rfl, hx9, hg9, hb9⟩; rw [C2.out] at hg9))
                have G94 := Lib.hid (hGr4.out.fr (Fr.call' hb9 (Fr.drew wi)))
                have G95 := Lib.hid (hGr5.out.fr (Fr.call' hb9 (Fr.drew wi)))
                have G99 := Lib.hid hg9
                obtain ⟨A9, c9, rfl⟩ := slice_form hg9
                clear hg9 hb9 f0 f1 f2 fc C2 hb1
                go_wp2_with fail
                go_loopw [10] (fun i wr => ∃ m : Nat, m ≤ (reachC p k).length ∧ i = .int .i64 m ∧ Bx w cs 25 wr ∧ Hid (Got (.slice (some ⟨b1, o1, none⟩) (ofN (succ p q)).length c4) (ofN (succ p q)) wr) ∧ Hid (Got (.slice A5 (reachC p q).length c5) (reachC p q) wr) ∧ Hid (Got (.slice A9 (reachC p k).length c9) (reachC p k) wr)) (fun i _ => (reachC p k).length - (RowKit.intOf i).toNat)
                case atStart => exact ⟨0, Nat.zero_le _, rfl, hx9, G94, G95, G99⟩
                case round =>
                  obtain ⟨m, hm, rfl, hxs, hGs4, hGs5, hGs9⟩ := hrel
                  obtain ⟨wj, rfl⟩ : ∃ wj : World, wj = wr := ⟨_, rfl⟩
                  clear G94 G95 G99 hx9 hGr4 hGr5
                  by_cases hlt3 : m < (reachC p k).length
                  · obtain ⟨z, hz⟩ : ∃ z, (reachC p k)[m]? = some z := ⟨_, List.getElem?_eq_getElem hlt3⟩
                    obtain ⟨b2, o2, e2, hb2, hc2, _⟩ := int_at hGs9.out hz
                    cases e2
                    have HIN := Lib.hid (called_reaches hlt HK.out hz)
                    clear hz
                    go_wp2_with fail
                    refine (bx_in z hxs hGs5.out (by omega)).mono ?_
                    rintro e w12 ⟨rfl, hx12, hb12⟩
                    rw [HIN.out]
                    have K4 := Lib.hid (Got.keep hGs4.out hb12)
                    have K5 := Lib.hid (Got.keep hGs5.out hb12)
                    have K9 := Lib.hid (Got.keep hGs9.out hb12)
                    clear hb12 hc2
                    go_wp2_with fail
                    go_roundw
                    case rel => exact ⟨m + 1, by omega, by go_num, hx12, K4, K5, K9⟩
                    case measure => simp [RowKit.intOf]; omega
                  · obtain rfl : m = (reachC p k).length := by omega
                    obtain ⟨b3, o3, e3, hb3, hc3, _⟩ := int_at hGs4.out (ofN_get HK.out)
                    cases e3
                    have f0 : ∀ w', Fr wj w' → w'.cell? ⟨w.heap.size, 0, none⟩ = some (.int .i64 p.heap) := fun w' h => q0 w' (hxs.fr h)
                    have f1 : ∀ w', Fr wj w' → w'.cell? ⟨w.heap.size, 1, none⟩ = some (.slice A' p.threads.length c') := fun w' h => q1 w' (hxs.fr h)
                    have f2 : ∀ w', Fr wj w' → w'.cell? ⟨w.heap.size, 2, none⟩ = some (.slice (some ⟨b, o, none⟩) p.funcs.length c) := fun w' h => q2 w' (hxs.fr h)
                    have fc : ∀ w', Fr wj w' → w'.cell? ⟨b1, o1 + j, none⟩ = some (.int .i64 k) := fun w' h => h.cell hb3 hc3
                    clear hc3
                    go_wp2_with fail
                    go_region_held3 (fun w' => Fr wj w')
                      (first | assumption | exact Fr.drew _ | exact Fr.call' hb9 (by assumption))
                      (first
                        | (go_at_call 21; refine (bx_depthB (k : Int) (hxs.fr (by assumption)) HR.out hsm).mono ?_; rintro e w9 ⟨rfl, hx9, hb9⟩))
                    have X4 := Lib.hid (hGs4.out.fr (Fr.call' hb9 (Fr.drew wj)))
                    have X5 := Lib.hid (hGs5.out.fr (Fr.call' hb9 (Fr.drew wj)))
                    have hdb := depthC_bounds hkn
                    have hdf := df_bounds p q j
                    have HT := Lib.hid (tf_step HK.out)
                    have HD := Lib.hid (df_step HK.out)
                    have HIN := Lib.hid (called_reached hlt HK.out)
                    obtain ⟨b4, o4, e4, hb4, hc4, _⟩ := int_at X4.out (ofN_get HK.out)
                    cases e4
                    have hmx : max (df p q j) (depthC p k + 1) = df p q (j + 1) := HD.out.symm
                    have hw1 : IntKind.i64.wrap (depthC p k + 1) = depthC p k + 1 := IntWalk.i64_in _ (by omega)
                    clear f0 f1 f2 fc hb9 hb3
                    rcases hTF : tf p q j with _ | _
                    · rw [hTF, Bool.false_or] at HT
                      go_wp2_with fail
                      refine (bx_in (k : Int) (by assumption) X5.out (by omega)).mono ?_
                      rintro e w13 ⟨rfl, hx13, hb13⟩
                      rw [HIN.out]
                      have Y4 := Lib.hid (Got.keep X4.out hb13)
                      have Y5 := Lib.hid (Got.keep X5.out hb13)
                      clear hb13 X4 X5 hc4
                      go_wp2_with fail
                      go_roundw
                      case rel => exact ⟨j + 1, by omega, rfl, congrArg Value.bool HT.out.symm, by go_num, hx13, Y4, Y5⟩
                      case measure => simp [RowKit.intOf]; omega
                    · rw [hTF, Bool.true_or] at HT
                      go_wp2_with fail
                      refine (bx_in (k : Int) (by assumption) X5.out (by omega)).mono ?_
                      rintro e w13 ⟨rfl, hx13, hb13⟩
                      rw [HIN.out]
                      have Y4 := Lib.hid (Got.keep X4.out hb13)
                      have Y5 := Lib.hid (Got.keep X5.out hb13)
                      clear hb13 X4 X5 hc4
                      go_wp2_with fail
                      go_roundw
                      case rel => exact ⟨j + 1, by omega, rfl, congrArg Value.bool HT.out.symm, by go_num, hx13, Y4, Y5⟩
                      case measure => simp [RowKit.intOf]; omega
              · obtain rfl : j = (succ p q).length := by omega
                have hge : (ofN (succ p q)).length ≤ (succ p q).length := by rw [HL4.out]; omega
                have HDQ := Lib.hid (depth_of_calls hlt)
                have hdf := df_bounds p q (succ p q).length
                rcases hTF : tf p q (succ p q).length with _ | _
                · have hD : Hid (depthC p q = df p q (succ p q).length) := Lib.hid (by have := HDQ.out; rw [hTF] at this; simpa using this)
                  go_wp2_with fail
                  refine (bx_depth (q : Int) hxr HR.out hsm).mono ?_
                  rintro e w14 ⟨rfl, hx14⟩
                  rw [hD.out]
                  rcases hL : leaf fn.blocks with _ | _
                  · go_wp2_with fail
                    refine (H14.out _ hx14).mono ?_
                    rintro e w15 ⟨rfl, hx15⟩
                    rw [hL]
                    go_wp2_with fail
                    go_roundw
                    case rel => exact ⟨q + 1, by omega, by go_num, hx15⟩
                    case measure => simp [RowKit.intOf]; omega
                  · have hz : (ofN (succ p q)).length = 0 := by rw [HL4.out, leaf_none HFN.out hL]; rfl
                    go_wp2_with fail
                    refine (H14.out _ hx14).mono ?_
                    rintro e w15 ⟨rfl, hx15⟩
                    rw [hL]
                    go_wp2_with fail
                    go_roundw
                    case rel => exact ⟨q + 1, by omega, by go_num, hx15⟩
                    case measure => simp [RowKit.intOf]; omega
                · have hD : Hid (depthC p q = -1) := Lib.hid (by have := HDQ.out; rw [hTF] at this; simpa using this)
                  go_wp2_with fail
                  refine (bx_depth (q : Int) hxr HR.out hsm).mono ?_
                  rintro e w14 ⟨rfl, hx14⟩
                  rw [hD.out]
                  rcases hL : leaf fn.blocks with _ | _
                  · go_wp2_with fail
                    refine (H14.out _ hx14).mono ?_
                    rintro e w15 ⟨rfl, hx15⟩
                    rw [hL]
                    go_wp2_with fail
                    go_roundw
                    case rel => exact ⟨q + 1, by omega, by go_num, hx15⟩
                    case measure => simp [RowKit.intOf]; omega
                  · have hz : (ofN (succ p q)).length = 0 := by rw [HL4.out, leaf_none HFN.out hL]; rfl
                    go_wp2_with fail
                    refine (H14.out _ hx14).mono ?_
                    rintro e w15 ⟨rfl, hx15⟩
                    rw [hL]
                    go_wp2_with fail
                    go_roundw
                    case rel => exact ⟨q + 1, by omega, by go_num, hx15⟩
                    case measure => simp [RowKit.intOf]; omega
        · obtain rfl : q = p.funcs.length := by omega
          go_wp2_with fail
          refine (H13.out _ hx').mono ?_
          rintro e w16 ⟨rfl, hx16⟩
          go_wp2_with fail
          go_ret
          exact ⟨rfl, hx16.below⟩
    · have dn : decide (20 < p.funcs.length) = true := decide_eq_true (by omega)
      go_wp2_with fail
      refine (H13.out _ hx).mono ?_
      rintro e w2 ⟨rfl, hx2⟩
      go_wp2_with fail
      go_ret
      exact ⟨rfl, hx2.below⟩
  · go_wp2_with fail
    refine (H13.out _ hx).mono ?_
    rintro e w2 ⟨rfl, hx2⟩
    go_wp2_with fail
    go_ret
    exact ⟨rfl, hx2.below⟩
end Mu
