/-
  muntinref20.Calls, walked.
  Conditions: the program's bulk is at most 2^21.
-/
import Derived.Test.YteeekjidkjdpjaaMuHas
namespace Mu
open Go Go.RowKit Go.Proofs

theorem range_filter_step (P : Nat → Bool) (k : Nat) : ofN ((List.range (k + 1)).filter P) = ofN ((List.range k).filter P) ++ if P k then [(k : Int)] else [] := by
  unfold ofN
  rw [List.range_succ, List.filter_append, List.map_append]
  by_cases h : P k <;> simp [h]
theorem range_filter_len (P : Nat → Bool) (k : Nat) : (ofN ((List.range k).filter P)).length ≤ k := by
  unfold ofN
  rw [List.length_map]
  exact Nat.le_trans (List.length_filter_le _ _) (by simp)

set_option maxRecDepth 100000 in
set_option maxHeartbeats 1000000 in
theorem ref_calls_in (p : Prog) (f : Int) (fn : Func) (w : World) (cs : List Value) (hf : 0 ≤ f) (hfn : p.funcs[f.toNat]? = some fn) (hR : tProg.R w w.heap.size cs p) (hsm : tProg.bulk p ≤ 2097152) :
    Calls Try.prog 18 #[.agg cs.toArray, .int .i64 f] w fun e w' => ∃ v, e = .returned v ∧ OwnI w' w.heap.size v (ofN (succ p f.toNat)) ∧ Below w.heap.size w w' := by
  obtain ⟨A, c, A', c', rfl, _, _, hF⟩ := tProg_R.1 hR
  have hfl : f.toNat < p.funcs.length := (List.getElem?_eq_some_iff.1 hfn).1
  have hpl := prog_funcs_le p
  have hflt : f < (p.funcs.length : Int) := by omega
  have d0 : decide (0 ≤ f) = true := by simp [hf]
  have d1 : decide (f < (p.funcs.length : Int)) = true := by simp [hflt]
  obtain ⟨i0, hi, hz0, hz1, hz2⟩ := info_parts int_info
  have HFN := Lib.hid hfn
  have HR := Lib.hid hR
  clear hR hF hfn
  have hsc : Hid (succ p f.toNat = (List.range p.funcs.length).filter (hasCall fn.blocks)) := by
    show succ _ _ = _
    unfold succ
    rw [HFN.out]
  go_enter Try.func18, Try.ntmps18
  go_wp2_with fail
  go_loopw [5, 6] (fun out i wr => ∃ k : Nat, k ≤ p.funcs.length ∧ i = .int .i64 k ∧ Hid (OwnI wr (w.heap.size + 1) out (ofN ((List.range k).filter (hasCall fn.blocks)))) ∧ Below (w.heap.size + 1) (w.alloc (.cells [.int .i64 p.heap, .slice A' p.threads.length c', .slice A p.funcs.length c].toArray 25)) wr) (fun _ i _ => p.funcs.length - (RowKit.intOf i).toNat)
  case atStart => exact ⟨0, Nat.zero_le _, rfl, OwnI.nil _ _, Below.refl _ _⟩
  case round =>
    obtain ⟨k, hk, rfl, hown, hbe⟩ := hrel
    obtain ⟨hfar, hbox, hlw, hbw⟩ := boxed hbe
    have hb0 := hbox 0 _ rfl
    have hb1 := hbox 1 _ rfl
    have hb2 := hbox 2 _ rfl
    have hst := range_filter_step (hasCall fn.blocks) k
    have hln := range_filter_len (hasCall fn.blocks) (k + 1)
    have HBE := Lib.hid hbe
    have HBW := Lib.hid hbw
    have HST := Lib.hid hst
    have HLN := Lib.hid hln
    clear hbe hbox hbw hst hln
    by_cases hlt : k < p.funcs.length
    · have dk : decide ((k : Int) < (p.funcs.length : Int)) = true := by simp [hlt]
      by_cases hh : hasCall fn.blocks k = true
      · have HH := Lib.hid hh
        clear hh
        go_wp2_with fail
        refine (ref_has p f k fn _ _ hf (by omega) HFN.out (Ty.below HR.out HBW.out HBW.out.size) hsm).mono ?_
        rintro e w1 ⟨rfl, hb3⟩
        rw [show (k : Int).toNat = k from by omega, HH.out]
        have HB3 := Lib.hid hb3
        clear hb3 hfar hb0 hb1 hb2
        have hown1 : Hid (OwnI w1 (w.heap.size + 1) u5 (ofN ((List.range k).filter (hasCall fn.blocks)))) := hown.out.kept HB3.out
        have hsz := HB3.out.size
        go_wp2_with (at_builtin; refine wpList_append_own _ rfl _ _ 22 rfl (w.heap.size + 1) 3 i0 (.int .i64 0) 1 8 Try.underlying22 hi hz0 hz1 hz2 rfl (by decide) _ _ _ rfl (hown1.out.alloc _) ⟨w1.heap.size, 0, none⟩ 1 1 [.int .i64 k] rfl rfl ?c1 ?c2 ?c3 ?c4 ?c5 ?_)
        case c1 =>
          intro q u hq
          match q, hq with
          | 0, hq => simp at hq; subst hq; simp [Addr.add]
        case c2 => intro u hu; simp at hu; subst hu; rfl
        case c3 => have := HLN.out; rw [HST.out, HH.out] at this; simp at this ⊢; unfold maxLen; omega
        case c4 => have := HLN.out; rw [HST.out, HH.out] at this; simp at this ⊢; omega
        case c5 => simp; omega
        intro v' w2 hown' hgrow _
        have hnew : Hid (OwnI w2 (w.heap.size + 1) v' (ofN ((List.range (k + 1)).filter (hasCall fn.blocks)))) := by
          rw [HST.out, HH.out]
          exact .of hown' (by simp) (by simp)
        have hbe3 : Hid (Below (w.heap.size + 1) (w.alloc (.cells [.int .i64 p.heap, .slice A' p.threads.length c', .slice A p.funcs.length c].toArray 25)) w2) :=
          ((HBE.out.trans (HB3.out.mono (by omega))).alloc (by omega) _).grown hgrow (by simp; omega) (fun q hq => (hown1.out.lt q hq).1)
        clear hown' hgrow hown hown1 HBE
        go_wp2
        go_roundw
        case rel => exact ⟨k + 1, by omega, by go_num, hnew, hbe3.out⟩
        case measure => simp [RowKit.intOf]; omega
      · have hh' : hasCall fn.blocks k = false := by simpa using hh
        have HH := Lib.hid hh'
        clear hh hh'
        go_wp2_with fail
        refine (ref_has p f k fn _ _ hf (by omega) HFN.out (Ty.below HR.out HBW.out HBW.out.size) hsm).mono ?_
        rintro e w1 ⟨rfl, hb3⟩
        rw [show (k : Int).toNat = k from by omega, HH.out]
        have HB3 := Lib.hid hb3
        clear hb3 hfar hb0 hb1 hb2
        have hown1 : Hid (OwnI w1 (w.heap.size + 1) u5 (ofN ((List.range (k + 1)).filter (hasCall fn.blocks)))) := by
          rw [HST.out, HH.out]
          show OwnI _ _ _ _
          simpa using hown.out.kept HB3.out
        go_wp2_with fail
        go_roundw
        case rel => exact ⟨k + 1, by omega, by go_num, hown1, HBE.out.trans (HB3.out.mono (by omega))⟩
        case measure => simp [RowKit.intOf]; omega
    · obtain rfl : k = p.funcs.length := by omega
      go_wp2_with fail
      go_ret
      exact ⟨_, rfl, by rw [hsc.out]; exact hown.out.base (by omega), HBW.out⟩

set_option maxRecDepth 100000 in
theorem ref_calls_any (p : Prog) (f : Int) (w : World) (cs : List Value) (hR : tProg.R w w.heap.size cs p) (hsm : tProg.bulk p ≤ 2097152) :
    Calls Try.prog 18 #[.agg cs.toArray, .int .i64 f] w fun e w' => ∃ v, e = .returned v ∧ OwnI w' w.heap.size v (callsC p f) ∧ Below w.heap.size w w' := by
  by_cases hin : 0 ≤ f ∧ f < p.funcs.length
  · have h := ref_calls_in p f (p.funcs[f.toNat]'(by omega)) w cs hin.1 (List.getElem?_eq_getElem _) hR hsm
    rw [callsC, if_pos hin]
    exact h
  · rw [callsC, if_neg hin]
    obtain ⟨A, c, A', c', rfl, _, _, hF⟩ := tProg_R.1 hR
    have hpl := prog_funcs_le p
    have hb : Hid (Below w.heap.size w (w.alloc (.cells [.int .i64 p.heap, .slice A' p.threads.length c', .slice A p.funcs.length c].toArray 25))) := (Below.refl _ _).alloc (Nat.le_refl _) _
    clear hR hF
    by_cases h0 : 0 ≤ f
    · have d0 : decide (0 ≤ f) = true := by simp [h0]
      have d1 : decide (f < (p.funcs.length : Int)) = false := by simp; omega
      by_cases hz : 0 < p.funcs.length
      · have dk : decide ((0 : Int) < (p.funcs.length : Int)) = true := by simp [hz]
        go_enter Try.func18, Try.ntmps18
        go_wp2_with fail
        refine wp_loop_once ?_
        go_wp2_with fail
        go_ret
        exact ⟨_, rfl, OwnI.nil _ _, hb.out⟩
      · have dk : decide ((0 : Int) < (p.funcs.length : Int)) = false := decide_eq_false (by omega)
        go_enter Try.func18, Try.ntmps18
        go_wp2_with fail
        refine wp_loop_once ?_
        go_wp2_with fail
        go_ret
        exact ⟨_, rfl, OwnI.nil _ _, hb.out⟩
    · have d0 : decide (0 ≤ f) = false := by simp; omega
      by_cases hz : 0 < p.funcs.length
      · have dk : decide ((0 : Int) < (p.funcs.length : Int)) = true := by simp [hz]
        go_enter Try.func18, Try.ntmps18
        go_wp2_with fail
        refine wp_loop_once ?_
        go_wp2_with fail
        go_ret
        exact ⟨_, rfl, OwnI.nil _ _, hb.out⟩
      · have dk : decide ((0 : Int) < (p.funcs.length : Int)) = false := decide_eq_false (by omega)
        go_enter Try.func18, Try.ntmps18
        go_wp2_with fail
        refine wp_loop_once ?_
        go_wp2_with fail
        go_ret
        exact ⟨_, rfl, OwnI.nil _ _, hb.out⟩
end Mu
