/-
  muntinref20.Reach and turns, walked.
  Conditions: the program's bulk is at most 2^21.
-/
import Derived.Test.YteeekjidkjdpjaaMuReaches
import Derived.Test.YteeekjidkjdpjaaMuReachTop
namespace Mu
open Go Go.RowKit Go.Proofs

set_option maxRecDepth 100000 in
set_option maxHeartbeats 2000000 in
theorem refReach_any (p : Prog) (f : Int) (w : World) (cs : List Value) (hR : tProg.R w w.heap.size cs p) (hsm : tProg.bulk p ≤ 2097152) :
    Calls Try.prog 20 #[.agg cs.toArray, .int .i64 f] w fun e w' => ∃ v, e = .returned v ∧ OwnI w' w.heap.size v (reachAll p f) ∧ Below w.heap.size w w' := by
  obtain ⟨A, c, A', c', rfl, _, _, hF⟩ := tProg_R.1 hR
  have hpl := prog_funcs_le p
  have hb : Hid (Below w.heap.size w (w.alloc (.cells [.int .i64 p.heap, .slice A' p.threads.length c', .slice A p.funcs.length c].toArray 25))) := (Below.refl _ _).alloc (Nat.le_refl _) _
  obtain ⟨i0, hi, hz0, hz1, hz2⟩ := info_parts int_info
  by_cases hin : 0 ≤ f ∧ f < p.funcs.length
  · obtain ⟨q, rfl⟩ := Int.eq_ofNat_of_zero_le hin.1
    have hq : q < p.funcs.length := by omega
    rw [reachAll, if_pos hin]
    have d0 : decide ((q : Int) < 0) = false := decide_eq_false (by omega)
    have d1 : decide ((p.funcs.length : Int) ≤ (q : Int)) = false := decide_eq_false (by omega)
    have d2 : decide (p.funcs.length ≤ q) = false := decide_eq_false (by omega)
    have HR := Lib.hid (Ty.below hR hb.out hb.out.size)
    clear hR hF hin
    go_enter Try.func20, Try.ntmps20
    go_wp2_with fail
    refine (reaches_any p q _ _ hq HR.out hsm).mono ?_
    rintro e w1 ⟨g, cap, rfl, hL, hb1⟩
    have hbb := Lib.hid (hb.out.trans (hb1.mono hb.out.size))
    have hL1 := Lib.hid (hL.base hb.out.size)
    clear hL hb1
    go_wp2_with fail
    go_loopw [6, 7] (fun out i wr => ∃ r : Nat, r ≤ p.funcs.length ∧ i = .int .i64 r ∧ Hid (OwnI wr w.heap.size out (ofN ((List.range r).filter (reachB p q)))) ∧ Hid (OwnL wr w.heap.size g cap p.funcs.length (reachB p q)) ∧ Below w.heap.size w wr) (fun _ i _ => p.funcs.length - (RowKit.intOf i).toNat)
    case atStart => exact ⟨0, Nat.zero_le _, rfl, OwnI.nil _ _, hL1, hbb.out⟩
    case round =>
      obtain ⟨r, hr, rfl, hown, hL2, hbe⟩ := hrel
      have hst := range_filter_step (reachB p q) r
      have hln := range_filter_len (reachB p q) (r + 1)
      have hsz := hbe.size
      have HBE := Lib.hid hbe
      have HST := Lib.hid hst
      have HLN := Lib.hid hln
      clear hbe hst hln hL1
      by_cases hlt2 : r < p.funcs.length
      · have hcell := hL2.out.cell hlt2
        by_cases hS : reachB p q r = true
        · rw [hS] at hcell
          have HS := Lib.hid hS
          clear hS
          go_wp2_with (at_builtin; refine wpList_append_own _ rfl _ _ 22 rfl w.heap.size 3 i0 (.int .i64 0) 1 8 Try.underlying22 hi hz0 hz1 hz2 rfl (by decide) _ _ _ rfl (hown.out.alloc _) ⟨wr.heap.size, 0, none⟩ 1 1 [.int .i64 r] rfl rfl ?c1 ?c2 ?c3 ?c4 ?c5 ?_)
          case c1 =>
            intro q u hq
            match q, hq with
            | 0, hq => simp at hq; subst hq; simp [Addr.add]
          case c2 => intro u hu; simp at hu; subst hu; rfl
          case c3 => have := HLN.out; rw [HST.out, HS.out] at this; simp at this ⊢; unfold maxLen; omega
          case c4 => have := HLN.out; rw [HST.out, HS.out] at this; simp at this ⊢; omega
          case c5 => simp; omega
          intro v' w2 hown' hgrow _
          have hnew : Hid (OwnI w2 w.heap.size v' (ofN ((List.range (r + 1)).filter (reachB p q)))) := by
            rw [HST.out, HS.out]
            exact .of hown' (by simp) (by simp)
          have hL3 : Hid (OwnL w2 w.heap.size g cap p.funcs.length (reachB p q)) :=
            ownsRow_keep (World.ownsRow.alloc hL2.out _) (fun g' hg => hgrow.block g' (by have := (World.ownsRow.lt hL2.out g' hg).2; simp; omega) (fun e => own_ne_bools hown.out hL2.out g' hg e.symm))
          have hbe3 : Hid (Below w.heap.size w w2) := (HBE.out.alloc hsz _).grown hgrow (by simp; omega) (fun q hq => (hown.out.lt q hq).1)
          clear hown' hgrow hown HBE hL2 hcell
          go_wp2
          go_roundw
          case rel => exact ⟨r + 1, by omega, by go_num, hnew, hL3, hbe3.out⟩
          case measure => simp [RowKit.intOf]; omega
        · have hS' : reachB p q r = false := by simpa using hS
          rw [hS'] at hcell
          have hnew : Hid (OwnI wr w.heap.size u6 (ofN ((List.range (r + 1)).filter (reachB p q)))) := by
            rw [HST.out, hS']
            show OwnI _ _ _ _
            simpa using hown.out
          clear hS hS'
          go_wp2_with fail
          go_roundw
          case rel => exact ⟨r + 1, by omega, by go_num, hnew, hL2, HBE.out⟩
          case measure => simp [RowKit.intOf]; omega
      · obtain rfl : r = p.funcs.length := by omega
        go_wp2_with fail
        go_ret
        exact ⟨_, rfl, hown.out, HBE.out⟩
  · rw [reachAll, if_neg hin]
    clear hR hF
    by_cases h0 : f < 0
    · have d0 : decide (f < 0) = true := decide_eq_true h0
      go_enter Try.func20, Try.ntmps20
      go_wp2_with fail
      go_ret
      exact ⟨_, rfl, OwnI.nil _ _, hb.out⟩
    · have d0 : decide (f < 0) = false := decide_eq_false h0
      have d1 : decide ((p.funcs.length : Int) ≤ f) = true := decide_eq_true (by omega)
      go_enter Try.func20, Try.ntmps20
      go_wp2_with fail
      go_ret
      exact ⟨_, rfl, OwnI.nil _ _, hb.out⟩

def turnsAt (p : Prog) (f k : Nat) : Bool := (reachB p f k || k == f) && reachB p k k
def turnsB (p : Prog) (f : Nat) : Bool := (List.range p.funcs.length).any (turnsAt p f)

theorem turns_step {p : Prog} {f k : Nat} (h : (List.range k).any (turnsAt p f) = false) (hk : turnsAt p f k = false) : Hid ((List.range (k + 1)).any (turnsAt p f) = false) := by
  show _ = _
  rw [List.range_succ, List.any_append, h]
  simp [hk]
theorem turns_yes {p : Prog} {f k : Nat} (hk : k < p.funcs.length) (h : turnsAt p f k = true) : turnsB p f = true := by
  unfold turnsB
  rw [List.any_eq_true]
  exact ⟨k, by simpa using hk, h⟩

set_option maxRecDepth 100000 in
set_option maxHeartbeats 2000000 in
theorem turns_any (p : Prog) (f : Nat) (w : World) (cs : List Value) (hf : f < p.funcs.length) (hR : tProg.R w w.heap.size cs p) (hsm : tProg.bulk p ≤ 2097152) :
    Calls Try.prog 48 #[.agg cs.toArray, .int .i64 f] w fun e w' => e = .returned (.bool (turnsB p f)) ∧ Below w.heap.size w w' := by
  obtain ⟨A, c, A', c', rfl, _, _, hF⟩ := tProg_R.1 hR
  have hpl := prog_funcs_le p
  have hb : Hid (Below (w.heap.size + 1) (w.alloc (.cells [.int .i64 p.heap, .slice A' p.threads.length c', .slice A p.funcs.length c].toArray 25)) (w.alloc (.cells [.int .i64 p.heap, .slice A' p.threads.length c', .slice A p.funcs.length c].toArray 25))) := Below.refl _ _
  have HR := Lib.hid hR
  have HR1 := Lib.hid (Ty.below hR (boxed hb.out).2.2.2 (boxed hb.out).2.2.2.size)
  clear hR hF
  go_enter Try.func48, Try.ntmps48
  go_wp2_with fail
  refine (reaches_any p f _ _ hf HR1.out hsm).mono ?_
  rintro e w1 ⟨g, cap, rfl, hL, hb1⟩
  have hbb := Lib.hid (hb.out.trans (hb1.mono (by simp)))
  have hL1 := Lib.hid (show OwnL w1 (w.heap.size + 1) g cap p.funcs.length (reachB p f) from hL.base (by simp))
  clear hL hb1
  go_wp2_with fail
  go_loopw [6] (fun i wr => ∃ k : Nat, k ≤ p.funcs.length ∧ i = .int .i64 k ∧ Hid ((List.range k).any (turnsAt p f) = false) ∧ Hid (OwnL wr (w.heap.size + 1) g cap p.funcs.length (reachB p f)) ∧ Below (w.heap.size + 1) (w.alloc (.cells [.int .i64 p.heap, .slice A' p.threads.length c', .slice A p.funcs.length c].toArray 25)) wr) (fun i _ => p.funcs.length - (RowKit.intOf i).toNat)
  case atStart => exact ⟨0, Nat.zero_le _, rfl, rfl, hL1, hbb.out⟩
  case round =>
    obtain ⟨k, hk, rfl, hno, hL2, hbe⟩ := hrel
    obtain ⟨_, hbox, hlw, hbw⟩ := boxed hbe
    have hb0 := hbox 0 _ rfl
    have hb1 := hbox 1 _ rfl
    have hb2 := hbox 2 _ rfl
    have HBE := Lib.hid hbe
    have HBW := Lib.hid hbw
    have HRr := Lib.hid (Ty.below HR.out hbw hbw.size)
    clear hbe hbox hbw hL1
    by_cases hlt : k < p.funcs.length
    · have hcell := hL2.out.cell hlt
      by_cases hgo : reachB p f k = true ∨ k = f
      · have hge : Hid (turnsAt p f k = reachB p k k) := by
          show _ = _
          unfold turnsAt
          rcases hgo with h | h <;> simp [h]
        have hor : (reachB p f k = true) ∨ (reachB p f k = false ∧ ((k : Int) == (f : Int)) = true) := by
          rcases hb : reachB p f k with _ | _
          · right
            rcases hgo with h | h
            · rw [hb] at h; cases h
            · exact ⟨rfl, by simp [h]⟩
          · left; rfl
        clear hgo
        rcases hor with ho1 | ⟨ho1, ho2⟩
        all_goals
          rw [ho1] at hcell
          clear ho1
          go_wp2_with fail
          refine (reaches_any p k _ _ hlt HRr.out hsm).mono ?_
          rintro e w2 ⟨g2, cap2, rfl, hLk, hb3⟩
          have hck := hLk.cell hlt
          have hL3 := Lib.hid (hL2.out.kept hb3)
          have hbe3 := Lib.hid (HBE.out.trans (hb3.mono (by omega)))
          clear hLk hb3 hcell hb0 hb1 hb2
          by_cases hS : reachB p k k = true
          · rw [hS] at hck
            have hyes := Lib.hid (turns_yes hlt (by rw [hge.out, hS]))
            clear hS
            go_wp2_with fail
            go_ret
            exact ⟨ret_bool hyes.out.symm, (boxed hbe3.out).2.2.2⟩
          · have hS' : reachB p k k = false := by simpa using hS
            rw [hS'] at hck
            have hnew := turns_step hno.out (by rw [hge.out, hS'])
            clear hS hS'
            go_wp2_with fail
            go_roundw
            case rel => exact ⟨k + 1, by omega, by go_num, hnew, hL3, hbe3.out⟩
            case measure => simp [RowKit.intOf]; omega
      · have h1 : reachB p f k = false := by
          rcases hb : reachB p f k with _ | _
          · rfl
          · exact absurd (Or.inl hb) hgo
        have h2 : ((k : Int) == (f : Int)) = false := by
          have : ¬ k = f := fun e => hgo (.inr e)
          simp; omega
        have hnew := turns_step hno.out (show turnsAt p f k = false by
          have : ¬ k = f := fun e => hgo (.inr e)
          unfold turnsAt
          simp [h1, this])
        rw [h1] at hcell
        clear hgo h1
        go_wp2_with fail
        go_roundw
        case rel => exact ⟨k + 1, by omega, by go_num, hnew, hL2, HBE.out⟩
        case measure => simp [RowKit.intOf]; omega
    · obtain rfl : k = p.funcs.length := by omega
      go_wp2_with fail
      go_ret
      exact ⟨ret_bool (by rw [turnsB]; exact hno.out.symm), (boxed HBE.out).2.2.2⟩
end Mu
