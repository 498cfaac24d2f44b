/-
  calls.Reach, walked.
  Conditions: the program's bulk is at most 2^21.
-/
import Derived.Test.YteeekjidkjdpjaaMuReach
namespace Mu
open Go Go.RowKit Go.Proofs

def reachAll (p : Prog) (f : Int) : List Int := if 0 ≤ f ∧ f < p.funcs.length then reachC p f.toNat else []

/-- the graph as graphOf hands it back -/
structure GOut (base gb mb : Nat) (A : Option Addr) (c : Nat) (w : World) (p : Prog) : Prop where
  read : GRead gb A c w p
  tabS : tInt.slice.slice.RS w (fun k => mb < k ∧ k ≠ gb ∧ k < w.heap.size) [.slice A p.funcs.length c] (tab p p.funcs.length)
  mapc : w.cell? ⟨gb, 1, none⟩ = some (.map (some mb))
  mapo : w.heap[mb]? = some (.map #[] 0)
  lo : base ≤ mb
  lt : mb < gb

theorem GInv.out {B : Nat} {cs : List Value} {w : World} {v : Value} {p : Prog} (h : GInv B cs w v (tab p p.funcs.length)) :
    ∃ A c, GOut B (B + 1 + 1) (B + 1) A c w p := by
  have hr := h.own.read
  obtain ⟨A, c, rfl⟩ := slice_form hr
  rw [tab_length] at hr
  refine ⟨A, c, ⟨?_, h.lt, Ty.toR hr (fun k hk => hk.2)⟩, Ty.keepS _ hr (fun _ _ => rfl) (fun k hk => ⟨by omega, by omega, hk.2⟩), cell_of_row _ _ 1 _ _ _ h.st, h.map, by omega, by omega⟩
  have := cell_of_row _ _ 0 _ _ _ h.st
  rw [this, tab_length]
  rfl

theorem graphOf_out (p : Prog) (w : World) (cs : List Value) (hR : tProg.R w w.heap.size cs p) (hsm : tProg.bulk p ≤ 2097152) :
    Calls Try.prog 43 #[.agg cs.toArray] w fun e w' => ∃ gb mb A c, e = .returned (.pointer (some ⟨gb, 0, none⟩)) ∧ GOut w.heap.size gb mb A c w' p ∧ Below w.heap.size w w' := by
  refine (graphOf_any p w cs hR hsm).mono ?_
  rintro e w' ⟨v, rfl, hG, hb⟩
  obtain ⟨A, c, ho⟩ := hG.out
  exact ⟨_, _, A, c, rfl, ho, hb⟩

set_option maxRecDepth 100000 in
set_option maxHeartbeats 2000000 in
theorem Reach_any (p : Prog) (f : Int) (w : World) (cs : List Value) (hR : tProg.R w w.heap.size cs p) (hsm : tProg.bulk p ≤ 2097152) :
    Calls Try.prog 19 #[.agg cs.toArray, .int .i64 f] w fun e w' => ∃ v, e = .returned v ∧ OwnI w' w.heap.size v (reachAll p f) ∧ Below w.heap.size w w' := by
  obtain ⟨A, c, A', c', rfl, _, _, hF⟩ := tProg_R.1 hR
  have hpl := prog_funcs_le p
  have hb : Hid (Below w.heap.size w (w.alloc (.cells [.int .i64 p.heap, .slice A' p.threads.length c', .slice A p.funcs.length c].toArray 25))) := (Below.refl _ _).alloc (Nat.le_refl _) _
  by_cases hin : 0 ≤ f ∧ f < p.funcs.length
  · obtain ⟨k, rfl⟩ := Int.eq_ofNat_of_zero_le hin.1
    have hk : k < p.funcs.length := by omega
    rw [reachAll, if_pos hin]
    have d0 : decide ((k : Int) < 0) = false := decide_eq_false (by omega)
    have d1 : decide ((p.funcs.length : Int) ≤ (k : Int)) = false := decide_eq_false (by omega)
    have d2 : decide (p.funcs.length ≤ k) = false := decide_eq_false (by omega)
    have HR := Lib.hid (Ty.below hR hb.out hb.out.size)
    clear hR hF hin
    go_enter Try.func19, Try.ntmps19
    go_wp2_with fail
    refine (graphOf_out p _ _ HR.out hsm).mono ?_
    rintro e w1 ⟨gb, mb, Ag, cg, rfl, hG, hb1⟩
    have HGR := Lib.hid hG.read
    have HB1 := Lib.hid hb1
    clear hG hb1
    go_wp2_with fail
    refine (reach_any p k _ cg Ag _ hk HGR.out hsm).mono ?_
    rintro e w2 ⟨v2, rfl, ho, hb2⟩
    have HO := Lib.hid ho
    have HB2 := Lib.hid hb2
    clear ho hb2
    go_wp2_with fail
    go_ret
    have hbb := hb.out.trans (HB1.out.mono hb.out.size)
    exact ⟨_, rfl, HO.out.base hbb.size, hbb.trans (HB2.out.mono hbb.size)⟩
  · rw [reachAll, if_neg hin]
    clear hR hF
    by_cases h0 : f < 0
    · have d0 : decide (f < 0) = true := decide_eq_true h0
      go_enter Try.func19, Try.ntmps19
      go_wp2_with fail
      go_ret
      exact ⟨_, rfl, OwnI.nil _ _, hb.out⟩
    · have d0 : decide (f < 0) = false := decide_eq_false h0
      have d1 : decide ((p.funcs.length : Int) ≤ f) = true := decide_eq_true (by omega)
      go_enter Try.func19, Try.ntmps19
      go_wp2_with fail
      go_ret
      exact ⟨_, rfl, OwnI.nil _ _, hb.out⟩
end Mu
