/-
  The answers' contracts, said of worlds behind a box.
  Conditions: the program's bulk is at most 2^21.
-/
import Derived.Test.YteeekjidkjdpjaaMuHead
import Derived.Test.YteeekjidkjdpjaaMuRefReach
import Derived.Test.YteeekjidkjdpjaaMuGreat
namespace Mu
open Go Go.RowKit Go.Proofs
variable {w0 w' : World} {bs : List Value} {T : TypeId} {p : Prog} {us : List Value}

theorem bx_head (h : Bx w0 bs T w') : Calls Try.prog 13 #[] w' fun e w'' => e = .returned (.bool true) ∧ Bx w0 bs T w'' :=
  (head_any w').mono fun _ _ hp => ⟨hp.1, h.call hp.2⟩
theorem bx_great (h : Bx w0 bs T w') (hR : tProg.R w0 w0.heap.size us p) (hsm : tProg.bulk p ≤ 2097152) :
    Calls Try.prog 12 #[.agg us.toArray] w' fun e w'' => ∃ b, e = .returned (.bool b) ∧ Bx w0 bs T w'' :=
  (great_any p w' us (h.R hR) hsm).mono fun _ _ ⟨b, h1, h2⟩ => ⟨b, h1, h.call h2⟩
theorem reachAll_wf {f : Int} (hsm : tProg.bulk p ≤ 2097152) : ∀ x ∈ reachAll p f, wfI .i64 x := by
  unfold reachAll
  split
  · exact reachC_wf hsm
  · simp
theorem reachAll_len {f : Int} (hsm : tProg.bulk p ≤ 2097152) : (reachAll p f).length ≤ 2097152 := by
  unfold reachAll
  split
  · have := reachC_len p f.toNat; have := prog_funcs_le p; omega
  · simp
/-- a row of numbers that stands in a world -/
def Got (v : Value) (l : List Int) (w : World) : Prop := tInt.slice.R w w.heap.size [v] l
theorem Got.keep {v : Value} {l : List Int} {w w' : World} (h : Got v l w) (hb : Hid (Below w.heap.size w w')) : Got v l w' := Ty.below h hb.out hb.out.size
theorem bx_calls (f : Int) (h : Bx w0 bs T w') (hR : tProg.R w0 w0.heap.size us p) (hsm : tProg.bulk p ≤ 2097152) :
    Calls Try.prog 17 #[.agg us.toArray, .int .i64 f] w' fun e w'' => ∃ v, e = .returned v ∧ Bx w0 bs T w'' ∧ Got v (callsC p f) w'' ∧ Hid (Below w'.heap.size w' w'') :=
  (calls_any p f w' us (h.R hR) hsm).mono fun _ _ ⟨v, h1, h2, h3⟩ => ⟨v, h1, h.call h3, OwnI.read h2 (callsC_wf hsm), h3⟩
theorem bx_refCalls (f : Int) (h : Bx w0 bs T w') (hR : tProg.R w0 w0.heap.size us p) (hsm : tProg.bulk p ≤ 2097152) :
    Calls Try.prog 18 #[.agg us.toArray, .int .i64 f] w' fun e w'' => ∃ v, e = .returned v ∧ Bx w0 bs T w'' ∧ Got v (callsC p f) w'' ∧ Hid (Below w'.heap.size w' w'') :=
  (ref_calls_any p f w' us (h.R hR) hsm).mono fun _ _ ⟨v, h1, h2, h3⟩ => ⟨v, h1, h.call h3, OwnI.read h2 (callsC_wf hsm), h3⟩
theorem bx_reach (f : Int) (h : Bx w0 bs T w') (hR : tProg.R w0 w0.heap.size us p) (hsm : tProg.bulk p ≤ 2097152) :
    Calls Try.prog 19 #[.agg us.toArray, .int .i64 f] w' fun e w'' => ∃ v, e = .returned v ∧ Bx w0 bs T w'' ∧ Got v (reachAll p f) w'' ∧ Hid (Below w'.heap.size w' w'') :=
  (Reach_any p f w' us (h.R hR) hsm).mono fun _ _ ⟨v, h1, h2, h3⟩ => ⟨v, h1, h.call h3, OwnI.read h2 (reachAll_wf hsm), h3⟩
theorem bx_refReach (f : Int) (h : Bx w0 bs T w') (hR : tProg.R w0 w0.heap.size us p) (hsm : tProg.bulk p ≤ 2097152) :
    Calls Try.prog 20 #[.agg us.toArray, .int .i64 f] w' fun e w'' => ∃ v, e = .returned v ∧ Bx w0 bs T w'' ∧ Got v (reachAll p f) w'' ∧ Hid (Below w'.heap.size w' w'') :=
  (refReach_any p f w' us (h.R hR) hsm).mono fun _ _ ⟨v, h1, h2, h3⟩ => ⟨v, h1, h.call h3, OwnI.read h2 (reachAll_wf hsm), h3⟩
theorem bx_depth (f : Int) (h : Bx w0 bs T w') (hR : tProg.R w0 w0.heap.size us p) (hsm : tProg.bulk p ≤ 2097152) :
    Calls Try.prog 21 #[.agg us.toArray, .int .i64 f] w' fun e w'' => e = .returned (.int .i64 (depthC p f)) ∧ Bx w0 bs T w'' :=
  (Depth_any p f w' us (h.R hR) hsm).mono fun _ _ hp => ⟨hp.1, h.call hp.2⟩
theorem bx_refDepth (f : Int) (h : Bx w0 bs T w') (hR : tProg.R w0 w0.heap.size us p) (hsm : tProg.bulk p ≤ 2097152) :
    Calls Try.prog 22 #[.agg us.toArray, .int .i64 f] w' fun e w'' => e = .returned (.int .i64 (depthC p f)) ∧ Bx w0 bs T w'' :=
  (refDepth_any p f w' us (h.R hR) hsm).mono fun _ _ hp => ⟨hp.1, h.call hp.2⟩
theorem bx_leaf {fn : Func} {fs : List Value} (h : Bx w0 bs T w') (hR : tFunc.R w0 w0.heap.size fs fn) (hsm : tFunc.bulk fn ≤ 2097152) :
    Calls Try.prog 14 #[.agg fs.toArray] w' fun e w'' => e = .returned (.bool (leaf fn.blocks)) ∧ Bx w0 bs T w'' :=
  (leaf_any fn w' fs (h.R hR) hsm).mono fun _ _ hp => ⟨hp.1, h.call hp.2⟩
theorem bx_refLeaf {fn : Func} {fs : List Value} (h : Bx w0 bs T w') (hR : tFunc.R w0 w0.heap.size fs fn) (hsm : tFunc.bulk fn ≤ 2097152) :
    Calls Try.prog 15 #[.agg fs.toArray] w' fun e w'' => e = .returned (.bool (leaf fn.blocks)) ∧ Bx w0 bs T w'' :=
  (ref_leaf fn w' fs (h.R hR) hsm).mono fun _ _ hp => ⟨hp.1, h.call hp.2⟩
theorem bx_same {u v : Value} {l m : List Int} (h : Bx w0 bs T w') (h1 : Got u l w') (h2 : Got v m w') (hl : l.length ≤ 2097152) :
    Calls Try.prog 16 #[u, v] w' fun e w'' => e = .returned (.bool (decide (l = m))) ∧ Bx w0 bs T w'' :=
  (ref_same l m u v w' h1 h2 hl).mono fun _ _ hp => ⟨hp.1, h.call hp.2⟩
theorem bx_same_self {u v : Value} {l : List Int} (h : Bx w0 bs T w') (h1 : Got u l w') (h2 : Got v l w') (hl : l.length ≤ 2097152) :
    Calls Try.prog 16 #[u, v] w' fun e w'' => e = .returned (.bool true) ∧ Bx w0 bs T w'' :=
  (bx_same h h1 h2 hl).mono fun _ _ hp => ⟨by rw [hp.1]; simp, hp.2⟩
/-- a function of a program, in the world of its box -/
theorem func_fact {w : World} {B : Nat} {n c k : Nat} {A : Option Addr} (h : tFunc.slice.R w B [.slice A n c] p.funcs) (hk : k < p.funcs.length) (hsm : tProg.bulk p ≤ 2097152) :
    ∃ fn b o Aq cq, A = some ⟨b, o, none⟩ ∧ b < B ∧ p.funcs[k]? = some fn ∧ tFunc.bulk fn ≤ 2097152 ∧
      w.cell? ⟨b, o + k * 4, none⟩ = some (.string fn.name) ∧ w.cell? ⟨b, o + k * 4 + 1, none⟩ = some (.int .i64 fn.args) ∧ w.cell? ⟨b, o + k * 4 + 2, none⟩ = some (.int .i64 fn.regs) ∧ w.cell? ⟨b, o + k * 4 + 3, none⟩ = some (.slice Aq fn.blocks.length cq) ∧
      tFunc.R w B [.string fn.name, .int .i64 fn.args, .int .i64 fn.regs, .slice Aq fn.blocks.length cq] fn := by
  have hfn : p.funcs[k]? = some p.funcs[k] := List.getElem?_eq_getElem hk
  obtain ⟨b, o, Aq, cq, rfl, hb, k0, k1, k2, k3, n1, n2, n3, n4⟩ := func_at h hfn
  exact ⟨_, b, o, Aq, cq, rfl, hb, hfn, Nat.le_trans (prog_func_le (List.mem_of_getElem? hfn)) hsm, k0, k1, k2, k3, tFunc_R.2 ⟨_, _, rfl, n1, n2, n3, n4⟩⟩
end Mu
