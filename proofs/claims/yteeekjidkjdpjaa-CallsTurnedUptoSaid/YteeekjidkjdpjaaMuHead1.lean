/-
  The document's program: what the answers on it are; a box, and what stays readable behind it.
  Conditions: none.
-/
import Derived.Test.YteeekjidkjdpjaaMuExample
import Derived.Test.YteeekjidkjdpjaaMuDepthAny
import Derived.Test.YteeekjidkjdpjaaMuCallsB
import Derived.Test.YteeekjidkjdpjaaMuRefCalls
import Derived.Test.YteeekjidkjdpjaaMuLeaf2
namespace Mu
open Go Go.RowKit Go.Proofs

/-- w' is what calls made of w0, in which cs were boxed -/
def Bx (w0 : World) (cs : List Value) (T : TypeId) (w' : World) : Prop := Below (w0.heap.size + 1) (w0.alloc (.cells cs.toArray T)) w'
section
variable {w0 w' w'' : World} {cs : List Value} {T : TypeId}
theorem Bx.refl : Bx w0 cs T (w0.alloc (.cells cs.toArray T)) := Below.refl _ _
theorem Bx.cell (h : Bx w0 cs T w') {j : Nat} {v : Value} (hv : cs[j]? = some v) : w'.cell? ⟨w0.heap.size, j, none⟩ = some v := (boxed h).2.1 j v hv
theorem Bx.far (h : Bx w0 cs T w') {a : Addr} (ha : a.block < w0.heap.size) : w'.cell? a = w0.cell? a := (boxed h).1 a ha
theorem Bx.lt (h : Bx w0 cs T w') : w0.heap.size < w'.heap.size := (boxed h).2.2.1
theorem Bx.below (h : Bx w0 cs T w') : Below w0.heap.size w0 w' := (boxed h).2.2.2
theorem Bx.call (h : Bx w0 cs T w') (hb : Below w'.heap.size w' w'') : Bx w0 cs T w'' := Below.trans h (hb.mono h.lt)
theorem Bx.alloc (h : Bx w0 cs T w') (o : Obj) : Bx w0 cs T (w'.alloc o) := Below.alloc h h.lt o
theorem Bx.drewN (h : Bx w0 cs T w') (n : Nat) : Bx w0 cs T (w'.drewN n) := bdrew h n
theorem Bx.drew (h : Bx w0 cs T w') : Bx w0 cs T w'.drew := ⟨h.os, h.tape, h.output, h.size, h.block⟩
theorem Bx.R {α : Type} {U : Ty α} {us : List Value} {d : α} (h : Bx w0 cs T w') (hR : U.R w0 w0.heap.size us d) : U.R w' w'.heap.size us d := Ty.below hR h.below h.below.size
end

theorem ex_bulk : tProg.bulk exProg ≤ 2097152 := by decide
theorem ex_callsC0 : callsC exProg 0 = [1, 2] := by decide
theorem ex_callsC9 : callsC exProg 9 = [] := by decide
theorem ex_reach0 : reachAll exProg 0 = [1, 2] := by decide
theorem ex_reach3 : reachAll exProg 3 = [0, 1, 2, 3] := by decide
theorem ex_depth0 : depthC exProg 0 = 2 := by decide
theorem ex_depth1 : depthC exProg 1 = 1 := by decide
theorem ex_depth2 : depthC exProg 2 = 0 := by decide
theorem ex_depth3 : depthC exProg 3 = -1 := by decide
def exD (q : Nat) : Int := if q = 0 then 2 else if q = 1 then 1 else if q = 2 then 0 else -1
theorem ex_depth (q : Nat) (hq : q < 4) : depthC exProg q = exD q := by
  match q, hq with
  | 0, _ => exact ex_depth0
  | 1, _ => exact ex_depth1
  | 2, _ => exact ex_depth2
  | 3, _ => exact ex_depth3
theorem ex_form {w : World} {B : Nat} {cs : List Value} (h : tProg.R w B cs exProg) :
    ∃ A' c' b o c, cs = [.int .i64 0, .slice A' 0 c', .slice (some ⟨b, o, none⟩) 4 c] ∧ b < B ∧ ∀ q, q < 4 → ∃ fn Aq cq, tFunc.bulk fn ≤ 2097152 ∧ leaf fn.blocks = false ∧
      w.cell? ⟨b, o + q * 4, none⟩ = some (.string fn.name) ∧ w.cell? ⟨b, o + q * 4 + 1, none⟩ = some (.int .i64 fn.args) ∧ w.cell? ⟨b, o + q * 4 + 2, none⟩ = some (.int .i64 fn.regs) ∧ w.cell? ⟨b, o + q * 4 + 3, none⟩ = some (.slice Aq fn.blocks.length cq) ∧
      tFunc.R w B [.string fn.name, .int .i64 fn.args, .int .i64 fn.regs, .slice Aq fn.blocks.length cq] fn := by
  obtain ⟨A, c, A', c', rfl, _, _, hF⟩ := tProg_R.1 h
  obtain ⟨b, o, _, _, rfl, hb, _⟩ := func_at (k := 0) hF rfl
  refine ⟨A', c', b, o, c, rfl, hb, fun q hq => ?_⟩
  have hg : ∃ fn, exProg.funcs[q]? = some fn ∧ tFunc.bulk fn ≤ 2097152 ∧ leaf fn.blocks = false := by
    match q, hq with
    | 0, _ => exact ⟨_, rfl, by decide, by decide⟩
    | 1, _ => exact ⟨_, rfl, by decide, by decide⟩
    | 2, _ => exact ⟨_, rfl, by decide, by decide⟩
    | 3, _ => exact ⟨_, rfl, by decide, by decide⟩
  obtain ⟨fn, hfn, h1, h2⟩ := hg
  obtain ⟨b', o', Aq, cq, e, _, k0, k1, k2, k3, n1, n2, n3, n4⟩ := func_at hF hfn
  cases e
  exact ⟨fn, Aq, cq, h1, h2, k0, k1, k2, k3, tFunc_R.2 ⟨_, _, rfl, n1, n2, n3, n4⟩⟩
end Mu
