/-
  muntinlaw17.LiveArgs answers true and leaves its arguments as they were, of any program and choice of a function.
  Conditions: what comes in is of bulk at most 1048576.
-/
import Derived.Test.YteeekjidkjdpjaaLa5
import Derived.WalkKit
import Derived.JoinedCond
namespace Mu
open Go Go.RowKit
theorem ok_prog {w : World} {S : Nat → Prop} {cs : List Value} {p : Prog} (h : tProg.RS w S cs p) : ∀ f ∈ p.funcs, okFunc f := by
  obtain ⟨A, c, A', c', _, _, _, hf⟩ := tProg_R.1 h
  exact ok_slice (T := tFunc) (p := okFunc) (fun _ _ h => ok_func h) hf
theorem small_prog {p : Prog} (hb : tProg.bulk p ≤ 2097152) (ho : ∀ f ∈ p.funcs, okFunc f) : smallP p :=
  ⟨Nat.le_trans (prog_funcs_le p) hb, Nat.le_trans (prog_threads_le p) hb, ho, fun _ hf => small_func (Nat.le_trans (prog_func_le hf) hb)⟩
theorem rel_prog {W : World} {S : Nat → Prop} {h : List ABlk} {ψ : Nat → Value} {cs : List Value} {p : Prog} (hR : tProg.RS W S cs p) : AV.rel W S h ψ (.agg (encProg p)) (.agg cs.toArray) := by
  unfold AV.rel
  exact ⟨cs, rfl, EncOf.ok (T := tProg) W S h ψ cs p hR⟩
end Mu
namespace Go.Proofs.Yteeekjidkjdpjaa.liveArgs
open Go.ChangeShapes Go.WideShapes Go.ChangeAt Go.RowKit

theorem own : ownKnob Try.prog.godebug = none := by kernel_rfl

set_option maxRecDepth 100000 in
theorem contract (H : Type) (enc : TypeId × Value → H) (W : World) (base : Nat) (args : Array Value) (ds gs : List (DataW H)) (before : List MemPlace)
    (hval : ∀ (j : Nat) t v, Try.f8.params[j]? = some t → args[j]? = some v → Value.okWide Try.prog W .any base t v)
    (hW : DataW.Whole enc Try.prog Try.f8.params.toList Rows.liveArgsSpec.vars false W args.toList ds gs before) (hk : Rows.uptoSmall H (ds ++ gs) = true) :
    Calls Try.prog 8 args W fun e W' => ∃ v, e = .returned v ∧ Rows.liveArgsSpec.post enc Try.prog Try.f8 false true false false W args v W' := by
  have hW' := hW
  obtain ⟨p, q, hA0, hV, rfl, hfz, hnd⟩ := hW
  have hA : DataW.TrodAll enc Try.prog W 0 (fun _ => true) true Try.f8.params.toList args.toList ds p := hA0
  rw [Try.params8] at hA hval
  obtain ⟨v0, vs0, d0, ds0, p0, q0, hargs, rfl, rfl, h0, r0⟩ := trodAll_cons hA
  obtain ⟨v1, vs1, d1, ds1, p1, q1, rfl, rfl, rfl, h1, r1⟩ := trodAll_cons r0
  obtain ⟨rfl, rfl, rfl⟩ := trodAll_nil r1
  obtain rfl : args = #[v0, v1] := by cases args; simp_all
  obtain ⟨rfl, rfl⟩ := trodVars_none hV
  obtain ⟨n, rfl, rfl, rfl, hf1⟩ := open_int Try.underlying3 (hval 1 3 v1 rfl rfl) h1
  have hlt := hW'.lt
  have hp0 : ∀ x ∈ p0, x.block < W.heap.size := fun x hx => hlt x (by simp [hx])
  obtain ⟨cs, pr, rfl, hR, hb⟩ := Mu.open_many Mu.opens_tProg (by decide) h0 hp0
  have hsm : Mu.tProg.bulk pr ≤ 2097152 := by
    have h : Rows.uptoBulkAll [d0, DataW.lit (H := H) (.int .i64 n)] ≤ 1048576 := of_decide_eq_true hk
    simp only [Rows.uptoBulkAll, Rows.uptoBulk] at h
    omega
  clear hA0
  refine (Mu.fn_calls (Mu.liveArgs17_fn pr n (Mu.small_prog hsm (Mu.ok_prog hR)) fun f hf => Mu.reads_func (Nat.le_trans (Mu.prog_func_le hf) hsm)) (Mu.relL_more (Mu.rel_prog hR) (Mu.relL_one (Mu.rel_litv _)))).mono fun e W' ⟨he, hg⟩ => ?_
  subst he
  refine ⟨_, rfl, [d0, .lit (.int .i64 n)], [], _, [], p0 ++ ([] ++ []), [], hW', trodAll_cons_mk (shut_bool Try.underlying4 _) trodAll_mk0, ?_, rfl, hg.frame _, fun h => by cases h⟩
  rw [Try.params8]
  exact trodAll_cons_mk (Mu.stays (by kernel_rfl) (of_decide_eq_true (by kernel_rfl)) h0 hg hp0) (trodAll_cons_mk (shut_int Try.underlying3 hf1) trodAll_mk0)

set_option maxRecDepth 100000 in
theorem lifted (os : Os) (started : os.Started) (H : Type) (enc : TypeId × Value → H) (F : Stop.Interp) :
    ReturnsInHanded {} Try.checked os 8 .any ((Rows.OpenSpec.upto Rows.liveArgsSpec).pre6 enc Try.prog Try.f8 Rows.liveArgsUptoRow.domain false) (((Rows.OpenSpec.upto Rows.liveArgsSpec).at F).post enc Try.prog Try.f8 false true false false) := by
  refine returnsInHanded_of_cond (C := Try.checked) (s := Rows.OpenSpec.upto Rows.liveArgsSpec) (k := Rows.uptoSmall) rfl own started (by kernel_rfl) Try.func8
    (OpenSpec.witness (enc := enc) (C := Try.checked) (s := Rows.OpenSpec.upto Rows.liveArgsSpec) (k := Rows.uptoSmall) rfl false ⟨#[], #[.agg #[.int .i64 0, .slice none 0 0, .slice none 0 0], .int .i64 0], []⟩ 8 (by kernel_rfl) (by kernel_rfl) (by kernel_rfl)
      (x := ([.agg [.lit (.int .i64 0), .nil, .nil], .lit (.int .i64 0)], [], [])) (by kernel_rfl) rfl (by kernel_rfl)) ?_
  intro W base args ds gs before hval hW _ hk _
  exact contract H enc W base args ds gs before hval hW hk

theorem proved : Rows.LiveArgsUptoSaid :=
  OpenClaim.holds_of_cond 8 Try.f8 rfl rfl rfl rfl rfl rfl rfl ⟨rfl, rfl, rfl, rfl, rfl⟩ rfl rfl rfl rfl rfl (by kernel_rfl) Try.func8 (by kernel_rfl)
    (of_decide_eq_true (by kernel_rfl)) (by unfold Func.isWrapper; first | (rw [if_pos (by decide +kernel)]; kernel_rfl) | (rw [if_neg (by decide +kernel)]; exact ⟨rfl, rfl⟩))
    (fun os started H enc _ F => lifted os started H enc F)
end Go.Proofs.Yteeekjidkjdpjaa.liveArgs
