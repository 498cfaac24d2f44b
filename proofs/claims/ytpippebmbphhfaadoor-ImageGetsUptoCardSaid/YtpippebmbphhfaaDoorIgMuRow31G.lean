/-
  muntinlaw31.ImageGets answers true and leaves its arguments as they were; its card.
  Conditions: what comes in is of bulk at most 1048576; the listed variables lie as the program's text lays them.
-/
import Derived.Test.YtpippebmbphhfaaDoorIg3
import Derived.Test.YtpippebmbphhfaaDoorCards
import Derived.Test.YtpippebmbphhfaaDoorTie
import Derived.WalkKit
import Derived.ProofKit
import Derived.OpenShut
import Derived.Deep.DeepHandedRow
import Derived.Lay
import Derived.LaidSub
import Derived.Shelf.Vars
import Derived.ChangeMaps5
namespace Go.Proofs.YtpippebmbphhfaaDoor.imageGets
open Go.ChangeShapes Go.WideShapes Go.ChangeAt Go.RowKit

theorem ownImageGets : ownKnob Tryd.prog.godebug = none := by kernel_rfl

theorem tensImageGets {W : World} (h : laidMetH Tryd.prog Rows.imageGetsUptoRow.laid W) : Mu.TensLaid W :=
  Lib.tabIs_of_head (rest := []) (t := 128) (e := 46) (n := 20) (g := 4) (by kernel_rfl) (by kernel_rfl) (by kernel_rfl) (by kernel_rfl) (by kernel_rfl) (by kernel_rfl)
    (laidMetH.filter (fun x => x.1 == "internal/strconv.uint64pow10") h)

theorem glImageGets {W : World} (h : laidMetH Tryd.prog Rows.imageGetsUptoRow.laid W) (hsh : W.ShapedOpen Tryd.prog) : Mu.GL W :=
  ⟨tensImageGets h, Lib.tabIs_of_head (rest := []) (t := 109) (e := 5) (n := 38) (g := 1) (by kernel_rfl) (by kernel_rfl) (by kernel_rfl) (by kernel_rfl) (by kernel_rfl) (by kernel_rfl)
    (laidMetH.filter (fun x => x.1 == "muntin/inst.fields") h),
    cell_of_shapedOpen_int (P := Tryd.prog) (g := 0) (t := 3) (zero := #[.int .i64 0]) hsh (of_decide_eq_true (by kernel_rfl)) (by kernel_rfl) rfl (by kernel_rfl) (by kernel_rfl) Tryd.underlying3⟩

set_option maxRecDepth 100000 in
theorem contractImageGets (H : Type) (enc : TypeId × Value → H) (W : World) (base : Nat) (args : Array Value) (ds gs : List (DataW H)) (before : List MemPlace)
    (hval : ∀ (j : Nat) t v, Tryd.f3.params[j]? = some t → args[j]? = some v → Value.okWide Tryd.prog W .any base t v)
    (hW : DataW.Whole enc Tryd.prog Tryd.f3.params.toList Rows.imageGetsSpec.vars false W args.toList ds gs before) (hk : Rows.uptoSmall H (ds ++ gs) = true) (hG : Mu.GL W) :
    Calls Tryd.prog 3 args W fun e W' => ∃ v, e = .returned v ∧ Rows.imageGetsSpec.post enc Tryd.prog Tryd.f3 false true false false W args v W' := by
  have hW' := hW
  obtain ⟨p, q, hA0, hV, rfl, hfz, hnd⟩ := hW
  have hA : DataW.TrodAll enc Tryd.prog W 0 (fun _ => true) true Tryd.f3.params.toList args.toList ds p := hA0
  rw [Tryd.params3] at hA hval
  obtain ⟨v0, vs0, d0, ds0, p0, q0, hargs, rfl, rfl, h0, r0⟩ := trodAll_cons hA
  obtain ⟨rfl, rfl, rfl⟩ := trodAll_nil r0
  obtain rfl : args = #[v0] := by cases args; simp_all
  obtain ⟨rfl, rfl⟩ := trodVars_none hV
  obtain ⟨b, rfl, rfl, rfl, hf0⟩ := ChangeMaps.open_string Tryd.underlying9 (hval 0 9 v0 rfl rfl) h0
  have hlt := hW'.lt
  have hbulk : Rows.uptoBulkAll [DataW.lit (H := H) (.string b.data.toList)] ≤ 1048576 := of_decide_eq_true hk
  simp only [Rows.uptoBulkAll, Rows.uptoBulk] at hbulk
  clear hA0
  refine (Mu.fnT_calls (Mu.imageGets31_fn b) hG (Mu.relL_one (Mu.rel_litv _))).mono fun e W' ⟨he, hg⟩ => ?_
  subst he
  refine ⟨_, rfl, [.lit (.string b.data.toList)], [], _, [], [] ++ [], [], hW', trodAll_cons_mk (shut_bool Tryd.underlying4 _) trodAll_mk0, ?_, rfl, hg.frame _, fun h => by cases h⟩
  rw [Tryd.params3]
  exact trodAll_cons_mk (ChangeMaps.shut_string Tryd.underlying9 hf0) trodAll_mk0

/-- the world of the witness: the listed variables laid -/
noncomputable def laidWorldImageGets (os : Os) : World := World.laidAll Tryd.prog os Rows.imageGetsUptoRow.laid
def wargsImageGets : Array Value := #[.string ⟨#[]⟩]
theorem laid_metImageGets (os : Os) : laidMet Tryd.prog Rows.imageGetsUptoRow.laid ((laidWorldImageGets os).forCall (fun _ _ => 0) ⟨#[], wargsImageGets, []⟩).memory :=
  laidMet_laidAll _ (by kernel_rfl) (by kernel_rfl)
theorem readsImageGets (os : Os) {H : Type} (enc : TypeId × Value → H) : ∃ places, DataW.whole enc Tryd.prog ((laidWorldImageGets os).forCall (fun _ _ => 0) ⟨#[], wargsImageGets, []⟩).memory Tryd.f3.params.toList Rows.imageGetsSpec.vars false wargsImageGets.toList 8 = some ([.lit (.string [])], [], places) :=
  ⟨[], by kernel_rfl⟩

set_option maxRecDepth 100000 in
theorem liftedImageGets (os : Os) (started : os.Started) (H : Type) (enc : TypeId × Value → H) (F : Stop.Interp) :
    ReturnsInHanded {} Tryd.checked os 3 .any ((Rows.OpenSpec.upto Rows.imageGetsSpec).preRow enc Tryd.prog Tryd.f3 Rows.imageGetsUptoRow.domain false Rows.imageGetsUptoRow.laid) (((Rows.OpenSpec.upto Rows.imageGetsSpec).at F).post enc Tryd.prog Tryd.f3 false true false false) := by
  obtain ⟨places, hx⟩ := readsImageGets os enc
  refine returnsInHanded_of_row (C := Tryd.checked) (s := Rows.OpenSpec.upto Rows.imageGetsSpec) ownImageGets started (by kernel_rfl) Tryd.func3
    (witness_row_at (enc := enc) (C := Tryd.checked) false (laidWorldImageGets os) wargsImageGets (World.laidAll_os _ _ _) (by kernel_rfl) (by kernel_rfl) (by kernel_rfl)
      (OpenSpec.preRow_of_cond 8 hx (by kernel_rfl) (fun k hk => by cases hk; kernel_rfl) (by kernel_rfl) (laid_metImageGets os))) ?_
  intro W base args ds gs before hval hW _ hcond _ hL hsh _
  exact contractImageGets H enc W base args ds gs before hval hW (hcond _ rfl) (glImageGets hL hsh)

theorem saidImageGets : Rows.ImageGetsUptoSaid :=
  OpenClaim.holds_of_cond 3 Tryd.f3 rfl rfl rfl rfl rfl rfl rfl ⟨rfl, rfl, rfl, rfl, rfl⟩ rfl rfl rfl rfl rfl (by kernel_rfl) Tryd.func3 (by kernel_rfl)
    (of_decide_eq_true (by kernel_rfl)) (by unfold Func.isWrapper; first | (rw [if_pos (by decide +kernel)]; kernel_rfl) | (rw [if_neg (by decide +kernel)]; exact ⟨rfl, rfl⟩))
    (fun os started H enc _ F => by rw [OpenClaim.pre_eq_preRow]; exact liftedImageGets os started H enc F)

theorem plainImageGets (f : FuncId) (fn : Func) (hf : Tryd.pinned.checked.prog.funcNamed "muntin/muntinlaw31.ImageGets" = some f) (hfn : Tryd.pinned.checked.prog.funcs[f]? = some fn) :
    false = Tryd.pinned.checked.prog.looks [] ∧ ∀ (j : Nat) t, fn.params[j]? = some t → Tryd.pinned.checked.prog.wantsStandIn t = false := by
  obtain rfl : f = 3 := Option.some.inj ((show Tryd.prog.funcNamed "muntin/muntinlaw31.ImageGets" = some 3 by kernel_rfl).symm.trans hf) |>.symm
  obtain rfl : fn = Tryd.f3 := (Option.some.inj (Tryd.func3.symm.trans hfn)).symm
  refine ⟨by kernel_rfl, fun j t ht => ?_⟩
  rw [Tryd.params3] at ht
  have hm : t = 9 := by simpa using Array.mem_of_getElem? ht
  rcases hm with rfl
  · exact (show Tryd.prog.wantsStandIn 9 = false by kernel_rfl)

theorem cardImageGets : Rows.ImageGetsUptoCardSaid :=
  Claim7.holds_tied_plain_at .later [] _ _ _ _ saidImageGets (fun _ h => by cases h) (by kernel_rfl) (fun _ h => by cases h) imageGetsUpto_row_tie rfl ⟨rfl, rfl⟩ (by kernel_rfl) rfl plainImageGets (by kernel_rfl)
end Go.Proofs.YtpippebmbphhfaaDoor.imageGets
