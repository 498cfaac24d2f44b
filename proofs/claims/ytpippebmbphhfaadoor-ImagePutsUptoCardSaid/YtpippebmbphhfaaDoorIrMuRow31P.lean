/-
  muntinlaw31.ImagePuts answers true and leaves its arguments as they were; its card.
  Conditions: what comes in is of bulk at most 1048576; the listed variables lie as the program's text lays them.
-/
import Derived.Test.YtpippebmbphhfaaDoorIr5
import Derived.Test.YtpippebmbphhfaaDoorCards
import Derived.Test.YtpippebmbphhfaaDoorTie
import Derived.WalkKit
import Derived.ProofKit
import Derived.OpenShut
import Derived.Deep.DeepHandedRow
import Derived.Lay
import Derived.LaidSub
import Derived.Shelf.Vars
namespace Go.Proofs.YtpippebmbphhfaaDoor.imagePuts
open Go.ChangeShapes Go.WideShapes Go.ChangeAt Go.RowKit

theorem ownImagePuts : ownKnob Tryd.prog.godebug = none := by kernel_rfl

theorem tensImagePuts {W : World} (h : laidMetH Tryd.prog Rows.imagePutsUptoRow.laid W) : Mu.TensLaid W :=
  Lib.tabIs_of_head (rest := []) (t := 128) (e := 46) (n := 20) (g := 4) (by kernel_rfl) (by kernel_rfl) (by kernel_rfl) (by kernel_rfl) (by kernel_rfl) (by kernel_rfl)
    (laidMetH.filter (fun x => x.1 == "internal/strconv.uint64pow10") h)

theorem glImagePuts {W : World} (h : laidMetH Tryd.prog Rows.imagePutsUptoRow.laid W) (hsh : W.ShapedOpen Tryd.prog) : Mu.GL W :=
  ⟨tensImagePuts h, Lib.tabIs_of_head (rest := []) (t := 109) (e := 5) (n := 38) (g := 1) (by kernel_rfl) (by kernel_rfl) (by kernel_rfl) (by kernel_rfl) (by kernel_rfl) (by kernel_rfl)
    (laidMetH.filter (fun x => x.1 == "muntin/inst.fields") h),
    cell_of_shapedOpen_int (P := Tryd.prog) (g := 0) (t := 3) (zero := #[.int .i64 0]) hsh (of_decide_eq_true (by kernel_rfl)) (by kernel_rfl) rfl (by kernel_rfl) (by kernel_rfl) Tryd.underlying3⟩

set_option maxRecDepth 100000 in
theorem contractImagePuts (H : Type) (enc : TypeId × Value → H) (W : World) (base : Nat) (args : Array Value) (ds gs : List (DataW H)) (before : List MemPlace)
    (hval : ∀ (j : Nat) t v, Tryd.f6.params[j]? = some t → args[j]? = some v → Value.okWide Tryd.prog W .any base t v)
    (hW : DataW.Whole enc Tryd.prog Tryd.f6.params.toList Rows.imagePutsSpec.vars false W args.toList ds gs before) (hk : Rows.uptoSmall H (ds ++ gs) = true) (hG : Mu.GL W) :
    Calls Tryd.prog 6 args W fun e W' => ∃ v, e = .returned v ∧ Rows.imagePutsSpec.post enc Tryd.prog Tryd.f6 false true false false W args v W' := by
  have hW' := hW
  obtain ⟨p, q, hA0, hV, rfl, hfz, hnd⟩ := hW
  have hA : DataW.TrodAll enc Tryd.prog W 0 (fun _ => true) true Tryd.f6.params.toList args.toList ds p := hA0
  rw [Tryd.params6] at hA hval
  obtain ⟨v0, vs0, d0, ds0, p0, q0, hargs, rfl, rfl, h0, r0⟩ := trodAll_cons hA
  obtain ⟨v1, vs1, d1, ds1, p1, q1, rfl, rfl, rfl, h1, r1⟩ := trodAll_cons r0
  obtain ⟨rfl, rfl, rfl⟩ := trodAll_nil r1
  obtain rfl : args = #[v0, v1] := by cases args; simp_all
  obtain ⟨rfl, rfl⟩ := trodVars_none hV
  have hlt := hW'.lt
  have hp0 : ∀ x ∈ p0, x.block < W.heap.size := fun x hx => hlt x (by simp [hx])
  obtain ⟨cs0, x, rfl, hR0, hb0⟩ := Mu.open_many Mu.opens_tImg (by decide) h0 hp0
  have hp1 : ∀ x ∈ p1, x.block < W.heap.size := fun x hx => hlt x (by simp [hx])
  obtain ⟨cs1, other, rfl, hR1, hb1⟩ := Mu.open_many Mu.opens_tImg (by decide) h1 hp1
  have hbulk : Rows.uptoBulkAll [d0, d1] ≤ 1048576 := of_decide_eq_true hk
  simp only [Rows.uptoBulkAll] at hbulk
  have hsm : Mu.tImg.bulk x ≤ 2097152 := by omega
  have hsm2 : Mu.tImg.bulk other ≤ 2097152 := by omega
  clear hA0
  refine (Mu.fnT_calls (Mu.imagePuts31_fn x other (Mu.fine_img hR0 hsm) (Mu.fine_img hR1 hsm2)) hG (Mu.relL_more (Mu.rel_img hR0) (Mu.relL_one (Mu.rel_img hR1)))).mono fun e W' ⟨he, hg⟩ => ?_
  subst he
  refine ⟨_, rfl, [d0, d1], [], _, [], p0 ++ (p1 ++ []), [], hW', trodAll_cons_mk (shut_bool Tryd.underlying4 _) trodAll_mk0, ?_, rfl, hg.frame _, fun h => by cases h⟩
  rw [Tryd.params6]
  exact trodAll_cons_mk (Mu.stays (by kernel_rfl) (of_decide_eq_true (by kernel_rfl)) h0 hg hp0) (trodAll_cons_mk (Mu.stays (by kernel_rfl) (of_decide_eq_true (by kernel_rfl)) h1 hg hp1) trodAll_mk0)

/-- the world of the witness: the listed variables laid -/
noncomputable def laidWorldImagePuts (os : Os) : World := World.laidAll Tryd.prog os Rows.imagePutsUptoRow.laid
def wargsImagePuts : Array Value := #[.agg #[.int .i64 0, .slice none 0 0, .int .i64 0, .int .i64 0, .int .i64 0, .slice none 0 0, .int .i64 0], .agg #[.int .i64 0, .slice none 0 0, .int .i64 0, .int .i64 0, .int .i64 0, .slice none 0 0, .int .i64 0]]
theorem laid_metImagePuts (os : Os) : laidMet Tryd.prog Rows.imagePutsUptoRow.laid ((laidWorldImagePuts os).forCall (fun _ _ => 0) ⟨#[], wargsImagePuts, []⟩).memory :=
  laidMet_laidAll _ (by kernel_rfl) (by kernel_rfl)
theorem readsImagePuts (os : Os) {H : Type} (enc : TypeId × Value → H) : ∃ places, DataW.whole enc Tryd.prog ((laidWorldImagePuts os).forCall (fun _ _ => 0) ⟨#[], wargsImagePuts, []⟩).memory Tryd.f6.params.toList Rows.imagePutsSpec.vars false wargsImagePuts.toList 8 = some ([.agg [.lit (.int .i64 0), .nil, .lit (.int .i64 0), .lit (.int .i64 0), .lit (.int .i64 0), .nil, .lit (.int .i64 0)], .agg [.lit (.int .i64 0), .nil, .lit (.int .i64 0), .lit (.int .i64 0), .lit (.int .i64 0), .nil, .lit (.int .i64 0)]], [], places) :=
  ⟨[], by kernel_rfl⟩

set_option maxRecDepth 100000 in
theorem liftedImagePuts (os : Os) (started : os.Started) (H : Type) (enc : TypeId × Value → H) (F : Stop.Interp) :
    ReturnsInHanded {} Tryd.checked os 6 .any ((Rows.OpenSpec.upto Rows.imagePutsSpec).preRow enc Tryd.prog Tryd.f6 Rows.imagePutsUptoRow.domain false Rows.imagePutsUptoRow.laid) (((Rows.OpenSpec.upto Rows.imagePutsSpec).at F).post enc Tryd.prog Tryd.f6 false true false false) := by
  obtain ⟨places, hx⟩ := readsImagePuts os enc
  refine returnsInHanded_of_row (C := Tryd.checked) (s := Rows.OpenSpec.upto Rows.imagePutsSpec) ownImagePuts started (by kernel_rfl) Tryd.func6
    (witness_row_at (enc := enc) (C := Tryd.checked) false (laidWorldImagePuts os) wargsImagePuts (World.laidAll_os _ _ _) (by kernel_rfl) (by kernel_rfl) (by kernel_rfl)
      (OpenSpec.preRow_of_cond 8 hx (by kernel_rfl) (fun k hk => by cases hk; kernel_rfl) (by kernel_rfl) (laid_metImagePuts os))) ?_
  intro W base args ds gs before hval hW _ hcond _ hL hsh _
  exact contractImagePuts H enc W base args ds gs before hval hW (hcond _ rfl) (glImagePuts hL hsh)

theorem saidImagePuts : Rows.ImagePutsUptoSaid :=
  OpenClaim.holds_of_cond 6 Tryd.f6 rfl rfl rfl rfl rfl rfl rfl ⟨rfl, rfl, rfl, rfl, rfl⟩ rfl rfl rfl rfl rfl (by kernel_rfl) Tryd.func6 (by kernel_rfl)
    (of_decide_eq_true (by kernel_rfl)) (by unfold Func.isWrapper; first | (rw [if_pos (by decide +kernel)]; kernel_rfl) | (rw [if_neg (by decide +kernel)]; exact ⟨rfl, rfl⟩))
    (fun os started H enc _ F => by rw [OpenClaim.pre_eq_preRow]; exact liftedImagePuts os started H enc F)

theorem plainImagePuts (f : FuncId) (fn : Func) (hf : Tryd.pinned.checked.prog.funcNamed "muntin/muntinlaw31.ImagePuts" = some f) (hfn : Tryd.pinned.checked.prog.funcs[f]? = some fn) :
    false = Tryd.pinned.checked.prog.looks [] ∧ ∀ (j : Nat) t, fn.params[j]? = some t → Tryd.pinned.checked.prog.wantsStandIn t = false := by
  obtain rfl : f = 6 := Option.some.inj ((show Tryd.prog.funcNamed "muntin/muntinlaw31.ImagePuts" = some 6 by kernel_rfl).symm.trans hf) |>.symm
  obtain rfl : fn = Tryd.f6 := (Option.some.inj (Tryd.func6.symm.trans hfn)).symm
  refine ⟨by kernel_rfl, fun j t ht => ?_⟩
  rw [Tryd.params6] at ht
  have hm : t = 25 ∨ t = 25 := by simpa using Array.mem_of_getElem? ht
  rcases hm with rfl | rfl
  · exact (show Tryd.prog.wantsStandIn 25 = false by kernel_rfl)
  · exact (show Tryd.prog.wantsStandIn 25 = false by kernel_rfl)

theorem cardImagePuts : Rows.ImagePutsUptoCardSaid :=
  Claim7.holds_tied_plain_at .later [] _ _ _ _ saidImagePuts (fun _ h => by cases h) (by kernel_rfl) (fun _ h => by cases h) imagePutsUpto_row_tie rfl ⟨rfl, rfl⟩ (by kernel_rfl) rfl plainImagePuts (by kernel_rfl)
end Go.Proofs.YtpippebmbphhfaaDoor.imagePuts
