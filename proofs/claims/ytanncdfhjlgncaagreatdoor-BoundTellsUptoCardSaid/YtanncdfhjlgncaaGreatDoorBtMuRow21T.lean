/-
  muntinlaw21.BoundTells answers true and leaves its arguments as they were; its card.
  Conditions: what comes in is of bulk at most 1048576; the listed variables lie as the program's text lays them.
-/
import Derived.Test.YtanncdfhjlgncaaGreatDoorBt5
import Derived.Test.YtanncdfhjlgncaaGreatDoorCards
import Derived.Test.YtanncdfhjlgncaaGreatDoorTie
import Derived.WalkKit
import Derived.ProofKit
import Derived.OpenShut
import Derived.Deep.DeepHandedRow
import Derived.Lay
import Derived.LaidSub
namespace Go.Proofs.YtanncdfhjlgncaaGreatDoor.boundTells
open Go.ChangeShapes Go.WideShapes Go.ChangeAt Go.RowKit

theorem ownBoundTells : ownKnob Tryz.prog.godebug = none := by kernel_rfl

theorem tensBoundTells {W : World} (h : laidMetH Tryz.prog Rows.boundTellsUptoRow.laid W) : Mu.TensLaid W :=
  Lib.tabIs_of_head (rest := []) (t := 129) (e := 94) (n := 20) (g := 0) (by kernel_rfl) (by kernel_rfl) (by kernel_rfl) (by kernel_rfl) (by kernel_rfl) (by kernel_rfl)
    (laidMetH.filter (fun x => x.1 == "internal/strconv.uint64pow10") h)

set_option maxRecDepth 100000 in
theorem contractBoundTells (H : Type) (enc : TypeId × Value → H) (W : World) (base : Nat) (args : Array Value) (ds gs : List (DataW H)) (before : List MemPlace)
    (hval : ∀ (j : Nat) t v, Tryz.f3.params[j]? = some t → args[j]? = some v → Value.okWide Tryz.prog W .any base t v)
    (hW : DataW.Whole enc Tryz.prog Tryz.f3.params.toList Rows.boundTellsSpec.vars false W args.toList ds gs before) (hk : Rows.uptoSmall H (ds ++ gs) = true) (hG : Mu.TensLaid W) :
    Calls Tryz.prog 3 args W fun e W' => ∃ v, e = .returned v ∧ Rows.boundTellsSpec.post enc Tryz.prog Tryz.f3 false true false false W args v W' := by
  have hW' := hW
  obtain ⟨p, q, hA0, hV, rfl, hfz, hnd⟩ := hW
  have hA : DataW.TrodAll enc Tryz.prog W 0 (fun _ => true) true Tryz.f3.params.toList args.toList ds p := hA0
  rw [Tryz.params3] at hA hval
  obtain ⟨v0, vs0, d0, ds0, p0, q0, hargs, rfl, rfl, h0, r0⟩ := trodAll_cons hA
  obtain ⟨v1, vs1, d1, ds1, p1, q1, rfl, rfl, rfl, h1, r1⟩ := trodAll_cons r0
  obtain ⟨v2, vs2, d2, ds2, p2, q2, rfl, rfl, rfl, h2, r2⟩ := trodAll_cons r1
  obtain ⟨rfl, rfl, rfl⟩ := trodAll_nil r2
  obtain rfl : args = #[v0, v1, v2] := by cases args; simp_all
  obtain ⟨rfl, rfl⟩ := trodVars_none hV
  obtain ⟨r, rfl, rfl, rfl, hf1⟩ := open_int Tryz.underlying3 (hval 1 3 v1 rfl rfl) h1
  obtain ⟨place, rfl, rfl, rfl, hf2⟩ := open_int Tryz.underlying3 (hval 2 3 v2 rfl rfl) h2
  have hlt := hW'.lt
  have hp0 : ∀ x ∈ p0, x.block < W.heap.size := fun x hx => hlt x (by simp [hx])
  obtain ⟨cs0, f, rfl, hR0, hb0⟩ := Mu.open_many Mu.opens_tFunc (by decide) h0 hp0
  have hbulk : Rows.uptoBulkAll [d0, DataW.lit (H := H) (.int .i64 r), DataW.lit (H := H) (.int .i64 place)] ≤ 1048576 := of_decide_eq_true hk
  simp only [Rows.uptoBulkAll, Rows.uptoBulk] at hbulk
  have hsm : Mu.tFunc.bulk f ≤ 2097152 := by omega
  clear hA0
  refine (Mu.fnT_calls (Mu.boundTells21_fn f r place hf2 (Mu.ok_func hR0) (Mu.small_func hsm) (Mu.reads_func hsm) (Mu.ins1_func hsm) (Mu.allX_func hsm) (Mu.allIns_func hsm)) hG (Mu.relL_more (Mu.rel_func hR0) (Mu.relL_more (Mu.rel_litv _) (Mu.relL_one (Mu.rel_litv _))))).mono fun e W' ⟨he, hg⟩ => ?_
  subst he
  refine ⟨_, rfl, [d0, .lit (.int .i64 r), .lit (.int .i64 place)], [], _, [], p0 ++ ([] ++ ([] ++ [])), [], hW', trodAll_cons_mk (shut_bool Tryz.underlying4 _) trodAll_mk0, ?_, rfl, hg.frame _, fun h => by cases h⟩
  rw [Tryz.params3]
  exact trodAll_cons_mk (Mu.stays (by kernel_rfl) (of_decide_eq_true (by kernel_rfl)) h0 hg hp0) (trodAll_cons_mk (shut_int Tryz.underlying3 hf1) (trodAll_cons_mk (shut_int Tryz.underlying3 hf2) trodAll_mk0))

/-- the world of the witness: the listed variables laid -/
noncomputable def laidWorldBoundTells (os : Os) : World := World.laidAll Tryz.prog os Rows.boundTellsUptoRow.laid
def wargsBoundTells : Array Value := #[.agg #[.string ⟨#[]⟩, .int .i64 0, .int .i64 0, .slice none 0 0], .int .i64 0, .int .i64 0]
theorem laid_metBoundTells (os : Os) : laidMet Tryz.prog Rows.boundTellsUptoRow.laid ((laidWorldBoundTells os).forCall (fun _ _ => 0) ⟨#[], wargsBoundTells, []⟩).memory :=
  laidMet_laidAll _ (by kernel_rfl) (by kernel_rfl)
theorem readsBoundTells (os : Os) {H : Type} (enc : TypeId × Value → H) : ∃ places, DataW.whole enc Tryz.prog ((laidWorldBoundTells os).forCall (fun _ _ => 0) ⟨#[], wargsBoundTells, []⟩).memory Tryz.f3.params.toList Rows.boundTellsSpec.vars false wargsBoundTells.toList 8 = some ([.agg [.lit (.string []), .lit (.int .i64 0), .lit (.int .i64 0), .nil], .lit (.int .i64 0), .lit (.int .i64 0)], [], places) :=
  ⟨[], by kernel_rfl⟩

set_option maxRecDepth 100000 in
theorem liftedBoundTells (os : Os) (started : os.Started) (H : Type) (enc : TypeId × Value → H) (F : Stop.Interp) :
    ReturnsInHanded {} Tryz.checked os 3 .any ((Rows.OpenSpec.upto Rows.boundTellsSpec).preRow enc Tryz.prog Tryz.f3 Rows.boundTellsUptoRow.domain false Rows.boundTellsUptoRow.laid) (((Rows.OpenSpec.upto Rows.boundTellsSpec).at F).post enc Tryz.prog Tryz.f3 false true false false) := by
  obtain ⟨places, hx⟩ := readsBoundTells os enc
  refine returnsInHanded_of_row (C := Tryz.checked) (s := Rows.OpenSpec.upto Rows.boundTellsSpec) ownBoundTells started (by kernel_rfl) Tryz.func3
    (witness_row_at (enc := enc) (C := Tryz.checked) false (laidWorldBoundTells os) wargsBoundTells (World.laidAll_os _ _ _) (by kernel_rfl) (by kernel_rfl) (by kernel_rfl)
      (OpenSpec.preRow_of_cond 8 hx (by kernel_rfl) (fun k hk => by cases hk; kernel_rfl) (by kernel_rfl) (laid_metBoundTells os))) ?_
  intro W base args ds gs before hval hW _ hcond _ hL _ _
  exact contractBoundTells H enc W base args ds gs before hval hW (hcond _ rfl) (tensBoundTells hL)

theorem saidBoundTells : Rows.BoundTellsUptoSaid :=
  OpenClaim.holds_of_cond 3 Tryz.f3 rfl rfl rfl rfl rfl rfl rfl ⟨rfl, rfl, rfl, rfl, rfl⟩ rfl rfl rfl rfl rfl (by kernel_rfl) Tryz.func3 (by kernel_rfl)
    (of_decide_eq_true (by kernel_rfl)) (by unfold Func.isWrapper; first | (rw [if_pos (by decide +kernel)]; kernel_rfl) | (rw [if_neg (by decide +kernel)]; exact ⟨rfl, rfl⟩))
    (fun os started H enc _ F => by rw [OpenClaim.pre_eq_preRow]; exact liftedBoundTells os started H enc F)

theorem plainBoundTells (f : FuncId) (fn : Func) (hf : Tryz.pinned.checked.prog.funcNamed "muntin/muntinlaw21.BoundTells" = some f) (hfn : Tryz.pinned.checked.prog.funcs[f]? = some fn) :
    true = Tryz.pinned.checked.prog.looks [] ∧ ∀ (j : Nat) t, fn.params[j]? = some t → Tryz.pinned.checked.prog.wantsStandIn t = false := by
  obtain rfl : f = 3 := Option.some.inj ((show Tryz.prog.funcNamed "muntin/muntinlaw21.BoundTells" = some 3 by kernel_rfl).symm.trans hf) |>.symm
  obtain rfl : fn = Tryz.f3 := (Option.some.inj (Tryz.func3.symm.trans hfn)).symm
  refine ⟨by kernel_rfl, fun j t ht => ?_⟩
  rw [Tryz.params3] at ht
  have hm : t = 24 ∨ t = 3 ∨ t = 3 := by simpa using Array.mem_of_getElem? ht
  rcases hm with rfl | rfl | rfl
  · exact (show Tryz.prog.wantsStandIn 24 = false by kernel_rfl)
  · exact (show Tryz.prog.wantsStandIn 3 = false by kernel_rfl)
  · exact (show Tryz.prog.wantsStandIn 3 = false by kernel_rfl)

theorem cardBoundTells : Rows.BoundTellsUptoCardSaid :=
  Claim7.holds_tied_plain_at .later [] _ _ _ _ saidBoundTells (fun _ h => by cases h) (by kernel_rfl) (fun _ h => by cases h) boundTellsUpto_row_tie rfl ⟨rfl, rfl⟩ (by kernel_rfl) rfl plainBoundTells (by kernel_rfl)
end Go.Proofs.YtanncdfhjlgncaaGreatDoor.boundTells
