/-
  Own texts laid together, part 2: MuSame, MuFlowP, MuNext, MuOk, MuBuild, MuDraw, MuRowFn, MuDrawT, MuDrawF, MuRes, MuRange, MuFnM, MuLitR, MuSlice, MuStep, MuFull, MuCond, MuStr, MuBytes, MuTab, MuOwnG, MuClo, MuLine, MuMark, MuZeros, MuFnC2, MuBoxRow, MuLift, MuTok, MuYield, MuRangeY, MuRangeS, MuSplit, MuFnN, MuTurnW, MuTurnM, MuAnd, MuTokL, MuTree, MuFzG, MuTurnS, MuCloneG, MuFlatP, MuRK, MuArr, MuEqS, MuLiftA, MuDrawG, MuLiftG, MuRaw, MuRawB, MuRowsO, MuFlatR, MuTokM.
  Conditions: as each part says.
-/
import Derived.Test.YtlamjpneghjbgaaGreatSd1
import Derived.BigQuiet
import Derived.WalkSpells
import Derived.RangeFuncNested
import Derived.RangeFuncBound
import Derived.RangeFuncCalls
import Derived.RangeFuncLeaves
import Derived.Shelf.Abstract
import Derived.Shelf.RegionOpen
import Derived.WalkKit
import Derived.OwnWalkIn
import Derived.TacticsInMore
import Derived.LoopNIn
import Derived.LoopIn
import Derived.RangeFuncBox
import Derived.RangeFuncWrites
import Derived.RangeFuncRecord
import Derived.Deep.Upon
import Derived.Laws.Strings3
import Derived.Laws.IdiomStrings
import Derived.Laws.StructEq
import Derived.Deep.Onto
import Derived.Lib.AppendZeros
import Derived.Laws.Cover3
import Derived.Deep.AppendSrc
import Derived.Lib.SliceRun
import Derived.Laws.Pointers
import Derived.Laws.CopyRow
set_option linter.unusedSimpArgs false
set_option linter.unusedVariables false
section
/-
  muntinref14.SameInts, and the searches of a row for a number, walked.
  Conditions: the rows have at most 2^21 numbers.
-/
namespace Mu
open Go Go.RowKit Go.Proofs

theorem same_no {xs ys : List Int} {j : Nat} {x y : Int} (hx : xs[j]? = some x) (hy : ys[j]? = some y) (h : x ≠ y) : false = decide (xs = ys) := by
  symm
  rw [decide_eq_false_iff_not]
  rintro rfl
  rw [hx] at hy
  injection hy with hy
  exact h hy
theorem same_step {xs ys : List Int} {j : Nat} {x y : Int} (hx : xs[j]? = some x) (hy : ys[j]? = some y) (h : x = y) (hs : xs.take j = ys.take j) : Hid (xs.take (j + 1) = ys.take (j + 1)) := by
  show _ = _
  rw [List.take_add_one, List.take_add_one, hx, hy, h, hs]
theorem far {B : Nat} {w wr : World} (h : Below B w wr) : ∀ a : Addr, a.block < B → wr.cell? a = w.cell? a := fun _ ha => h.cell ha

set_option maxRecDepth 100000 in
set_option maxHeartbeats 1000000 in
theorem ref_same (xs ys : List Int) (va vb : Value) (w : World) (hA : tInt.slice.R w w.heap.size [va] xs) (hB : tInt.slice.R w w.heap.size [vb] ys) (hx : xs.length ≤ 2097152) :
    Calls Tryz.prog 36 #[va, vb] w fun e w' => e = .returned (.bool (decide (xs = ys))) ∧ Below w.heap.size w w' := by
  obtain ⟨A, c, rfl⟩ := slice_form hA
  obtain ⟨A', c', rfl⟩ := slice_form hB
  have HA := Lib.hid hA
  have HB := Lib.hid hB
  clear hA hB
  by_cases hl : xs.length = ys.length
  · have dl : ((xs.length : Int) != (ys.length : Int)) = false := by simp [hl]
    have HL := Lib.hid hl
    clear hl
    go_enter Tryz.func36, Tryz.ntmps36
    go_wp2
    go_loopw [5] (fun i wr => ∃ j : Nat, j ≤ xs.length ∧ i = .int .i64 j ∧ Hid (xs.take j = ys.take j) ∧ Below w.heap.size w wr) (fun i _ => xs.length - (RowKit.intOf i).toNat)
    case atStart => exact ⟨0, Nat.zero_le _, rfl, rfl, Below.refl _ _⟩
    case round =>
      obtain ⟨j, hj, rfl, hs, hbe⟩ := hrel
      have HBE := Lib.hid hbe
      have hfar := far hbe
      clear hbe
      by_cases hlt : j < xs.length
      · obtain ⟨x, hx1⟩ : ∃ x, xs[j]? = some x := ⟨_, List.getElem?_eq_getElem hlt⟩
        obtain ⟨y, hy1⟩ : ∃ y, ys[j]? = some y := ⟨_, List.getElem?_eq_getElem (by have := HL.out; omega)⟩
        obtain ⟨b1, o1, rfl, hb1, e1, _⟩ := int_at HA.out hx1
        obtain ⟨b2, o2, rfl, hb2, e2, _⟩ := int_at HB.out hy1
        have hlt2 : j < ys.length := by have := HL.out; omega
        have HX := Lib.hid hx1
        have HY := Lib.hid hy1
        clear hx1 hy1
        by_cases hxy : x = y
        · have d : (x != y) = false := by simp [hxy]
          have HXY := Lib.hid hxy
          clear hxy
          go_wp2
          go_quiet (fail)
          go_wp2
          go_roundw
          case rel => exact ⟨j + 1, by omega, by go_num, same_step HX.out HY.out HXY.out hs.out, bdrew HBE.out _⟩
          case measure => simp [RowKit.intOf]; omega
        · have d : (x != y) = true := by simp [hxy]
          have HXY := Lib.hid hxy
          clear hxy
          go_wp2
          go_quiet (fail)
          go_wp2
          go_ret
          exact ⟨ret_bool (same_no HX.out HY.out HXY.out), bdrew HBE.out _⟩
      · obtain rfl : j = xs.length := by omega
        go_wp2
        go_ret
        have hs' := hs.out
        rw [List.take_length, HL.out, List.take_length] at hs'
        exact ⟨ret_bool (by simp [hs']), HBE.out⟩
  · have dl : ((xs.length : Int) != (ys.length : Int)) = true := by simp; omega
    have HL := Lib.hid hl
    clear hl
    go_enter Tryz.func36, Tryz.ntmps36
    go_wp2
    go_ret
    exact ⟨ret_bool (by symm; rw [decide_eq_false_iff_not]; rintro rfl; exact HL.out rfl), Below.refl _ _⟩

end Mu
end
section
/-
  Where one goes from a block: plain.
  Conditions: none.
-/
namespace Mu
open Go

end Mu
end
section
/-
  Blocks that lie as they lay.
  Conditions: none.
-/
namespace Mu
open Go Go.RowKit Go.Proofs Go.Shelf

end Mu
end
section
/-
  What data that was read is known to be; contracts said over worlds, said over abstract values.
  Conditions: none.
-/
namespace Mu
open Go Go.RowKit Go.Proofs

def okInts (l : List Int) : Prop := ∀ x ∈ l, wfI .i64 x
structure okIns (x : Ins) : Prop where
  op : wfI .u8 x.op
  d : wfI .i64 x.d
  a : wfI .i64 x.a
  b : wfI .i64 x.b
  n : wfI .u32 x.n
  f : wfI .i64 x.f
  l1 : wfI .i64 x.l1
  l2 : wfI .i64 x.l2
  args : okInts x.args
structure okBlock (b : Block) : Prop where
  name : b.name.size ≤ maxLen
  ins : ∀ x ∈ b.ins, okIns x
structure okFunc (f : Func) : Prop where
  name : f.name.size ≤ maxLen
  args : wfI .i64 f.args
  regs : wfI .i64 f.regs
  blocks : ∀ b ∈ f.blocks, okBlock b
section
variable {w : World} {S : Nat → Prop} {cs : List Value}
theorem ok_slice {α : Type} {T : Ty α} {p : α → Prop} {l : List α} (hp : ∀ cs d, T.RS w S cs d → p d) (h : T.slice.RS w S cs l) : ∀ x ∈ l, p x := by
  obtain ⟨A, c, rfl, _, _, hi⟩ := h
  intro x hx
  obtain ⟨j, hj⟩ := List.mem_iff_getElem?.1 hx
  obtain ⟨b, o, _, _, cs', h1, _⟩ := hi j x hj
  exact hp cs' x h1
theorem ok_ints {l : List Int} (h : tInt.slice.RS w S cs l) : okInts l := ok_slice (T := tInt) (p := wfI .i64) (fun _ _ h => (tInt_R.1 h).2) h
theorem ok_ins {x : Ins} (h : tIns.RS w S cs x) : okIns x := by
  obtain ⟨A, c, hI⟩ := tIns_R.1 h
  exact ⟨hI.op, hI.d, hI.a, hI.b, hI.n, hI.f, hI.l1, hI.l2, ok_ints hI.args⟩
theorem ok_block {x : Block} (h : tBlock.RS w S cs x) : okBlock x := by
  obtain ⟨A, c, _, h1, h2⟩ := tBlock_R.1 h
  exact ⟨h1, ok_slice (fun _ _ h => ok_ins h) h2⟩
theorem ok_func {x : Func} (h : tFunc.RS w S cs x) : okFunc x := by
  obtain ⟨A, c, _, h1, h2, h3, h4⟩ := tFunc_R.1 h
  exact ⟨h1, h2, h3, ok_slice (fun _ _ h => ok_block h) h4⟩
variable {h : List ABlk} {ψ : Nat → Value}
theorem put_ins {x : Ins} (ho : okIns x) (H : AV.relL w S h ψ (encIns x) cs) : tIns.RS w S cs x := by
  simp only [encIns, AV.relL, AV.rel] at H
  obtain ⟨_, _, rfl, rfl, _, _, rfl, rfl, _, _, rfl, rfl, _, _, rfl, rfl, _, _, rfl, rfl, _, _, rfl, rfl, _, _, rfl, ha, _, _, rfl, rfl, _, _, rfl, rfl, rfl⟩ := H
  obtain ⟨A, c, rfl⟩ := slice_form ha
  exact tIns_R.2 ⟨A, c, rfl, ho.op, ho.d, ho.a, ho.b, ho.n, ho.f, ho.l1, ho.l2, ha⟩
theorem put_block {x : Block} (ho : x.name.size ≤ maxLen) (H : AV.relL w S h ψ (encBlock x) cs) : tBlock.RS w S cs x := by
  simp only [encBlock, AV.relL, AV.rel] at H
  obtain ⟨_, _, rfl, rfl, _, _, rfl, ha, rfl⟩ := H
  obtain ⟨A, c, rfl⟩ := slice_form ha
  exact tBlock_R.2 ⟨A, c, rfl, ho, ha⟩
theorem put_func {x : Func} (ho : okFunc x) (H : AV.relL w S h ψ (encFunc x) cs) : tFunc.RS w S cs x := by
  simp only [encFunc, AV.relL, AV.rel] at H
  obtain ⟨_, _, rfl, rfl, _, _, rfl, rfl, _, _, rfl, rfl, _, _, rfl, ha, rfl⟩ := H
  obtain ⟨A, c, rfl⟩ := slice_form ha
  exact tFunc_R.2 ⟨A, c, rfl, ho.name, ho.args, ho.regs, ha⟩
end

section
variable {P : Program}
/-- a contract that speaks of all that is there, as one over abstract values: a result that does not lead to memory -/
theorem Fn.of_lit {f : FuncId} {args : List AV} {v : Value} (hE : Enters P f = true) (h : ∀ (w : World) (vs : List Value), AV.relL w (fun k => k < w.heap.size) [] ψ0 args vs → Calls P f vs.toArray w fun e w' => e = .returned v ∧ Below w.heap.size w w') : Fn P f args (.lit v) :=
  ⟨hE, fun w S vs hS hr => (h w vs (AV.relL_ext (Ext.grow [] ψ0 (fun _ _ => rfl) hS) _ _ hr)).mono fun e w' ⟨he, hb⟩ => ⟨v, he, hb, S, fun _ h => h, fun _ h => .inl h, fun k hk => Nat.lt_of_lt_of_le (hS k hk) hb.size, by unfold AV.rel; rfl⟩⟩
theorem Fn.of_tup2 {f : FuncId} {args : List AV} {v u : Value} (hE : Enters P f = true) (h : ∀ (w : World) (vs : List Value), AV.relL w (fun k => k < w.heap.size) [] ψ0 args vs → Calls P f vs.toArray w fun e w' => e = .returned (.tuple #[v, u]) ∧ Below w.heap.size w w') : Fn P f args (.tup [.lit v, .lit u]) :=
  ⟨hE, fun w S vs hS hr => (h w vs (AV.relL_ext (Ext.grow [] ψ0 (fun _ _ => rfl) hS) _ _ hr)).mono fun e w' ⟨he, hb⟩ => ⟨_, he, hb, S, fun _ h => h, fun _ h => .inl h, fun k hk => Nat.lt_of_lt_of_le (hS k hk) hb.size, by
    unfold AV.rel
    exact ⟨[v, u], rfl, by simp [AV.relL, AV.rel]⟩⟩⟩
/-- .. a row of integers that it made -/
theorem Fn.of_ints {f : FuncId} {args : List AV} {l : List Int} (hE : Enters P f = true) (hl : okInts l) (h : ∀ (w : World) (vs : List Value), AV.relL w (fun k => k < w.heap.size) [] ψ0 args vs → Calls P f vs.toArray w fun e w' => ∃ v, e = .returned v ∧ OwnI w' w.heap.size v l ∧ Below w.heap.size w w') : Fn P f args (.bs tInt l) :=
  ⟨hE, fun w S vs hS hr => (h w vs (AV.relL_ext (Ext.grow [] ψ0 (fun _ _ => rfl) hS) _ _ hr)).mono fun e w' ⟨v, he, ho, hb⟩ => by
    refine ⟨v, he, hb, fun k => S k ∨ v.ownBlock = some k, fun _ h => .inl h, fun k hk => hk.imp id fun e => (ho.lt k e).1, fun k hk => ?_, ?_⟩
    · rcases hk with hk | hk
      · exact Nat.lt_of_lt_of_le (hS k hk) hb.size
      · exact (ho.lt k hk).2
    · unfold AV.rel
      exact tInt.slice.keepS (own_intsS ho hl) (fun _ _ => rfl) fun k hk => .inr hk⟩
theorem arg1 {w : World} {S : Nat → Prop} {h : List ABlk} {ψ : Nat → Value} {x : AV} {vs : List Value} (H : AV.relL w S h ψ [x] vs) : ∃ v, vs = [v] ∧ AV.rel w S h ψ x v := by
  simp only [AV.relL] at H
  obtain ⟨v, _, rfl, h1, rfl⟩ := H
  exact ⟨v, rfl, h1⟩
theorem rel_agg {w : World} {S : Nat → Prop} {h : List ABlk} {ψ : Nat → Value} {l : List AV} {v : Value} (H : AV.rel w S h ψ (.agg l) v) : ∃ cs, v = .agg cs.toArray ∧ AV.relL w S h ψ l cs := by unfold AV.rel at H; exact H
end

theorem readsC_ok {x : Ins} (h : okIns x) : okInts (readsC x) := by
  intro r hr
  unfold readsC at hr
  simp only [List.mem_append] at hr
  rcases hr with (hr | hr) | hr <;> split at hr <;> first | (simp at hr; done) | (simp at hr; subst hr; first | exact h.a | exact h.b) | exact h.args r hr
end Mu
end
section
/-
  Structs that are written out; results that lie in memory; over abstract states.
  Conditions: none; generic.
-/
namespace Mu
open Go Go.RowKit Go.Proofs

section
variable {P : Program}
/-- a struct's fields: places and sizes -/
def placesL? (P : Program) : List Field → Option (List (Nat × Nat))
  | [] => some []
  | f :: fs =>
    match P.info? f.type with
    | some i => (placesL? P fs).map fun l => (f.offset, i.size) :: l
    | none => none
def places? (P : Program) (t : TypeId) : Option (List (Nat × Nat)) :=
  match P.underlying t with
  | some (.struct fs) => placesL? P fs.toList
  | _ => none
theorem run_places (w : World) : ∀ (fs : List Field) (l : List (Nat × Nat)), placesL? P fs = some l → (fs.mapM (m := Sem) fun f => do pure (f.offset, ← Go.sizeOf f.type)).run P w = .ok l w
  | [], l, h => by cases h; rfl
  | f :: fs, l, h => by
    unfold placesL? at h
    split at h <;> try (cases h; done)
    rename_i i hi
    obtain ⟨l', h1, rfl⟩ := Option.map_eq_some_iff.1 h
    have ih := run_places w fs l' h1
    have h0 : (do pure (f.offset, ← Go.sizeOf f.type) : Sem (Nat × Nat)).run P w = .ok (f.offset, i.size) w := by simp [Go.sizeOf, typeInfo, hi]
    rw [List.mapM_cons, Sem.run_bind, h0]
    simp only [Result.andThen_ok, Sem.run_bind, ih, Sem.run_pure]
/-- cells with single cells put in -/
def putCells (pl : List (Nat × Nat)) : List AV → List (Nat × AV) → Option (List AV)
  | cs, [] => some cs
  | cs, (j, x) :: ps =>
    match pl[j]? with
    | some (off, 1) => if off < cs.length then putCells pl (cs.set off x) ps else none
    | _ => none
theorem fill_put {w : World} {S : Nat → Prop} {h : List ABlk} {ψ : Nat → Value} {pl : List (Nat × Nat)} : ∀ (ps : List (Nat × AV)) (cs rs : List AV) (vs : List (Nat × Value)) (us : List Value), putCells pl cs ps = some rs → AV.relL w S h ψ cs us →
    vs.map (·.1) = ps.map (·.1) → (∀ (j : Nat) (p : Nat × AV) (v : Nat × Value), ps[j]? = some p → vs[j]? = some v → AV.rel w S h ψ p.2 v.2 ∧ v.2.oneCell' = true) →
    ∃ us', Instr.fill (fun i => pl[i]?) us.toArray vs = some us'.toArray ∧ AV.relL w S h ψ rs us'
  | [], cs, rs, vs, us, hp, hr, hv, _ => by
    cases hp
    have : vs = [] := by simpa using hv
    subst this
    exact ⟨us, rfl, hr⟩
  | (j, x) :: ps, cs, rs, vs, us, hp, hr, hv, hrel => by
    cases vs with
    | nil => simp at hv
    | cons v vs =>
      simp only [List.map_cons, List.cons.injEq] at hv
      obtain ⟨hv1, hv2⟩ := hv
      unfold putCells at hp
      split at hp <;> try (cases hp; done)
      rename_i off hpl
      split at hp <;> try (cases hp; done)
      rename_i hoff
      obtain ⟨h1, h2⟩ := hrel 0 _ _ rfl rfl
      have hul := relL_len hr
      obtain ⟨us', h3, h4⟩ := fill_put ps (cs.set off x) rs vs (us.set off v.2) hp (relL_set hr off h1) hv2 fun j p v hp hv => hrel (j + 1) p v (by simpa using hp) (by simpa using hv)
      refine ⟨us', ?_, h4⟩
      obtain ⟨i, v⟩ := v
      dsimp only at hv1 h1 h2 h3
      subst hv1
      unfold Instr.fill
      simp only [hpl, cells_one h2]
      have hc : ¬ ((decide ((#[v] : Array Value).size ≠ 1) || decide (off + (#[v] : Array Value).size > us.toArray.size)) = true) := by
        simp
        omega
      rw [if_neg hc]
      simpa using h3
theorem Quiet.build {C : Ctx} {t : List AV} {h : List ABlk} {o : Oper} {ty : TypeId} {parts : Array (Nat × Operand)} {zs : List Value} {pl : List (Nat × Nat)} {rs : List AV} (ho : o.op = .build ty parts) (hz : zeroCells? P ty = some zs) (hpl : places? P ty = some pl)
    (hr : putCells pl (zs.map .lit) (parts.toList.map fun p => (p.1, evA t p.2)) = some rs) (h1 : ∀ p ∈ parts.toList, One h (evA t p.2)) : Quiet P C t h o (.agg rs) :=
  Quiet.of_run fun S ψ w ρ H hρ => by
    unfold zeroCells? at hz
    obtain ⟨z, hz1, rfl⟩ := Option.map_eq_some_iff.1 hz
    obtain ⟨i, hi, hz2⟩ := Option.bind_eq_some_iff.1 hz1
    unfold places? at hpl
    split at hpl <;> try (cases hpl; done)
    rename_i fs hu
    have hrp := run_places (P := P) w fs.toList pl hpl
    have hmem : ∀ p ∈ parts.toList, AV.rel w S h ψ (evA t p.2) (ρ p.2) := fun p hp => hρ p.2 (by rw [ho]; exact List.mem_toArray.2 (List.mem_map.2 ⟨p, hp, rfl⟩))
    obtain ⟨us', h3, h4⟩ := fill_put (w := w) (S := S) (h := h) (ψ := ψ) _ _ rs (parts.toList.map fun p => (p.1, ρ p.2)) z.cells.toList hr (relL_lits _) (by simp) fun j p v hp hv => by
      rw [List.getElem?_map] at hp hv
      obtain ⟨q, hq, rfl⟩ := Option.map_eq_some_iff.1 hp
      rw [hq] at hv
      cases hv
      have hqm := List.mem_of_getElem? hq
      exact ⟨hmem q hqm, h1 q hqm C S ψ w _ H (hmem q hqm)⟩
    refine ⟨.agg us'.toArray, ?_, by unfold AV.rel; exact ⟨us', rfl, h4⟩⟩
    have hpa : (fs.mapM (m := Sem) fun f => do pure (f.offset, ← Go.sizeOf f.type)).run P w = .ok pl.toArray w := by
      rw [← Array.toArray_toList (xs := fs), List.mapM_toArray, Sem.run_map, hrp]
      rfl
    have hf : Instr.fill (fun i => pl.toArray[i]?) z.cells (parts.map fun p => (p.1, ρ p.2)).toList = some us'.toArray := by simpa using h3
    simp only [execOp, ho, Instr.build, zeroValue, typeInfo, underlying, Sem.run_bind, run_program, Result.andThen_ok, hi, hz2, Sem.run_pure, hu, hpa, hf]

/-- a result that lies in memory -/
def RetsC (t : Tmp) (r : AV) : Exit → St → Prop := fun e s => (e = .normal ∨ e = .ret) ∧ ∃ i cells, evA s.t (.tmp t) = .ptr i 0 ∧ s.h[i]? = some (.box cells) ∧ Fin s.h (.agg cells) r
theorem Fn.of_awpC {f : FuncId} {fn : Go.Func} {c : Code} {args : List AV} {r : AV} {t : Tmp} {ty : TypeId} {n m : Nat} (hf : P.funcs[f]? = some fn) (hb : fn.body = some c) (hE : Enters P f = true) (hres : fn.results = #[.cell t ty]) (ha : aggT P ty = some (true, m)) (hn : fn.ntmps = n)
    (h : ∀ C : Ctx, C.std → Awp P C c (fun e s => RetsC t r e s ∧ ∀ i cells, evA s.t (.tmp t) = .ptr i 0 → s.h[i]? = some (.box cells) → cells.length = m) ⟨args ++ List.replicate (n - args.length) (.lit undef), []⟩) : Fn P f args r := by
  refine ⟨hE, fun w S vs hS hr => calls_of_wp hf hb ?_⟩
  rw [hn]
  refine wp_mono ((h ⟨w, S, fun k => k < w.heap.size, none⟩ (fun _ h => h)).wp rfl (start_rel hS hr)) ?_
  rintro e a' w' ⟨s, ⟨⟨he, i, cells, hev, hi, hfin⟩, hlen⟩, hd, S1, ψ, H, hl⟩
  rw [hfin.1] at hd
  have hm := hlen i cells hev hi
  have hv := ev_rel hl (.tmp t)
  rw [hev] at hv
  unfold AV.rel at hv
  obtain ⟨g, h1, h2⟩ := hv.2 (by rw [hi]; rfl)
  obtain ⟨g', cs, e', h3, _, _, h4, h5⟩ := H.blk i _ hi
  rw [h1] at h3
  cases h3
  have hc : ∀ j u, cs[j]? = some u → w'.cell? ⟨g, 0 + j, none⟩ = some u := fun j u hu => by simp [World.cell?, h4, hu]
  have hload := run_load_agg (P := P) (ty := ty) (b := g) (off := 0) ha (by rw [relL_len h5]; exact hm) hc
  have hres' : (results fn a'.tmps).run P w' = .ok (.agg cs.toArray) w' := by
    have e1 : (a'.tmps[t]?).getD undef = .pointer (some ⟨g, 0, none⟩) := by rw [← Array.getD_eq_getD_getElem?]; exact h2
    unfold Instr.loadAt Instr.sureAddr at hload
    simp only [Sem.run_bind, Sem.run_pure, Result.andThen_ok] at hload
    simp [results, hres, e1, asAddr, hload]
  have hg := good_final H hfin (by unfold AV.rel; exact ⟨cs, rfl, h5⟩)
  rcases he with rfl | rfl
  · exact ⟨hd, _, hres', _, rfl, hg⟩
  · exact ⟨hd, _, hres', _, rfl, hg⟩
end
end Mu
end
section
/-
  Regions that draw their order in which a variable's memory is made beside reads and calls.
  Conditions: none; generic.
-/
namespace Mu
open Go Go.RowKit

mutual
/-- does not speak of block p -/
def AV.nr (p : Nat) : AV → Bool
  | .own i _ => i != p
  | .ptr i _ => i != p
  | .rp i _ _ _ => i != p
  | .agg l => AV.nrL p l
  | .tup l => AV.nrL p l
  | .fn _ l => AV.nrL p l
  | _ => true
def AV.nrL (p : Nat) : List AV → Bool
  | [] => true
  | x :: l => AV.nr p x && AV.nrL p l
end
def nrB (p : Nat) : ABlk → Bool
  | .box cells => AV.nrL p cells
  | _ => true
section
variable {w : World} {S : Nat → Prop} {h : List ABlk} {ψ ψ' : Nat → Value} {p : Nat} {b : ABlk}
mutual
theorem AV.rel_up (hψ : ∀ i, i ≠ p → ψ' i = ψ i) : ∀ (x : AV) (v : Value), AV.nr p x = true → AV.rel w S h ψ x v → AV.rel w S (h.set p b) ψ' x v
  | .any, _, _, _ => by unfold AV.rel; trivial
  | .lit u, v, _, H => by unfold AV.rel at H ⊢; exact H
  | .bs T l, v, _, H => by unfold AV.rel at H ⊢; exact H
  | .tv T d, v, _, H => by unfold AV.rel at H ⊢; exact H
  | .own i ver, v, hn, H => by
    have hi : i ≠ p := by simpa [AV.nr] using hn
    unfold AV.rel at H ⊢
    rw [List.getElem?_set_ne (Ne.symm hi), hψ i hi]
    exact ⟨by simpa using H.1, H.2⟩
  | .ptr i off, v, hn, H => by
    have hi : i ≠ p := by simpa [AV.nr] using hn
    unfold AV.rel at H ⊢
    rw [List.getElem?_set_ne (Ne.symm hi), hψ i hi]
    exact ⟨by simpa using H.1, H.2⟩
  | .rp i ver k off, v, hn, H => by
    have hi : i ≠ p := by simpa [AV.nr] using hn
    unfold AV.rel at H ⊢
    rw [List.getElem?_set_ne (Ne.symm hi), hψ i hi]
    exact ⟨by simpa using H.1, H.2⟩
  | .bp T d off, v, _, H => by unfold AV.rel at H ⊢; exact H
  | .agg l, v, hn, H => by
    unfold AV.nr at hn
    unfold AV.rel at H ⊢
    obtain ⟨cs, e, hl⟩ := H
    exact ⟨cs, e, AV.relL_up hψ l cs hn hl⟩
  | .tup l, v, hn, H => by
    unfold AV.nr at hn
    unfold AV.rel at H ⊢
    obtain ⟨cs, e, hl⟩ := H
    exact ⟨cs, e, AV.relL_up hψ l cs hn hl⟩
  | .fn f l, v, hn, H => by
    unfold AV.nr at hn
    unfold AV.rel at H ⊢
    obtain ⟨cs, e, hl⟩ := H
    exact ⟨cs, e, AV.relL_up hψ l cs hn hl⟩
theorem AV.relL_up (hψ : ∀ i, i ≠ p → ψ' i = ψ i) : ∀ (l : List AV) (cs : List Value), AV.nrL p l = true → AV.relL w S h ψ l cs → AV.relL w S (h.set p b) ψ' l cs
  | [], cs, _, H => by unfold AV.relL at H ⊢; exact H
  | x :: l, cs, hn, H => by
    unfold AV.nrL at hn
    rw [Bool.and_eq_true] at hn
    unfold AV.relL at H ⊢
    obtain ⟨v, vs, e, h1, h2⟩ := H
    exact ⟨v, vs, e, AV.rel_up hψ x v hn.1 h1, AV.relL_up hψ l vs hn.2 h2⟩
end
variable {h' : List ABlk}
theorem HRel.revive {C : Ctx} {w' : World} {v : Value} (H : HRel C h S ψ w) (hp : h[p]? = some .dead) (hn : h.all (nrB p) = true) (hb : Below w.heap.size w w') (hB : BRel C.N w' S (h.set p b) (ψset ψ p v) v b) (hg : ∀ g, ftp (some b) v g → w.heap.size ≤ g) :
    HRel C (h.set p b) S (ψset ψ p v) w' := by
  have hpl := (List.getElem?_eq_some_iff.1 hp).1
  have H' := H.grow (S' := S) hb (fun _ h => h) (fun _ h => .inl h) fun k hk => Nat.lt_of_lt_of_le (H.lt k hk) hb.size
  have hlt : ∀ i, ABlk.live h[i]? = true → ∀ g, ftp h[i]? (ψ i) g → g < w.heap.size := fun i hl g hgg => by
    obtain ⟨c, hc⟩ := live_some hl
    rw [hc] at hgg
    exact ((H.blk i c hc).lt (by rw [← hc]; exact hl) g hgg).2.1
  refine ⟨H'.bel, H'.nlt, H'.lt, H'.sub, H'.new, fun i c hi => ?_, fun i j hij hi hj g h1 h2 => ?_⟩
  · by_cases hip : i = p
    · subst hip
      rw [List.getElem?_set_self hpl] at hi
      cases hi
      rw [ψset_self]
      exact hB
    · rw [List.getElem?_set_ne (Ne.symm hip)] at hi
      rw [ψset_ne hip]
      have hc := H'.blk i c hi
      have hnr := List.all_eq_true.1 hn c (List.mem_of_getElem? hi)
      cases c with
      | dead => trivial
      | box cells =>
        obtain ⟨g, cs, e, k1, k2, k3, k4, k5⟩ := hc
        exact ⟨g, cs, e, k1, k2, k3, k4, AV.relL_up (fun i hi => ψset_ne hi) _ _ hnr k5⟩
      | row ver e T l => exact hc
      | res R => exact hc
  · by_cases hip : i = p
    · subst hip
      rw [ψset_self, List.getElem?_set_self hpl] at h1
      have hji : j ≠ i := Ne.symm hij
      rw [ψset_ne hji, List.getElem?_set_ne (Ne.symm hji)] at h2
      rw [List.getElem?_set_ne (Ne.symm hji)] at hj
      have := hlt j hj g h2
      have := hg g h1
      omega
    · rw [ψset_ne hip, List.getElem?_set_ne (Ne.symm hip)] at h1
      rw [List.getElem?_set_ne (Ne.symm hip)] at hi
      by_cases hjp : j = p
      · subst hjp
        rw [ψset_self, List.getElem?_set_self hpl] at h2
        have := hlt i hi g h1
        have := hg g h2
        omega
      · rw [ψset_ne hjp, List.getElem?_set_ne (Ne.symm hjp)] at h2
        rw [List.getElem?_set_ne (Ne.symm hjp)] at hj
        exact H.dis i j hij hi hj g h1 h2
end

section
variable {P : Program} {C : Ctx} {ops : Array Oper} {md : Region.Mode} {h : List ABlk} {p ip : Nat} {zs : List Value} {elem : TypeId}

end
theorem St.le_dead {C : Ctx} {t : List AV} {h : List ABlk} : St.le C ⟨t, h⟩ ⟨t, h ++ [.dead]⟩ := fun a w ⟨hd, S, ψ, H, hl⟩ => by
  have X : Ext w S h ψ w S (h ++ [.dead]) (ψset ψ h.length (.slice none 0 0)) := Ext.push _ _ fun _ _ => rfl
  exact ⟨by rw [hd]; show mkD h = mkD (h ++ [_]); rw [mkD_push]; rfl, S, _, H.push (Below.refl _ _) trivial (fun g hg => by simp [ftp, blkOf] at hg), AV.relL_ext X _ _ hl⟩
section
variable {P : Program} {C : Ctx} {ops : Array Oper} {h : List ABlk} {p ip k : Nat} {zs : List Value} {K : List AV → Prop} {o : Oper} {rest : List Oper} {t : List AV}
end
end Mu
end
section
/-
  Functions that take a row of the caller's, change it, and hand it back.
  Conditions: none; generic.
-/
namespace Mu
open Go Go.RowKit

end Mu
end
section
/-
  Regions that draw their order, whose last operations may come in several orders.
  Conditions: none; generic.
-/
namespace Mu
open Go Go.RowKit

section
variable {P : Program} {C : Ctx} {ops : Array Oper} {md : Region.Mode} {h : List ABlk} {K : St → Prop}
def tOp (P : Program) (C : Ctx) (ops : Array Oper) (i : Nat) (K : St → Prop) (s : St) : Prop :=
  match ops[i]? with
  | none => K s
  | some o => ∃ b, gA ops s.t o = some b ∧ (b = true → AOp P C o s K) ∧ (b = false → K ⟨putA s.t o.dst (.lit undef), s.h⟩)
def tAny (P : Program) (C : Ctx) (md : Region.Mode) (ops : Array Oper) (K : St → Prop) : Nat → Array Bool → St → Prop
  | 0, listed, s => Region.ready md ops listed = [] ∧ K s
  | f + 1, listed, s => (Region.ready md ops listed = [] → K s) ∧ ∀ i ∈ Region.ready md ops listed, tOp P C ops i (tAny P C md ops K f (listed.setIfInBounds i true)) s
theorem wpOp_of_tOp {i : Nat} {s : St} {a : Act} {w : World} {K' : Act → World → Prop} {Q' : Exit → Act → World → Prop} (H : s.rel C a w) (hK : ∀ s a w, K s → s.rel C a w → K' a w) (hh : tOp P C ops i K s) : wpOp P ops Q' i K' a w := by
  unfold tOp at hh
  unfold wpOp
  split
  · rename_i ho; simp only [ho] at hh; exact hK _ _ _ hh H
  · rename_i o ho
    simp only [ho] at hh
    obtain ⟨b, hg, ht, hf⟩ := hh
    obtain ⟨_, S, ψ, _, hl⟩ := id H
    rw [gA_wanted hg hl]
    cases b with
    | true =>
      rw [if_pos rfl]
      exact .inl (Oper.wp_mono (fun a' w' ⟨s', h1, h2⟩ => hK s' a' w' h1 h2) (ht rfl Q' a w H).2)
    | false =>
      rw [if_neg (by simp)]
      exact hK _ _ _ (hf rfl) (undef_rel H o.dst)
theorem wpAny_of_tAny {Q' : Exit → Act → World → Prop} (hQ : ∀ s a w, K s → s.rel C a w → Q' .normal a w) : ∀ (f : Nat) (listed : Array Bool) (s : St) (a : Act) (w : World), tAny P C md ops K f listed s → s.rel C a w → wpAny P md ops Q' f listed a w
  | 0, _, s, a, w, hh, H => ⟨hh.1, hQ s a w hh.2 H⟩
  | f + 1, _, s, a, w, hh, H => ⟨fun h0 => hQ s a w (hh.1 h0) H, fun i hi => wpOp_of_tOp H (fun s' a' w' h' H' => wpAny_of_tAny hQ f _ s' a' w' h' H') (hh.2 i hi)⟩

end
section
variable {P : Program} {C : Ctx} {ops : Array Oper} {K : St → Prop} {listed : Array Bool} {g : Nat} {s : St} {t : List AV} {h : List ABlk}
def tAll (P : Program) (C : Ctx) (ops : Array Oper) (K : St → Prop) (g : Nat) (listed : Array Bool) (s : St) (rs : List Nat) : Prop := ∀ i ∈ rs, tOp P C ops i (tAny P C .any ops K g (listed.setIfInBounds i true)) s
theorem tAny_step (rs : List Nat) (hr : Region.ready .any ops listed = rs) (hne : rs ≠ []) (hh : tAll P C ops K g listed s rs) : tAny P C .any ops K (g + 1) listed s := ⟨fun h0 => absurd (hr ▸ h0) hne, hr ▸ hh⟩
theorem tAny_done (hr : Region.ready .any ops listed = []) (hh : K s) : tAny P C .any ops K 0 listed s := ⟨hr, hh⟩
theorem tAll_nil : tAll P C ops K g listed s [] := fun i hi => by cases hi
theorem tAll_cons {i : Nat} {rs : List Nat} {o : Oper} (ho : ops[i]? = some o) (hg : gA ops s.t o = some true) (h1 : AOp P C o s (tAny P C .any ops K g (listed.setIfInBounds i true))) (h2 : tAll P C ops K g listed s rs) : tAll P C ops K g listed s (i :: rs) := fun j hj => by
  rcases List.mem_cons.1 hj with rfl | hj
  · unfold tOp
    simp only [ho]
    exact ⟨true, hg, fun _ => h1, fun e => by cases e⟩
  · exact h2 j hj
end
end Mu
end
section
/-
  Regions that draw their order: some moves first, the reads in an order of one's own, the last operations in whatever order.
  Conditions: none; generic.
-/
namespace Mu
open Go Go.RowKit

section
variable {P : Program} {C : Ctx} {ops : Array Oper} {md : Region.Mode} {h : List ABlk} {Inv : Array Bool → Prop} {n : Nat}
theorem aAny_firstI {i : Nat} {oi : Oper} {v : AV} {L : Array Bool → List AV → Prop} (hset : ∀ listed i, Inv listed → i ∈ Region.ready md ops listed → i < n → Inv (listed.setIfInBounds i true)) (hi : ops[i]? = some oi)
    (htail : ∀ listed i, Inv listed → i < n → listed.getD i true = false → ∀ t, n ≤ t → t ∉ Region.ready md ops listed) (hin : i < n)
    (hdone : ∀ listed t, L listed t → ∀ j ∈ Region.ready md ops listed, n ≤ j) :
    ∀ (f : Nat) (listed : Array Bool) (t : List AV), Inv listed →
      (∀ j oj, ops[j]? = some oj → j ≠ i → listed.getD j true = false → (∀ e ∈ oj.after, Region.binds md e = true → e.on ≠ i) → oi.apart ops oj = true) →
      i ∈ Region.ready md ops listed → aYields P C ops h oi v t →
      aAny P C md ops h n L f (listed.setIfInBounds i true) (putA t oi.dst v) → aAny P C md ops h n L (f + 1) listed t := by
  intro f
  induction f with
  | zero =>
    intro listed t inv _ hr hy H
    have hun := (mem_ready.1 hr).1
    refine ⟨fun h => (by rw [h] at hr; cases hr), fun j hj => ?_⟩
    have hjn : j < n := by
      rcases Nat.lt_or_ge j n with h | h
      · exact h
      · exact absurd hj (htail _ i inv hin hun j h)
    refine ⟨hjn, ?_⟩
    by_cases hji : j = i
    · subst hji
      unfold aOp
      simp only [hi]
      exact ⟨v, hy, H⟩
    · have := hdone _ _ H j (ready_mono hj hji)
      omega
  | succ f ih =>
    intro listed t inv hfree hr hy H
    have hun := (mem_ready.1 hr).1
    refine ⟨fun h => (by rw [h] at hr; cases hr), fun j hj => ?_⟩
    have hjn : j < n := by
      rcases Nat.lt_or_ge j n with h | h
      · exact h
      · exact absurd hj (htail _ i inv hin hun j h)
    refine ⟨hjn, ?_⟩
    by_cases hji : j = i
    · subst hji
      unfold aOp
      simp only [hi]
      exact ⟨v, hy, H⟩
    · have h1 := (H.2 j (ready_mono hj hji)).2
      obtain ⟨hjun, oj, hoj, hall⟩ := mem_ready.1 hj
      have hnot : ∀ e ∈ oj.after, Region.binds md e = true → e.on ≠ i := fun e he hb heq => by
        have h1 := hall e he hb
        rw [heq, getD_both hun] at h1
        cases h1
      have h2 := aOp_put hoj (hfree j oj hoj hji hjun hnot) hy h1
      have hfree' : ∀ k ok, ops[k]? = some ok → k ≠ i → (listed.setIfInBounds j true).getD k true = false →
          (∀ e ∈ ok.after, Region.binds md e = true → e.on ≠ i) → oi.apart ops ok = true := fun k ok hk hki hun hno => by
        refine hfree k ok hk hki ?_ hno
        by_cases hjk : j = k
        · subst hjk; exact hjun
        · rw [getD_set_ne true hjk] at hun; exact hun
      refine aOp_mono (fun a' h3 => ih (listed.setIfInBounds j true) a' (hset _ _ inv hj hjn) hfree' (ready_mono hr (Ne.symm hji)) h3.1 ?_) h2
      rw [Array.setIfInBounds_comm _ _ hji]
      exact h3.2

/-- the slots' operations in an order of one's own -/
def aQo (P : Program) (C : Ctx) (ops : Array Oper) (h : List ABlk) (K : List AV → Prop) : List Nat → List AV → Prop
  | [], t => K t
  | i :: rest, t => ∃ o r, ops[i]? = some o ∧ aYields P C ops h o r t ∧ aQo P C ops h K rest (putA t o.dst r)
def setAll : List Nat → Array Bool → Array Bool
  | [], l => l
  | i :: is, l => setAll is (l.setIfInBounds i true)
def ordB (ops : Array Oper) (n : Nat) : List Nat → Array Bool → Bool
  | [], listed => (Region.ready .any ops listed).all fun j => decide (n ≤ j)
  | i :: is, listed => decide (i < n) && (Region.ready .any ops listed).contains i && Region.free .any ops listed i && ordB ops n is (listed.setIfInBounds i true)
theorem aAny_ord {Lq : List AV → Prop} (hset : ∀ listed i, Inv listed → i ∈ Region.ready .any ops listed → i < n → Inv (listed.setIfInBounds i true))
    (htail : ∀ listed i, Inv listed → i < n → listed.getD i true = false → ∀ t, n ≤ t → t ∉ Region.ready .any ops listed) :
    ∀ (l : List Nat) (listed : Array Bool) (t : List AV), Inv listed → ordB ops n l listed = true → aQo P C ops h Lq l t →
    aAny P C .any ops h n (fun listed' t' => (∀ j ∈ Region.ready .any ops listed', n ≤ j) ∧ listed' = setAll l listed ∧ Lq t') l.length listed t
  | [], listed, t, _, hB, hh => ⟨fun j hj => of_decide_eq_true (List.all_eq_true.1 hB j hj), rfl, hh⟩
  | i :: l, listed, t, inv, hB, hh => by
    obtain ⟨o, v, h0, hy, hK⟩ := hh
    simp only [ordB, Bool.and_eq_true, decide_eq_true_eq] at hB
    obtain ⟨⟨⟨hin, hr⟩, hf⟩, hB'⟩ := hB
    have hr' : i ∈ Region.ready .any ops listed := by simpa using hr
    exact aAny_firstI hset h0 htail hin (fun listed' a' hL => hL.1) l.length _ t inv (Region.free_spec h0 hf) hr' hy (aAny_ord hset htail l _ _ (hset _ _ inv hr' hin) hB' hK)

def freeB (ops : Array Oper) : List Nat → Array Bool → Bool
  | [], _ => true
  | i :: is, listed => (Region.ready .any ops listed).contains i && Region.free .any ops listed i && freeB ops is (listed.setIfInBounds i true)
end
def waitB (ops : Array Oper) : Nat → Nat → Nat → Bool
  | 0, _, _ => false
  | f + 1, j, i =>
    match ops[j]? with
    | some oj => oj.after.any fun e => Region.binds .any e && (e.on == i || waitB ops f e.on i)
    | none => false
theorem setAll_keep : ∀ (l : List Nat) (a : Array Bool) (j : Nat), a.getD j false = true → (setAll l a).getD j false = true
  | [], a, j, h => h
  | i :: l, a, j, h => setAll_keep l _ j (getD_set_true h)
theorem setAll_mem : ∀ (l : List Nat) (a : Array Bool) (j : Nat), j ∈ l → j < a.size → (setAll l a).getD j false = true
  | [], a, j, h, _ => by cases h
  | i :: l, a, j, h, hs => by
    unfold setAll
    rcases List.mem_cons.1 h with rfl | h
    · exact setAll_keep l _ _ (by simp [Array.getD_eq_getD_getElem?, hs])
    · exact setAll_mem l _ j h (by simpa using hs)
section
variable {P : Program} {C : Ctx} {ops : Array Oper} {K : List AV → Prop} {h : List ABlk} {t : List AV}
end
end Mu
end
section
/-
  Memory of any form among the call's own: read, lent, turned, made; known addresses.
  Conditions: none; generic.
-/
namespace Mu
open Go Go.RowKit

section
variable {P : Program} {C : Ctx} {t : List AV} {h : List ABlk} {o : Oper}

/-- a cell within it, at a known place -/
theorem CellsOf.res {i b off : Nat} {R : Res} {rs : List AV} (hi : h[i]? = some (.res R)) (hc : AV.clL rs = true)
    (hp : ∀ w S, R.R w S → ∀ j r, rs[j]? = some r → ∃ u, w.cell? ⟨b, off + j, none⟩ = some u ∧ AV.rel w S [] ψ0 r u) : CellsOf h (.lit (.pointer (some ⟨b, off, none⟩))) rs := fun C S ψ w v H hv => by
  unfold AV.rel at hv
  refine ⟨b, off, hv, fun j y hy => ?_⟩
  obtain ⟨u, h1, h2⟩ := hp w S (H.blk i _ hi).2 j y hy
  have hcy : AV.cl y = true := by
    have : ∀ (l : List AV), AV.clL l = true → ∀ y ∈ l, AV.cl y = true := fun l => by
      induction l with
      | nil => intro _ y hy; cases hy
      | cons x l ih =>
        intro hl y hy
        unfold AV.clL at hl
        rw [Bool.and_eq_true] at hl
        rcases List.mem_cons.1 hy with rfl | hy
        · exact hl.1
        · exact ih hl.2 y hy
    exact this rs hc y (List.mem_of_getElem? hy)
  exact ⟨u, h1, AV.rel_cl _ _ hcy h2⟩
theorem Quiet.ld_res {ty : TypeId} {x : Operand} {n i b off : Nat} {R : Res} {r : AV} [AG P ty false n] (ho : o.op = .load ty x) (hx : evA t x = .lit (.pointer (some ⟨b, off, none⟩))) (hi : h[i]? = some (.res R)) (hc : AV.cl r = true)
    (hp : ∀ w S, R.R w S → ∃ u, w.cell? ⟨b, off, none⟩ = some u ∧ AV.rel w S [] ψ0 r u) : Quiet P C t h o r :=
  Quiet.load1 (cells := [r]) ho AG.eq hx (CellsOf.res (rs := [r]) hi (by unfold AV.clL; rw [hc]; rfl) fun w S hR j y hy => by
    cases j with
    | zero => cases hy; exact hp w S hR
    | succ j => cases hy) rfl
/-- an element's address in a row at a known place -/
theorem Quiet.ixl {ty : TypeId} {x y : Operand} {ik : IntKind} {k n b off len c : Nat} [ES P ty n] (ho : o.op = .indexAddr ty x y) (hx : evA t x = .lit (.slice (some ⟨b, off, none⟩) len c)) (hy : evA t y = .lit (.int ik (k : Int))) (hk : k < len) :
    Quiet P C t h o (.lit (.pointer (some ⟨b, off + k * n, none⟩))) :=
  Quiet.of_run fun S ψ w ρ H hρ => by
    have h1 := hρ x (by simp [ho, Op.operands])
    have h2 := hρ y (by simp [ho, Op.operands])
    rw [hx] at h1
    rw [hy] at h2
    unfold AV.rel at h1 h2
    have hr := run_indexAt_sl (P := P) (w := w) (b := b) (off := off) (c := c) (ik := ik) (ES.eq (P := P) (ty := ty) (n := n)) hk
    exact ⟨_, by simp [execOp, ho, h1, h2, hr]; rfl, by unfold AV.rel; rfl⟩

/-- what an operation makes of such memory: one of several outcomes -/
structure Turns {ι : Type} (w : World) (S : Nat → Prop) (F : Nat → Prop) (Rs : ι → Res) (val : ι → Value) (v : Value) (w' : World) : Prop where
  gr : Gr F w w'
  some : ∃ p, v = val p ∧ (Rs p).R w' S ∧ ∀ k, (Rs p).F k → (F k ∨ w.heap.size ≤ k) ∧ k < w'.heap.size
def tUpon {ι : Type} (P : Program) (w : World) (S : Nat → Prop) (F : Nat → Prop) (Rs : ι → Res) (val : ι → Value) : Result Next → Prop
  | .ok (.value v) w' => Turns w S F Rs val v w'
  | .ok .skip w' => Turns w S F Rs val undef w'
  | .ok (.enter f args) w1 => w1 = w ∧ Calls P f args w fun e w' => ∃ v, e = .returned v ∧ Turns w S F Rs val v w'
  | _ => False
variable {ι : Type} {Rs : ι → Res} {val : ι → Value}
theorem tUpon_noDefer {w : World} {S : Nat → Prop} {F : Nat → Prop} {ρ : Operand → Value} (hq : tUpon P w S F Rs val ((execOp ρ o).run P w)) : ∀ c, o.op ≠ .defer c := fun c e => by
  simp only [execOp, e, Sem.run_bind] at hq
  generalize (resolve ρ c o.type).run P w = x at hq
  cases x with
  | ok d w' => exact hq
  | halt x w' => exact hq
theorem upon_of_t {K : Act → World → Prop} {Q' : Exit → Act → World → Prop} {a : Act} {w : World} {S : Nat → Prop} {F : Nat → Prop} {res : Result Next} (hq : tUpon P w S F Rs val res) (hK : ∀ v w', Turns w S F Rs val v w' → K (a.put o.dst v) w') : o.upon P a K Q' res := by
  cases res with
  | ok n w' =>
    cases n <;> simp only [tUpon] at hq <;> simp only [Oper.upon]
    case value v => exact hK v w' hq
    case skip => exact hK undef w' hq
    case enter f args =>
      obtain ⟨rfl, hc⟩ := hq
      exact hc.mono fun e w'' ⟨v, he, hg⟩ => by subst he; exact hK v w'' hg
  | halt x w' => simp only [tUpon] at hq
/-- such memory is turned -/
theorem AOp.turn {i : Nat} {R : Res} {K : St → Prop} (hi : h[i]? = some (.res R)) (hm : ∀ p, (Rs p).mrk = R.mrk)
    (hq : ∀ S ψ w (ρ : Operand → Value), HRel C h S ψ w → R.R w S → (∀ g, R.F g → g < w.heap.size) → (∀ x ∈ o.op.operands, AV.rel w S h ψ (evA t x) (ρ x)) → tUpon P w S R.F Rs val ((execOp ρ o).run P w))
    (hK : ∀ p, K ⟨putA t o.dst (.lit (val p)), h.set i (.res (Rs p))⟩) : AOp P C o ⟨t, h⟩ K := by
  rintro Q' a w ⟨hd, S, ψ, H, hl⟩
  have hB := H.blk i _ hi
  have hq' := hq S ψ w a.eval H hB.2 (fun g hg => (hB.1 g hg).2.2) fun x _ => ev_rel hl x
  refine ⟨tUpon_noDefer hq', upon_of_t hq' fun v w' hT => ?_⟩
  obtain ⟨p, rfl, hR, hF⟩ := hT.some
  have hblk : ∀ k, S k → w'.heap[k]? = w.heap[k]? := fun k hk => hT.gr.block k (H.lt k hk) fun hf => (hB.1 k hf).2.1 hk
  have X : Ext w S h ψ w' S (h.set i (.res (Rs p))) (ψset ψ i (ψ i)) := Ext.set hblk hi (fun c' hc => by simp [ABlk.ver] at hc) fun h => by simp [ABlk.isBox] at h
  have hBn : BRel C.N w' S (h.set i (.res (Rs p))) (ψset ψ i (ψ i)) (ψ i) (.res (Rs p)) := ⟨fun g hg => by
    obtain ⟨h1, h2⟩ := hF g hg
    rcases h1 with h1 | h1
    · exact ⟨(hB.1 g h1).1, (hB.1 g h1).2.1, h2⟩
    · exact ⟨fun hn => by have := H.nlt g hn; have := H.bel.size; omega, fun hs => by have := H.lt g hs; omega, h2⟩, hR⟩
  exact ⟨_, hK p, st_set (s := ⟨t, h⟩) hi hd hl (H.set hi rfl hT.gr X hBn fun g hg => (hF g hg).1) X (by unfold AV.rel; rfl) (by show (Rs p).mrk.map mark = R.mrk.map mark; rw [hm p])⟩
/-- such memory is made -/
theorem AOp.make_res {K : St → Prop} (hm : ∀ p, (Rs p).mrk = [])
    (hq : ∀ S ψ w (ρ : Operand → Value), HRel C h S ψ w → (∀ x ∈ o.op.operands, AV.rel w S h ψ (evA t x) (ρ x)) → tUpon P w S (fun _ => False) Rs val ((execOp ρ o).run P w))
    (hK : ∀ p, K ⟨putA t o.dst (.lit (val p)), h ++ [.res (Rs p)]⟩) : AOp P C o ⟨t, h⟩ K := by
  rintro Q' a w ⟨hd, S, ψ, H, hl⟩
  have hq' := hq S ψ w a.eval H fun x _ => ev_rel hl x
  refine ⟨tUpon_noDefer hq', upon_of_t hq' fun v w' hT => ?_⟩
  obtain ⟨p, rfl, hR, hF⟩ := hT.some
  have hb : Below w.heap.size w w' := ⟨hT.gr.os, hT.gr.tape, hT.gr.output, hT.gr.size, fun k hk => hT.gr.block k hk fun h => h⟩
  have X : Ext w S h ψ w' S (h ++ [.res (Rs p)]) (ψset ψ h.length (val p)) := Ext.push _ _ fun k hk => hb.block k (H.lt k hk)
  have hBn : BRel C.N w' S (h ++ [.res (Rs p)]) (ψset ψ h.length (val p)) (val p) (.res (Rs p)) := ⟨fun g hg => by
    obtain ⟨h1, h2⟩ := hF g hg
    rcases h1 with h1 | h1
    · exact h1.elim
    · exact ⟨fun hn => by have := H.nlt g hn; have := H.bel.size; omega, fun hs => by have := H.lt g hs; omega, h2⟩, hR⟩
  exact ⟨_, hK p, st_push (s := ⟨t, h⟩) hd hl (H.push hb hBn fun g hg => by
    rcases (hF g hg).1 with h1 | h1
    · exact h1.elim
    · exact h1) X (by unfold AV.rel; rfl) (by show (Rs p).mrk.map mark = []; rw [hm p]; rfl)⟩

/-- what is known of such memory is weakened -/
theorem St.le_res {i : Nat} {R R' : Res} (hi : h[i]? = some (.res R)) (hF : ∀ g, R'.F g → R.F g) (hR : ∀ w S, R.R w S → R'.R w S) (hm : R'.mrk = R.mrk) : St.le C ⟨t, h⟩ ⟨t, h.set i (.res R')⟩ := fun a w ⟨hd, S, ψ, H, hl⟩ => by
  have hB := H.blk i _ hi
  have X : Ext w S h ψ w S (h.set i (.res R')) (ψset ψ i (ψ i)) := Ext.set (fun _ _ => rfl) hi (fun c' hc => by simp [ABlk.ver] at hc) fun h => by simp [ABlk.isBox] at h
  refine ⟨by rw [hd]; exact (mkD_set hi (by show R'.mrk.map mark = R.mrk.map mark; rw [hm])).symm, S, _, H.set (v' := ψ i) hi rfl ⟨rfl, rfl, rfl, Nat.le_refl _, fun _ _ _ => rfl⟩ X ⟨fun g hg => hB.1 g (hF g hg), hR w S hB.2⟩ fun g hg => .inl (hF g hg), AV.relL_ext X _ _ hl⟩
/-- two such memories are taken as one -/
theorem St.le_merge {i j : Nat} {R1 R2 R : Res} (hij : i ≠ j) (hi : h[i]? = some (.res R1)) (hj : h[j]? = some (.res R2)) (h1 : R1.mrk = []) (h2 : R2.mrk = []) (h3 : R.mrk = []) (hF : ∀ g, R.F g → R1.F g ∨ R2.F g)
    (hR : ∀ w S, R1.R w S → R2.R w S → (∀ g, R1.F g → ¬ R2.F g) → R.R w S) : St.le C ⟨t, h⟩ ⟨t, (h.set j .dead).set i (.res R)⟩ := fun a w ⟨hd, S, ψ, H, hl⟩ => by
  have hB1 := H.blk i _ hi
  have hB2 := H.blk j _ hj
  have hil := (List.getElem?_eq_some_iff.1 hi).1
  have hjl := (List.getElem?_eq_some_iff.1 hj).1
  have hdis : ∀ g, R1.F g → ¬ R2.F g := fun g k1 k2 => H.dis i j hij (by rw [hi]; rfl) (by rw [hj]; rfl) g (by rw [hi]; exact k1) (by rw [hj]; exact k2)
  have X1 : Ext w S h ψ w S (h.set j .dead) (ψset ψ j (ψ j)) := Ext.set (fun _ _ => rfl) hj (fun c' hc => by simp [ABlk.ver] at hc) fun h => by simp [ABlk.isBox] at h
  have hi' : (h.set j .dead)[i]? = some (.res R1) := by rw [List.getElem?_set_ne (Ne.symm hij)]; exact hi
  have X2 : Ext w S (h.set j .dead) (ψset ψ j (ψ j)) w S ((h.set j .dead).set i (.res R)) (ψset (ψset ψ j (ψ j)) i (ψset ψ j (ψ j) i)) := Ext.set (fun _ _ => rfl) hi' (fun c' hc => by simp [ABlk.ver] at hc) fun h => by simp [ABlk.isBox] at h
  have e : ∀ (φ : Nat → Value) k, ψset φ k (φ k) = φ := fun φ k => funext fun q => by unfold ψset; split <;> simp_all
  rw [e] at X1
  rw [e, e] at X2
  have X : Ext w S h ψ w S ((h.set j .dead).set i (.res R)) ψ := ⟨fun _ _ => rfl, fun _ h => h, by simp, fun k c' hk hv => by
    obtain ⟨c1, k1, k2, k3⟩ := X2.ver k c' (by simpa using hk) hv
    obtain ⟨c2, k4, k5, k6⟩ := X1.ver k c1 hk k1
    exact ⟨c2, k4, by omega, fun e' => ⟨rfl, by rw [(k3 (by omega)).2, (k6 (by omega)).2]⟩⟩, fun k hk hv => ⟨(X1.box k hk (X2.box k (by simpa using hk) hv).1).1, rfl⟩⟩
  have hget : ∀ k b, ((h.set j .dead).set i (.res R))[k]? = some b → (k = i ∧ b = .res R) ∨ (k = j ∧ b = .dead) ∨ (k ≠ i ∧ k ≠ j ∧ h[k]? = some b) := fun k b hb => by
    by_cases hki : k = i
    · subst hki
      rw [List.getElem?_set_self (by simpa using hil)] at hb
      cases hb
      exact .inl ⟨rfl, rfl⟩
    · rw [List.getElem?_set_ne (Ne.symm hki)] at hb
      by_cases hkj : k = j
      · subst hkj
        rw [List.getElem?_set_self hjl] at hb
        cases hb
        exact .inr (.inl ⟨rfl, rfl⟩)
      · rw [List.getElem?_set_ne (Ne.symm hkj)] at hb
        exact .inr (.inr ⟨hki, hkj, hb⟩)
  refine ⟨?_, S, ψ, ⟨H.bel, H.nlt, H.lt, H.sub, H.new, fun k b hb => ?_, fun k q hkq hk hq g g1 g2 => ?_⟩, AV.relL_ext X _ _ hl⟩
  · rw [hd]
    show mkD h = _
    rw [mkD_set hi' (by show R.mrk.map mark = R1.mrk.map mark; rw [h1, h3]), mkD_set hj (by show [] = R2.mrk.map mark; rw [h2]; rfl)]
  · rcases hget k b hb with ⟨rfl, rfl⟩ | ⟨rfl, rfl⟩ | ⟨_, _, hb⟩
    · exact ⟨fun g hg => (hF g hg).elim (hB1.1 g) (hB2.1 g), hR w S hB1.2 hB2.2 hdis⟩
    · trivial
    · exact (H.blk k b hb).keep X fun g _ => ⟨rfl, fun h => h⟩
  · have key : ∀ k, ABlk.live ((h.set j .dead).set i (.res R))[k]? = true → ftp ((h.set j .dead).set i (.res R))[k]? (ψ k) g → (k = i ∧ (R1.F g ∨ R2.F g)) ∨ (k ≠ i ∧ k ≠ j ∧ ABlk.live h[k]? = true ∧ ftp h[k]? (ψ k) g) := fun k k1 k2 => by
      obtain ⟨b, hb⟩ := live_some k1
      rw [hb] at k1 k2
      rcases hget k b hb with ⟨rfl, rfl⟩ | ⟨rfl, rfl⟩ | ⟨q1, q2, hb'⟩
      · exact .inl ⟨rfl, hF g k2⟩
      · cases k1
      · exact .inr ⟨q1, q2, by rw [hb']; exact k1, by rw [hb']; exact k2⟩
    have no : ∀ k, k ≠ i → k ≠ j → ABlk.live h[k]? = true → ftp h[k]? (ψ k) g → (R1.F g ∨ R2.F g) → False := fun k q1 q2 q3 q4 q5 => by
      rcases q5 with q5 | q5
      · exact H.dis k i q1 q3 (by rw [hi]; rfl) g q4 (by rw [hi]; exact q5)
      · exact H.dis k j q2 q3 (by rw [hj]; rfl) g q4 (by rw [hj]; exact q5)
    rcases key k hk g1 with ⟨e1, f1⟩ | ⟨a1, a2, a3, a4⟩ <;> rcases key q hq g2 with ⟨e2, f2⟩ | ⟨b1, b2, b3, b4⟩
    · exact hkq (e1.trans e2.symm)
    · exact no q b1 b2 b3 b4 f1
    · exact no k a1 a2 a3 a4 f2
    · exact H.dis k q hkq a3 b3 g a4 b4
end
end Mu
end
section
/-
  A range over a function, over abstract states.
  Conditions: outermost; the rounds end normally; what the slots name lies at known places.
-/
namespace Mu
open Go Go.RowKit

def owns (h : List ABlk) (ψ : Nat → Value) (g : Nat) : Prop := ∃ j, ABlk.live h[j]? = true ∧ ftp h[j]? (ψ j) g

section
variable {C : Ctx} {h h' : List ABlk} {S : Nat → Prop} {ψ : Nat → Value} {w w' W W' : World} {N N' : Nat → Prop}
theorem HRel.own_lt (H : HRel C h S ψ w) {g : Nat} (hg : owns h ψ g) : ¬ C.N g ∧ g < w.heap.size ∧ ¬ S g := by
  obtain ⟨j, h1, h2⟩ := hg
  obtain ⟨b, hb⟩ := live_some h1
  rw [hb] at h1 h2
  exact (H.blk j b hb).lt h1 g h2
end

section
variable {P : Program}
end
end Mu
end
section
/-
  A function that holds ranges over functions: its contract from its walk.
  Conditions: none; generic.
-/
namespace Mu
open Go Go.RowKit

section
variable {C : Ctx} {h : List ABlk} {S : Nat → Prop} {ψ : Nat → Value} {W : World}
end
end Mu
end
section
/-
  Own memory at known addresses: boxes and rows are opened and closed; cells are loaded and stored; rows of values are made.
  Conditions: none; generic.
-/
namespace Mu
open Go Go.RowKit Go.ChangeShapes Go.WideShapes

/-- cells at a known place -/
def boxR (g : Nat) (cells : List AV) : Res := ⟨[], fun k => k = g, fun w S => ∃ cs e, w.heap[g]? = some (.cells (List.toArray cs) e (0, 0)) ∧ AV.relL w S [] ψ0 cells cs,
  fun h hk hb hs => let ⟨cs, e, h1, h2⟩ := h; ⟨cs, e, (hk g rfl).trans h1, AV.relL_ext (Ext.grow [] ψ0 hb hs) _ _ h2⟩⟩
/-- a row of the call's own as a known value -/
def rowR (v : Value) (e : TypeId) {α : Type} (T : Ty α) (l : List α) : Res := ⟨[], fun g => blkOf v = some g, fun w S => ∃ cells, w.ownsRow 0 e T.size v l.length cells ∧ 0 < T.size ∧ ∀ i d, l[i]? = some d → T.RS w S ((cells.drop (i * T.size)).take T.size) d,
  fun h hk hb hs => let ⟨cells, h1, h0, h2⟩ := h; ⟨cells, ownsRow_same h1 fun g hg => hk g hg, h0, fun i d hd => T.keepS (h2 i d hd) hb hs⟩⟩

section
variable {C : Ctx} {h : List ABlk} {S : Nat → Prop} {ψ : Nat → Value} {w : World}
/-- another description of a block -/
theorem HRel.desc {i : Nat} {b b' : ABlk} {v' : Value} (H : HRel C h S ψ w) (hi : h[i]? = some b) (hlive : ABlk.live (some b) = true) (hn : ∀ j c, j ≠ i → h[j]? = some c → nrB i c = true)
    (hB : BRel C.N w S (h.set i b') (ψset ψ i v') v' b') (hF : ∀ g, ftp (some b') v' g → ftp (some b) (ψ i) g) : HRel C (h.set i b') S (ψset ψ i v') w := by
  have hil := (List.getElem?_eq_some_iff.1 hi).1
  refine ⟨H.bel, H.nlt, H.lt, H.sub, H.new, fun j c hc => ?_, fun j k hjk hj hk g hgj hgk => ?_⟩
  · by_cases hji : j = i
    · subst hji
      rw [List.getElem?_set_self hil] at hc
      cases hc
      rw [ψset_self]
      exact hB
    · rw [List.getElem?_set_ne (Ne.symm hji)] at hc
      rw [ψset_ne hji]
      have hBj := H.blk j c hc
      cases c with
      | dead => trivial
      | box cells =>
        obtain ⟨g, cs, e, k1, k2, k3, k4, k5⟩ := hBj
        exact ⟨g, cs, e, k1, k2, k3, k4, AV.relL_up (fun k hk => ψset_ne hk) _ _ (hn j _ hji hc) k5⟩
      | row ver e T l => exact hBj
      | res R => exact hBj
  · have hold : ∀ k, ABlk.live (h.set i b')[k]? = true → ftp (h.set i b')[k]? (ψset ψ i v' k) g → ABlk.live h[k]? = true ∧ ftp h[k]? (ψ k) g := fun k hk hgk => by
      by_cases hki : k = i
      · subst hki
        rw [List.getElem?_set_self hil, ψset_self] at hgk
        rw [hi]
        exact ⟨hlive, hF g hgk⟩
      · rw [List.getElem?_set_ne (Ne.symm hki)] at hk hgk
        rw [ψset_ne hki] at hgk
        exact ⟨hk, hgk⟩
    obtain ⟨a1, a2⟩ := hold j hj hgj
    obtain ⟨b1, b2⟩ := hold k hk hgk
    exact H.dis j k hjk a1 b1 g a2 b2
end

/-! ### opening and closing -/
/-- a box's address becomes known -/
inductive OpnB (i g : Nat) : List AV → List AV → Prop
  | nil : OpnB i g [] []
  | any {x : AV} {t t' : List AV} (h : OpnB i g t t') : OpnB i g (x :: t) (.any :: t')
  | keep {x : AV} {t t' : List AV} (hx : AV.nr i x = true) (h : OpnB i g t t') : OpnB i g (x :: t) (x :: t')
  | ptr {off : Nat} {t t' : List AV} (h : OpnB i g t t') : OpnB i g (.ptr i off :: t) (.lit (.pointer (some ⟨g, off, none⟩)) :: t')
def noRef (i : Nat) (h : List ABlk) : Bool := h.all fun b => nrB i b
theorem noRef_at {i : Nat} {h : List ABlk} (hn : noRef i h = true) : ∀ (j : Nat) (c : ABlk), j ≠ i → h[j]? = some c → nrB i c = true := fun j c _ hc => List.all_eq_true.1 hn c (List.mem_of_getElem? hc)
theorem ψset_id (φ : Nat → Value) (k : Nat) : ψset φ k (φ k) = φ := funext fun q => by unfold ψset; split <;> simp_all
section
variable {w : World} {S : Nat → Prop} {h : List ABlk} {ψ : Nat → Value} {i ver g : Nat} {v : Value} {b : ABlk}
theorem OpnB.rel {t t' : List AV} (ho : OpnB i g t t') (hv : ∀ off u, AV.rel w S h ψ (.ptr i off) u → u = .pointer (some ⟨g, off, none⟩)) : ∀ {cs : List Value}, AV.relL w S h ψ t cs → AV.relL w S (h.set i b) ψ t' cs := by
  induction ho with
  | nil => intro cs H; unfold AV.relL at H ⊢; exact H
  | any _ ih =>
    intro cs H
    unfold AV.relL at H ⊢
    obtain ⟨u, vs, e, _, h2⟩ := H
    exact ⟨u, vs, e, by unfold AV.rel; trivial, ih h2⟩
  | keep hx _ ih =>
    intro cs H
    unfold AV.relL at H ⊢
    obtain ⟨u, vs, e, h1, h2⟩ := H
    exact ⟨u, vs, e, AV.rel_up (fun _ _ => rfl) _ _ hx h1, ih h2⟩
  | ptr _ ih =>
    intro cs H
    unfold AV.relL at H ⊢
    obtain ⟨u, vs, e, h1, h2⟩ := H
    exact ⟨u, vs, e, by rw [hv _ u h1]; unfold AV.rel; rfl, ih h2⟩
end
section
variable {P : Program} {C : Ctx} {t : List AV} {h : List ABlk} {c : Code} {Q : Exit → St → Prop}
theorem Awp.open_box (i : Nat) {cells : List AV} (hi : h[i]? = some (.box cells)) (hc : AV.clL cells = true) (hn : noRef i h = true) (t' : Nat → List AV) (ht : ∀ g, OpnB i g t (t' g))
    (hK : ∀ g, Awp P C c Q ⟨t' g, h.set i (.res (boxR g cells))⟩) : Awp P C c Q ⟨t, h⟩ := fun a w ⟨hd, S, ψ, H, hl⟩ => by
  obtain ⟨g, cs, e, e1, hN, hS, hg, hcs⟩ := H.blk i _ hi
  have H' := H.desc (b' := .res (boxR g cells)) (v' := ψ i) hi rfl (noRef_at hn) ⟨fun k hk => by
    have hk : k = g := hk
    subst hk
    exact ⟨hN, hS, (Array.getElem?_eq_some_iff.1 hg).1⟩, ⟨cs, _, hg, AV.relL_cl _ _ hc hcs⟩⟩ fun k hk => by
    have hk : k = g := hk
    subst hk
    rw [e1]
    rfl
  rw [ψset_id] at H'
  refine hK g a w ⟨by rw [hd]; exact (mkD_set (b' := .res (boxR g cells)) hi rfl).symm, S, ψ, H', (ht g).rel (fun off u hu => ?_) hl⟩
  unfold AV.rel at hu
  obtain ⟨g', h1, rfl⟩ := hu.2 (by rw [hi]; rfl)
  rw [e1] at h1
  cases h1
  rfl
end

/-! ### cells at known places -/
section
variable {P : Program} {C : Ctx} {t : List AV} {h : List ABlk} {o : Oper} {K : St → Prop}
theorem Quiet.faL {st : TypeId} {x : Operand} {j n b off : Nat} [FO P st j n] (ho : o.op = .fieldAddr st x j) (hx : evA t x = .lit (.pointer (some ⟨b, off, none⟩))) : Quiet P C t h o (.lit (.pointer (some ⟨b, off + n, none⟩))) :=
  Quiet.fieldAddr ho FO.eq hx fun C S ψ w v H hv => by
    unfold AV.rel at hv ⊢
    exact ⟨b, off, hv, rfl⟩
theorem Quiet.ixl0 {ty : TypeId} {x y : Operand} {ik : IntKind} {k b len c : Nat} [ES P ty 1] (ho : o.op = .indexAddr ty x y) (hx : evA t x = .lit (.slice (some ⟨b, 0, none⟩) len c)) (hy : evA t y = .lit (.int ik (k : Int))) (hk : k < len) :
    Quiet P C t h o (.lit (.pointer (some ⟨b, k, none⟩))) := by
  have := Quiet.ixl (P := P) (C := C) (h := h) (n := 1) ho hx hy hk
  rwa [Nat.zero_add, Nat.mul_one] at this
theorem AOp.stL {ty : TypeId} {x y : Operand} {i g off n : Nat} {cells new : List AV} [SZ P ty n] (ho : o.op = .store ty x y) (hx : evA t x = .lit (.pointer (some ⟨g, off, none⟩))) (hi : h[i]? = some (.res (boxR g cells))) (hp : Parts h (evA t y) new) (hc : AV.clL new = true) (hs : n = new.length) (hle : off + new.length ≤ cells.length)
    (hK : K ⟨putA t o.dst (.lit undef), h.set i (.res (boxR g (cells.take off ++ new ++ cells.drop (off + new.length))))⟩) : AOp P C o ⟨t, h⟩ K := by
  refine AOp.turn (ι := Unit) (Rs := fun _ => boxR g (cells.take off ++ new ++ cells.drop (off + new.length))) (val := fun _ => undef) hi (fun _ => rfl) (fun S ψ w ρ H hR hlt hρ => ?_) fun _ => hK
  have hx' := hρ x (by rw [ho]; simp [Op.operands])
  have hy' := hρ y (by rw [ho]; simp [Op.operands])
  rw [hx] at hx'
  unfold AV.rel at hx'
  obtain ⟨cs, e, hg, hcs⟩ := hR
  obtain ⟨hn, h1⟩ := hp C S ψ w _ H hy'
  have hnl := relL_len hn
  have hcl := relL_len hcs
  have hr := run_storeAt (P := P) (ty := ty) (v := ρ y) (off := off) (w := w) (by rw [SZ.eq (P := P) (ty := ty) (n := n), hnl, hs]) hg (by rw [hnl, List.size_toArray, hcl]; exact hle) h1
  rw [hnl] at hr
  have hgr := grown_setRow w g (cs.take off ++ (ρ y).cells.toList ++ cs.drop (off + new.length)).toArray
  have hblk : ∀ k, S k → (w.setRow g (cs.take off ++ (ρ y).cells.toList ++ cs.drop (off + new.length)).toArray).heap[k]? = w.heap[k]? := fun k hk => setRow_other _ _ _ _ fun e => ((H.blk i _ hi).1 k (show k = g from e)).2.1 hk
  simp only [execOp, ho, hx', Sem.run_bind, hr, Result.andThen_ok, Sem.run_pure, tUpon]
  refine ⟨⟨hgr.os, hgr.tape, hgr.output, hgr.size, fun k hk hn => hgr.block k hk fun e => hn (by injection e)⟩, (), rfl, ⟨_, e, setRow_heap w g _ _ e _ hg, ?_⟩, fun k hk => ?_⟩
  · have hE : Ext w S [] ψ0 (w.setRow g (cs.take off ++ (ρ y).cells.toList ++ cs.drop (off + new.length)).toArray) S [] ψ0 := Ext.grow [] ψ0 hblk fun _ h => h
    exact AV.relL_ext hE _ _ (relL_append (relL_append (relL_take hcs off) (AV.relL_cl _ _ hc hn)) (relL_drop hcs _))
  · have hk : k = g := hk
    subst hk
    have h5 : k < w.heap.size := (Array.getElem?_eq_some_iff.1 hg).1
    exact ⟨.inl rfl, Nat.lt_of_lt_of_le h5 hgr.size⟩
end
end Mu
end
section
/-
  Parts of rows, over abstract states.
  Conditions: none; generic.
-/
namespace Mu
open Go Go.RowKit Go.ChangeShapes Go.WideShapes

/-- a bound that is given, or not -/
def Bnd (d : Nat) : Option Value → Nat → Prop
  | none, n => n = d
  | some v, n => ∃ k, v = .int k (n : Int)
section
variable {P : Program} {C : Ctx} {t : List AV} {h : List ABlk} {o : Oper}
theorem run_sl {ty : TypeId} {sz len cap l m : Nat} {a : Option Addr} {lo hi : Option Value} {w : World} (hs : elemSz P ty = some sz) (hl : Bnd 0 lo l) (hh : Bnd len hi m) (h1 : l ≤ m) (h2 : m ≤ cap) :
    (Instr.sliceAt ty (.slice a len cap) lo hi none).run P w = .ok (.slice (if cap = l then a else a.map (·.add (l * sz))) (m - l) (cap - l)) w := by
  unfold elemSz at hs
  split at hs <;> try (cases hs; done)
  rename_i e hu
  cases hi' : P.info? e with
  | none => rw [hi'] at hs; cases hs
  | some i =>
    rw [hi'] at hs
    simp only [Option.map_some, Option.some.injEq] at hs
    have he : P.elem ty = e := by simp [Program.elem, hu]
    have hu' : P.underlying ty = some (.slice (P.elem ty)) := by rw [he]; exact hu
    have hz : (Go.sizeOf (P.elem ty)).run P w = .ok sz w := by rw [he]; simp [Go.sizeOf, typeInfo, hi', hs]
    rw [run_sliceAt_slice (h := hu')]
    cases lo with
    | none =>
      have hl : l = 0 := hl
      subst hl
      cases hi with
      | none =>
        have hh : m = len := hh
        subst hh
        rw [run_slice_all (ht := hu'), hz]
        simp [sliced]
      | some v =>
        obtain ⟨k, rfl⟩ := hh
        rw [run_slice_h (ht := hu') (h0 := by omega) (h2 := by omega), hz]
        simp [sliced]
    | some u =>
      obtain ⟨ku, rfl⟩ := hl
      cases hi with
      | none =>
        have hh : m = len := hh
        subst hh
        rw [run_slice_l (ht := hu') (h0 := by omega) (h1 := by omega), hz]
        simp [sliced]
      | some v =>
        obtain ⟨k, rfl⟩ := hh
        rw [run_slice_lh (ht := hu') (h0 := by omega) (h1 := by omega) (h2 := by omega), hz]
        simp [sliced]
theorem slice_part {α : Type} {T : Ty α} {w : World} {S : Nat → Prop} {a : Option Addr} {n c l m : Nat} {ds : List α} (h : T.slice.RS w S [.slice a n c] ds) (h1 : l ≤ m) (h2 : m ≤ ds.length) :
    T.slice.RS w S [.slice (if c = l then a else a.map (·.add (l * T.size))) (m - l) (c - l)] ((ds.take m).drop l) := by
  obtain ⟨A, c', e, hle, ⟨hc, hn⟩, hi⟩ := h
  simp only [List.cons.injEq, Value.slice.injEq, and_true] at e
  obtain ⟨rfl, rfl, rfl⟩ := e
  have hlen : ((ds.take m).drop l).length = m - l := by simp; omega
  refine ⟨_, c - l, by rw [hlen], by rw [hlen]; omega, ⟨by omega, fun e => ?_⟩, fun i d hd => ?_⟩
  · split at e
    · rename_i hcl
      omega
    · cases a with
      | none => have := hn rfl; omega
      | some x => simp at e
  · rw [List.getElem?_drop, List.getElem?_take] at hd
    split at hd
    · rename_i hlt
      obtain ⟨b, off, rfl, hat⟩ := hi _ _ hd
      have hne : ¬ c = l := by omega
      refine ⟨b, off + l * T.size, by rw [if_neg hne]; simp [add_plain], ?_⟩
      rw [show off + l * T.size + i * T.size = off + (l + i) * T.size by rw [Nat.add_mul]; omega]
      exact hat
    · cases hd
/-- a bound among the slots -/
def BndA (t : List AV) (d : Nat) : Option Operand → Nat → Prop
  | none, n => n = d
  | some x, n => ∃ k, evA t x = .lit (.int k (n : Int))
theorem BndA.val {d n : Nat} {x : Option Operand} (hb : BndA t d x n) {w : World} {S : Nat → Prop} {ψ : Nat → Value} {ρ : Operand → Value} (hρ : ∀ y, x = some y → AV.rel w S h ψ (evA t y) (ρ y)) : Bnd d (x.map ρ) n := by
  cases x with
  | none => exact hb
  | some y =>
    obtain ⟨k, hk⟩ := hb
    have := hρ y rfl
    rw [hk] at this
    unfold AV.rel at this
    exact ⟨k, this⟩
theorem Quiet.slc {ty : TypeId} {x : Operand} {lo hi : Option Operand} {n l m : Nat} {α : Type} {T : Ty α} {ds : List α} [ES P ty n] (ho : o.op = .slice ty x lo hi none) (hx : evA t x = .bs T ds) (hs : T.size = n) (hl : BndA t 0 lo l) (hm : BndA t ds.length hi m) (h1 : l ≤ m) (h2 : m ≤ ds.length) :
    Quiet P C t h o (.bs T ((ds.take m).drop l)) :=
  Quiet.of_run fun S ψ w ρ H hρ => by
    have hx' := hρ x (by rw [ho]; simp [Op.operands])
    have hlo := hl.val (h := h) (w := w) (S := S) (ψ := ψ) (ρ := ρ) fun y hy => hρ y (by rw [ho, hy]; simp [Op.operands])
    have hhi := hm.val (h := h) (w := w) (S := S) (ψ := ψ) (ρ := ρ) fun y hy => hρ y (by rw [ho, hy]; simp [Op.operands])
    rw [hx] at hx'
    unfold AV.rel at hx'
    obtain ⟨A, c, e⟩ := slice_form hx'
    have hx2 := hx'
    rw [e] at hx2
    have hle : m ≤ c := by
      obtain ⟨A', c', e', h3, _⟩ := hx2
      simp only [List.cons.injEq, Value.slice.injEq, and_true] at e'
      omega
    have hr := run_sl (P := P) (w := w) (a := A) (cap := c) (ES.eq (P := P) (ty := ty) (n := n)) hlo hhi h1 hle
    refine ⟨_, by simp [execOp, ho, e, hr]; rfl, ?_⟩
    unfold AV.rel
    rw [← hs]
    exact slice_part hx2 h1 h2
end
end Mu
end
section
/-
  Steps of a walk whose small goals close by themselves.
  Conditions: none; generic.
-/
namespace Mu
open Go Go.RowKit

section
variable {P : Program} {C : Ctx} {t t' t'' : List AV} {h h' h'' : List ABlk} {o : Oper} {r : AV} {ops : Array Oper} {rest : List Oper} {K : St → Prop}
theorem sSkip (hg : gA ops t o = some false := by rfl) (ht : putA t o.dst (.lit undef) = t' := by ((try simp only [putA, List.set_cons_zero, List.set_cons_succ]); exact rfl)) (hk : aSeq P C ops K rest ⟨t', h⟩) : aSeq P C ops K (o :: rest) ⟨t, h⟩ := by
  subst ht
  exact aSeq_skip hg hk
theorem sNt (ht : t = t' := by ((try simp only [putA, List.set_cons_zero, List.set_cons_succ]); exact rfl)) (hh : h = h' := by ((try simp only [List.nil_append, List.cons_append, List.set_cons_zero, List.set_cons_succ, List.length_nil, List.length_cons, Nat.reduceAdd]); exact rfl)) (hk : aSeq P C ops K rest ⟨t', h'⟩) : aSeq P C ops K rest ⟨t, h⟩ := by
  subst ht hh
  exact hk
theorem nT {c : Code} {Q : Exit → St → Prop} (ht : t = t' := by ((try simp only [putA, List.set_cons_zero, List.set_cons_succ]); exact rfl)) (hh : h = h' := by ((try simp only [List.nil_append, List.cons_append, List.set_cons_zero, List.set_cons_succ, List.length_nil, List.length_cons, Nat.reduceAdd]); exact rfl)) (hk : Awp P C c Q ⟨t', h'⟩) : Awp P C c Q ⟨t, h⟩ := by
  subst ht hh
  exact hk
theorem le_C (hc : Cut h h') (hb : bdH h' = true := by rfl) (hf : Fgt h'.length t t' := by ((try simp only [putA, List.set_cons_zero, List.set_cons_succ]); repeat (first | exact Fgt.nil | refine Fgt.keep rfl ?_ | refine Fgt.any ?_))) (hm : mkD h' = mkD h := by rfl) : St.le C ⟨t, h⟩ ⟨t', h'⟩ := St.le_c hc hb hf hm
theorem tStep {g : Nat} {listed : Array Bool} {s : St} (rs : List Nat) (hh : tAll P C ops K g listed s rs) (hr : Region.ready .any ops listed = rs := by kernel_rfl) (hne : rs ≠ [] := by simp) : tAny P C .any ops K (g + 1) listed s := tAny_step rs hr hne hh
theorem tDone {listed : Array Bool} {s : St} (hh : K s) (hr : Region.ready .any ops listed = [] := by kernel_rfl) : tAny P C .any ops K 0 listed s := tAny_done hr hh
theorem tC {i g : Nat} {listed : Array Bool} {s : St} {rs : List Nat} (h1 : AOp P C o s (tAny P C .any ops K g (listed.setIfInBounds i true))) (h2 : tAll P C ops K g listed s rs) (ho : ops[i]? = some o := by (simp only [List.getElem?_toArray, List.getElem?_cons_succ, List.getElem?_cons_zero]; exact rfl)) (hg : gA ops s.t o = some true := by rfl) : tAll P C ops K g listed s (i :: rs) := tAll_cons ho hg h1 h2
theorem tNt {g : Nat} {listed : Array Bool} (ht : t = t' := by ((try simp only [putA, List.set_cons_zero, List.set_cons_succ]); exact rfl)) (hh : h = h' := by ((try simp only [List.nil_append, List.cons_append, List.set_cons_zero, List.set_cons_succ, List.length_nil, List.length_cons, Nat.reduceAdd]); exact rfl)) (hk : tAny P C .any ops K g listed ⟨t', h'⟩) : tAny P C .any ops K g listed ⟨t, h⟩ := by
  subst ht hh
  exact hk
end
section
variable {P : Program} {C : Ctx}
theorem AOp.weak {o : Oper} {s : St} {K K' : St → Prop} (hk : ∀ s, K s → K' s) (h : AOp P C o s K) : AOp P C o s K' := fun Q' a w H =>
  let ⟨h1, h2⟩ := h Q' a w H
  ⟨h1, Oper.wp_mono (fun _ _ ⟨s', k1, k2⟩ => ⟨s', hk _ k1, k2⟩) h2⟩
theorem aSeq_weak {ops : Array Oper} {K K' : St → Prop} (hk : ∀ s, K s → K' s) : ∀ {l : List Oper} {s : St}, aSeq P C ops K l s → aSeq P C ops K' l s
  | [], s, h => hk s h
  | o :: rest, s, h => by
    obtain ⟨b, hg, ht, hf⟩ := h
    exact ⟨b, hg, fun e => (ht e).weak fun s h => aSeq_weak hk h, fun e => aSeq_weak hk (hf e)⟩
theorem wEnd {ops : Array Oper} {s s' : St} (e : s = s') : aSeq P C ops (fun x => x = s') [] s := e
end
section
variable {P : Program} {C : Ctx} {id : Nat} {l : List Oper} {y : Code} {Q : Exit → St → Prop} {t t' : List AV} {h h' : List ABlk}
end
end Mu
end
section
/-
  Rows written out that have no room behind them: what is appended to them makes a new row.
  Conditions: none; generic.
-/
namespace Mu
open Go Go.RowKit Go.ChangeShapes Go.WideShapes

section
variable {P : Program} {C : Ctx} {t : List AV} {h : List ABlk} {o : Oper}
end
end Mu
end
section
/-
  Operations whose guards are not decided: what they yield is told case by case.
  Conditions: none; generic.
-/
namespace Mu
open Go Go.RowKit

section
variable {P : Program} {C : Ctx} {t t' : List AV} {h : List ABlk} {o : Oper} {r : AV} {ops : Array Oper} {rest : List Oper} {K : St → Prop}
theorem gA_c {j : Nat} {want q c : Bool} (ho : o.guard = some (j, want)) (hd : ((ops[j]?).bind (·.dst)).bind (t[·]?) = some (cond q (.lit (.bool c)) (.lit undef))) : gA ops t o = some (q && (c == want)) := by
  unfold gA
  rw [ho]
  simp only
  rw [hd]
  cases q <;> rfl
theorem aY_g {g : Bool} (hg : gA ops t o = some g) (hq : g = true → Quiet P C t h o r) : aYields P C ops h o (cond g r (.lit undef)) t := by
  cases g with
  | true => exact .inl ⟨hg, hq rfl⟩
  | false => exact .inr ⟨hg, rfl⟩
theorem sG {g : Bool} (hg : gA ops t o = some g := by first | rfl | exact gA_c rfl rfl) (hq : g = true → Quiet P C t h o r := by (intro hg; (try simp only [Bool.and_eq_true, beq_iff_eq] at hg); (try simp only [hg, cond_true, Bool.true_and, beq_self_eq_true]); (first | exact Quiet.pickOr rfl rfl rfl rfl | exact Quiet.pickAnd rfl rfl rfl rfl | exact Quiet.pickOr' rfl rfl rfl rfl | exact Quiet.pickAnd' rfl rfl rfl rfl | exact qt))) (ht : putA t o.dst (cond g r (.lit undef)) = t' := by ((try simp only [putA, List.set_cons_zero, List.set_cons_succ]); exact rfl)) (hk : aSeq P C ops K rest ⟨t', h⟩) : aSeq P C ops K (o :: rest) ⟨t, h⟩ := by
  subst ht
  cases g with
  | true => exact aSeq_q hg (hq rfl) hk
  | false => exact aSeq_skip hg hk
theorem qG {K : List AV → Prop} {g : Bool} (hg : gA ops t o = some g := by first | rfl | exact gA_c rfl rfl) (hq : g = true → Quiet P C t h o r := by (intro hg; (try simp only [Bool.and_eq_true, beq_iff_eq] at hg); (try simp only [hg, cond_true, Bool.true_and, beq_self_eq_true]); (first | exact Quiet.pickOr rfl rfl rfl rfl | exact Quiet.pickAnd rfl rfl rfl rfl | exact Quiet.pickOr' rfl rfl rfl rfl | exact Quiet.pickAnd' rfl rfl rfl rfl | exact qt))) (ht : putA t o.dst (cond g r (.lit undef)) = t' := by ((try simp only [putA, List.set_cons_zero, List.set_cons_succ]); exact rfl)) (hk : aQ P C ops h K rest t') : aQ P C ops h K (o :: rest) t := by
  subst ht
  exact ⟨_, aY_g hg hq, hk⟩
theorem Quiet.pickOr {c a b : Operand} {q e : Bool} (ho : o.op = .pick c a b) (hc : evA t c = .lit (.bool q)) (ha : evA t a = .lit (.bool true)) (hb : evA t b = cond (q == false) (.lit (.bool e)) (.lit undef)) : Quiet P C t h o (.lit (.bool (q || e))) := by
  refine Quiet.pick ho hc ?_
  cases q
  · exact hb
  · exact ha
theorem Quiet.pickAnd {c a b : Operand} {q e : Bool} (ho : o.op = .pick c a b) (hc : evA t c = .lit (.bool q)) (ha : evA t a = cond (q == true) (.lit (.bool e)) (.lit undef)) (hb : evA t b = .lit (.bool false)) : Quiet P C t h o (.lit (.bool (q && e))) := by
  refine Quiet.pick ho hc ?_
  cases q
  · exact hb
  · exact ha
end
section
variable {P : Program} {C : Ctx} {id : Nat} {l : List Oper} {y : Code} {Q : Exit → St → Prop} {t t' : List AV} {h h' : List ABlk}
end
end Mu
end
section
/-
  Texts: length, a byte, the rest of one, whether two are the same.
  Conditions: none; generic.
-/
namespace Mu
open Go Go.RowKit Go.Proofs

class StrT (P : Program) (ty : TypeId) : Prop where
  eq : P.underlying ty = some .string
section
variable {P : Program} {C : Ctx} {o : Oper} {t : List AV} {h : List ABlk}
theorem Quiet.lnS {ty : TypeId} {x : Operand} {s : ByteArray} [StrT P ty] (ho : o.op = .call { callee := .builtin .len, args := #[x], argTypes := #[ty] }) (hx : evA t x = .lit (.string s)) : Quiet P C t h o (.lit (.int .i64 (s.size : Int))) :=
  Quiet.of_run fun S ψ w ρ H hρ => by
    have h1 := hρ x (by simp [ho, Op.operands, Call.operands])
    rw [hx] at h1
    unfold AV.rel at h1
    refine ⟨_, by simp [execOp, ho, resolve, invoke, builtin, h1, run_len_string w ty _ s (StrT.eq (P := P) (ty := ty)), goInt]; rfl, ?_⟩
    unfold AV.rel
    rfl
theorem Quiet.ixS {ty : TypeId} {x y : Operand} {s : ByteArray} {k : Nat} {ik : IntKind} {c : UInt8} [StrT P ty] (ho : o.op = .index ty x y) (hx : evA t x = .lit (.string s)) (hy : evA t y = .lit (.int ik (k : Int))) (hk : s.data.toList[k]? = some c) : Quiet P C t h o (.lit (.int .u8 (c.toNat : Int))) :=
  Quiet.of_run fun S ψ w ρ H hρ => by
    have h1 := hρ x (by simp [ho, Op.operands])
    have h2 := hρ y (by simp [ho, Op.operands])
    rw [hx] at h1
    rw [hy] at h2
    unfold AV.rel at h1 h2
    obtain ⟨hlt, hc⟩ := List.getElem?_eq_some_iff.1 hk
    have hlt' : k < s.size := hlt
    have hr := run_index_string w ty s ik (k : Int) (StrT.eq (P := P) (ty := ty))
    rw [dif_pos ⟨by omega, by omega⟩] at hr
    have e : (s[(k : Int).toNat]'(by simpa using hlt')) = c := by
      rw [← hc]
      rfl
    rw [e] at hr
    exact ⟨_, by simp [execOp, ho, h1, h2, hr]; rfl, by unfold AV.rel; rfl⟩
theorem Quiet.cutS {ty : TypeId} {x y : Operand} {s : ByteArray} {k : Nat} {ik : IntKind} [StrT P ty] (ho : o.op = .slice ty x (some y) none none) (hx : evA t x = .lit (.string s)) (hy : evA t y = .lit (.int ik (k : Int))) (hk : k ≤ s.size) : Quiet P C t h o (.lit (.string (s.extract k s.size))) :=
  Quiet.of_run fun S ψ w ρ H hρ => by
    have h1 := hρ x (by simp [ho, Op.operands])
    have h2 := hρ y (by simp [ho, Op.operands])
    rw [hx] at h1
    rw [hy] at h2
    unfold AV.rel at h1 h2
    have hr := run_slice_string_from_if (P := P) w ty s ik (k : Int) (StrT.eq (P := P) (ty := ty))
    rw [if_pos ⟨by omega, by omega⟩, show ((k : Int).toNat) = k from rfl] at hr
    exact ⟨_, by simp [execOp, ho, h1, h2, run_sliceAt_string (P := P) w ty _ _ _ _ (StrT.eq (P := P) (ty := ty)), hr]; rfl, by unfold AV.rel; rfl⟩
theorem Quiet.eqS {xt yt : TypeId} {x y : Operand} {a b : ByteArray} (ho : o.op = .binOp .eql xt x y yt) (hx : evA t x = .lit (.string a)) (hy : evA t y = .lit (.string b)) : Quiet P C t h o (.lit (.bool (a == b))) :=
  Quiet.of_run fun S ψ w ρ H hρ => by
    have h1 := hρ x (by simp [ho, Op.operands])
    have h2 := hρ y (by simp [ho, Op.operands])
    rw [hx] at h1
    rw [hy] at h2
    unfold AV.rel at h1 h2
    rw [beq_toListBytes]
    exact ⟨_, by simp [execOp, ho, h1, h2, binOp_string_eql]; rfl, by unfold AV.rel; rfl⟩
end
end Mu
end
section
/-
  Bytes: texts as rows of bytes and back.
  Conditions: none; generic.
-/
namespace Mu
open Go Go.RowKit Go.ChangeShapes Go.WideShapes Go.Proofs

class IntT (P : Program) (ty : TypeId) (k : outParam IntKind) : Prop where
  eq : P.underlying ty = some (.int k)
class BoolT (P : Program) (ty : TypeId) : Prop where
  eq : P.underlying ty = some .bool
section
variable {P : Program} {C : Ctx} {o : Oper} {t : List AV} {h : List ABlk}
theorem Quiet.shl {xt yt : TypeId} {x y : Operand} {k q : IntKind} {a b m : Int} (ho : o.op = .binOp .shl xt x y yt) (hx : evA t x = .lit (.int k a)) (hy : evA t y = .lit (.int q b)) (hb : 0 ≤ b) (hm : k.wrap (a * 2 ^ min b.toNat k.bits) = m) : Quiet P C t h o (.lit (.int k m)) :=
  Quiet.of_run fun S ψ w ρ _ hρ => by
    have h1 := hρ x (by simp [ho, Op.operands])
    have h2 := hρ y (by simp [ho, Op.operands])
    rw [hx] at h1
    rw [hy] at h2
    unfold AV.rel at h1 h2
    refine ⟨_, ?_, by unfold AV.rel; rfl⟩
    rw [← hm]
    simp [execOp, ho, h1, h2, eqGuard, binOp_shl, shift_shl_any _ _ _ _ hb]
theorem Quiet.shr {xt yt : TypeId} {x y : Operand} {k q : IntKind} {a b m : Int} (ho : o.op = .binOp .shr xt x y yt) (hx : evA t x = .lit (.int k a)) (hy : evA t y = .lit (.int q b)) (hb : 0 ≤ b) (hm : a / 2 ^ min b.toNat k.bits = m) : Quiet P C t h o (.lit (.int k m)) :=
  Quiet.of_run fun S ψ w ρ _ hρ => by
    have h1 := hρ x (by simp [ho, Op.operands])
    have h2 := hρ y (by simp [ho, Op.operands])
    rw [hx] at h1
    rw [hy] at h2
    unfold AV.rel at h1 h2
    refine ⟨_, ?_, by unfold AV.rel; rfl⟩
    rw [← hm]
    simp [execOp, ho, h1, h2, eqGuard, binOp_shr, shift_shr_any _ _ _ _ hb]
def isBits : BinOp → Bool
  | .and | .or | .xor | .andNot => true
  | _ => false
theorem Quiet.bit {op : BinOp} {xt yt : TypeId} {x y : Operand} {k : IntKind} {a b m : Int} (ho : o.op = .binOp op xt x y yt) (hx : evA t x = .lit (.int k a)) (hy : evA t y = .lit (.int k b)) (hop : isBits op = true) (hm : bits op k a b = m) : Quiet P C t h o (.lit (.int k m)) :=
  Quiet.of_run fun S ψ w ρ _ hρ => by
    have h1 := hρ x (by simp [ho, Op.operands])
    have h2 := hρ y (by simp [ho, Op.operands])
    rw [hx] at h1
    rw [hy] at h2
    unfold AV.rel at h1 h2
    refine ⟨_, ?_, by unfold AV.rel; rfl⟩
    rw [← hm]
    cases op <;> simp only [isBits, Bool.false_eq_true, reduceCtorEq] at hop <;> simp [execOp, ho, h1, h2, eqGuard, binOp_and, binOp_or, binOp_xor, binOp_andNot, intBits_and, intBits_or, intBits_xor, intBits_andNot]
theorem Quiet.cv {src dst : TypeId} {x : Operand} {k q q' : IntKind} {n m : Int} [IntT P src q'] [IntT P dst k] (ho : o.op = .convert src dst x) (hx : evA t x = .lit (.int q n)) (hm : k.wrap n = m) : Quiet P C t h o (.lit (.int k m)) :=
  Quiet.of_run fun S ψ w ρ _ hρ => by
    have h1 := hρ x (by simp [ho, Op.operands])
    rw [hx] at h1
    unfold AV.rel at h1
    have hd : P.underlying dst = some (.int k) := IntT.eq
    have hs : (P.underlying src).isSome = true := by rw [IntT.eq (P := P) (ty := src)]; rfl
    have hk : P.intKind dst = k := by simp [Program.intKind, hd]
    have hr := run_convert_int w src dst q n hs (by rw [hk]; exact hd)
    rw [hk] at hr
    refine ⟨.int k (k.wrap n), ?_, by rw [hm]; unfold AV.rel; rfl⟩
    simp [execOp, ho, h1, hr]
theorem Quiet.neb {xt yt : TypeId} {x y : Operand} {a b q : Bool} [BoolT P xt] (ho : o.op = .binOp .neq xt x y yt) (hx : evA t x = .lit (.bool a)) (hy : evA t y = .lit (.bool b)) (hq : (a != b) = q) : Quiet P C t h o (.lit (.bool q)) :=
  Quiet.of_run fun S ψ w ρ _ hρ => by
    have h1 := hρ x (by simp [ho, Op.operands])
    have h2 := hρ y (by simp [ho, Op.operands])
    rw [hx] at h1
    rw [hy] at h2
    unfold AV.rel at h1 h2
    refine ⟨.bool (a != b), ?_, by rw [hq]; unfold AV.rel; rfl⟩
    simp [execOp, ho, h1, h2, eqGuard, binOp, run_equal_bool _ _ _ _ (BoolT.eq (P := P) (ty := xt)), bne]
theorem Quiet.eqSs {xt yt : TypeId} {x y : Operand} {a : ByteArray} (ho : o.op = .binOp .eql xt x y yt) (hx : evA t x = .lit (.string a)) (hy : evA t y = .lit (.string a)) : Quiet P C t h o (.lit (.bool true)) := by
  have := Quiet.eqS (P := P) (C := C) (h := h) ho hx hy
  rwa [show (a == a) = true from by first | (show (a.data == a.data) = true; exact beq_self_eq_true _) | (cases a; rfl) | (cases a; simp) | exact beq_self_eq_true a] at this
end
instance inMuBytes7 : StrT Tryz.prog 9 := ⟨by kernel_rfl⟩
instance inMuBytes8 : BoolT Tryz.prog 4 := ⟨by kernel_rfl⟩
instance inMuBytes14 : IntT Tryz.prog 21 .i32 := ⟨by kernel_rfl⟩
instance inMuBytes15 : IntT Tryz.prog 2 .i64 := ⟨by kernel_rfl⟩
end Mu
end
section
/-
  Contracts that presuppose something of the world that no call changes (a table that is laid).
  Conditions: none; generic.
-/
namespace Mu
open Go Go.RowKit Go.Proofs

end Mu
end
section
/-
  Calls whose result is a fresh row, kept as one's own; functions that return such a row, or take a row and hand it back.
  Conditions: none; generic.
-/
namespace Mu
open Go Go.RowKit Go.Proofs

section
variable {P : Program} {C : Ctx} {t : List AV} {h : List ABlk} {o : Oper}
def FnOwn (P : Program) (f : FuncId) (args : List AV) (e : TypeId) {α : Type} (T : Ty α) (l : List α) : Prop :=
  Enters P f = true ∧ ∀ (w : World) (S : Nat → Prop) (vs : List Value), (∀ k, S k → k < w.heap.size) → AV.relL w S [] ψ0 args vs →
    Calls P f vs.toArray w fun r w' => ∃ v cells, r = .returned v ∧ Below w.heap.size w w' ∧ w'.ownsRow w.heap.size e T.size v l.length cells ∧ ∀ i d, l[i]? = some d → T.RS w' S ((cells.drop (i * T.size)).take T.size) d
theorem ftp_row {w : World} {e : TypeId} {α : Type} {T : Ty α} {l : List α} {ver base n sz : Nat} {cells : List Value} {v : Value} (hv : w.ownsRow base e sz v n cells) : ∀ g, ftp (some (.row ver e T l)) v g → base ≤ g := fun g hg => by
  obtain ⟨_, ⟨rfl, _⟩ | ⟨g', cap, cur, rfl, hb, _⟩⟩ := hv
  · simp [ftp, blkOf] at hg
  · simp [ftp, blkOf] at hg
    omega
end
end Mu
end
section
/-
  Function values: made, lent to functions, called.
  Conditions: none; generic.
-/
namespace Mu
open Go Go.RowKit Go.Proofs

section
variable {P : Program} {C : Ctx} {o : Oper} {t : List AV} {h : List ABlk}
theorem run_callV {f : FuncId} {x : Operand} {args : Array Operand} {tys : Array TypeId} {cs : Array Value} (ho : o.op = .call { callee := .value x, args := args, argTypes := tys }) (hE : Enters P f = true) (ρ : Operand → Value) (w : World) (hρ : ρ x = .func (.func f) #[] cs) :
    (execOp ρ o).run P w = .ok (.enter f (args.map ρ ++ cs)) w := by
  unfold Enters at hE
  cases hf : P.funcs[f]? with
  | none => rw [hf] at hE; cases hE
  | some fn =>
    rw [hf] at hE
    simp only [Bool.and_eq_true, Bool.not_eq_true'] at hE
    have h1 : ¬ fn.name = "runtime.NumGoroutine" := by simpa using hE.1
    have h2 : ¬ fn.body = none := fun e => by have := hE.2; rw [e] at this; cases this
    simp [execOp, ho, resolve, Deferred.ofValue, hρ, invoke, callFunc, hf, h1, h2]
theorem Quiet.mkFn {f : FuncId} {cap : Array Operand} (ho : o.op = .makeFunc (.func f) #[] cap) : Quiet P C t h o (.fn f (cap.toList.map (evA t))) :=
  Quiet.of_run fun S ψ w ρ H hρ => by
    have hl : AV.relL w S h ψ (cap.toList.map (evA t)) (cap.toList.map ρ) := relL_map fun x hx => hρ x (by rw [ho]; simpa [Op.operands] using hx)
    refine ⟨.func (.func f) #[] (cap.map ρ), by simp [execOp, ho, Instr.makeFunc], ?_⟩
    unfold AV.rel
    exact ⟨_, by rw [← Array.toList_map], hl⟩
/-! ### what is the call's own, lent -/
mutual
inductive LendV (h : List ABlk) : AV → AV → Prop
  | cl {x : AV} (hx : AV.cl x = true) : LendV h x x
  | own {i ver : Nat} {e : TypeId} {α : Type} {T : Ty α} {d : List α} (hi : h[i]? = some (.row ver e T d)) : LendV h (.own i ver) (.bs T d)
  | box {i off : Nat} {cells : List AV} {α : Type} {T : Ty α} {d : α} (hi : h[i]? = some (.box cells)) (hn : ((cells.drop off).take T.size).length = T.size) (hp : ∀ (C : Ctx) (S : Nat → Prop) (ψ : Nat → Value) (w : World) (cs : List Value), HRel C h S ψ w → AV.relL w S h ψ ((cells.drop off).take T.size) cs → T.RS w S cs d) : LendV h (.ptr i off) (.bp T d 0)
  | fn {f : FuncId} {l l' : List AV} (hl : LendL h l l') : LendV h (.fn f l) (.fn f l')
  | fl {f : FuncId} : LendV h (.lit (.func (.func f) #[] #[])) (.fn f [])
inductive LendL (h : List ABlk) : List AV → List AV → Prop
  | nil : LendL h [] []
  | cons {x x' : AV} {l l' : List AV} (hx : LendV h x x') (hl : LendL h l l') : LendL h (x :: l) (x' :: l')
end
mutual
theorem LendV.rel {w : World} {S : Nat → Prop} {ψ : Nat → Value} (H : HRel C h S ψ w) : ∀ {x x' : AV} {v : Value}, LendV h x x' → AV.rel w S h ψ x v → AV.rel w (fun k => k < w.heap.size) [] ψ0 x' v
  | x, _, v, .cl hx, hr => AV.rel_cl _ _ hx (AV.rel_ext (Ext.grow h ψ (fun _ _ => rfl) H.lt : Ext w S h ψ w (fun k => k < w.heap.size) h ψ) _ _ hr)
  | _, _, v, .own (i := i) hi, hr => by
    unfold AV.rel at hr ⊢
    have hv := (hr.2 _ (by rw [hi]; rfl)).2 rfl
    subst hv
    obtain ⟨cells, k1, k0, k2, k3⟩ := H.blk _ _ hi
    exact own_slice k1 (fun i d hd => Ty.keepS _ (k2 i d hd) (fun _ _ => rfl) H.lt) fun g hg => (World.ownsRow.lt k1 g hg).2
  | _, _, v, .box (i := i) (off := off) (cells := cells) (T := T) (d := d) hi hn hp, hr => by
    unfold AV.rel at hr ⊢
    obtain ⟨g, hg, hv⟩ := hr.2 (by rw [hi]; rfl)
    obtain ⟨g', cs, e, hg', _, _, hw, hcs⟩ := H.blk _ _ hi
    rw [hg] at hg'
    cases hg'
    have hlt : g < w.heap.size := (Array.getElem?_eq_some_iff.1 hw).1
    have hl := relL_take (relL_drop hcs off) T.size
    refine ⟨g, off, by rw [hv]; rfl, hlt, (cs.drop off).take T.size, Ty.keepS _ (hp C S ψ w _ H hl) (fun _ _ => rfl) H.lt, fun j u hj => ?_⟩
    rw [List.getElem?_take] at hj
    split at hj
    · rw [List.getElem?_drop] at hj
      have : w.cell? ⟨g, off + 0 + j, none⟩ = some u := by
        unfold World.cell?
        rw [hw]
        simpa using hj
      simpa using this
    · cases hj
  | _, _, v, .fn hl, hr => by
    unfold AV.rel at hr ⊢
    obtain ⟨cs, e, hcs⟩ := hr
    exact ⟨cs, e, LendL.rel H hl hcs⟩
  | _, _, v, .fl, hr => by
    unfold AV.rel at hr ⊢
    exact ⟨[], hr, by unfold AV.relL; rfl⟩
theorem LendL.rel {w : World} {S : Nat → Prop} {ψ : Nat → Value} (H : HRel C h S ψ w) : ∀ {l l' : List AV} {vs : List Value}, LendL h l l' → AV.relL w S h ψ l vs → AV.relL w (fun k => k < w.heap.size) [] ψ0 l' vs
  | _, _, vs, .nil, hr => by
    unfold AV.relL at hr ⊢
    exact hr
  | _, _, vs, .cons hx hl, hr => by
    unfold AV.relL at hr ⊢
    obtain ⟨v, vs', e, h1, h2⟩ := hr
    exact ⟨v, vs', e, LendV.rel H hx h1, LendL.rel H hl h2⟩
end
end
end Mu
end
section
/-
  Whole regions in one step: what a region does is found by the facts that lie at hand.
  Conditions: none; generic.
-/
namespace Mu
open Go Go.RowKit Go.Proofs

section
variable {P : Program} {C : Ctx}
theorem aQ_weak {ops : Array Oper} {h : List ABlk} {K K' : List AV → Prop} (hk : ∀ s, K s → K' s) : ∀ {l : List Oper} {t : List AV}, aQ P C ops h K l t → aQ P C ops h K' l t
  | [], s, h => hk s h
  | o :: rest, t, h => by
    obtain ⟨r, h1, h2⟩ := h
    exact ⟨r, h1, aQ_weak hk h2⟩
theorem Quiet.callA {t : List AV} {h : List ABlk} {o : Oper} {f : FuncId} {args : Array Operand} {tys : Array TypeId} {xs : List AV} {r : AV}
    (ho : o.op = .call { callee := .value (.func f), args := args, argTypes := tys }) (hx : args.toList.map (evA t) = xs) (hF : Fn P f xs r) (hc : AV.clL xs = true) (hr : AV.cl r = true) : Quiet P C t h o r := Quiet.call ho hF hx hc hr
theorem Quiet.pickOrB {t : List AV} {h : List ABlk} {o : Oper} {c a b : Operand} {q e : Bool} (ho : o.op = .pick c a b) (hc : evA t c = .lit (.bool q)) (ha : evA t a = .lit (.bool true)) (hb : evA t b = cond (!q) (.lit (.bool e)) (.lit undef)) : Quiet P C t h o (.lit (.bool (q || e))) :=
  Quiet.pickOr ho hc ha (by rw [hb]; cases q <;> rfl)
theorem Quiet.pickAndB {t : List AV} {h : List ABlk} {o : Oper} {c a b : Operand} {q e : Bool} (ho : o.op = .pick c a b) (hc : evA t c = .lit (.bool q)) (ha : evA t a = cond q (.lit (.bool e)) (.lit undef)) (hb : evA t b = .lit (.bool false)) : Quiet P C t h o (.lit (.bool (q && e))) :=
  Quiet.pickAnd ho hc (by rw [ha]; cases q <;> rfl) hb
section
variable {t t' t'' : List AV} {h h' h'' : List ABlk} {o : Oper} {r : AV} {ops : Array Oper} {rest : List Oper} {K : St → Prop}
theorem qAt (hq : Quiet P C t h o r := by (first
    | exact Quiet.callA rfl rfl (by assumption) rfl rfl
    | exact Quiet.callTA rfl rfl (by assumption) (by assumption) (by assumption) (by assumption) rfl rfl
    | exact Quiet.bin rfl rfl rfl (by assumption)
    | exact Quiet.pickOr rfl rfl rfl rfl
    | exact Quiet.pickAnd rfl rfl rfl rfl
    | exact Quiet.pickOrB rfl rfl rfl rfl
    | exact Quiet.pickAndB rfl rfl rfl rfl
    | exact Quiet.pickOr' rfl rfl rfl rfl
    | exact Quiet.pickAnd' rfl rfl rfl rfl
    | exact Quiet.move rfl (by (conv => lhs; whnf); try rfl)
    | exact Quiet.assign rfl (by (conv => lhs; whnf); try rfl)
    | exact Quiet.fa_ptr rfl rfl rfl
    | exact Quiet.fa_bp rfl rfl
    | exact Quiet.fa_rp rfl rfl rfl
    | exact Quiet.faL rfl rfl
    | exact Quiet.load_ptr rfl rfl rfl rfl
    | exact Quiet.load_bp rfl rfl rfl
    | exact Quiet.load_rp rfl rfl rfl (by assumption) rfl
    | exact Quiet.loadA_ptr rfl rfl rfl rfl
    | exact Quiet.loadA_bp rfl rfl rfl
    | exact Quiet.ix rfl rfl rfl rfl (by assumption)
    | exact Quiet.ixi rfl rfl rfl rfl (by first | decide | omega) (by assumption)
    | exact Quiet.ixo rfl rfl rfl rfl rfl (by first | assumption | omega)
    | exact Quiet.ixoi rfl rfl rfl rfl rfl (by first | decide | omega) (by first | assumption | omega)
    | exact Quiet.ixl0 rfl rfl rfl (by first | assumption | omega)
    | exact Quiet.ln rfl rfl
    | exact Quiet.lno rfl rfl rfl
    | exact Quiet.lnl rfl rfl
    | exact Quiet.add64 rfl rfl rfl (by omega)
    | exact Quiet.sub64 rfl rfl rfl (by omega)
    | exact Quiet.binb rfl rfl rfl rfl (by assumption)
    | exact Quiet.bin rfl rfl rfl rfl
    | exact Quiet.bnot rfl rfl
    | exact Quiet.pick rfl rfl (by (conv => lhs; whnf); try rfl)
    | exact Quiet.extract rfl rfl rfl
    | exact Quiet.lt1 rfl rfl rfl (by rfl) (by decide) (by first | exact Fit.bool | exact Fit.bs | exact Fit.int (by assumption))
    | exact Quiet.max2 rfl rfl rfl
    | exact Quiet.min2 rfl rfl rfl
    | exact Quiet.ldL (i := 0) rfl rfl rfl (by first | rfl | assumption) rfl
    | exact Quiet.ldL (i := 1) rfl rfl rfl (by first | rfl | assumption) rfl
    | exact Quiet.ldL (i := 2) rfl rfl rfl (by first | rfl | assumption) rfl
    | exact Quiet.ldL (i := 3) rfl rfl rfl (by first | rfl | assumption) rfl
    | exact Quiet.ldL (i := 4) rfl rfl rfl (by first | rfl | assumption) rfl
    | exact Quiet.ldL (i := 5) rfl rfl rfl (by first | rfl | assumption) rfl
    | exact Quiet.ldL (i := 6) rfl rfl rfl (by first | rfl | assumption) rfl
    | exact Quiet.ldL (i := 7) rfl rfl rfl (by first | rfl | assumption) rfl
    | exact Quiet.ldL (i := 8) rfl rfl rfl (by first | rfl | assumption) rfl
    | exact Quiet.ldAL (i := 1) rfl rfl rfl rfl rfl
    | exact Quiet.ldAL (i := 2) rfl rfl rfl rfl rfl
    | exact Quiet.ldAL (i := 3) rfl rfl rfl rfl rfl
    | exact Quiet.ldAL (i := 4) rfl rfl rfl rfl rfl
    | exact Quiet.ldAL (i := 5) rfl rfl rfl rfl rfl
    | exact Quiet.ldAL (i := 6) rfl rfl rfl rfl rfl
    | exact Quiet.ldAL (i := 7) rfl rfl rfl rfl rfl
    | exact Quiet.ldAL (i := 8) rfl rfl rfl rfl rfl
    | exact Quiet.eqb rfl rfl rfl (by assumption)
    | exact Quiet.eqb rfl rfl rfl rfl
    | exact Quiet.neb rfl rfl rfl (by assumption)
    | exact Quiet.neb rfl rfl rfl rfl
    | exact Quiet.eqSs rfl rfl rfl
    | exact Quiet.eqS rfl rfl rfl
    | exact Quiet.neS rfl rfl rfl
    | exact Quiet.lnS rfl rfl
    | exact Quiet.ixS rfl rfl rfl (by assumption)
    | exact Quiet.cat rfl rfl rfl (by first | assumption | omega)
    | exact Quiet.cut rfl rfl rfl rfl (by first | assumption | omega) (by first | assumption | omega)
    | exact Quiet.cutS rfl rfl rfl (by first | assumption | omega)
    | exact Quiet.shl rfl rfl rfl (by decide) (by assumption)
    | exact Quiet.shl rfl rfl rfl (by decide) rfl
    | exact Quiet.shr rfl rfl rfl (by decide) (by assumption)
    | exact Quiet.shr rfl rfl rfl (by decide) rfl
    | exact Quiet.bit rfl rfl rfl rfl (by assumption)
    | exact Quiet.bit rfl rfl rfl rfl rfl
    | exact Quiet.mkFn rfl
    | exact Quiet.callV rfl rfl rfl (by assumption) rfl (by first | rfl | assumption) rfl
    | exact Quiet.cv rfl rfl (by assumption)
    | exact Quiet.cv rfl rfl rfl
    | exact Quiet.b2s rfl rfl
    | exact Quiet.s2b rfl rfl (by first | assumption | omega))) : Quiet P C t h o r := hq
theorem sA (hg : gA ops t o = some true := by rfl) (hq : Quiet P C t h o r := by exact qAt) (ht : putA t o.dst r = t' := by ((try simp only [putA, List.set_cons_zero, List.set_cons_succ]); exact rfl)) (hk : aSeq P C ops K rest ⟨t', h⟩) : aSeq P C ops K (o :: rest) ⟨t, h⟩ := by
  subst ht
  exact aSeq_q hg hq hk
theorem qA {K : List AV → Prop} (hg : gA ops t o = some true := by rfl) (hq : Quiet P C t h o r := by exact qAt) (ht : putA t o.dst r = t' := by ((try simp only [putA, List.set_cons_zero, List.set_cons_succ]); exact rfl)) (hk : aQ P C ops h K rest t') : aQ P C ops h K (o :: rest) t := by
  subst ht
  exact aQ_q hg hq hk
end
section
variable {id : Nat} {l l1 l2 : List Oper} {y : Code} {Q : Exit → St → Prop} {t t' t'' : List AV} {h h' : List ABlk}
theorem wR (hx : aSeq P C l.toArray (fun s => s = ⟨t', h'⟩) l ⟨t, h⟩ := by ((repeat (first | refine sA (hk := ?_) | refine sSkip (hk := ?_) | refine sAG (hk := ?_) | refine sOwn (hk := ?_))); exact wEnd rfl)) (hk : Awp P C y Q ⟨t', h'⟩) : Awp P C (.seq (.region id l.toArray false) y) Q ⟨t, h⟩ :=
  Awp.seq fun _ hK => Awp.region (aSeq_weak (fun s e => by subst e; exact hK _ hk) hx)
theorem wRE (hx : aSeq P C l.toArray (fun s => s = ⟨t', h'⟩) l ⟨t, h⟩ := by ((repeat (first | refine sA (hk := ?_) | refine sSkip (hk := ?_) | refine sAG (hk := ?_) | refine sOwn (hk := ?_))); exact wEnd rfl)) (hk : Q .normal ⟨t', h'⟩) : Awp P C (.region id l.toArray false) Q ⟨t, h⟩ :=
  Awp.region (aSeq_weak (fun s e => by subst e; exact hk) hx)
end
theorem le_TA {t t' : List AV} {h : List ABlk} (hb : bdH h = true := by rfl) (hf : Fgt h.length t t' := by ((try simp only [putA, List.set_cons_zero, List.set_cons_succ]); repeat (first | exact Fgt.nil | refine Fgt.keep rfl ?_ | refine Fgt.any ?_ | refine Fgt.keep (by first | assumption | exact bd_of_cl _ _ (by assumption)) ?_))) : St.le C ⟨t, h⟩ ⟨t', h⟩ := St.le_t hb hf
end
end Mu
end
section
/-
  '[]byte("..")': a literal that is marked; what is appended to it makes a new row. A loop's first round apart.
  Conditions: none; generic.
-/
namespace Mu
open Go Go.RowKit Go.ChangeShapes Go.WideShapes Go.Proofs

section
variable {P : Program} {C : Ctx} {t : List AV} {h : List ABlk} {o : Oper} {K : St → Prop}
end
end Mu
end
section
/-
  'append(nil, make([]T, n)...)', capacities and parts of a nil row; an append to a nil row that is only read from then on.
  Conditions: none; generic.
-/
namespace Mu
open Go Go.RowKit Go.ChangeShapes Go.WideShapes Go.Proofs

section
variable {P : Program} {C : Ctx} {t : List AV} {h : List ABlk} {o : Oper} {K : St → Prop}
end
end Mu
end
section
/-
  A contract of a function with two results: an aggregate that it names, and a value.
  Conditions: none; generic.
-/
namespace Mu
open Go Go.RowKit Go.Proofs

section
variable {P : Program}
end
end Mu
end
section
/-
  Rows that fields of a variable hold: a nil field as an empty row of the call's own; such a row is stored; structs with parts left out.
  Conditions: none; generic.
-/
namespace Mu
open Go Go.RowKit Go.ChangeShapes Go.WideShapes Go.Proofs

theorem Quiet.bldP {P : Program} {C : Ctx} {t : List AV} {h : List ABlk} {o : Oper} {ty : TypeId} {parts : Array (Nat × Operand)} {zs : List Value} {pl : List (Nat × Nat)} {rs : List AV} [ZC P ty zs] (ho : o.op = .build ty parts) (hpl : places? P ty = some pl)
    (hr : putCells pl (zs.map .lit) (parts.toList.map fun p => (p.1, evA t p.2)) = some rs) (h1 : (parts.toList.all fun p => litBs (evA t p.2)) = true) : Quiet P C t h o (.agg rs) :=
  Quiet.build ho ZC.eq hpl hr fun p hp => One.litBs (List.all_eq_true.1 h1 p hp)
end Mu
end
section
/-
  Walks that show what a function computes, as a plain function (MuM): loops, ways that meet, rows read and written at any number.
  Conditions: none; generic.
-/
namespace Mu
open Go Go.RowKit Go.Proofs

/-! ### what is read of rows and texts at a number -/
def ixD {α : Type} [Inhabited α] (l : List α) (z : Int) : α := l.getD z.toNat default
def inBd {α : Type} (l : List α) (z : Int) : Bool := decide (0 ≤ z) && decide (z.toNat < l.length)
theorem inB_iff {α : Type} {l : List α} {z : Int} : inBd l z = true ↔ 0 ≤ z ∧ z.toNat < l.length := by unfold inBd; simp
theorem inB_get {α : Type} [Inhabited α] {l : List α} {z : Int} (h : inBd l z = true) : l[z.toNat]? = some (ixD l z) := by
  have h1 := (inB_iff.1 h).2
  unfold ixD
  rw [List.getD_eq_getElem?_getD, List.getElem?_eq_getElem h1]
  rfl
def inSt (s : ByteArray) (z : Int) : Bool := decide (0 ≤ z) && decide (z.toNat < s.size)
def chD (s : ByteArray) (z : Int) : Int := ((s.data.toList.getD z.toNat 0).toNat : Int)
def rowB (n bytes : Nat) : Bool := decide (n ≤ maxLen) && decide (n * bytes ≤ 140737488355328)
def shlV (k : IntKind) (a b : Int) : Int := k.wrap (a * 2 ^ min b.toNat k.bits)
def shrV (k : IntKind) (a b : Int) : Int := a / 2 ^ min b.toNat k.bits
def wfB (k : IntKind) (a : Int) : Bool := (Lit.int k a).wf
theorem rowB_len {n b : Nat} (h : rowB n b = true) : n ≤ maxLen := by unfold rowB at h; simp at h; exact h.1
theorem rowB_bytes {n b : Nat} (h : rowB n b = true) : n * b ≤ 140737488355328 := by unfold rowB at h; simp at h; exact h.2
theorem intBin_quo {k : IntKind} {a b : Int} (h : (b != 0) = true) : intBin .quo k a b = some (.int k (k.wrap (a.tdiv b))) := by
  have : b ≠ 0 := by simpa using h
  unfold intBin
  rw [if_neg this]
theorem intBin_rem {k : IntKind} {a b : Int} (h : (b != 0) = true) : intBin .rem k a b = some (.int k (a.tmod b)) := by
  have : b ≠ 0 := by simpa using h
  show (if b = 0 then none else some (Value.int k (a.tmod b))) = _
  rw [if_neg this]
theorem imp_of {g p : Bool} (h : (!g || p) = true) (hg : g = true) : p = true := by subst hg; simpa using h
theorem and_l {a b : Bool} (h : (a && b) = true) : a = true := by cases a; cases h; rfl
theorem cndA {α : Type 1} {a b : Bool} (h : a = true) (x y : α) : (bif a && b then x else y) = bif b then x else y := by subst h; rfl
theorem cndT {α : Type 1} {b : Bool} (h : b = true) (x y : α) : (bif b then x else y) = x := by subst h; rfl
/-! ### a slot is set, whatever stands in the others -/
theorem set0 {x0 r : AV} {l : List AV} : putA (x0 :: l) (some 0) r = r :: l := rfl
theorem set1 {x0 x1 r : AV} {l : List AV} : putA (x0 :: x1 :: l) (some 1) r = x0 :: r :: l := rfl
theorem set2 {x0 x1 x2 r : AV} {l : List AV} : putA (x0 :: x1 :: x2 :: l) (some 2) r = x0 :: x1 :: r :: l := rfl
theorem set3 {x0 x1 x2 x3 r : AV} {l : List AV} : putA (x0 :: x1 :: x2 :: x3 :: l) (some 3) r = x0 :: x1 :: x2 :: r :: l := rfl
theorem set4 {x0 x1 x2 x3 x4 r : AV} {l : List AV} : putA (x0 :: x1 :: x2 :: x3 :: x4 :: l) (some 4) r = x0 :: x1 :: x2 :: x3 :: r :: l := rfl
theorem set5 {x0 x1 x2 x3 x4 x5 r : AV} {l : List AV} : putA (x0 :: x1 :: x2 :: x3 :: x4 :: x5 :: l) (some 5) r = x0 :: x1 :: x2 :: x3 :: x4 :: r :: l := rfl
theorem set6 {x0 x1 x2 x3 x4 x5 x6 r : AV} {l : List AV} : putA (x0 :: x1 :: x2 :: x3 :: x4 :: x5 :: x6 :: l) (some 6) r = x0 :: x1 :: x2 :: x3 :: x4 :: x5 :: r :: l := rfl
theorem set7 {x0 x1 x2 x3 x4 x5 x6 x7 r : AV} {l : List AV} : putA (x0 :: x1 :: x2 :: x3 :: x4 :: x5 :: x6 :: x7 :: l) (some 7) r = x0 :: x1 :: x2 :: x3 :: x4 :: x5 :: x6 :: r :: l := rfl
theorem setS8 {x0 x1 x2 x3 x4 x5 x6 x7 r : AV} {l l' : List AV} {k : Nat} (e : putA l (some k) r = l') : putA (x0 :: x1 :: x2 :: x3 :: x4 :: x5 :: x6 :: x7 :: l) (some (k + 8)) r = x0 :: x1 :: x2 :: x3 :: x4 :: x5 :: x6 :: x7 :: l' := by subst e; rfl
theorem setS32 {x0 x1 x2 x3 x4 x5 x6 x7 x8 x9 x10 x11 x12 x13 x14 x15 x16 x17 x18 x19 x20 x21 x22 x23 x24 x25 x26 x27 x28 x29 x30 x31 r : AV} {l l' : List AV} {k : Nat} (e : putA l (some k) r = l') : putA (x0 :: x1 :: x2 :: x3 :: x4 :: x5 :: x6 :: x7 :: x8 :: x9 :: x10 :: x11 :: x12 :: x13 :: x14 :: x15 :: x16 :: x17 :: x18 :: x19 :: x20 :: x21 :: x22 :: x23 :: x24 :: x25 :: x26 :: x27 :: x28 :: x29 :: x30 :: x31 :: l) (some (k + 32)) r = x0 :: x1 :: x2 :: x3 :: x4 :: x5 :: x6 :: x7 :: x8 :: x9 :: x10 :: x11 :: x12 :: x13 :: x14 :: x15 :: x16 :: x17 :: x18 :: x19 :: x20 :: x21 :: x22 :: x23 :: x24 :: x25 :: x26 :: x27 :: x28 :: x29 :: x30 :: x31 :: l' := by subst e; rfl
theorem get0 {x0 : AV} {l : List AV} : evA (x0 :: l) (.tmp 0) = x0 := rfl
theorem get1 {x0 x1 : AV} {l : List AV} : evA (x0 :: x1 :: l) (.tmp 1) = x1 := rfl
theorem get2 {x0 x1 x2 : AV} {l : List AV} : evA (x0 :: x1 :: x2 :: l) (.tmp 2) = x2 := rfl
theorem get3 {x0 x1 x2 x3 : AV} {l : List AV} : evA (x0 :: x1 :: x2 :: x3 :: l) (.tmp 3) = x3 := rfl
theorem get4 {x0 x1 x2 x3 x4 : AV} {l : List AV} : evA (x0 :: x1 :: x2 :: x3 :: x4 :: l) (.tmp 4) = x4 := rfl
theorem get5 {x0 x1 x2 x3 x4 x5 : AV} {l : List AV} : evA (x0 :: x1 :: x2 :: x3 :: x4 :: x5 :: l) (.tmp 5) = x5 := rfl
theorem get6 {x0 x1 x2 x3 x4 x5 x6 : AV} {l : List AV} : evA (x0 :: x1 :: x2 :: x3 :: x4 :: x5 :: x6 :: l) (.tmp 6) = x6 := rfl
theorem get7 {x0 x1 x2 x3 x4 x5 x6 x7 : AV} {l : List AV} : evA (x0 :: x1 :: x2 :: x3 :: x4 :: x5 :: x6 :: x7 :: l) (.tmp 7) = x7 := rfl
theorem getS8 {x0 x1 x2 x3 x4 x5 x6 x7 r : AV} {l : List AV} {k : Nat} (e : evA l (.tmp k) = r) : evA (x0 :: x1 :: x2 :: x3 :: x4 :: x5 :: x6 :: x7 :: l) (.tmp (k + 8)) = r := e
theorem getS32 {x0 x1 x2 x3 x4 x5 x6 x7 x8 x9 x10 x11 x12 x13 x14 x15 x16 x17 x18 x19 x20 x21 x22 x23 x24 x25 x26 x27 x28 x29 x30 x31 r : AV} {l : List AV} {k : Nat} (e : evA l (.tmp k) = r) : evA (x0 :: x1 :: x2 :: x3 :: x4 :: x5 :: x6 :: x7 :: x8 :: x9 :: x10 :: x11 :: x12 :: x13 :: x14 :: x15 :: x16 :: x17 :: x18 :: x19 :: x20 :: x21 :: x22 :: x23 :: x24 :: x25 :: x26 :: x27 :: x28 :: x29 :: x30 :: x31 :: l) (.tmp (k + 32)) = r := e
theorem getC {l : List AV} {v : Value} : evA l (.const v) = .lit v := rfl
/-! ### a nil row is an empty one -/
inductive Up : AV → AV → Prop
  | refl (x : AV) : Up x x
  | nil {α : Type} (T : Ty α) : Up (.lit (.slice none 0 0)) (.bs T [])
  | agg {l l' : List AV} : l.length = l'.length → (∀ (i : Nat) (x y : AV), l[i]? = some x → l'[i]? = some y → Up x y) → Up (.agg l) (.agg l')
  | tup {l l' : List AV} : l.length = l'.length → (∀ (i : Nat) (x y : AV), l[i]? = some x → l'[i]? = some y → Up x y) → Up (.tup l) (.tup l')
theorem Up.rel {w : World} {S : Nat → Prop} {h : List ABlk} {ψ : Nat → Value} {x y : AV} (hu : Up x y) : ∀ {v : Value}, AV.rel w S h ψ x v → AV.rel w S h ψ y v := by
  induction hu with
  | refl x => exact fun h => h
  | nil T =>
    intro v H
    unfold AV.rel at H ⊢
    rw [H]
    exact T.slice_nilS _ _
  | @agg l l' hlen hi ih =>
    intro v H
    unfold AV.rel at H ⊢
    obtain ⟨cs, e, hl⟩ := H
    refine ⟨cs, e, relL_of (by rw [relL_len hl, hlen]) fun i y u hy hu => ?_⟩
    have hlt : i < l.length := by rw [hlen]; exact (List.getElem?_eq_some_iff.1 hy).1
    obtain ⟨x, hx⟩ : ∃ x, l[i]? = some x := ⟨_, List.getElem?_eq_getElem hlt⟩
    obtain ⟨u', h1, h2⟩ := relL_get hl hx
    rw [h1] at hu
    cases hu
    exact ih i x y hx hy h2
  | @tup l l' hlen hi ih =>
    intro v H
    unfold AV.rel at H ⊢
    obtain ⟨cs, e, hl⟩ := H
    refine ⟨cs, e, relL_of (by rw [relL_len hl, hlen]) fun i y u hy hu => ?_⟩
    have hlt : i < l.length := by rw [hlen]; exact (List.getElem?_eq_some_iff.1 hy).1
    obtain ⟨x, hx⟩ : ∃ x, l[i]? = some x := ⟨_, List.getElem?_eq_getElem hlt⟩
    obtain ⟨u', h1, h2⟩ := relL_get hl hx
    rw [h1] at hu
    cases hu
    exact ih i x y hx hy h2
inductive UpL : List AV → List AV → Prop
  | nil : UpL [] []
  | cons {x y : AV} {l l' : List AV} : Up x y → UpL l l' → UpL (x :: l) (y :: l')
theorem UpL.len {l l' : List AV} (h : UpL l l') : l.length = l'.length := by
  induction h with
  | nil => rfl
  | cons _ _ ih => simp [ih]
theorem UpL.get {l l' : List AV} (h : UpL l l') : ∀ (i : Nat) (x y : AV), l[i]? = some x → l'[i]? = some y → Up x y := by
  induction h with
  | nil => intro i x y hx; simp at hx
  | cons h1 _ ih =>
    intro i x y hx hy
    cases i with
    | zero => simp at hx hy; subst hx hy; exact h1
    | succ i => exact ih i x y (by simpa using hx) (by simpa using hy)
theorem UpL.rel {w : World} {S : Nat → Prop} {h : List ABlk} {ψ : Nat → Value} {l l' : List AV} (hu : UpL l l') {cs : List Value} (H : AV.relL w S h ψ l cs) : AV.relL w S h ψ l' cs := by
  refine relL_of (by rw [relL_len H, hu.len]) fun i y u hy hv => ?_
  have hlt : i < l.length := by rw [hu.len]; exact (List.getElem?_eq_some_iff.1 hy).1
  obtain ⟨x, hx⟩ : ∃ x, l[i]? = some x := ⟨_, List.getElem?_eq_getElem hlt⟩
  obtain ⟨u', h1, h2⟩ := relL_get H hx
  rw [h1] at hv
  cases hv
  exact (hu.get i x y hx hy).rel h2
theorem Up.ag {l l' : List AV} (h : UpL l l') : Up (.agg l) (.agg l') := .agg h.len h.get
section
variable {P : Program} {C : Ctx} {t t' : List AV} {h h' : List ABlk} {o : Oper}
theorem Quiet.ixM {ty : TypeId} {x y : Operand} {ik : IntKind} {z : Int} {n : Nat} {α : Type} [Inhabited α] {T : Ty α} {l : List α} [ES P ty n] (ho : o.op = .indexAddr ty x y) (hx : evA t x = .bs T l) (hy : evA t y = .lit (.int ik z)) (hs : T.size = n) (hz : inBd l z = true) : Quiet P C t h o (.bp T (ixD l z) 0) :=
  Quiet.ixi ho hx hy hs (inB_iff.1 hz).1 (inB_get hz)
theorem Quiet.ixoM {ty : TypeId} {x y : Operand} {ik : IntKind} {z : Int} {n i ver : Nat} {e : TypeId} {α : Type} {T : Ty α} {l : List α} [ES P ty n] (ho : o.op = .indexAddr ty x y) (hx : evA t x = .own i ver) (hi : h[i]? = some (.row ver e T l)) (hy : evA t y = .lit (.int ik z)) (hs : T.size = n) (hz : inBd l z = true) : Quiet P C t h o (.rp i ver z.toNat 0) :=
  Quiet.ixoi ho hx hi hy hs (inB_iff.1 hz).1 (inB_iff.1 hz).2
theorem Quiet.ixSM {ty : TypeId} {x y : Operand} {s : ByteArray} {z : Int} {ik : IntKind} [StrT P ty] (ho : o.op = .index ty x y) (hx : evA t x = .lit (.string s)) (hy : evA t y = .lit (.int ik z)) (hz : inSt s z = true) : Quiet P C t h o (.lit (.int .u8 (chD s z))) := by
  unfold inSt at hz
  simp only [Bool.and_eq_true, decide_eq_true_eq] at hz
  obtain ⟨h0, h1⟩ := hz
  have e : z = ((z.toNat : Nat) : Int) := by omega
  have h2 : z.toNat < s.data.toList.length := h1
  rw [e] at hy
  have := Quiet.ixS (P := P) (C := C) (h := h) ho hx hy (List.getElem?_eq_getElem h2)
  unfold chD
  rw [List.getD_eq_getElem?_getD, List.getElem?_eq_getElem h2]
  exact this
theorem Quiet.shlM {xt yt : TypeId} {x y : Operand} {k q : IntKind} {a b : Int} (ho : o.op = .binOp .shl xt x y yt) (hx : evA t x = .lit (.int k a)) (hy : evA t y = .lit (.int q b)) (hb : decide (0 ≤ b) = true) : Quiet P C t h o (.lit (.int k (shlV k a b))) := Quiet.shl ho hx hy (of_decide_eq_true hb) rfl
theorem Quiet.shrM {xt yt : TypeId} {x y : Operand} {k q : IntKind} {a b : Int} (ho : o.op = .binOp .shr xt x y yt) (hx : evA t x = .lit (.int k a)) (hy : evA t y = .lit (.int q b)) (hb : decide (0 ≤ b) = true) : Quiet P C t h o (.lit (.int k (shrV k a b))) := Quiet.shr ho hx hy (of_decide_eq_true hb) rfl
theorem Quiet.quoM {xt yt : TypeId} {x y : Operand} {k : IntKind} {a b : Int} (ho : o.op = .binOp .quo xt x y yt) (hx : evA t x = .lit (.int k a)) (hy : evA t y = .lit (.int k b)) (hb : (b != 0) = true) : Quiet P C t h o (.lit (.int k (k.wrap (a.tdiv b)))) := Quiet.bin ho hx hy (intBin_quo hb)
theorem Quiet.remM {xt yt : TypeId} {x y : Operand} {k : IntKind} {a b : Int} (ho : o.op = .binOp .rem xt x y yt) (hx : evA t x = .lit (.int k a)) (hy : evA t y = .lit (.int k b)) (hb : (b != 0) = true) : Quiet P C t h o (.lit (.int k (a.tmod b))) := Quiet.bin ho hx hy (intBin_rem hb)
theorem AOp.appQ {ty : TypeId} {x y : Operand} {i ver : Nat} {e : TypeId} {bytes n : Nat} {α : Type} {T : Ty α} {l l2 : List α} {enc : α → List AV} {K : St → Prop} [RT P ty e n bytes] [EncOf T enc] (ho : o.op = .call { callee := .builtin .append, args := #[x, y], argTypes := #[ty, ty] })
    (hx : evA t x = .own i ver) (hi : h[i]? = some (.row ver e T l)) (hy : evA t y = .bs T l2) (hs : T.size = n) (hb : rowB (l.length + l2.length) bytes = true)
    (hK : K ⟨putA t o.dst (.own i (ver + 1)), h.set i (.row (ver + 1) e T (l ++ l2))⟩) : AOp P C o ⟨t, h⟩ K := AOp.app ho hx hi hy hs (rowB_len hb) (rowB_bytes hb) hK
theorem gA_t {ops : Array Oper} {b : Bool} (hg : gA ops t o = some (b == true)) : gA ops t o = some b := by rw [hg]; cases b <;> rfl
theorem gA_f {ops : Array Oper} {b : Bool} (hg : gA ops t o = some (b == false)) : gA ops t o = some (!b) := by rw [hg]; cases b <;> rfl
theorem gA_tc {ops : Array Oper} {j : Nat} {q c : Bool} (ho : o.guard = some (j, true)) (hd : ((ops[j]?).bind (·.dst)).bind (t[·]?) = some (cond q (.lit (.bool c)) (.lit undef))) : gA ops t o = some (q && c) := by rw [gA_c ho hd]; cases c <;> rfl
theorem gA_fc {ops : Array Oper} {j : Nat} {q c : Bool} (ho : o.guard = some (j, false)) (hd : ((ops[j]?).bind (·.dst)).bind (t[·]?) = some (cond q (.lit (.bool c)) (.lit undef))) : gA ops t o = some (q && !c) := by rw [gA_c ho hd]; cases c <;> rfl
theorem St.le_up (hu : UpL t t') : St.le C ⟨t, h⟩ ⟨t', h⟩ := fun a w ⟨hd, S, ψ, H, hl⟩ => ⟨hd, S, ψ, H, hu.rel hl⟩
theorem upL_refl : ∀ t : List AV, UpL t t
  | [] => .nil
  | x :: t => .cons (.refl x) (upL_refl t)
theorem upL_set : ∀ {t : List AV} {j : Nat} {x y : AV}, t[j]? = some x → Up x y → UpL t (t.set j y)
  | [], _, _, _, h, _ => by simp at h
  | a :: t, 0, x, y, h, hu => by
    simp at h
    subst h
    exact .cons hu (upL_refl t)
  | a :: t, j + 1, x, y, h, hu => .cons (.refl a) (upL_set (t := t) (by simpa using h) hu)
theorem St.le_nb (j : Nat) {α : Type} (T : Ty α) (hj : t[j]? = some (.lit (.slice none 0 0))) (ht : t.set j (.bs T []) = t' := by ((try simp only [List.set_cons_zero, List.set_cons_succ]); exact rfl)) : St.le C ⟨t, h⟩ ⟨t', h⟩ := by
  subst ht
  exact St.le_up (upL_set hj (.nil T))
theorem leC (hc : Cut h h') (hb : bdH h' = true := by rfl) (hf : Fgt h'.length t t' := by ((try simp only [putA, List.set_cons_zero, List.set_cons_succ]); repeat (first | exact Fgt.nil | refine Fgt.keep rfl ?_ | refine Fgt.any ?_ | refine Fgt.keep (by first | assumption | exact bd_of_cl _ _ (by assumption)) ?_))) (hm : mkD h' = mkD h := by rfl) : St.le C ⟨t, h⟩ ⟨t', h'⟩ := St.le_c hc hb hf hm
theorem exN {id : Nat} {Q : Exit → St → Prop} {s : St} (hq : Q .normal s) : ablock id Q (.exit id) s := by
  unfold ablock
  simp [hq]
theorem athen_e {K : St → Prop} {Q : Exit → St → Prop} {id : Nat} {s : St} (hq : Q (.exit id) s) : athen K Q (.exit id) s := hq
theorem abN {id : Nat} {Q : Exit → St → Prop} {s : St} (hq : Q .normal s) : ablock id Q .normal s := hq
theorem asN {Q : Exit → St → Prop} {s : St} (hq : Q .normal s) : ascope Q .normal s := hq
theorem AOp.boxI {elem : TypeId} {x : Operand} {cells : List AV} {K : St → Prop} (i : Nat) (hi : h.length = i) (ho : o.op = .box elem x) (hp : Parts0 h (evA t x) cells) (hK : K ⟨putA t o.dst (.ptr i 0), h ++ [.box cells]⟩) : AOp P C o ⟨t, h⟩ K := by
  subst hi
  exact AOp.box (s := ⟨t, h⟩) ho hp hK
theorem AOp.alI {elem : TypeId} {zs : List Value} {K : St → Prop} [ZC P elem zs] (i : Nat) (hi : h.length = i) (ho : o.op = .alloc elem) (hK : K ⟨putA t o.dst (.ptr i 0), h ++ [.box (zs.map .lit)]⟩) : AOp P C o ⟨t, h⟩ K := by
  subst hi
  exact AOp.al ho hK
theorem AOp.litI {ty e : TypeId} {bytes n : Nat} {parts : Array (Nat × Operand)} {xs : List Operand} {α : Type} {T : Ty α} {ds : List α} {K : St → Prop} (i : Nat) (hi : h.length = i) (ho : o.op = .buildSlice ty n parts) (hp : parts = numbered xs) (hn : n = xs.length)
    (hT : rowTy P ty = some (e, T.size, bytes)) (h0 : 0 < T.size) (hsz : n * T.size ≤ 16777216) (hf : Fits h T (xs.map (evA t)) ds) (hK : K ⟨putA t o.dst (.own i 0), h ++ [.row 0 e T ds]⟩) : AOp P C o ⟨t, h⟩ K := by
  subst hi
  exact AOp.lit (s := ⟨t, h⟩) ho hp hn hT h0 hsz hf hK
theorem sNtM {ops : Array Oper} {rest : List Oper} {K : St → Prop} (ht : t = t' := by exact rfl) (hh : h = h' := by ((try simp only [List.nil_append, List.cons_append, List.set_cons_zero, List.set_cons_succ, List.take_zero, List.take_succ_cons, List.drop_succ_cons, List.drop_zero, List.drop_nil, List.take_nil, List.map_cons, List.map_nil, List.append_nil, List.length_cons, List.length_nil, Nat.zero_add, Nat.reduceAdd]); exact rfl)) (hk : aSeq P C ops K rest ⟨t', h'⟩) : aSeq P C ops K rest ⟨t, h⟩ := by
  subst ht hh
  exact hk
theorem aSeq_via {ops : Array Oper} {K : St → Prop} {rest : List Oper} {s s' : St} (hg : o.guard = none) (hle : St.le C s s') (hk : aSeq P C ops K (o :: rest) s') : aSeq P C ops K (o :: rest) s := by
  obtain ⟨b, h1, h2, h3⟩ := hk
  have e : ∀ t, gA ops t o = some true := fun t => by unfold gA; rw [hg]
  rw [e] at h1
  cases h1
  exact ⟨true, e _, fun _ Q' a w H => h2 rfl Q' a w (hle a w H), fun h => by cases h⟩
theorem Awp.seqJ {x y : Code} {Q : Exit → St → Prop} {s : St} {β : Type} (J : β → Prop) (G : β → St) (hx : Awp P C x (athen (fun s' => ∃ b, J b ∧ St.le C s' (G b)) Q) s) (hy : ∀ b, J b → Awp P C y Q (G b)) : Awp P C (.seq x y) Q s :=
  Awp.seq fun K hK => hx.mono fun e s' q => by
    cases e with
    | normal =>
      obtain ⟨b, hJ, hle⟩ := q
      exact hK s' ((hy b hJ).le hle)
    | _ => exact q
theorem Awp.tailJ {c : Code} {Q : Exit → St → Prop} {s : St} {β : Type} (J : β → Prop) (G : β → St) (hx : Awp P C c (athen (fun s' => ∃ b, J b ∧ St.le C s' (G b)) Q) s) (hy : ∀ b s', J b → St.le C s' (G b) → Q .normal s') : Awp P C c Q s :=
  hx.mono fun e s' q => by
    cases e with
    | normal =>
      obtain ⟨b, hJ, hle⟩ := q
      exact hy b s' hJ hle
    | _ => exact q
theorem Awp.loopM {c : Code} {Q : Exit → St → Prop} {s : St} {σ ρ β : Type} {step : σ → M (σ ⊕ ρ)} {s0 : σ} {r : ρ} (H : (M.loop step s0).to r) (F : σ → β → St) (b0 : β) (h0 : St.le C s (F s0 b0))
    (hr : ∀ s' b x, (step s').to x → (∀ r', x = .inr r' → r' = r) → Awp P C c (athen (fun st => ∃ s'' b', x = .inl s'' ∧ St.le C st (F s'' b')) Q) (F s' b)) : Awp P C (.loop c) Q s := by
  obtain ⟨k, hk⟩ := M.to_loop.1 H
  refine Awp.loop (fun m st => ∃ s' b, st = F s' b ∧ M.Rounds step m s' r) k ⟨_, h0, s0, b0, rfl, hk⟩ ?_
  rintro m st ⟨s', b, rfl, hm⟩
  cases hm with
  | out hx =>
    refine (hr s' b _ hx fun r' e => by cases e; rfl).mono fun e s1 q => ?_
    cases e with
    | normal => obtain ⟨_, _, e, _⟩ := q; cases e
    | _ => exact q
  | on hx hm =>
    refine (hr s' b _ hx fun r' e => by cases e).mono fun e s1 q => ?_
    cases e with
    | normal =>
      obtain ⟨s2, b', e, hle⟩ := q
      cases e
      exact ⟨_, Nat.lt_succ_self _, _, hle, _, b', rfl, hm⟩
    | _ => exact q
end
instance inMuLift1 : Inhabited Ins := ⟨⟨0, 0, 0, 0, 0, 0, [], 0, 0⟩⟩
instance inMuLift2 : Inhabited Block := ⟨⟨⟨#[]⟩, []⟩⟩
instance inMuLift3 : Inhabited Func := ⟨⟨⟨#[]⟩, 0, 0, []⟩⟩
end Mu
end
section
/-
  Operations of a walk in few letters: what stands in slots is found by instances.
  Conditions: none; generic.
-/
namespace Mu
open Go Go.RowKit Go.Proofs

class GA (t : List AV) (x : Operand) (r : outParam AV) : Prop where
  e : evA t x = r
class PA (t : List AV) (d : Option Nat) (r : AV) (t' : outParam (List AV)) : Prop where
  e : putA t d r = t'
instance inMuTok2 {l : List AV} {v : Value} : GA l (.const v) (.lit v) := ⟨rfl⟩
instance inMuTok3 {x0 : AV} {l : List AV} : GA (x0 :: l) (.tmp 0) x0 := ⟨rfl⟩
instance inMuTok4 {x0 x1 : AV} {l : List AV} : GA (x0 :: x1 :: l) (.tmp 1) x1 := ⟨rfl⟩
instance inMuTok5 {x0 x1 x2 : AV} {l : List AV} : GA (x0 :: x1 :: x2 :: l) (.tmp 2) x2 := ⟨rfl⟩
instance inMuTok6 {x0 x1 x2 x3 : AV} {l : List AV} : GA (x0 :: x1 :: x2 :: x3 :: l) (.tmp 3) x3 := ⟨rfl⟩
instance inMuTok7 {x0 x1 x2 x3 x4 : AV} {l : List AV} : GA (x0 :: x1 :: x2 :: x3 :: x4 :: l) (.tmp 4) x4 := ⟨rfl⟩
instance inMuTok8 {x0 x1 x2 x3 x4 x5 : AV} {l : List AV} : GA (x0 :: x1 :: x2 :: x3 :: x4 :: x5 :: l) (.tmp 5) x5 := ⟨rfl⟩
instance inMuTok9 {x0 x1 x2 x3 x4 x5 x6 : AV} {l : List AV} : GA (x0 :: x1 :: x2 :: x3 :: x4 :: x5 :: x6 :: l) (.tmp 6) x6 := ⟨rfl⟩
instance inMuTok10 {x0 x1 x2 x3 x4 x5 x6 x7 : AV} {l : List AV} : GA (x0 :: x1 :: x2 :: x3 :: x4 :: x5 :: x6 :: x7 :: l) (.tmp 7) x7 := ⟨rfl⟩
instance inMuTok11 {x0 x1 x2 x3 x4 x5 x6 x7 r : AV} {l : List AV} {k : Nat} [GA l (.tmp k) r] : GA (x0 :: x1 :: x2 :: x3 :: x4 :: x5 :: x6 :: x7 :: l) (.tmp (k + 8)) r := ⟨getS8 GA.e⟩
instance inMuTok12 {x0 x1 x2 x3 x4 x5 x6 x7 x8 x9 x10 x11 x12 x13 x14 x15 x16 x17 x18 x19 x20 x21 x22 x23 x24 x25 x26 x27 x28 x29 x30 x31 r : AV} {l : List AV} {k : Nat} [GA l (.tmp k) r] : GA (x0 :: x1 :: x2 :: x3 :: x4 :: x5 :: x6 :: x7 :: x8 :: x9 :: x10 :: x11 :: x12 :: x13 :: x14 :: x15 :: x16 :: x17 :: x18 :: x19 :: x20 :: x21 :: x22 :: x23 :: x24 :: x25 :: x26 :: x27 :: x28 :: x29 :: x30 :: x31 :: l) (.tmp (k + 32)) r := ⟨getS32 GA.e⟩
instance inMuTok13 {l : List AV} {r : AV} : PA l none r l := ⟨rfl⟩
instance inMuTok14 {x0 r : AV} {l : List AV} : PA (x0 :: l) (some 0) r (r :: l) := ⟨rfl⟩
instance inMuTok15 {x0 x1 r : AV} {l : List AV} : PA (x0 :: x1 :: l) (some 1) r (x0 :: r :: l) := ⟨rfl⟩
instance inMuTok16 {x0 x1 x2 r : AV} {l : List AV} : PA (x0 :: x1 :: x2 :: l) (some 2) r (x0 :: x1 :: r :: l) := ⟨rfl⟩
instance inMuTok17 {x0 x1 x2 x3 r : AV} {l : List AV} : PA (x0 :: x1 :: x2 :: x3 :: l) (some 3) r (x0 :: x1 :: x2 :: r :: l) := ⟨rfl⟩
instance inMuTok18 {x0 x1 x2 x3 x4 r : AV} {l : List AV} : PA (x0 :: x1 :: x2 :: x3 :: x4 :: l) (some 4) r (x0 :: x1 :: x2 :: x3 :: r :: l) := ⟨rfl⟩
instance inMuTok19 {x0 x1 x2 x3 x4 x5 r : AV} {l : List AV} : PA (x0 :: x1 :: x2 :: x3 :: x4 :: x5 :: l) (some 5) r (x0 :: x1 :: x2 :: x3 :: x4 :: r :: l) := ⟨rfl⟩
instance inMuTok20 {x0 x1 x2 x3 x4 x5 x6 r : AV} {l : List AV} : PA (x0 :: x1 :: x2 :: x3 :: x4 :: x5 :: x6 :: l) (some 6) r (x0 :: x1 :: x2 :: x3 :: x4 :: x5 :: r :: l) := ⟨rfl⟩
instance inMuTok21 {x0 x1 x2 x3 x4 x5 x6 x7 r : AV} {l : List AV} : PA (x0 :: x1 :: x2 :: x3 :: x4 :: x5 :: x6 :: x7 :: l) (some 7) r (x0 :: x1 :: x2 :: x3 :: x4 :: x5 :: x6 :: r :: l) := ⟨rfl⟩
instance inMuTok22 {x0 x1 x2 x3 x4 x5 x6 x7 r : AV} {l l' : List AV} {k : Nat} [PA l (some k) r l'] : PA (x0 :: x1 :: x2 :: x3 :: x4 :: x5 :: x6 :: x7 :: l) (some (k + 8)) r (x0 :: x1 :: x2 :: x3 :: x4 :: x5 :: x6 :: x7 :: l') := ⟨setS8 PA.e⟩
instance inMuTok23 {x0 x1 x2 x3 x4 x5 x6 x7 x8 x9 x10 x11 x12 x13 x14 x15 x16 x17 x18 x19 x20 x21 x22 x23 x24 x25 x26 x27 x28 x29 x30 x31 r : AV} {l l' : List AV} {k : Nat} [PA l (some k) r l'] : PA (x0 :: x1 :: x2 :: x3 :: x4 :: x5 :: x6 :: x7 :: x8 :: x9 :: x10 :: x11 :: x12 :: x13 :: x14 :: x15 :: x16 :: x17 :: x18 :: x19 :: x20 :: x21 :: x22 :: x23 :: x24 :: x25 :: x26 :: x27 :: x28 :: x29 :: x30 :: x31 :: l) (some (k + 32)) r (x0 :: x1 :: x2 :: x3 :: x4 :: x5 :: x6 :: x7 :: x8 :: x9 :: x10 :: x11 :: x12 :: x13 :: x14 :: x15 :: x16 :: x17 :: x18 :: x19 :: x20 :: x21 :: x22 :: x23 :: x24 :: x25 :: x26 :: x27 :: x28 :: x29 :: x30 :: x31 :: l') := ⟨setS32 PA.e⟩
class BI (op : BinOp) (k : IntKind) (a b : Int) (v : outParam Value) : Prop where
  e : intBin op k a b = some v
instance inMuTok24 {k : IntKind} {a b : Int} : BI .add k a b (.int k (k.wrap (a + b))) := ⟨rfl⟩
instance inMuTok25 {k : IntKind} {a b : Int} : BI .sub k a b (.int k (k.wrap (a - b))) := ⟨rfl⟩
instance inMuTok26 {k : IntKind} {a b : Int} : BI .mul k a b (.int k (k.wrap (a * b))) := ⟨rfl⟩
instance inMuTok27 {k : IntKind} {a b : Int} : BI .eql k a b (.bool (a == b)) := ⟨rfl⟩
instance inMuTok28 {k : IntKind} {a b : Int} : BI .neq k a b (.bool (a != b)) := ⟨rfl⟩
instance inMuTok29 {k : IntKind} {a b : Int} : BI .lss k a b (.bool (decide (a < b))) := ⟨rfl⟩
instance inMuTok30 {k : IntKind} {a b : Int} : BI .leq k a b (.bool (decide (a ≤ b))) := ⟨rfl⟩
instance inMuTok31 {k : IntKind} {a b : Int} : BI .gtr k a b (.bool (decide (a > b))) := ⟨rfl⟩
instance inMuTok32 {k : IntKind} {a b : Int} : BI .geq k a b (.bool (decide (a ≥ b))) := ⟨rfl⟩
class HB (h : List ABlk) (i : Nat) (b : outParam ABlk) : Prop where
  e : h[i]? = some b
instance inMuTok33 {b : ABlk} {h : List ABlk} : HB (b :: h) 0 b := ⟨rfl⟩
instance inMuTok34 {b c : ABlk} {h : List ABlk} {i : Nat} [HB h i b] : HB (c :: h) (i + 1) b := ⟨by rw [List.getElem?_cons_succ]; exact HB.e⟩

class LD (l : List AV) (k : Nat) (x : outParam AV) : Prop where
  e : (l.drop k)[0]? = some x
instance inMuTok35 {x : AV} {l : List AV} : LD (x :: l) 0 x := ⟨rfl⟩
instance inMuTok36 {x y : AV} {l : List AV} {k : Nat} [LD l k x] : LD (y :: l) (k + 1) x := ⟨by rw [List.drop_succ_cons]; exact LD.e⟩
class TK (l : List AV) (k n : Nat) (r : outParam (List AV)) : Prop where
  e : (l.drop k).take n = r ∧ r.length = n
instance inMuTok37 {l : List AV} : TK l 0 0 [] := ⟨by simp⟩
instance inMuTok38 {x : AV} {l r : List AV} {n : Nat} [TK l 0 n r] : TK (x :: l) 0 (n + 1) (x :: r) := ⟨by have h := TK.e (l := l) (k := 0) (n := n) (r := r); rw [List.drop_zero] at h; rw [List.drop_zero, List.take_succ_cons, h.1, List.length_cons, h.2]; exact ⟨rfl, rfl⟩⟩
class AD (a b : Nat) (c : outParam Nat) : Prop where
  e : a + b = c
instance inMuTok40 {a b : Nat} : AD a b (a + b) := ⟨rfl⟩
instance inMuTok41 {n : Nat} : AD n 0 n := ⟨rfl⟩
instance inMuTok42 {n : Nat} : AD 0 n n := ⟨Nat.zero_add n⟩
/-- the cells of what is read -/
class EL {α : Type} (T : Ty α) (d : α) (l : outParam (List AV)) : Prop where
  e : ∀ (h : List ABlk) (off : Nat), CellsOf h (.bp T d off) (l.drop off)
instance inMuTok43 {α : Type} {T : Ty α} {d : α} {enc : α → List AV} [EncOf T enc] : EL T d (enc d) := ⟨fun _ _ => CellsOf.bp EncOf.ok⟩
/-- an operation that leaves memory alone: what it yields -/
class QI (P : Program) (C : Ctx) (t : List AV) (h : List ABlk) (op : Op) (r : outParam AV) : Prop where
  e : ∀ (d : Option Nat) (ty : TypeId) (ps : String) (af : Array Go.Edge), Quiet P C t h ⟨d, op, ty, ps, af, none⟩ r
section
variable {P : Program} {C : Ctx} {t t' : List AV} {h h' : List ABlk}
instance inMuTok44 {x : Operand} {r : AV} [GA t x r] : QI P C t h (.move x) r := ⟨fun _ _ _ _ => Quiet.move rfl GA.e⟩
instance inMuTok45 {x : Operand} {r : AV} [GA t x r] : QI P C t h (.assign x) r := ⟨fun _ _ _ _ => Quiet.assign rfl GA.e⟩
instance inMuTok46 {op : BinOp} {xt yt : TypeId} {x z : Operand} {k : IntKind} {a b : Int} {v : Value} [GA t x (.lit (.int k a))] [GA t z (.lit (.int k b))] [BI op k a b v] : QI P C t h (.binOp op xt x z yt) (.lit v) := ⟨fun _ _ _ _ => Quiet.bin rfl GA.e GA.e BI.e⟩
instance inMuTok47 {xt : TypeId} {x : Operand} {b : Bool} [GA t x (.lit (.bool b))] : QI P C t h (.unOp .not xt x) (.lit (.bool (!b))) := ⟨fun _ _ _ _ => Quiet.bnot rfl GA.e⟩
instance inMuTok48 {ty : TypeId} {x : Operand} {n i off : Nat} {r : AV} {cells : List AV} [AG P ty false n] [GA t x (.ptr i off)] [HB h i (.box cells)] [LD cells off r] : QI P C t h (.load ty x) r := ⟨fun _ _ _ _ => Quiet.load_ptr rfl GA.e HB.e LD.e⟩
instance inMuTok49 {ty : TypeId} {x : Operand} {n i off : Nat} {cells r : List AV} [AG P ty true n] [GA t x (.ptr i off)] [HB h i (.box cells)] [TK cells off n r] : QI P C t h (.load ty x) (.agg r) := ⟨fun _ _ _ _ => Quiet.loadA rfl AG.eq GA.e (CellsOf.ptr HB.e) (TK.e (l := cells) (k := off) (n := n) (r := r)).1 (TK.e (l := cells) (k := off) (n := n) (r := r)).2⟩
instance inMuTok50 {ty : TypeId} {x : Operand} {n off : Nat} {r : AV} {α : Type} {T : Ty α} {d : α} {cells : List AV} [AG P ty false n] [GA t x (.bp T d off)] [EL T d cells] [LD cells off r] : QI P C t h (.load ty x) r := ⟨fun _ _ _ _ => Quiet.load1 rfl AG.eq GA.e (EL.e h off) LD.e⟩
instance inMuTok51 {ty : TypeId} {x : Operand} {n off : Nat} {r : List AV} {α : Type} {T : Ty α} {d : α} {cells : List AV} [AG P ty true n] [GA t x (.bp T d off)] [EL T d cells] [TK cells off n r] : QI P C t h (.load ty x) (.agg r) := ⟨fun _ _ _ _ => Quiet.loadA rfl AG.eq GA.e (EL.e h off) (TK.e (l := cells) (k := off) (n := n) (r := r)).1 (TK.e (l := cells) (k := off) (n := n) (r := r)).2⟩
instance inMuTok52 {st : TypeId} {x : Operand} {j n m i off : Nat} {cells : List AV} [FO P st j n] [GA t x (.ptr i off)] [HB h i (.box cells)] [AD off n m] : QI P C t h (.fieldAddr st x j) (.ptr i m) := ⟨fun _ _ _ _ => by rw [← AD.e (a := off) (b := n) (c := m)]; exact Quiet.fa_ptr rfl GA.e HB.e⟩
instance inMuTok53 {st : TypeId} {x : Operand} {j n m off : Nat} {α : Type} {T : Ty α} {d : α} [FO P st j n] [GA t x (.bp T d off)] [AD off n m] : QI P C t h (.fieldAddr st x j) (.bp T d m) := ⟨fun _ _ _ _ => by rw [← AD.e (a := off) (b := n) (c := m)]; exact Quiet.fa_bp rfl GA.e⟩
instance inMuTok54 {ty : TypeId} {x : Operand} {α : Type} {T : Ty α} {l : List α} [SL P ty] [GA t x (.bs T l)] : QI P C t h (.call { callee := .builtin .len, args := #[x], argTypes := #[ty] }) (.lit (.int .i64 (l.length : Int))) := ⟨fun _ _ _ _ => Quiet.ln rfl GA.e⟩
instance inMuTok55 {ty : TypeId} {x : Operand} {i ver : Nat} {e : TypeId} {α : Type} {T : Ty α} {l : List α} [SL P ty] [GA t x (.own i ver)] [HB h i (.row ver e T l)] : QI P C t h (.call { callee := .builtin .len, args := #[x], argTypes := #[ty] }) (.lit (.int .i64 (l.length : Int))) := ⟨fun _ _ _ _ => Quiet.lno rfl GA.e HB.e⟩
instance inMuTok56 {x : Operand} {j : Nat} {xs : List AV} {r : AV} [GA t x (.tup xs)] [LD xs j r] : QI P C t h (.extract x j) r := ⟨fun _ _ _ _ => Quiet.extract rfl GA.e (by rw [← LD.e (l := xs) (k := j) (x := r), List.getElem?_drop, Nat.add_zero])⟩
instance inMuTok57 {c a b : Operand} {q e : Bool} [GA t c (.lit (.bool q))] [GA t a (.lit (.bool true))] [GA t b (cond (!q) (.lit (.bool e)) (.lit undef))] : QI P C t h (.pick c a b) (.lit (.bool (q || e))) := ⟨fun _ _ _ _ => Quiet.pickOrB rfl GA.e GA.e GA.e⟩
instance inMuTok58 {c a b : Operand} {q e : Bool} [GA t c (.lit (.bool q))] [GA t a (cond q (.lit (.bool e)) (.lit undef))] [GA t b (.lit (.bool false))] : QI P C t h (.pick c a b) (.lit (.bool (q && e))) := ⟨fun _ _ _ _ => Quiet.pickAndB rfl GA.e GA.e GA.e⟩
end
section
variable {P : Program} {C : Ctx} {t t' : List AV} {h h' : List ABlk} {ops : Array Oper} {rest l : List Oper} {d : Option Nat} {ty : TypeId} {ps : String} {af : Array Go.Edge} {K : St → Prop} {L : List AV → Prop} {y : Code} {Q : Exit → St → Prop} {id : Nat}
theorem wS (hx : aSeq P C l.toArray (fun s => Awp P C y Q s) l ⟨t, h⟩) : Awp P C (.seq (.region id l.toArray false) y) Q ⟨t, h⟩ := Awp.seq fun _ hK => Awp.region (aSeq_weak (fun _ e => hK _ e) hx)
theorem wSE (hx : aSeq P C l.toArray (Q .normal) l ⟨t, h⟩) : Awp P C (.region id l.toArray false) Q ⟨t, h⟩ := Awp.region hx
theorem wN {s : St} (hk : K s) : aSeq P C ops K [] s := hk
theorem qN (hk : L t) : aQ P C ops h L [] t := hk
theorem sT {op : Op} {r : AV} [QI P C t h op r] [PA t d r t'] (hk : aSeq P C ops K rest ⟨t', h⟩) : aSeq P C ops K (⟨d, op, ty, ps, af, none⟩ :: rest) ⟨t, h⟩ := sA (hg := rfl) (hq := QI.e d ty ps af) (ht := PA.e) (hk := hk)
theorem qT {op : Op} {r : AV} [QI P C t h op r] [PA t d r t'] (hk : aQ P C ops h L rest t') : aQ P C ops h L (⟨d, op, ty, ps, af, none⟩ :: rest) t := qA (hg := rfl) (hq := QI.e d ty ps af) (ht := PA.e) (hk := hk)
theorem sX {st : TypeId} {x z : Operand} {ik : IntKind} {m : Int} {n : Nat} {α : Type} [Inhabited α] {T : Ty α} {l : List α} (hz : inBd l m = true) [GA t x (.bs T l)] [GA t z (.lit (.int ik m))] [ES P st n] [PA t d (.bp T (ixD l m) 0) t'] (hk : aSeq P C ops K rest ⟨t', h⟩) (hs : T.size = n := by exact rfl) : aSeq P C ops K (⟨d, .indexAddr st x z, ty, ps, af, none⟩ :: rest) ⟨t, h⟩ := sA (hg := rfl) (hq := Quiet.ixM rfl GA.e GA.e hs hz) (ht := PA.e) (hk := hk)
theorem qX {st : TypeId} {x z : Operand} {ik : IntKind} {m : Int} {n : Nat} {α : Type} [Inhabited α] {T : Ty α} {l : List α} (hz : inBd l m = true) [GA t x (.bs T l)] [GA t z (.lit (.int ik m))] [ES P st n] [PA t d (.bp T (ixD l m) 0) t'] (hk : aQ P C ops h L rest t') (hs : T.size = n := by exact rfl) : aQ P C ops h L (⟨d, .indexAddr st x z, ty, ps, af, none⟩ :: rest) t := qA (hg := rfl) (hq := Quiet.ixM rfl GA.e GA.e hs hz) (ht := PA.e) (hk := hk)
theorem sC {f : FuncId} {args : Array Operand} {tys : Array TypeId} {xs : List AV} {r : AV} (hF : Fn P f xs r) [PA t d r t'] (hk : aSeq P C ops K rest ⟨t', h⟩) (hx : args.toList.map (evA t) = xs := by exact rfl) (hc : AV.clL xs = true := by exact rfl) (hr : AV.cl r = true := by exact rfl) : aSeq P C ops K (⟨d, .call { callee := .value (.func f), args := args, argTypes := tys }, ty, ps, af, none⟩ :: rest) ⟨t, h⟩ := sA (hg := rfl) (hq := Quiet.callA rfl hx hF hc hr) (ht := PA.e) (hk := hk)
theorem qC {f : FuncId} {args : Array Operand} {tys : Array TypeId} {xs : List AV} {r : AV} (hF : Fn P f xs r) [PA t d r t'] (hk : aQ P C ops h L rest t') (hx : args.toList.map (evA t) = xs := by exact rfl) (hc : AV.clL xs = true := by exact rfl) (hr : AV.cl r = true := by exact rfl) : aQ P C ops h L (⟨d, .call { callee := .value (.func f), args := args, argTypes := tys }, ty, ps, af, none⟩ :: rest) t := qA (hg := rfl) (hq := Quiet.callA rfl hx hF hc hr) (ht := PA.e) (hk := hk)
end
/-! ### guarded operations -/
class GX (g : Bool) (t : List AV) (x : Operand) (r : outParam AV) : Prop where
  e : g = true → evA t x = r
instance inMuTok59 {g : Bool} {t : List AV} {x : Operand} {r : AV} [GA t x r] : GX g t x r := ⟨fun _ => GA.e⟩
instance inMuTok60 {g : Bool} {t : List AV} {x : Operand} {r : AV} [GA t x (cond g r (.lit undef))] : GX g t x r := ⟨fun h => by have e := GA.e (t := t) (x := x) (r := cond g r (.lit undef)); rw [e, h]; rfl⟩
class QG (P : Program) (C : Ctx) (t : List AV) (h : List ABlk) (op : Op) (g : Bool) (r : outParam AV) : Prop where
  e : ∀ (d : Option Nat) (ty : TypeId) (ps : String) (af : Array Go.Edge) (gd : Option (Nat × Bool)), g = true → Quiet P C t h ⟨d, op, ty, ps, af, gd⟩ r
section
variable {P : Program} {C : Ctx} {t t' : List AV} {h h' : List ABlk} {g : Bool}
instance inMuTok61 {x : Operand} {r : AV} [GX g t x r] : QG P C t h (.move x) g r := ⟨fun _ _ _ _ _ hg => Quiet.move rfl (GX.e hg)⟩
instance inMuTok62 {op : BinOp} {xt yt : TypeId} {x z : Operand} {k : IntKind} {a b : Int} {v : Value} [GX g t x (.lit (.int k a))] [GX g t z (.lit (.int k b))] [BI op k a b v] : QG P C t h (.binOp op xt x z yt) g (.lit v) := ⟨fun _ _ _ _ _ hg => Quiet.bin rfl (GX.e hg) (GX.e hg) BI.e⟩
instance inMuTok63 {xt : TypeId} {x : Operand} {b : Bool} [GX g t x (.lit (.bool b))] : QG P C t h (.unOp .not xt x) g (.lit (.bool (!b))) := ⟨fun _ _ _ _ _ hg => Quiet.bnot rfl (GX.e hg)⟩
instance inMuTok64 {ty : TypeId} {x : Operand} {n i off : Nat} {r : AV} {cells : List AV} [AG P ty false n] [GX g t x (.ptr i off)] [HB h i (.box cells)] [LD cells off r] : QG P C t h (.load ty x) g r := ⟨fun _ _ _ _ _ hg => Quiet.load_ptr rfl (GX.e hg) HB.e LD.e⟩
instance inMuTok65 {ty : TypeId} {x : Operand} {n off : Nat} {r : AV} {α : Type} {T : Ty α} {d : α} {cells : List AV} [AG P ty false n] [GX g t x (.bp T d off)] [EL T d cells] [LD cells off r] : QG P C t h (.load ty x) g r := ⟨fun _ _ _ _ _ hg => Quiet.load1 rfl AG.eq (GX.e hg) (EL.e h off) LD.e⟩
instance inMuTok66 {st : TypeId} {x : Operand} {j n m i off : Nat} {cells : List AV} [FO P st j n] [GX g t x (.ptr i off)] [HB h i (.box cells)] [AD off n m] : QG P C t h (.fieldAddr st x j) g (.ptr i m) := ⟨fun _ _ _ _ _ hg => by rw [← AD.e (a := off) (b := n) (c := m)]; exact Quiet.fa_ptr rfl (GX.e hg) HB.e⟩
instance inMuTok67 {st : TypeId} {x : Operand} {j n m off : Nat} {α : Type} {T : Ty α} {d : α} [FO P st j n] [GX g t x (.bp T d off)] [AD off n m] : QG P C t h (.fieldAddr st x j) g (.bp T d m) := ⟨fun _ _ _ _ _ hg => by rw [← AD.e (a := off) (b := n) (c := m)]; exact Quiet.fa_bp rfl (GX.e hg)⟩
instance inMuTok68 {ty : TypeId} {x : Operand} {α : Type} {T : Ty α} {l : List α} [SL P ty] [GX g t x (.bs T l)] : QG P C t h (.call { callee := .builtin .len, args := #[x], argTypes := #[ty] }) g (.lit (.int .i64 (l.length : Int))) := ⟨fun _ _ _ _ _ hg => Quiet.ln rfl (GX.e hg)⟩
end
/-! ### operations that make or write a block -/
class HA (h : List ABlk) (b : ABlk) (i : outParam Nat) (h' : outParam (List ABlk)) : Prop where
  e : h.length = i ∧ h ++ [b] = h'
instance inMuTok69 {b : ABlk} : HA [] b 0 [b] := ⟨rfl, rfl⟩
instance inMuTok70 {b c0 : ABlk} : HA [c0] b 1 [c0, b] := ⟨rfl, rfl⟩
instance inMuTok71 {b c0 c1 : ABlk} : HA [c0, c1] b 2 [c0, c1, b] := ⟨rfl, rfl⟩
instance inMuTok72 {b c0 c1 c2 : ABlk} : HA [c0, c1, c2] b 3 [c0, c1, c2, b] := ⟨rfl, rfl⟩
instance inMuTok73 {b c0 c1 c2 c3 : ABlk} : HA [c0, c1, c2, c3] b 4 [c0, c1, c2, c3, b] := ⟨rfl, rfl⟩
class HS (h : List ABlk) (i : Nat) (b : ABlk) (h' : outParam (List ABlk)) : Prop where
  e : h.set i b = h'
instance inMuTok77 {b c : ABlk} {h : List ABlk} : HS (c :: h) 0 b (b :: h) := ⟨rfl⟩
instance inMuTok78 {b c : ABlk} {h h' : List ABlk} {i : Nat} [HS h i b h'] : HS (c :: h) (i + 1) b (c :: h') := ⟨by rw [List.set_cons_succ, HS.e (h := h) (i := i) (b := b) (h' := h')]⟩
class OneI (h : List ABlk) (x : AV) : Prop where
  e : One h x
instance inMuTok79 {h : List ABlk} {k : IntKind} {n : Int} : OneI h (.lit (.int k n)) := ⟨One.lit rfl⟩
instance inMuTok81 {h : List ABlk} {b : ByteArray} : OneI h (.lit (.string b)) := ⟨One.lit rfl⟩
instance inMuTok82 {h : List ABlk} {a : Option Addr} {n c : Nat} : OneI h (.lit (.slice a n c)) := ⟨One.lit rfl⟩
instance inMuTok83 {h : List ABlk} {α : Type} {T : Ty α} {l : List α} : OneI h (.bs T l) := ⟨One.bs⟩
class AllO (h : List ABlk) (l : List AV) : Prop where
  e : ∀ x ∈ l, One h x
instance inMuTok86 {h : List ABlk} : AllO h [] := ⟨fun _ hx => by cases hx⟩
instance inMuTok87 {h : List ABlk} {x : AV} {l : List AV} [OneI h x] [AllO h l] : AllO h (x :: l) := ⟨fun y hy => by
  rcases List.mem_cons.1 hy with rfl | hy
  · exact OneI.e
  · exact AllO.e (h := h) (l := l) y hy⟩
class PT (h : List ABlk) (y : AV) (new : outParam (List AV)) : Prop where
  e : Parts h y new
instance inMuTok88 {h : List ABlk} {l : List AV} [AllO h l] : PT h (.agg l) l := ⟨Parts.agg AllO.e⟩
instance inMuTok89 {h : List ABlk} {x : AV} [OneI h x] : PT h x [x] := ⟨Parts.one OneI.e⟩
class WR (cells : List AV) (off : Nat) (new : List AV) (r : outParam (List AV)) : Prop where
  e : cells.take off ++ new ++ cells.drop (off + new.length) = r ∧ off + new.length ≤ cells.length
instance inMuTok90 {l : List AV} : WR l 0 [] l := ⟨by simp⟩
instance inMuTok91 {c x : AV} {l new r : List AV} [WR l 0 new r] : WR (c :: l) 0 (x :: new) (x :: r) := ⟨by
  have h := WR.e (cells := l) (off := 0) (new := new) (r := r)
  simp only [List.take_zero, List.nil_append, Nat.zero_add, List.length_cons, List.cons_append, List.drop_succ_cons] at h ⊢
  exact ⟨by rw [h.1], by omega⟩⟩
instance inMuTok92 {c : AV} {l new r : List AV} {k : Nat} [WR l k new r] : WR (c :: l) (k + 1) new (c :: r) := ⟨by
  have h := WR.e (cells := l) (off := k) (new := new) (r := r)
  rw [show k + 1 + new.length = (k + new.length) + 1 by omega, List.take_succ_cons, List.drop_succ_cons, List.cons_append, List.cons_append, h.1, List.length_cons]
  exact ⟨rfl, by omega⟩⟩
class ML (zs : List Value) (l : outParam (List AV)) : Prop where
  e : zs.map AV.lit = l
instance inMuTok1 : ML [] [] := ⟨rfl⟩
instance inMuTok93 {z : Value} {zs : List Value} {l : List AV} [ML zs l] : ML (z :: zs) (.lit z :: l) := ⟨by rw [List.map_cons, ML.e (zs := zs) (l := l)]⟩
section
variable {P : Program} {C : Ctx} {t t' : List AV} {h h' : List ABlk} {ops : Array Oper} {rest l l1 l2 : List Oper} {d : Option Nat} {ty : TypeId} {ps : String} {af : Array Go.Edge} {gd : Option (Nat × Bool)} {K : St → Prop} {L : List AV → Prop} {y : Code} {Q : Exit → St → Prop} {id j : Nat} {g : Bool}
theorem sGt {op : Op} {r : AV} (hg : gA ops t ⟨d, op, ty, ps, af, some (j, true)⟩ = some (g == true)) [QG P C t h op g r] [PA t d (cond g r (.lit undef)) t'] (hk : aSeq P C ops K rest ⟨t', h⟩) : aSeq P C ops K (⟨d, op, ty, ps, af, some (j, true)⟩ :: rest) ⟨t, h⟩ := sG (hg := gA_t hg) (hq := fun hg => QG.e d ty ps af (some (j, true)) hg) (ht := PA.e) (hk := hk)
theorem sGf {op : Op} {r : AV} (hg : gA ops t ⟨d, op, ty, ps, af, some (j, false)⟩ = some (g == false)) [QG P C t h op (!g) r] [PA t d (cond (!g) r (.lit undef)) t'] (hk : aSeq P C ops K rest ⟨t', h⟩) : aSeq P C ops K (⟨d, op, ty, ps, af, some (j, false)⟩ :: rest) ⟨t, h⟩ := sG (hg := gA_f hg) (hq := fun hg => QG.e d ty ps af (some (j, false)) hg) (ht := PA.e) (hk := hk)
theorem qGt {op : Op} {r : AV} (hg : gA ops t ⟨d, op, ty, ps, af, some (j, true)⟩ = some (g == true)) [QG P C t h op g r] [PA t d (cond g r (.lit undef)) t'] (hk : aQ P C ops h L rest t') : aQ P C ops h L (⟨d, op, ty, ps, af, some (j, true)⟩ :: rest) t := qG (hg := gA_t hg) (hq := fun hg => QG.e d ty ps af (some (j, true)) hg) (ht := PA.e) (hk := hk)
theorem qGf {op : Op} {r : AV} (hg : gA ops t ⟨d, op, ty, ps, af, some (j, false)⟩ = some (g == false)) [QG P C t h op (!g) r] [PA t d (cond (!g) r (.lit undef)) t'] (hk : aQ P C ops h L rest t') : aQ P C ops h L (⟨d, op, ty, ps, af, some (j, false)⟩ :: rest) t := qG (hg := gA_f hg) (hq := fun hg => QG.e d ty ps af (some (j, false)) hg) (ht := PA.e) (hk := hk)
theorem sGXt {st : TypeId} {x z : Operand} {ik : IntKind} {m : Int} {n : Nat} {α : Type} [Inhabited α] {T : Ty α} {l : List α} (hg : gA ops t ⟨d, .indexAddr st x z, ty, ps, af, some (j, true)⟩ = some (g == true)) (hz : (!g || inBd l m) = true) [GX g t x (.bs T l)] [GX g t z (.lit (.int ik m))] [ES P st n] [PA t d (cond g (.bp T (ixD l m) 0) (.lit undef)) t'] (hk : aSeq P C ops K rest ⟨t', h⟩) (hs : T.size = n := by exact rfl) : aSeq P C ops K (⟨d, .indexAddr st x z, ty, ps, af, some (j, true)⟩ :: rest) ⟨t, h⟩ := sG (hg := gA_t hg) (hq := fun hg => Quiet.ixM rfl (GX.e hg) (GX.e hg) hs (imp_of hz hg)) (ht := PA.e) (hk := hk)
theorem qGXt {st : TypeId} {x z : Operand} {ik : IntKind} {m : Int} {n : Nat} {α : Type} [Inhabited α] {T : Ty α} {l : List α} (hg : gA ops t ⟨d, .indexAddr st x z, ty, ps, af, some (j, true)⟩ = some (g == true)) (hz : (!g || inBd l m) = true) [GX g t x (.bs T l)] [GX g t z (.lit (.int ik m))] [ES P st n] [PA t d (cond g (.bp T (ixD l m) 0) (.lit undef)) t'] (hk : aQ P C ops h L rest t') (hs : T.size = n := by exact rfl) : aQ P C ops h L (⟨d, .indexAddr st x z, ty, ps, af, some (j, true)⟩ :: rest) t := qG (hg := gA_t hg) (hq := fun hg => Quiet.ixM rfl (GX.e hg) (GX.e hg) hs (imp_of hz hg)) (ht := PA.e) (hk := hk)
theorem sB {elem : TypeId} {x : Operand} {cells : List AV} {i : Nat} [GA t x (.agg cells)] [HA h (.box cells) i h'] [PA t d (.ptr i 0) t'] (hk : aSeq P C ops K rest ⟨t', h'⟩) : aSeq P C ops K (⟨d, .box elem x, ty, ps, af, none⟩ :: rest) ⟨t, h⟩ := aSeq_t rfl (AOp.boxI i (HA.e (b := .box cells) (h' := h')).1 rfl (by rw [GA.e (t := t) (x := x) (r := .agg cells)]; exact Parts0.agg) (by rw [(HA.e (h := h) (b := .box cells) (i := i) (h' := h')).2, PA.e (t := t) (d := d) (r := .ptr i 0) (t' := t')]; exact hk))
theorem sA0 {elem : TypeId} {zs : List Value} {cells : List AV} {i : Nat} [ZC P elem zs] [ML zs cells] [HA h (.box cells) i h'] [PA t d (.ptr i 0) t'] (hk : aSeq P C ops K rest ⟨t', h'⟩) : aSeq P C ops K (⟨d, .alloc elem, ty, ps, af, none⟩ :: rest) ⟨t, h⟩ := aSeq_t rfl (AOp.alI i (HA.e (b := .box cells) (h' := h')).1 rfl (by rw [ML.e (zs := zs) (l := cells), (HA.e (h := h) (b := .box cells) (i := i) (h' := h')).2, PA.e (t := t) (d := d) (r := .ptr i 0) (t' := t')]; exact hk))
theorem sW {sty : TypeId} {x z : Operand} {i off n : Nat} {cells new r : List AV} {v : AV} [SZ P sty n] [GA t x (.ptr i off)] [HB h i (.box cells)] [GA t z v] [PT h v new] [WR cells off new r] [HS h i (.box r) h'] [PA t d (.lit undef) t'] (hk : aSeq P C ops K rest ⟨t', h'⟩) (hs : n = new.length := by exact rfl) : aSeq P C ops K (⟨d, .store sty x z, ty, ps, af, none⟩ :: rest) ⟨t, h⟩ :=
  aSeq_t rfl (AOp.stBox rfl GA.e HB.e (by rw [GA.e (t := t) (x := z) (r := v)]; exact PT.e) hs (WR.e (cells := cells) (off := off) (new := new) (r := r)).2 (by rw [(WR.e (cells := cells) (off := off) (new := new) (r := r)).1, HS.e (h := h) (i := i) (b := .box r) (h' := h'), PA.e (t := t) (d := d) (r := .lit undef) (t' := t')]; exact hk))
theorem sP {at_ : TypeId} {x z : Operand} {i ver : Nat} {e : TypeId} {bytes n : Nat} {α : Type} {T : Ty α} {l l2 : List α} {enc : α → List AV} (hb : rowB (l.length + l2.length) bytes = true) [GA t x (.own i ver)] [HB h i (.row ver e T l)] [GA t z (.bs T l2)] [RT P at_ e n bytes] [EncOf T enc] [HS h i (.row (ver + 1) e T (l ++ l2)) h'] [PA t d (.own i (ver + 1)) t'] (hk : aSeq P C ops K rest ⟨t', h'⟩) (hs : T.size = n := by exact rfl) : aSeq P C ops K (⟨d, .call { callee := .builtin .append, args := #[x, z], argTypes := #[at_, at_] }, ty, ps, af, none⟩ :: rest) ⟨t, h⟩ := aSeq_t rfl (AOp.appQ rfl GA.e HB.e GA.e hs hb (by rw [HS.e (h := h) (i := i) (b := .row (ver + 1) e T (l ++ l2)) (h' := h'), PA.e (t := t) (d := d) (r := .own i (ver + 1)) (t' := t')]; exact hk))
theorem dS (n : Nat) (hm : P.follows .mixedOrders = true := by kernel_rfl) (hB : regB l.toArray n = true := by kernel_rfl) (h1 : l.take n = l1 := by (simp only [List.take_succ_cons, List.take_zero, List.drop_succ_cons, List.drop_zero, List.take_nil, List.drop_nil]; exact rfl)) (h2 : l.drop n = l2 := by (simp only [List.take_succ_cons, List.take_zero, List.drop_succ_cons, List.drop_zero, List.take_nil, List.drop_nil]; exact rfl))
    (hq : aQ P C l.toArray h (fun t => aSeq P C l.toArray (fun s => Awp P C y Q s) l2 ⟨t, h⟩) l1 t) : Awp P C (.seq (.region id l.toArray true) y) Q ⟨t, h⟩ := by
  subst h1 h2
  exact Awp.seq fun _ hK => Awp.draw n hm hB (aQ_weak (fun _ hx => aSeq_weak (fun s e => hK _ e) hx) hq)
theorem dSE (n : Nat) (hm : P.follows .mixedOrders = true := by kernel_rfl) (hB : regB l.toArray n = true := by kernel_rfl) (h1 : l.take n = l1 := by (simp only [List.take_succ_cons, List.take_zero, List.drop_succ_cons, List.drop_zero, List.take_nil, List.drop_nil]; exact rfl)) (h2 : l.drop n = l2 := by (simp only [List.take_succ_cons, List.take_zero, List.drop_succ_cons, List.drop_zero, List.take_nil, List.drop_nil]; exact rfl))
    (hq : aQ P C l.toArray h (fun t => aSeq P C l.toArray (Q .normal) l2 ⟨t, h⟩) l1 t) : Awp P C (.region id l.toArray true) Q ⟨t, h⟩ := by
  subst h1 h2
  exact Awp.draw n hm hB hq
end
end Mu
end
section
/-
  Iterators that make memory of their own: their contract from their walk; a range over one, over abstract states.
  Conditions: outermost; the rounds end normally; what the slots name lies at known places.
-/
namespace Mu
open Go Go.RowKit

/-! ### operations within the fence -/
section
variable {P : Program} {C : Ctx} {t : List AV} {h : List ABlk} {o : Oper}
/-! ### a call of yield -/
end

/-! ### the iterator's contract -/
/-! ### the range -/
end Mu
end
section
/-
  A range over an iterator that makes memory of its own, over abstract states.
  Conditions: outermost; the rounds end normally; what the slots name lies at known places.
-/
namespace Mu
open Go Go.RowKit

section
variable {P : Program}
end
end Mu
end
section
/-
  Iterators that give what nobody knows ahead, in an order that is told only while they run; a range over one.
  Conditions: outermost; the rounds end normally; what the slots name lies at known places.
-/
namespace Mu
open Go Go.RowKit

end Mu
end
section
/-
  Own memory of any form that is taken as two; a row of the call's own as a known value, made of nil and grown.
  Conditions: none; generic.
-/
namespace Mu
open Go Go.RowKit

section
variable {C : Ctx} {t : List AV} {h : List ABlk}
/-- one such memory is taken as two -/
theorem St.le_split {i : Nat} {R R1 R2 : Res} (hi : h[i]? = some (.res R)) (h0 : R.mrk = []) (h1 : R1.mrk = []) (h2 : R2.mrk = []) (hF : ∀ g, R1.F g ∨ R2.F g → R.F g)
    (hR : ∀ w S, R.R w S → R1.R w S ∧ R2.R w S ∧ ∀ g, R1.F g → ¬ R2.F g) : St.le C ⟨t, h⟩ ⟨t, h.set i (.res R1) ++ [.res R2]⟩ := fun a w ⟨hd, S, ψ, H, hl⟩ => by
  have hB := H.blk i _ hi
  have hil := (List.getElem?_eq_some_iff.1 hi).1
  obtain ⟨r1, r2, hdis⟩ := hR w S hB.2
  have hget : ∀ k b, (h.set i (.res R1) ++ [.res R2])[k]? = some b → (k = i ∧ b = .res R1) ∨ (k = h.length ∧ b = .res R2) ∨ (k ≠ i ∧ k ≠ h.length ∧ h[k]? = some b) := fun k b hb => by
    by_cases hkl : k < h.length
    · rw [List.getElem?_append_left (by simpa using hkl)] at hb
      by_cases hki : k = i
      · subst hki
        rw [List.getElem?_set_self hil] at hb
        cases hb
        exact .inl ⟨rfl, rfl⟩
      · rw [List.getElem?_set_ne (Ne.symm hki)] at hb
        exact .inr (.inr ⟨hki, by omega, hb⟩)
    · rw [List.getElem?_append_right (by simpa using hkl)] at hb
      have : k - (h.set i (ABlk.res R1)).length = 0 := by
        rcases Nat.eq_zero_or_pos (k - (h.set i (ABlk.res R1)).length) with e | e
        · exact e
        · rw [List.getElem?_eq_none (show 1 ≤ _ from e)] at hb; cases hb
      rw [this] at hb
      cases hb
      simp only [List.length_set] at this
      exact .inr (.inl ⟨by omega, rfl⟩)
  have X : Ext w S h ψ w S (h.set i (.res R1) ++ [.res R2]) ψ := by
    refine ⟨fun _ _ => rfl, fun _ h => h, by simp, fun k c' hk hv => ?_, fun k hk hv => ?_⟩
    · rw [List.getElem?_append_left (by simpa using hk)] at hv ⊢
      by_cases hki : k = i
      · subst hki
        rw [List.getElem?_set_self hil] at hv
        simp [ABlk.ver] at hv
      · rw [List.getElem?_set_ne (Ne.symm hki)] at hv ⊢
        exact ⟨c', hv, Nat.le_refl _, fun _ => ⟨rfl, rfl⟩⟩
    · rw [List.getElem?_append_left (by simpa using hk)] at hv
      by_cases hki : k = i
      · subst hki
        rw [List.getElem?_set_self hil] at hv
        simp [ABlk.isBox] at hv
      · rw [List.getElem?_set_ne (Ne.symm hki)] at hv
        exact ⟨hv, rfl⟩
  refine ⟨?_, S, ψ, ⟨H.bel, H.nlt, H.lt, H.sub, H.new, fun k b hb => ?_, fun k q hkq hk hq g g1 g2 => ?_⟩, AV.relL_ext X _ _ hl⟩
  · rw [hd]
    show mkD h = _
    rw [mkD_push, mkD_set hi (by show R1.mrk.map mark = R.mrk.map mark; rw [h0, h1])]
    show _ = R2.mrk.map mark ++ _
    rw [h2]
    rfl
  · rcases hget k b hb with ⟨rfl, rfl⟩ | ⟨rfl, rfl⟩ | ⟨_, _, hb⟩
    · exact ⟨fun g hg => hB.1 g (hF g (.inl hg)), r1⟩
    · exact ⟨fun g hg => hB.1 g (hF g (.inr hg)), r2⟩
    · exact (H.blk k b hb).keep X fun g _ => ⟨rfl, fun h => h⟩
  · have key : ∀ k, ABlk.live (h.set i (.res R1) ++ [.res R2])[k]? = true → ftp (h.set i (.res R1) ++ [.res R2])[k]? (ψ k) g → (k = i ∧ R1.F g) ∨ (k = h.length ∧ R2.F g) ∨ (k ≠ i ∧ k ≠ h.length ∧ ABlk.live h[k]? = true ∧ ftp h[k]? (ψ k) g) := fun k k1 k2 => by
      obtain ⟨b, hb⟩ := live_some k1
      rw [hb] at k1 k2
      rcases hget k b hb with ⟨rfl, rfl⟩ | ⟨rfl, rfl⟩ | ⟨q1, q2, hb'⟩
      · exact .inl ⟨rfl, k2⟩
      · exact .inr (.inl ⟨rfl, k2⟩)
      · exact .inr (.inr ⟨q1, q2, by rw [hb']; exact k1, by rw [hb']; exact k2⟩)
    have no : ∀ k, k ≠ i → ABlk.live h[k]? = true → ftp h[k]? (ψ k) g → (R1.F g ∨ R2.F g) → False := fun k q1 q3 q4 q5 =>
      H.dis k i q1 q3 (by rw [hi]; rfl) g q4 (by rw [hi]; exact hF g q5)
    rcases key k hk g1 with ⟨e1, f1⟩ | ⟨e1, f1⟩ | ⟨a1, a2, a3, a4⟩ <;> rcases key q hq g2 with ⟨e2, f2⟩ | ⟨e2, f2⟩ | ⟨b1, b2, b3, b4⟩
    · exact hkq (e1.trans e2.symm)
    · exact hdis g f1 f2
    · exact no q b1 b3 b4 (.inl f1)
    · exact hdis g f2 f1
    · exact hkq (e1.trans e2.symm)
    · exact no q b1 b3 b4 (.inr f1)
    · exact no k a1 a3 a4 (.inl f2)
    · exact no k a1 a3 a4 (.inr f2)
    · exact H.dis k q hkq a3 b3 g a4 b4
end

section
variable {P : Program} {C : Ctx} {t : List AV} {h : List ABlk} {o : Oper} {K : St → Prop}
/-- append to a row of the call's own whose value is known -/
theorem AOp.appendL {ty : TypeId} {x y : Operand} {i : Nat} {v : Value} {e : TypeId} {bytes : Nat} {α : Type} {T : Ty α} {l l2 : List α} (ho : o.op = .call { callee := .builtin .append, args := #[x, y], argTypes := #[ty, ty] }) (hT : rowTy P ty = some (e, T.size, bytes))
    (hx : evA t x = .lit v) (hi : h[i]? = some (.res (rowR v e T l))) (hy : evA t y = .bs T l2) (h1T : One1 T) (hlen : l.length + l2.length ≤ maxLen) (hbytes : (l.length + l2.length) * bytes ≤ 140737488355328)
    (hK : ∀ v', K ⟨putA t o.dst (.lit v'), h.set i (.res (rowR v' e T (l ++ l2)))⟩) : AOp P C o ⟨t, h⟩ K := by
  refine AOp.turn (ι := Value) (Rs := fun v' => rowR v' e T (l ++ l2)) (val := fun v' => v') hi (fun _ => rfl) (fun S ψ w ρ H hRw hlt hρ => ?_) hK
  have hx' := hρ x (by rw [ho]; exact Array.mem_append.2 (.inr (by simp)))
  have hy' := hρ y (by rw [ho]; exact Array.mem_append.2 (.inr (by simp)))
  rw [hx] at hx'
  rw [hy] at hy'
  unfold AV.rel at hx' hy'
  have hdisS : ∀ k, S k → ¬ (rowR v e T l).F k := fun k hk hf => ((H.blk i _ hi).1 k hf).2.1 hk
  obtain ⟨cells, hown, h0, hR⟩ := hRw
  obtain ⟨h1, ti, z, h2, h3, h4, h5, h6⟩ := rowTy_spec hT
  obtain ⟨A, c, hyv⟩ := slice_form hy'
  rw [hyv] at hy'
  obtain ⟨news, hnl, hsrc, hnR, hn1⟩ := slice_src hy' fun cs d hcs => h1T _ _ _ _ hcs
  obtain ⟨v', w', hrun, hown', hgr, hb'⟩ := run_more (P := P) (ty := o.type) (t := ty) (c := c) h1 h2 h3 h4 h5 h6 h0 hown (hsrc w fun _ _ => rfl) hn1 hlen hbytes (Nat.zero_le _)
  have he : (execOp ρ o).run P w = .ok (.value v') w' := by
    unfold execOp
    simp only [ho, resolve, invoke, builtin, Sem.run_bind, Sem.run_pure, Result.andThen_ok, List.map_toArray, List.map_cons, List.map_nil, hx', hyv, hrun]
  rw [he]
  have hbv : ∀ g, blkOf v' = some g → v'.ownBlock = some g := fun g hg => by
    rcases hown'.2 with ⟨e1, _⟩ | ⟨g', cap, cur, e1, _⟩
    · rw [e1] at hg; simp [blkOf] at hg
    · rw [e1] at hg ⊢; simpa [blkOf, Value.ownBlock] using hg
  have hbψ : v.ownBlock = blkOf v := by
    rcases hown.2 with ⟨e1, _⟩ | ⟨g', cap, cur, e1, _⟩ <;> rw [e1] <;> rfl
  rw [hbψ] at hgr hb'
  have hblk : ∀ k, S k → w'.heap[k]? = w.heap[k]? := fun k hk => hgr.block k (H.lt k hk) fun e => hdisS k hk e.symm
  refine ⟨Gr.of_grownBy hgr, v', rfl, ⟨cells ++ news, by rw [List.length_append]; exact hown', h0, fun j d hj => ?_⟩, fun g hg => ⟨?_, (World.ownsRow.lt hown' g (hbv g hg)).2⟩⟩
  · by_cases hjl : j < l.length
    · rw [List.getElem?_append_left hjl] at hj
      rw [join_left hown.1 hjl]
      exact T.keepS (hR j d hj) hblk fun _ h => h
    · rw [List.getElem?_append_right (by omega)] at hj
      obtain ⟨m, rfl⟩ : ∃ m, j = l.length + m := ⟨j - l.length, by omega⟩
      rw [join_right hown.1]
      exact T.keepS (hnR m d (by simpa using hj)) hblk fun _ h => h
  · have hg' := hbv g hg
    rcases hb' with e1 | e1
    · left; rw [e1] at hg'; exact hg'
    · right
      rw [e1] at hg'
      cases hg'
      exact Nat.le_refl _
/-- a row of the call's own whose value is nil -/
theorem St.le_nilL (e : TypeId) {α : Type} (T : Ty α) (h0 : 0 < T.size) : St.le C ⟨t, h⟩ ⟨t, h ++ [.res (rowR (.slice none 0 0) e T [])]⟩ := fun a w ⟨hd, S, ψ, H, hl⟩ => by
  have X : Ext w S h ψ w S (h ++ [.res (rowR (.slice none 0 0) e T [])]) (ψset ψ h.length undef) := Ext.push _ _ fun _ _ => rfl
  have hB : BRel C.N w S (h ++ [.res (rowR (.slice none 0 0) e T [])]) (ψset ψ h.length undef) undef (.res (rowR (.slice none 0 0) e T [])) :=
    ⟨fun g hg => by have hg : blkOf (.slice none 0 0) = some g := hg; simp [blkOf] at hg, [], World.ownsRow_nil _ _ _ _, h0, fun i d hi => by simp at hi⟩
  exact ⟨by rw [hd]; show mkD h = mkD (h ++ [_]); rw [mkD_push]; rfl, S, _, H.push (Below.refl _ _) hB (fun g hg => by have hg : blkOf (.slice none 0 0) = some g := hg; simp [blkOf] at hg), AV.relL_ext X _ _ hl⟩
end
end Mu
end
section
/-
  A function that makes memory of the call's own and holds ranges over functions; contracts that read memory, from those over worlds.
  Conditions: none; generic.
-/
namespace Mu
open Go Go.RowKit

end Mu
end
section
/-
  Functions that turn memory at known places: a contract from its walk; such a function value is called.
  Conditions: none; generic.
-/
namespace Mu
open Go Go.RowKit Go.Proofs

section
variable {P : Program} {C : Ctx} {o : Oper} {t : List AV} {h : List ABlk} {ι : Type} {Rs : ι → Res} {val : ι → Value}
end
end Mu
end
section
/-
  Functions that turn memory at known places: with ranges over functions, and without a result; steps within weaker states.
  Conditions: none; generic.
-/
namespace Mu
open Go Go.RowKit Go.Proofs

theorem AOp.le {P : Program} {C : Ctx} {o : Oper} {s s' : St} {K : St → Prop} (h : St.le C s s') (k : AOp P C o s' K) : AOp P C o s K := fun Q' a w hr => k Q' a w (h a w hr)

section
variable {P : Program} {f : FuncId} {fn : Go.Func} {c : Code} {args : List AV} {ι : Type} {R : Res} {Rs : ι → Res} {val : ι → Value} {t : Tmp} {n : Nat}
theorem turn_start {w : World} {S : Nat → Prop} {vs : List Value} (hm : R.mrk = []) (hSl : ∀ k, S k → k < w.heap.size ∧ ¬ R.F k) (hF : ∀ g, R.F g → g < w.heap.size) (hR : R.R w S) (hr : AV.relL w S [] ψ0 args vs) :
    St.rel ⟨w, S, fun k => k < w.heap.size ∧ ¬ R.F k, none⟩ ⟨args ++ List.replicate (n - args.length) (.lit undef), [.res R]⟩ { tmps := vs.toArray ++ Array.replicate (n - vs.toArray.size) undef, defers := [] } w := by
  obtain ⟨_, S1, ψ, _, hl⟩ := start_rel (n := n) (fun k hk => (hSl k hk).1) hr
  refine ⟨by show [] = mkD [.res R]; simp [mkD, ABlk.mrk, hm], S, ψ0, ⟨Kp.refl _ _, fun k hk => hk.1, fun k hk => (hSl k hk).1, fun _ h => h, fun _ h => .inl h, fun i b hi => ?_, fun i j hij hi hj => ?_⟩, ?_⟩
  · cases i with
    | zero =>
      simp only [List.getElem?_cons_zero, Option.some.injEq] at hi
      subst hi
      exact ⟨fun g hg => ⟨fun hc => hc.2 hg, fun hs => (hSl g hs).2 hg, hF g hg⟩, hR⟩
    | succ i => simp at hi
  · cases i with
    | zero => cases j with
      | zero => exact absurd rfl hij
      | succ j => simp [ABlk.live] at hj
    | succ i => simp [ABlk.live] at hi
  · simp only [Array.toList_append, Array.toList_replicate, List.size_toArray]
    have X : Ext w S [] ψ0 w S [.res R] ψ0 := ⟨fun _ _ => rfl, fun _ h => h, by simp, fun i c' hi => by simp at hi, fun i hi => by simp at hi⟩
    refine relL_append (AV.relL_ext X _ _ hr) (relL_of (by simp [relL_len hr]) fun i x v hx hv => ?_)
    rw [List.getElem?_replicate] at hx hv
    split at hx <;> cases hx
    split at hv <;> cases hv
    unfold AV.rel
    rfl
end
end Mu
end
section
/-
  Two memories of any form as one, and back to their places.
  Conditions: none; generic.
-/
namespace Mu
open Go Go.RowKit

section
variable {C : Ctx} {t : List AV} {h : List ABlk} {A B : Res}
theorem Awp.upto {P : Program} {c : Code} {Q : Exit → St → Prop} {s : St} (H : Awp P C c (fun e s => ∃ s', Q e s' ∧ St.le C s s') s) : Awp P C c Q s := fun a w Hr => wpIn_mono (H a w Hr) fun _ a' w' ⟨_, ⟨s2, h1, h2⟩, r⟩ => ⟨s2, h1, h2 a' w' r⟩
theorem upE {Q : Exit → St → Prop} {e : Exit} {s s' : St} (h : St.le C s s') (q : Q e s') : ∃ s', Q e s' ∧ St.le C s s' := ⟨s', q, h⟩
end
end Mu
end
section
/-
  Operations in few letters: boxes at known places, iterators' yields.
  Conditions: none; generic.
-/
namespace Mu
open Go Go.RowKit Go.Proofs

class CA (x : AV) : Prop where
  e : AV.cl x = true
instance inMuTokL3 {v : Value} : CA (.lit v) := ⟨rfl⟩
instance inMuTokL4 {α : Type} {T : Ty α} {l : List α} : CA (.bs T l) := ⟨rfl⟩
section
variable {P : Program} {C : Ctx} {t t' : List AV} {h h' : List ABlk} {g : Bool}
instance inMuTokL7 {st : TypeId} {x : Operand} {j n b off m : Nat} [FO P st j n] [GA t x (.lit (.pointer (some ⟨b, off, none⟩)))] [AD off n m] : QI P C t h (.fieldAddr st x j) (.lit (.pointer (some ⟨b, m, none⟩))) := ⟨fun _ _ _ _ => by rw [← AD.e (a := off) (b := n) (c := m)]; exact Quiet.faL rfl GA.e⟩
instance inMuTokL9 {st : TypeId} {x : Operand} {j n b off m : Nat} [FO P st j n] [GX g t x (.lit (.pointer (some ⟨b, off, none⟩)))] [AD off n m] : QG P C t h (.fieldAddr st x j) g (.lit (.pointer (some ⟨b, m, none⟩))) := ⟨fun _ _ _ _ _ hg => by rw [← AD.e (a := off) (b := n) (c := m)]; exact Quiet.faL rfl (GX.e hg)⟩
variable {ops : Array Oper} {rest l l1 l2 : List Oper} {d : Option Nat} {ty : TypeId} {ps : String} {af : Array Go.Edge} {K : St → Prop} {y : Code} {Q : Exit → St → Prop} {id j : Nat} {o : Oper} {s : St}
end
end Mu
end
section
/-
  Several memories as one, each of which may be taken out and put back; rows of one's own at known places.
  Conditions: none; generic.
-/
namespace Mu
open Go Go.RowKit Go.Proofs

def Res.emp : Res := ⟨[], fun _ => False, fun _ _ => True, fun _ _ _ _ => trivial⟩
def Res.all (l : List Res) : Res := ⟨[], fun g => ∃ A ∈ l, A.F g, fun w S => (∀ A ∈ l, A.R w S) ∧ ∀ (i j : Nat) (A B : Res), i ≠ j → l[i]? = some A → l[j]? = some B → ∀ g, A.F g → ¬ B.F g, fun h hk hb hs => ⟨fun A hA => A.keep (h.1 A hA) (fun k e => hk k ⟨A, hA, e⟩) hb hs, h.2⟩⟩
section
variable {C : Ctx} {t : List AV} {h : List ABlk} {l : List Res} {R : Res}
/-- one is taken out -/
theorem St.le_take (i k : Nat) (hi : h[i]? = some (.res (.all l))) (hk : l[k]? = some R) (hm : R.mrk = [] := by rfl) : St.le C ⟨t, h⟩ ⟨t, h.set i (.res (.all (l.set k .emp))) ++ [.res R]⟩ := by
  have hkl := (List.getElem?_eq_some_iff.1 hk).1
  have hset : ∀ (i : Nat) (A : Res), (l.set k .emp)[i]? = some A → (i = k ∧ A = .emp) ∨ (i ≠ k ∧ l[i]? = some A) := fun i A hA => by
    by_cases e : i = k
    · subst e
      rw [List.getElem?_set_self hkl] at hA
      exact .inl ⟨rfl, (Option.some.inj hA).symm⟩
    · rw [List.getElem?_set_ne (Ne.symm e)] at hA
      exact .inr ⟨e, hA⟩
  refine St.le_split hi rfl rfl hm (fun g hg => ?_) fun w S ⟨h1, h2⟩ => ⟨⟨fun A hA => ?_, fun i j A B hij hA hB g hg => ?_⟩, h1 R (List.mem_of_getElem? hk), fun g hg hR => ?_⟩
  · rcases hg with ⟨A, hA, hg⟩ | hg
    · rcases List.mem_or_eq_of_mem_set hA with hA | rfl
      · exact ⟨A, hA, hg⟩
      · exact hg.elim
    · exact ⟨R, List.mem_of_getElem? hk, hg⟩
  · rcases List.mem_or_eq_of_mem_set hA with hA | rfl
    · exact h1 A hA
    · trivial
  · rcases hset i A hA with ⟨_, rfl⟩ | ⟨_, hA⟩
    · exact hg.elim
    · rcases hset j B hB with ⟨_, rfl⟩ | ⟨_, hB⟩
      · exact fun h => h
      · exact h2 i j A B hij hA hB g hg
  · obtain ⟨A, hA, hg⟩ := hg
    obtain ⟨i, hA⟩ := List.getElem?_of_mem hA
    rcases hset i A hA with ⟨_, rfl⟩ | ⟨hne, hA⟩
    · exact hg
    · exact h2 i k A R hne hA hk g hg hR
/-- one is put (back) -/
theorem St.le_put (i j k : Nat) (hij : i ≠ j) (hi : h[i]? = some (.res (.all l))) (hj : h[j]? = some (.res R)) (hk : l[k]? = some .emp) (hm : R.mrk = [] := by rfl) : St.le C ⟨t, h⟩ ⟨t, (h.set j .dead).set i (.res (.all (l.set k R)))⟩ := by
  have hkl := (List.getElem?_eq_some_iff.1 hk).1
  have hset : ∀ (i : Nat) (A : Res), (l.set k R)[i]? = some A → (i = k ∧ A = R) ∨ (i ≠ k ∧ l[i]? = some A) := fun i A hA => by
    by_cases e : i = k
    · subst e
      rw [List.getElem?_set_self hkl] at hA
      exact .inl ⟨rfl, (Option.some.inj hA).symm⟩
    · rw [List.getElem?_set_ne (Ne.symm e)] at hA
      exact .inr ⟨e, hA⟩
  refine St.le_merge hij hi hj rfl hm rfl (fun g ⟨A, hA, hg⟩ => ?_) fun w S ⟨h1, h2⟩ h3 h4 => ⟨fun A hA => ?_, fun i j A B hij hA hB g hg => ?_⟩
  · rcases List.mem_or_eq_of_mem_set hA with hA | rfl
    · exact .inl ⟨A, hA, hg⟩
    · exact .inr hg
  · rcases List.mem_or_eq_of_mem_set hA with hA | rfl
    · exact h1 A hA
    · exact h3
  · rcases hset i A hA with ⟨rfl, rfl⟩ | ⟨hi, hA⟩
    · rcases hset j B hB with ⟨e, _⟩ | ⟨_, hB⟩
      · exact absurd e.symm hij
      · exact fun hb => h4 g ⟨B, List.mem_of_getElem? hB, hb⟩ hg
    · rcases hset j B hB with ⟨_, e⟩ | ⟨_, hB⟩
      · rw [e]
        exact h4 g ⟨A, List.mem_of_getElem? hA, hg⟩
      · exact h2 i j A B hij hA hB g hg
/-- another one comes last -/
theorem St.le_push (i j : Nat) (hij : i ≠ j) (hi : h[i]? = some (.res (.all l))) (hj : h[j]? = some (.res R)) (hm : R.mrk = [] := by rfl) : St.le C ⟨t, h⟩ ⟨t, (h.set j .dead).set i (.res (.all (l ++ [R])))⟩ := by
  have hget : ∀ (i : Nat) (A : Res), (l ++ [R])[i]? = some A → (i < l.length ∧ l[i]? = some A) ∨ (i = l.length ∧ A = R) := fun i A hA => by
    by_cases e : i < l.length
    · rw [List.getElem?_append_left e] at hA
      exact .inl ⟨e, hA⟩
    · rw [List.getElem?_append_right (Nat.le_of_not_lt e)] at hA
      have := (List.getElem?_eq_some_iff.1 hA).1
      have e2 : i = l.length := by simp at this; omega
      subst e2
      rw [Nat.sub_self] at hA
      exact .inr ⟨rfl, (Option.some.inj hA).symm⟩
  refine St.le_merge hij hi hj rfl hm rfl (fun g ⟨A, hA, hg⟩ => ?_) fun w S ⟨h1, h2⟩ h3 h4 => ⟨fun A hA => ?_, fun i j A B hij hA hB g hg => ?_⟩
  · rcases List.mem_append.1 hA with hA | hA
    · exact .inl ⟨A, hA, hg⟩
    · rw [List.mem_singleton.1 hA] at hg
      exact .inr hg
  · rcases List.mem_append.1 hA with hA | hA
    · exact h1 A hA
    · rw [List.mem_singleton.1 hA]
      exact h3
  · rcases hget i A hA with ⟨_, hA⟩ | ⟨hi, rfl⟩
    · rcases hget j B hB with ⟨_, hB⟩ | ⟨_, e⟩
      · exact h2 i j A B hij hA hB g hg
      · rw [e]
        exact h4 g ⟨A, List.mem_of_getElem? hA, hg⟩
    · rcases hget j B hB with ⟨_, hB⟩ | ⟨hj, _⟩
      · exact fun hb => h4 g ⟨B, List.mem_of_getElem? hB, hb⟩ hg
      · omega
/-- one alone -/
theorem St.le_one (i : Nat) (hi : h[i]? = some (.res R)) (hm : R.mrk = [] := by rfl) : St.le C ⟨t, h⟩ ⟨t, h.set i (.res (.all [R]))⟩ :=
  St.le_res hi (fun g ⟨A, hA, hg⟩ => by rw [List.mem_singleton.1 hA] at hg; exact hg) (fun w S h => ⟨fun A hA => by rw [List.mem_singleton.1 hA]; exact h, fun i j A B hij hA hB => by
    have h1 := (List.getElem?_eq_some_iff.1 hA).1
    have h2 := (List.getElem?_eq_some_iff.1 hB).1
    simp at h1 h2
    omega⟩) (by rw [hm]; rfl)
end
/-! ### rows at known places -/
abbrev rowL (g c : Nat) (e : TypeId) {α : Type} (T : Ty α) (l : List α) : Res := rowR (.slice (some ⟨g, 0, none⟩) l.length c) e T l
theorem rowL_cells {g c : Nat} {e : TypeId} {α : Type} {T : Ty α} {l : List α} {w : World} {S : Nat → Prop} (h : (rowL g c e T l).R w S) : ∃ cur, w.heap[g]? = some (.cells cur e (0, 0)) ∧ l.length ≤ c ∧ c ≤ maxLen ∧ cur.size = c * T.size ∧ 0 < T.size ∧ ∀ i d, l[i]? = some d → T.RS w S ((cur.toList.drop (i * T.size)).take T.size) d := by
  obtain ⟨cells, hown, h0, hR⟩ := h
  rcases hown.2 with ⟨e3, _⟩ | ⟨g', cap, cur, e3, hb0, hg, hnc, hcm, hsz, htk⟩
  · cases e3
  simp only [Value.slice.injEq, Option.some.injEq, Addr.mk.injEq] at e3
  obtain ⟨⟨rfl, -, -⟩, -, rfl⟩ := e3
  refine ⟨cur, hg, hnc, hcm, hsz, h0, fun i d hd => ?_⟩
  have h1 := hR i d hd
  have hi := (List.getElem?_eq_some_iff.1 hd).1
  have hmul : (i + 1) * T.size ≤ l.length * T.size := Nat.mul_le_mul_right _ hi
  rw [Nat.add_mul, Nat.one_mul] at hmul
  rw [← htk, List.drop_take, List.take_take, show min T.size (l.length * T.size - i * T.size) = T.size by omega] at h1
  exact h1
theorem rowL_of {g c : Nat} {e : TypeId} {α : Type} {T : Ty α} {l : List α} {w : World} {S : Nat → Prop} {cur : Array Value} (hg : w.heap[g]? = some (.cells cur e (0, 0))) (hnc : l.length ≤ c) (hcm : c ≤ maxLen) (hsz : cur.size = c * T.size) (h0 : 0 < T.size)
    (hE : ∀ i d, l[i]? = some d → T.RS w S ((cur.toList.drop (i * T.size)).take T.size) d) : (rowL g c e T l).R w S := by
  have hcap : l.length * T.size ≤ c * T.size := Nat.mul_le_mul_right _ hnc
  refine ⟨cur.toList.take (l.length * T.size), ⟨by rw [List.length_take, Nat.min_eq_left (by show _ ≤ cur.size; rw [hsz]; exact hcap)], .inr ⟨g, c, cur, rfl, Nat.zero_le _, hg, hnc, hcm, hsz, rfl⟩⟩, h0, fun i d hd => ?_⟩
  have hi := (List.getElem?_eq_some_iff.1 hd).1
  have hmul : (i + 1) * T.size ≤ l.length * T.size := Nat.mul_le_mul_right _ hi
  rw [Nat.add_mul, Nat.one_mul] at hmul
  rw [List.drop_take, List.take_take, show min T.size (l.length * T.size - i * T.size) = T.size by omega]
  exact hE i d hd
section
variable {P : Program} {C : Ctx} {t : List AV} {h : List ABlk} {o : Oper} {K : St → Prop} {α : Type} {T : Ty α} {enc : α → List AV} [EncOf T enc] {l : List α} {d : α} {i g c k j off n : Nat} {e ty : TypeId} {x y : Operand}
theorem rowL_at {w : World} {S : Nat → Prop} (hR : (rowL g c e T l).R w S) (hk : l[k]? = some d) {r : AV} (hr : (enc d)[j]? = some r) : ∃ u, w.cell? ⟨g, k * T.size + j, none⟩ = some u ∧ AV.rel w S [] ψ0 r u := by
  obtain ⟨cur, hg, hnc, hcm, hsz, h0, hE⟩ := rowL_cells hR
  obtain ⟨u, h3, h4⟩ := relL_get (EncOf.ok (T := T) (enc := enc) w S [] ψ0 _ d (hE k d hk)) hr
  rw [List.getElem?_take] at h3
  split at h3
  · rw [List.getElem?_drop] at h3
    exact ⟨u, by simpa [World.cell?, hg] using h3, h4⟩
  · cases h3
/-- an element is written, or a part of it -/
theorem AOp.stRL (d' : α) [SZ P ty n] (ho : o.op = .store ty x y) (hx : evA t x = .lit (.pointer (some ⟨g, off, none⟩))) (hi : h[i]? = some (.res (rowL g c e T l))) (hk : l[k]? = some d) (hoff : off = k * T.size + j) (hu : RowUpd h T d j (evA t y) n d')
    (hK : K ⟨putA t o.dst (.lit undef), h.set i (.res (rowL g c e T (l.set k d')))⟩) : AOp P C o ⟨t, h⟩ K := by
  refine AOp.turn (ι := Unit) (Rs := fun _ => rowL g c e T (l.set k d')) (val := fun _ => undef) hi (fun _ => rfl) (fun S ψ w ρ H hR hlt hρ => ?_) fun _ => hK
  subst hoff
  have hx' := hρ x (by rw [ho]; simp [Op.operands])
  have hy' := hρ y (by rw [ho]; simp [Op.operands])
  rw [hx] at hx'
  unfold AV.rel at hx'
  have hgS : ¬ S g := ((H.blk i _ hi).1 g rfl).2.1
  obtain ⟨cur, hg, hnc, hcm, hsz, h0, hE⟩ := rowL_cells hR
  obtain ⟨hn, hle, h1, hnew⟩ := hu C S ψ w _ _ H hy' (hE k d hk)
  have hkl : k < l.length := (List.getElem?_eq_some_iff.1 hk).1
  have hmul : (k + 1) * T.size ≤ c * T.size := Nat.mul_le_mul_right _ (by omega)
  rw [Nat.add_mul, Nat.one_mul] at hmul
  have hr := run_storeAt (P := P) (ty := ty) (v := ρ y) (off := k * T.size + j) (w := w) (by rw [SZ.eq (P := P) (ty := ty) (n := n), hn]) hg (by rw [hn, hsz]; omega) h1
  rw [hn] at hr
  obtain ⟨vs, hvs⟩ : ∃ vs : List Value, vs = (ρ y).cells.toList := ⟨_, rfl⟩
  rw [← hvs] at hn h1 hnew hr
  have hex : (execOp ρ o).run P w = .ok .skip (w.setRow g (cur.toList.take (k * T.size + j) ++ vs ++ cur.toList.drop (k * T.size + j + n)).toArray) := by
    simp only [execOp, ho, hx', Sem.run_bind, hr, Result.andThen_ok, Sem.run_pure]
  rw [hex]
  have hgr := grown_setRow w g (cur.toList.take (k * T.size + j) ++ vs ++ cur.toList.drop (k * T.size + j + n)).toArray
  have hblk : ∀ q, S q → (w.setRow g (cur.toList.take (k * T.size + j) ++ vs ++ cur.toList.drop (k * T.size + j + n)).toArray).heap[q]? = w.heap[q]? := fun q hq => setRow_other _ _ _ _ fun e => hgS (by rw [← e]; exact hq)
  refine ⟨⟨hgr.os, hgr.tape, hgr.output, hgr.size, fun q hq hno => hgr.block q hq fun e => hno (by injection e with e; exact congrArg some e.symm)⟩, (), rfl, ?_, fun q hq => ⟨.inl hq, Nat.lt_of_lt_of_le (hlt q hq) hgr.size⟩⟩
  show (rowR (.slice (some ⟨g, 0, none⟩) (l.set k d').length c) e T (l.set k d')).R _ _
  refine rowL_of (setRow_heap w g _ _ e _ hg) (by rw [List.length_set]; exact hnc) hcm (by simp [hn, hsz]; omega) h0 fun q d1 hq => ?_
  by_cases hqk : q = k
  · subst hqk
    rw [List.getElem?_set_self hkl] at hq
    cases hq
    rw [List.toList_toArray, splice_at hn hle (by simp [hsz]; omega)]
    exact T.keepS hnew hblk fun _ h => h
  · rw [List.getElem?_set_ne (Ne.symm hqk)] at hq
    rw [List.toList_toArray, splice_ne hn hle (by simp [hsz]; omega) hqk]
    exact T.keepS (hE q d1 hq) hblk fun _ h => h
end
/-! ### rows of cells of any form -/
theorem clL_iff : ∀ {l : List AV}, AV.clL l = true ↔ ∀ x ∈ l, AV.cl x = true
  | [] => by unfold AV.clL; simp
  | x :: l => by
    unfold AV.clL
    rw [Bool.and_eq_true, clL_iff]
    simp
/-- a cell: a value, or data that are only read -/
inductive Cl
  | v (x : Value)
  | is (l : List Int)
  | xs (l : List Ins)
  | bs (l : List Block)
@[reducible] def Cl.av : Cl → AV
  | .v x => .lit x
  | .is l => .bs tInt l
  | .xs l => .bs tIns l
  | .bs l => .bs tBlock l
theorem Cl.cl (x : Cl) : AV.cl x.av = true := by cases x <;> rfl
theorem Cl.clL (l : List Cl) : AV.clL (l.map Cl.av) = true := clL_iff.2 fun x hx => by
  obtain ⟨y, _, rfl⟩ := List.mem_map.1 hx
  exact y.cl
def tCl (m : Nat) : Ty (List Cl) where
  size := m + 1
  bulk := fun _ => 1
  RS := fun w S cs l => l.length = m + 1 ∧ AV.relL w S [] ψ0 (l.map Cl.av) cs ∧ ∀ u ∈ cs, u.oneCell' = true
  len := fun ⟨h1, h2, _⟩ => by rw [relL_len h2, List.length_map, h1]
  keepS := fun ⟨h1, h3, h4⟩ hb hS => ⟨h1, AV.relL_ext (Ext.grow [] ψ0 hb hS) _ _ h3, h4⟩
instance inMuTree1 {m : Nat} : EncOf (tCl m) fun l => l.map Cl.av := ⟨fun w S h ψ cs d ⟨_, hr, _⟩ => AV.relL_cl _ _ (Cl.clL d) hr, fun w S cs d h => h.2.2, Nat.succ_pos m⟩
section
variable {P : Program} {C : Ctx} {t : List AV} {h : List ABlk}
theorem RowUpd.cl {m j : Nat} {d : List Cl} (y : Cl) (h1 : One h y.av) (hj : j < m + 1) : RowUpd h (tCl m) d j y.av 1 (d.set j y) := fun C S ψ w v cs H hv hd => by
  obtain ⟨hl, hr, h1'⟩ := hd
  have hv1 := h1 C S ψ w v H hv
  have e : v.cells.toList = [v] := by rw [cells_one hv1]
  have hlen := relL_len hr
  rw [List.length_map] at hlen
  have e2 : cs.take j ++ [v] ++ cs.drop (j + 1) = cs.set j v := by
    rw [List.set_eq_take_append_cons_drop, if_pos (by omega), List.append_assoc]
    rfl
  rw [e, e2]
  refine ⟨rfl, hj, fun u hu => by rw [List.mem_singleton.1 hu]; exact hv1, by rw [List.length_set]; exact hl, ?_, fun u hu => ?_⟩
  · rw [List.map_set]
    exact relL_set hr j (AV.rel_cl _ _ y.cl hv)
  · rcases List.mem_or_eq_of_mem_set hu with hu | rfl
    · exact h1' u hu
    · exact hv1
end
end Mu
end
section
/-
  Memory of the call's own that is from now on only read.
  Conditions: none; generic.
-/
namespace Mu
open Go Go.RowKit Go.Proofs

theorem set_at {α : Type} {l : List α} {j : Nat} {v : α} (hv : l[j]? = some v) : l.set j v = l := by
  refine List.ext_getElem? fun q => ?_
  rw [List.getElem?_set]
  split
  · rename_i hq
    subst hq
    rw [if_pos (List.getElem?_eq_some_iff.1 hv).1, hv]
  · rfl
/-- memory of one's own that is from now on only read -/
theorem St.le_fzG {C : Ctx} {t : List AV} {h : List ABlk} (i j : Nat) {b : ABlk} {x y : AV} (hi : h[i]? = some b) (hm : b.mrk = []) (hv : ABlk.live (some b) = true) (hj : t[j]? = some x)
    (hn : ∀ S ψ w, HRel C h S ψ w → ∀ k, ftp (some b) (ψ i) k → C.w0.heap.size ≤ k)
    (hx : ∀ S ψ w v, HRel C h S ψ w → AV.rel w S h ψ x v → AV.rel w (fun k => S k ∨ ftp (some b) (ψ i) k) (h.set i .dead) ψ y v) : St.le C ⟨t, h⟩ ⟨t.set j y, h.set i .dead⟩ := fun a w ⟨hd, S, ψ, H, hl⟩ => by
  have hil := (List.getElem?_eq_some_iff.1 hi).1
  obtain ⟨B, hBe⟩ : ∃ B : Nat → Prop, B = ftp (some b) (ψ i) := ⟨_, rfl⟩
  have hB : ∀ k, B k → ¬ C.N k ∧ k < w.heap.size ∧ ¬ S k := by rw [hBe]; exact (H.blk i _ hi).lt hv
  have hS : ∀ k, S k → (S k ∨ B k) := fun k hk => .inl hk
  have X1 : Ext w S h ψ w S (h.set i .dead) (ψset ψ i (ψ i)) := Ext.set (fun _ _ => rfl) hi (fun c' hc => by simp [ABlk.ver] at hc) fun h => by simp [ABlk.isBox] at h
  rw [ψset_id] at X1
  have X2 : Ext w S (h.set i .dead) ψ w (fun k => S k ∨ B k) (h.set i .dead) ψ := Ext.grow _ _ (fun _ _ => rfl) hS
  have hl2 := AV.relL_ext X2 _ _ (AV.relL_ext X1 _ _ hl)
  have hlive : ∀ j, ABlk.live (h.set i .dead)[j]? = true → j ≠ i ∧ (h.set i .dead)[j]? = h[j]? := fun j hj => by
    by_cases e : j = i
    · subst e
      rw [List.getElem?_set_self hil] at hj
      simp [ABlk.live] at hj
    · exact ⟨e, List.getElem?_set_ne (Ne.symm e)⟩
  refine ⟨hd.trans (mkD_set (b' := .dead) hi (by rw [show ABlk.mrk .dead = [] from rfl, hm])).symm, fun k => S k ∨ B k, ψ, ⟨H.bel, H.nlt, fun k hk => ?_, fun k hk => .inl (H.sub k hk), fun k hk => ?_, fun j c hjb => ?_, fun j k hjk hj hk g h1 h2 => ?_⟩, ?_⟩
  · rcases hk with hk | hk
    · exact H.lt k hk
    · exact (hB k hk).2.1
  · rcases hk with hk | hk
    · exact H.new k hk
    · exact .inr (hn S ψ w H k (by rw [← hBe]; exact hk))
  · by_cases hji : j = i
    · subst hji
      rw [List.getElem?_set_self hil] at hjb
      cases hjb
      trivial
    · rw [List.getElem?_set_ne (Ne.symm hji)] at hjb
      have hBj := H.blk j c hjb
      have hdis : ABlk.live (some c) = true → ∀ q, ftp (some c) (ψ j) q → ¬ B q := fun hlv q hq hF => H.dis j i hji (by rw [hjb]; exact hlv) (by rw [hi]; exact hv) q (by rw [hjb]; exact hq) (by rw [hi, ← hBe]; exact hF)
      cases c with
      | dead => trivial
      | box cells' =>
        obtain ⟨g', cs', e', k1, k2, k3, k4, k5⟩ := hBj
        exact ⟨g', cs', e', k1, k2, fun hk => hk.elim k3 (hdis rfl g' (by rw [k1]; rfl)), k4, AV.relL_ext X2 _ _ (AV.relL_ext X1 _ _ k5)⟩
      | row v' e' T' l' =>
        obtain ⟨cells', k1, k2, k3, k4⟩ := hBj
        exact ⟨cells', k1, k2, fun i d hd => T'.keepS (k3 i d hd) (fun _ _ => rfl) hS, fun q hq => ⟨(k4 q hq).1, fun hk => hk.elim (k4 q hq).2 (hdis rfl q (ownBlock_blkOf hq))⟩⟩
      | res R =>
        obtain ⟨k1, k2⟩ := hBj
        exact ⟨fun q hq => ⟨(k1 q hq).1, fun hk => hk.elim (k1 q hq).2.1 (hdis rfl q hq), (k1 q hq).2.2⟩, R.keep k2 (fun _ _ => rfl) (fun _ _ => rfl) hS⟩
  · obtain ⟨_, e1⟩ := hlive j hj
    obtain ⟨_, e2⟩ := hlive k hk
    rw [e1] at hj h1
    rw [e2] at hk h2
    exact H.dis j k hjk hj hk g h1 h2
  · obtain ⟨v, hv, hr⟩ := relL_get hl hj
    have e : a.tmps.toList.set j v = a.tmps.toList := set_at hv
    have key := relL_set hl2 j (x := y) (v := v) (by rw [hBe]; exact hx S ψ w v H hr)
    rw [e] at key
    exact key
theorem fz_std {C : Ctx} (hC : C.std) {h : List ABlk} {i : Nat} {b : ABlk} (hi : h[i]? = some b) (hv : ABlk.live (some b) = true) (S : Nat → Prop) (ψ : Nat → Value) (w : World) (H : HRel C h S ψ w) (k : Nat) (hk : ftp (some b) (ψ i) k) : C.w0.heap.size ≤ k := Nat.le_of_not_lt fun hlt => ((H.blk i _ hi).lt hv k hk).1 (hC k hlt)
end Mu
end
section
/-
  Functions that turn memory, and whose results lead to what they make; one memory of several is turned in place.
  Conditions: none; generic.
-/
namespace Mu
open Go Go.RowKit Go.Proofs

structure TurnsS {ι : Type} (w : World) (S : Nat → Prop) (F : Nat → Prop) (Rs : ι → Res) (rs : ι → AV) (v : Value) (w' : World) : Prop where
  gr : Gr F w w'
  some : ∃ (p : ι) (S' : Nat → Prop), (∀ k, S k → S' k) ∧ (∀ k, S' k → S k ∨ w.heap.size ≤ k) ∧ (∀ k, S' k → k < w'.heap.size) ∧ AV.rel w' S' [] ψ0 (rs p) v ∧ (Rs p).R w' S' ∧ ∀ k, (Rs p).F k → (F k ∨ w.heap.size ≤ k) ∧ k < w'.heap.size ∧ ¬ S' k
def FnTurnS {ι : Type} (P : Program) (f : FuncId) (R : Res) (args : List AV) (Rs : ι → Res) (rs : ι → AV) : Prop :=
  Enters P f = true ∧ ∀ (w : World) (S : Nat → Prop) (vs : List Value), (∀ k, S k → k < w.heap.size ∧ ¬ R.F k) → (∀ g, R.F g → g < w.heap.size) → R.R w S → AV.relL w S [] ψ0 args vs →
    Calls P f vs.toArray w fun e w' => ∃ v, e = .returned v ∧ TurnsS w S R.F Rs rs v w'
/-- known by its blocks alone -/
def Res.raw (F : Nat → Prop) : Res := ⟨[], F, fun _ _ => True, fun _ _ _ _ => trivial⟩
theorem HRel.wide {C : Ctx} {h : List ABlk} {S S' : Nat → Prop} {ψ : Nat → Value} {w : World} (H : HRel C h S ψ w) (hs : ∀ k, S k → S' k) (hn : ∀ k, S' k → S k ∨ C.w0.heap.size ≤ k) (hl : ∀ k, S' k → k < w.heap.size ∧ ¬ owns h ψ k) : HRel C h S' ψ w := by
  refine ⟨H.bel, H.nlt, fun k hk => (hl k hk).1, fun k hk => hs k (H.sub k hk), fun k hk => ?_, fun i b hi => ?_, H.dis⟩
  · rcases hn k hk with h1 | h1
    · exact H.new k h1
    · exact .inr h1
  · by_cases hlv : ABlk.live (some b) = true
    · exact (H.blk i b hi).keep (Ext.grow h ψ (fun _ _ => rfl) hs) fun g hg => ⟨rfl, fun _ hs' => (hl g hs').2 ⟨i, by rw [hi]; exact hlv, by rw [hi]; exact hg⟩⟩
    · cases b <;> simp [ABlk.live] at hlv
      trivial
section
variable {P : Program} {C : Ctx} {t : List AV} {h : List ABlk} {o : Oper} {ι : Type} {Rs : ι → Res} {rs : ι → AV} {K : St → Prop}
theorem turnS_st {i : Nat} {R : Res} {a : Act} {w w' : World} {S S2 : Nat → Prop} {ψ : Nat → Value} {v : Value} (hi : h[i]? = some (.res R)) (hm : ∀ p, (Rs p).mrk = R.mrk) (hc : ∀ p, AV.cl (rs p) = true) (hd : a.defers = mkD h) (H : HRel C h S ψ w) (hl : AV.relL w S h ψ t a.tmps.toList)
    (h2 : ∀ k, S2 k → k < w.heap.size) (hT : TurnsS w S2 R.F Rs rs v w') (hS2 : S2 = S ∨ ((∀ p w S S', (Rs p).R w S → (Rs p).R w S') ∧ (∀ p w S S' v, AV.rel w S [] ψ0 (rs p) v → AV.rel w S' [] ψ0 (rs p) v) ∧ ∀ k, S k → S2 k)) : ∃ p, St.rel C ⟨putA t o.dst (rs p), h.set i (.res (Rs p))⟩ (a.put o.dst v) w' := by
  obtain ⟨hgr, p, S1, k1, k2, k3, k4, k5, k6⟩ := hT
  have hB := H.blk i _ hi
  have hil := (List.getElem?_eq_some_iff.1 hi).1
  obtain ⟨S', q1, q2, q3, q4, q5, q6⟩ : ∃ S' : Nat → Prop, (∀ k, S k → S' k) ∧ (∀ k, S' k → S k ∨ w.heap.size ≤ k) ∧ (∀ k, S' k → k < w'.heap.size) ∧ AV.rel w' S' [] ψ0 (rs p) v ∧ (Rs p).R w' S' ∧ ∀ k, (Rs p).F k → (R.F k ∨ w.heap.size ≤ k) ∧ k < w'.heap.size ∧ ¬ S' k := by
    rcases hS2 with e | ⟨e1, e2, e3⟩
    · subst e
      exact ⟨S1, k1, k2, k3, k4, k5, k6⟩
    · refine ⟨S, fun _ h => h, fun _ h => .inl h, fun k hk => k3 k (k1 k (e3 k hk)), e2 p w' _ _ v k4, e1 p w' _ _ k5, fun k hk => ⟨(k6 k hk).1, (k6 k hk).2.1, fun hs => (k6 k hk).2.2 (k1 k (e3 k hs))⟩⟩
  have hblk : ∀ k, S k → w'.heap[k]? = w.heap[k]? := fun k hk => hgr.block k (H.lt k hk) fun hf => (hB.1 k hf).2.1 hk
  have X1 : Ext w S h ψ w' S (h.set i (.res (Res.raw (Rs p).F))) (ψset ψ i (ψ i)) := Ext.set hblk hi (fun c' hc => by simp [ABlk.ver] at hc) fun h => by simp [ABlk.isBox] at h
  have H1 := H.set (b' := .res (Res.raw (Rs p).F)) (v' := ψ i) hi rfl hgr X1 ⟨fun g hg => by
    obtain ⟨h1, h2, h3⟩ := q6 g hg
    rcases h1 with h1 | h1
    · exact ⟨(hB.1 g h1).1, (hB.1 g h1).2.1, h2⟩
    · exact ⟨fun hn => by have := H.nlt g hn; have := H.bel.size; omega, fun hs => by have := H.lt g hs; omega, h2⟩, trivial⟩ fun g hg => (q6 g hg).1
  rw [ψset_id] at H1 X1
  have hown : ∀ k, S' k → ¬ owns (h.set i (.res (Res.raw (Rs p).F))) ψ k := fun k hk ⟨j, hj1, hj2⟩ => by
    by_cases hji : j = i
    · subst hji
      rw [List.getElem?_set_self hil] at hj2
      exact (q6 k hj2).2.2 hk
    · rcases q2 k hk with h1 | h1
      · exact (H1.own_lt ⟨j, hj1, hj2⟩).2.2 h1
      · rw [List.getElem?_set_ne (Ne.symm hji)] at hj1 hj2
        have := (H.own_lt ⟨j, hj1, hj2⟩).2.1
        omega
  have H2 : HRel C (h.set i (.res (Res.raw (Rs p).F))) S' ψ w' := H1.wide q1 (fun k hk => (q2 k hk).imp id fun h1 => Nat.le_trans H.bel.size h1) fun k hk => ⟨q3 k hk, hown k hk⟩
  have X2 : Ext w' S (h.set i (.res (Res.raw (Rs p).F))) ψ w' S' (h.set i (.res (Res.raw (Rs p).F))) ψ := Ext.grow _ _ (fun _ _ => rfl) q1
  have hi2 : (h.set i (.res (Res.raw (Rs p).F)))[i]? = some (.res (Res.raw (Rs p).F)) := List.getElem?_set_self hil
  have X3 : Ext w' S' (h.set i (.res (Res.raw (Rs p).F))) ψ w' S' ((h.set i (.res (Res.raw (Rs p).F))).set i (.res (Rs p))) (ψset ψ i (ψ i)) := Ext.set (fun _ _ => rfl) hi2 (fun c' hc => by simp [ABlk.ver] at hc) fun h => by simp [ABlk.isBox] at h
  have H3 := H2.set (b' := .res (Rs p)) (v' := ψ i) hi2 rfl ⟨rfl, rfl, rfl, Nat.le_refl _, fun _ _ _ => rfl⟩ X3 ⟨fun g hg => (H2.blk i _ hi2).1 g hg, q5⟩ fun g hg => .inl hg
  rw [ψset_id] at H3 X3
  rw [List.set_set] at H3 X3
  exact ⟨p, by rw [put_defers]; show a.defers = _; rw [hd]; exact (mkD_set hi (by show (Rs p).mrk.map mark = R.mrk.map mark; rw [hm p])).symm, S', ψ, H3, put_rel (AV.relL_ext X3 _ _ (AV.relL_ext X2 _ _ (AV.relL_ext X1 _ _ hl))) o.dst (AV.rel_cl _ _ (hc p) q4)⟩
theorem AOp.callS {i : Nat} {R : Res} {f : FuncId} {args : Array Operand} {tys : Array TypeId} {xs : List AV} (hi : h[i]? = some (.res R))
    (ho : o.op = .call { callee := .value (.func f), args := args, argTypes := tys }) (hF : FnTurnS P f R xs Rs rs) (hm : ∀ p, (Rs p).mrk = R.mrk) (hx : args.toList.map (evA t) = xs) (hc : AV.clL xs = true) (hr : ∀ p, AV.cl (rs p) = true)
    (hK : ∀ p, K ⟨putA t o.dst (rs p), h.set i (.res (Rs p))⟩) : AOp P C o ⟨t, h⟩ K := by
  rintro Q' a w ⟨hd, S, ψ, H, hl⟩
  refine ⟨fun c e => (by rw [ho] at e; cases e), ?_⟩
  have h2 : AV.relL w S h ψ xs (args.toList.map a.eval) := by
    rw [← hx]
    exact relL_map fun x _ => ev_rel hl x
  unfold Oper.wp
  rw [run_call ho hF.1 a.eval w rfl]
  simp only [Oper.upon]
  rw [show (args.map a.eval) = (args.toList.map a.eval).toArray from (by rw [← Array.toList_map])]
  refine (hF.2 w S (args.toList.map a.eval) (fun k hk => ⟨H.lt k hk, fun hf => ((H.blk i _ hi).1 k hf).2.1 hk⟩) (fun g hg => ((H.blk i _ hi).1 g hg).2.2) (H.blk i _ hi).2 (AV.relL_cl _ _ hc h2)).mono ?_
  rintro e w' ⟨v, rfl, hT⟩
  obtain ⟨p, hp⟩ := turnS_st (o := o) hi hm hr hd H hl H.lt hT (.inl rfl)
  exact ⟨_, hK p, hp⟩
end
/-! ### contracts from walks -/
/-- all but this memory was there before -/
def Ctx.turn (C : Ctx) (R : Res) : Prop := ∀ k, k < C.w0.heap.size → ¬ R.F k → C.N k
def RetsTS {ι : Type} (R : Res) (Rs : ι → Res) (rs : ι → AV) (Qr : St → AV → Prop) : Exit → St → Prop := fun e s => (e = .normal ∨ e = .ret) ∧ ∃ p, mkD s.h = R.mrk.map mark ∧ s.h[0]? = some (.res (Rs p)) ∧ Qr s (rs p)
section
variable {P : Program} {f : FuncId} {fn : Go.Func} {c : Code} {args : List AV} {ι : Type} {R : Res} {Rs : ι → Res} {rs : ι → AV} {n : Nat}
theorem FnTurnS.of_awpQ (Qr : St → AV → Prop) (hf : P.funcs[f]? = some fn) (hb : fn.body = some c) (hE : Enters P f = true) (hn : fn.ntmps = n) (hm : R.mrk = [])
    (hres : ∀ (C : Ctx) (s : St) (a : Act) (w : World) (r : AV) S ψ, Qr s r → HRel C s.h S ψ w → AV.relL w S s.h ψ s.t a.tmps.toList → ∃ v, (results fn a.tmps).run P w = .ok v w ∧ AV.rel w S [] ψ0 r v)
    (h : ∀ C : Ctx, C.turn R → Awp P C c (RetsTS R Rs rs Qr) ⟨args ++ List.replicate (n - args.length) (.lit undef), [.res R]⟩) : FnTurnS P f R args Rs rs := by
  refine ⟨hE, fun w S vs hSl hF hR hr => calls_of_wp hf hb ?_⟩
  rw [hn]
  refine wp_mono ((h ⟨w, S, fun k => k < w.heap.size ∧ ¬ R.F k, none⟩ fun k h1 h2 => ⟨h1, h2⟩).wp rfl (turn_start hm hSl hF hR hr)) ?_
  rintro x a' w' ⟨s, ⟨hx, p, hmk, hi, hq⟩, hd, S1, ψ, H, hl⟩
  rw [hmk, hm] at hd
  obtain ⟨v, hv1, hv2⟩ := hres _ s a' w' _ S1 ψ hq H hl
  have hB := H.blk 0 _ hi
  have hfin : ∃ v', Ending.returned v = .returned v' ∧ TurnsS w S R.F Rs rs v' w' := ⟨_, rfl, ⟨H.bel.os, H.bel.tape, H.bel.output, H.bel.size, fun k hk hn => H.bel.block k ⟨hk, hn⟩⟩, p, S1, H.sub, H.new, H.lt, hv2, hB.2, fun k hk => by
    obtain ⟨k1, k2, k3⟩ := hB.1 k hk
    refine ⟨?_, k3, k2⟩
    by_cases hc : R.F k
    · exact .inl hc
    · exact .inr (Nat.le_of_not_lt fun hlt => k1 ⟨hlt, hc⟩)⟩
  rcases hx with rfl | rfl
  · exact ⟨hd, _, hv1, hfin⟩
  · exact ⟨hd, _, hv1, hfin⟩
theorem FnTurnS.of_awp {t : Tmp} (hf : P.funcs[f]? = some fn) (hb : fn.body = some c) (hE : Enters P f = true) (hres : fn.results = #[.tmp t]) (hn : fn.ntmps = n) (hm : R.mrk = [])
    (h : ∀ C : Ctx, Awp P C c (RetsTS R Rs rs fun s r => evA s.t (.tmp t) = r ∧ AV.cl r = true) ⟨args ++ List.replicate (n - args.length) (.lit undef), [.res R]⟩) : FnTurnS P f R args Rs rs :=
  FnTurnS.of_awpQ _ hf hb hE hn hm (fun C s a w r S ψ ⟨h1, h2⟩ H hl => ⟨_, results_tmp hres _ _ _, by
    have := ev_rel hl (.tmp t)
    rw [h1] at this
    exact AV.rel_cl _ _ h2 this⟩) fun C _ => h C
theorem FnTurnS.of_awp2 {t u : Tmp} (hf : P.funcs[f]? = some fn) (hb : fn.body = some c) (hE : Enters P f = true) (hres : fn.results = #[.tmp t, .tmp u]) (hn : fn.ntmps = n) (hm : R.mrk = [])
    (h : ∀ C : Ctx, Awp P C c (RetsTS R Rs rs fun s r => .tup [evA s.t (.tmp t), evA s.t (.tmp u)] = r ∧ AV.cl r = true) ⟨args ++ List.replicate (n - args.length) (.lit undef), [.res R]⟩) : FnTurnS P f R args Rs rs :=
  FnTurnS.of_awpQ _ hf hb hE hn hm (fun C s a w r S ψ ⟨h1, h2⟩ H hl => ⟨.tuple #[a.eval (.tmp t), a.eval (.tmp u)], by
    have e1 : (a.tmps[t]?).getD undef = a.eval (.tmp t) := by rw [← Array.getD_eq_getD_getElem?]; rfl
    have e2 : (a.tmps[u]?).getD undef = a.eval (.tmp u) := by rw [← Array.getD_eq_getD_getElem?]; rfl
    simp [results, hres, e1, e2], by
    subst h1
    refine AV.rel_cl (h := s.h) (ψ := ψ) _ _ h2 ?_
    unfold AV.rel
    refine ⟨[a.eval (.tmp t), a.eval (.tmp u)], rfl, ?_⟩
    unfold AV.relL
    refine ⟨_, _, rfl, ev_rel hl (.tmp t), ?_⟩
    unfold AV.relL
    refine ⟨_, _, rfl, ev_rel hl (.tmp u), ?_⟩
    unfold AV.relL
    rfl⟩) fun C _ => h C
/-- a result that lies in memory -/
theorem FnTurnS.of_awpC {t : Tmp} {ty : TypeId} {m : Nat} (hf : P.funcs[f]? = some fn) (hb : fn.body = some c) (hE : Enters P f = true) (hres : fn.results = #[.cell t ty]) (ha : aggT P ty = some (true, m)) (hn : fn.ntmps = n) (hm : R.mrk = [])
    (h : ∀ C : Ctx, Awp P C c (RetsTS R Rs rs fun s r => ∃ i cells, evA s.t (.tmp t) = .ptr i 0 ∧ s.h[i]? = some (.box cells) ∧ cells.length = m ∧ AV.clL cells = true ∧ .agg cells = r) ⟨args ++ List.replicate (n - args.length) (.lit undef), [.res R]⟩) : FnTurnS P f R args Rs rs :=
  FnTurnS.of_awpQ _ hf hb hE hn hm (fun C s a w r S ψ ⟨i, cells, hev, hi, hlen, hcl, hr⟩ H hl => by
    have hv := ev_rel hl (.tmp t)
    rw [hev] at hv
    unfold AV.rel at hv
    obtain ⟨g, h1, h2⟩ := hv.2 (by rw [hi]; rfl)
    obtain ⟨g', cs, e', h3, _, _, h4, h5⟩ := H.blk i _ hi
    rw [h1] at h3
    cases h3
    have hc : ∀ j u, cs[j]? = some u → w.cell? ⟨g, 0 + j, none⟩ = some u := fun j u hu => by simp [World.cell?, h4, hu]
    have hload := run_load_agg (P := P) (ty := ty) (b := g) (off := 0) ha (by rw [relL_len h5]; exact hlen) hc
    refine ⟨.agg cs.toArray, ?_, ?_⟩
    · have e1 : (a.tmps[t]?).getD undef = .pointer (some ⟨g, 0, none⟩) := by rw [← Array.getD_eq_getD_getElem?]; exact h2
      unfold Instr.loadAt Instr.sureAddr at hload
      simp only [Sem.run_bind, Sem.run_pure, Result.andThen_ok] at hload
      simp [results, hres, e1, asAddr, hload]
    · subst hr
      unfold AV.rel
      exact ⟨cs, rfl, AV.relL_cl _ _ hcl h5⟩) fun C _ => h C
theorem FnTurnS.of_awp0 (hf : P.funcs[f]? = some fn) (hb : fn.body = some c) (hE : Enters P f = true) (hres : fn.results = #[]) (hn : fn.ntmps = n) (hm : R.mrk = []) (hr : ∀ p, rs p = .lit (.tuple #[]))
    (h : ∀ C : Ctx, Awp P C c (RetsTS R Rs rs fun _ _ => True) ⟨args ++ List.replicate (n - args.length) (.lit undef), [.res R]⟩) : FnTurnS P f R args Rs rs :=
  FnTurnS.of_awpQ (fun _ r => r = .lit (.tuple #[])) hf hb hE hn hm (fun C s a w r S ψ h1 H hl => ⟨_, results_none hres _ _ _, by
    rw [h1]
    unfold AV.rel
    rfl⟩) fun C _ => (h C).mono fun e s ⟨k1, p, k2, k3, _⟩ => ⟨k1, p, k2, k3, hr p⟩
theorem FnTurnS.of_awp0C (hf : P.funcs[f]? = some fn) (hb : fn.body = some c) (hE : Enters P f = true) (hres : fn.results = #[]) (hn : fn.ntmps = n) (hm : R.mrk = []) (hr : ∀ p, rs p = .lit (.tuple #[]))
    (h : ∀ C : Ctx, C.turn R → Awp P C c (RetsTS R Rs rs fun _ _ => True) ⟨args ++ List.replicate (n - args.length) (.lit undef), [.res R]⟩) : FnTurnS P f R args Rs rs :=
  FnTurnS.of_awpQ (fun _ r => r = .lit (.tuple #[])) hf hb hE hn hm (fun C s a w r S ψ h1 H hl => ⟨_, results_none hres _ _ _, by
    rw [h1]
    unfold AV.rel
    rfl⟩) fun C hC => (h C hC).mono fun e s ⟨k1, p, k2, k3, _⟩ => ⟨k1, p, k2, k3, hr p⟩
/-- a row that was made meanwhile is from now on only read -/
theorem St.le_fzT {C : Ctx} {R R' : Res} (hC : C.turn R) {t : List AV} {h : List ABlk} (i j s : Nat) (hij : i ≠ j) {ver : Nat} {e : TypeId} {α : Type} {T : Ty α} {l : List α} (hi : h[i]? = some (.res R')) (hF : ∀ g, R.F g → R'.F g) (hj : h[j]? = some (.row ver e T l)) (hs : t[s]? = some (.own j ver)) : St.le C ⟨t, h⟩ ⟨t.set s (.bs T l), h.set j .dead⟩ :=
  St.le_fzG j s hj rfl rfl hs (fun S ψ w H k hk => Nat.le_of_not_lt fun hlt => by
    by_cases hR : R.F k
    · exact H.dis i j hij (by rw [hi]; rfl) (by rw [hj]; rfl) k (by rw [hi]; exact hF k hR) (by rw [hj]; exact hk)
    · exact ((H.blk j _ hj).lt rfl k hk).1 (hC k hlt hR)) fun S ψ w v H hr => by
    unfold AV.rel at hr ⊢
    have hv := (hr.2 _ (by rw [hj]; rfl)).2 rfl
    subst hv
    obtain ⟨cells, k1, k0, k2, k3⟩ := H.blk _ _ hj
    exact own_slice k1 (fun i d hd => Ty.keepS _ (k2 i d hd) (fun _ _ => rfl) fun _ h => .inl h) fun g hg => .inr (ownBlock_blkOf hg)
end
/-! ### one of several -/
section
variable {P : Program} {C : Ctx} {t : List AV} {h : List ABlk} {o : Oper} {K : St → Prop} {l : List Res} {A : Res}
theorem AOp.post {s s' : St} (hK : K s') (ha : AOp P C o s fun s2 => St.le C s2 s') : AOp P C o s K := fun Q' a w H =>
  let ⟨h1, h2⟩ := ha Q' a w H
  ⟨h1, Oper.wp_mono (fun a' w' ⟨s2, k1, k2⟩ => ⟨s', hK, k1 a' w' k2⟩) h2⟩
theorem AOp.postI {ι : Type} {F : ι → St} {s : St} (hK : ∀ p, K (F p)) (ha : AOp P C o s fun s2 => ∃ p, St.le C s2 (F p)) : AOp P C o s K := fun Q' a w H =>
  let ⟨h1, h2⟩ := ha Q' a w H
  ⟨h1, Oper.wp_mono (fun a' w' ⟨s2, ⟨p, k1⟩, k2⟩ => ⟨F p, hK p, k1 a' w' k2⟩) h2⟩
theorem AOp.inAll {ι : Type} {t' : ι → List AV} {A' : ι → Res} (i k : Nat) (tl : List ABlk) (hi : h[i]? = some (.res (.all l))) (hk : l[k]? = some A) (hm : A.mrk = []) (hm' : ∀ p, (A' p).mrk = [])
    (hop : ∀ (h1 : List ABlk) (K' : St → Prop), h1[h.length]? = some (.res A) → h1.length = h.length + 1 → (∀ p, K' ⟨t' p, h1.set h.length (.res (A' p)) ++ tl⟩) → AOp P C o ⟨t, h1⟩ K')
    (hK : ∀ p, K ⟨t' p, h.set i (.res (.all (l.set k (A' p)))) ++ .dead :: tl⟩) : AOp P C o ⟨t, h⟩ K := by
  have hil := (List.getElem?_eq_some_iff.1 hi).1
  have hkl := (List.getElem?_eq_some_iff.1 hk).1
  have hlen : ∀ X : ABlk, (h.set i X).length = h.length := fun _ => List.length_set
  have hlast : ∀ X Y : ABlk, (h.set i X ++ [Y])[h.length]? = some Y := fun X Y => by rw [List.getElem?_append_right (by rw [hlen]; exact Nat.le_refl _), hlen, Nat.sub_self]; rfl
  have hset : ∀ (X Y Z : ABlk) (tl : List ABlk), (h.set i X ++ Y :: tl).set h.length Z = h.set i X ++ Z :: tl := fun X Y Z tl => by rw [List.set_append_right _ _ (by rw [hlen]; exact Nat.le_refl _), hlen, Nat.sub_self]; rfl
  refine AOp.postI (F := fun p => ⟨t' p, h.set i (.res (.all (l.set k (A' p)))) ++ .dead :: tl⟩) hK (AOp.le (St.le_take i k hi hk hm) (hop _ _ (hlast _ _) (by simp) fun p => ⟨p, ?_⟩))
  rw [hset]
  have := St.le_put (C := C) (t := t' p) (h := h.set i (.res (.all (l.set k .emp))) ++ .res (A' p) :: tl) (l := l.set k .emp) (R := A' p) i h.length k (by omega) (by rw [List.getElem?_append_left (by rw [hlen]; exact hil), List.getElem?_set_self hil]) (by rw [List.getElem?_append_right (by rw [hlen]; exact Nat.le_refl _), hlen, Nat.sub_self]; rfl) (List.getElem?_set_self hkl) (hm' p)
  rw [hset, List.set_append_left _ _ (by rw [hlen]; exact hil), List.set_set, List.set_set] at this
  rw [List.append_assoc]
  exact this
end
/-- of two memories as one the second one is taken out -/
theorem St.le_two {C : Ctx} {t : List AV} {h : List ABlk} {A B : Res} (i : Nat) (hi : h[i]? = some (.res (.all [A, B]))) (hA : A.mrk = []) (hB : B.mrk = []) : St.le C ⟨t, h⟩ ⟨t, h.set i (.res A) ++ [.res B]⟩ :=
  St.le_split hi rfl hA hB (fun g hg => hg.elim (fun h => ⟨A, by simp, h⟩) fun h => ⟨B, by simp, h⟩) fun w S ⟨h1, h2⟩ => ⟨h1 A (by simp), h1 B (by simp), fun g hg => h2 0 1 A B (by decide) rfl rfl g hg⟩
/-- such memory is turned, and more is made -/
theorem AOp.callS2 {P : Program} {C : Ctx} {t : List AV} {h : List ABlk} {o : Oper} {K : St → Prop} {ι : Type} {A B : ι → Res} {rs : ι → AV} {i : Nat} {R : Res} {f : FuncId} {args : Array Operand} {tys : Array TypeId} {xs : List AV} (hi : h[i]? = some (.res R))
    (ho : o.op = .call { callee := .value (.func f), args := args, argTypes := tys }) (hF : FnTurnS P f R xs (fun p => .all [A p, B p]) rs) (hm : R.mrk = []) (hA : ∀ p, (A p).mrk = []) (hB : ∀ p, (B p).mrk = []) (hx : args.toList.map (evA t) = xs) (hc : AV.clL xs = true) (hr : ∀ p, AV.cl (rs p) = true)
    (hK : ∀ p, K ⟨putA t o.dst (rs p), h.set i (.res (A p)) ++ [.res (B p)]⟩) : AOp P C o ⟨t, h⟩ K :=
  AOp.postI hK (AOp.callS hi ho hF (fun _ => hm.symm) hx hc hr fun p => ⟨p, by
    have := St.le_two (C := C) (t := putA t o.dst (rs p)) (h := h.set i (.res (.all [A p, B p]))) i (List.getElem?_set_self (List.getElem?_eq_some_iff.1 hi).1) (hA p) (hB p)
    rwa [List.set_set] at this⟩)
theorem AV.litL_free {w w' : World} {S S' : Nat → Prop} : ∀ {us : List Value} {cs : List Value}, AV.relL w S [] ψ0 (us.map AV.lit) cs → AV.relL w' S' [] ψ0 (us.map AV.lit) cs
  | [], cs, h => by
    rw [List.map_nil] at h ⊢
    unfold AV.relL at h ⊢
    exact h
  | u :: us, cs, h => by
    rw [List.map_cons] at h ⊢
    unfold AV.relL at h ⊢
    obtain ⟨v, vs, e, h1, h2⟩ := h
    exact ⟨v, vs, e, by unfold AV.rel at h1 ⊢; exact h1, AV.litL_free h2⟩
end Mu
end
section
/-
  Contracts that make new memory; slices that are not nil; empty rows of which one knows where they lie.
  Conditions: none; generic.
-/
namespace Mu
open Go Go.RowKit Go.Proofs

theorem St.le_emp {C : Ctx} {t : List AV} {h : List ABlk} : St.le C ⟨t, h⟩ ⟨t, h ++ [.res .emp]⟩ := fun a w ⟨hd, S, ψ, H, hl⟩ => by
  have X : Ext w S h ψ w S (h ++ [.res .emp]) (ψset ψ h.length undef) := Ext.push _ _ fun _ _ => rfl
  have hB : BRel C.N w S (h ++ [.res .emp]) (ψset ψ h.length undef) undef (.res .emp) := ⟨fun g hg => hg.elim, trivial⟩
  refine ⟨?_, S, _, H.push (Below.refl _ _) hB (fun g hg => hg.elim), AV.relL_ext X _ _ hl⟩
  rw [hd]
  show mkD h = mkD (h ++ [_])
  rw [mkD_push]
  rfl
theorem undS {P : Program} {ty : TypeId} (h : isSlice P ty = true) : ∃ e, P.underlying ty = some (.slice e) := by
  unfold isSlice at h
  split at h
  · exact ⟨_, by assumption⟩
  · cases h
section
variable {P : Program} {C : Ctx} {t : List AV} {h : List ABlk} {o : Oper} {K : St → Prop} {ι : Type} {Rs : ι → Res} {rs : ι → AV}
/-- a call that makes memory -/
theorem AOp.callN {f : FuncId} {args : Array Operand} {tys : Array TypeId} {xs : List AV}
    (ho : o.op = .call { callee := .value (.func f), args := args, argTypes := tys }) (hF : FnTurnS P f .emp xs Rs rs) (hm : ∀ p, (Rs p).mrk = []) (hx : args.toList.map (evA t) = xs) (hc : AV.clL xs = true) (hr : ∀ p, AV.cl (rs p) = true)
    (hK : ∀ p, K ⟨putA t o.dst (rs p), h ++ [.res (Rs p)]⟩) : AOp P C o ⟨t, h⟩ K :=
  AOp.le St.le_emp (AOp.callS (i := h.length) (by rw [List.getElem?_append_right (Nat.le_refl _), Nat.sub_self]; rfl) ho hF hm hx hc hr fun p => by
    rw [List.set_append_right _ _ (Nat.le_refl _), Nat.sub_self]
    exact hK p)
end
/-- a slice that is not nil -/
def Ty.sliceP {α : Type} (T : Ty α) : Ty (List α) where
  size := 1
  bulk := T.slice.bulk
  RS := fun w S cs ds => T.slice.RS w S cs ds ∧ cs ≠ [.slice none 0 0]
  len := fun h => T.slice.len h.1
  keepS := fun h hb hS => ⟨T.slice.keepS h.1 hb hS, h.2⟩
section
variable {P : Program} {C : Ctx} {t : List AV} {h : List ABlk} {o : Oper} {α : Type} {T : Ty α} {l : List α} {c : Code} {Q : Exit → St → Prop}
theorem relL_keep {w : World} {S : Nat → Prop} {ψ : Nat → Value} {vs : List Value} (hl : AV.relL w S h ψ t vs) {j : Nat} {v : Value} {y : AV} (hv : vs[j]? = some v) (hy : AV.rel w S h ψ y v) : AV.relL w S h ψ (t.set j y) vs := by
  have := relL_set hl j hy
  rwa [show vs.set j v = vs from List.ext_getElem? fun k => by
    by_cases hk : j = k
    · subst hk
      rw [List.getElem?_set_self (List.getElem?_eq_some_iff.1 hv).1, hv]
    · rw [List.getElem?_set_ne hk]] at this
theorem St.le_ofP (j : Nat) (hj : t[j]? = some (.tv T.sliceP l)) : St.le C ⟨t, h⟩ ⟨t.set j (.bs T l), h⟩ := fun a w ⟨hd, S, ψ, H, hl⟩ => by
  obtain ⟨v, hv, hr⟩ := relL_get hl hj
  refine ⟨hd, S, ψ, H, relL_keep hl hv ?_⟩
  unfold AV.rel at hr ⊢
  exact hr.1
theorem Quiet.eqNilP {xt yt : TypeId} {x y : Operand} [SL P xt] (ho : o.op = .binOp .eql xt x y yt) (hx : evA t x = .tv T.sliceP l) (hy : evA t y = .lit (.slice none 0 0)) : Quiet P C t h o (.lit (.bool false)) :=
  Quiet.of_run fun S ψ w ρ _ hρ => by
    have h1 := hρ x (by simp [ho, Op.operands])
    have h2 := hρ y (by simp [ho, Op.operands])
    rw [hx] at h1
    rw [hy] at h2
    unfold AV.rel at h1 h2
    obtain ⟨h1, h3⟩ := h1
    obtain ⟨A, n, hv⟩ := slice_form h1
    cases A with
    | none =>
      rw [hv] at h1
      obtain ⟨e1, e2, e3⟩ := slice_nil_at h1
      rw [e2, e3] at hv
      exact absurd (by rw [hv]) h3
    | some ad =>
      obtain ⟨e, he⟩ := undS (SL.eq (P := P) (ty := xt))
      refine ⟨.bool false, ?_, by unfold AV.rel; rfl⟩
      simp [execOp, ho, hv, h2, eqGuard, binOp, run_equal_slice_nil _ _ _ _ _ _ he]
/-- a slice that lies somewhere, held against nil -/
theorem Quiet.eqNilV {xt yt : TypeId} {x y : Operand} {g n m : Nat} [SL P xt] (ho : o.op = .binOp .eql xt x y yt) (hx : evA t x = .lit (.slice (some ⟨g, 0, none⟩) n m)) (hy : evA t y = .lit (.slice none 0 0)) : Quiet P C t h o (.lit (.bool false)) :=
  Quiet.of_run fun S ψ w ρ _ hρ => by
    have h1 := hρ x (by simp [ho, Op.operands])
    have h2 := hρ y (by simp [ho, Op.operands])
    rw [hx] at h1
    rw [hy] at h2
    unfold AV.rel at h1 h2
    obtain ⟨e, he⟩ := undS (SL.eq (P := P) (ty := xt))
    refine ⟨.bool false, ?_, by unfold AV.rel; rfl⟩
    simp [execOp, ho, h1, h2, eqGuard, binOp, run_equal_slice_nil _ _ _ _ _ _ he]
theorem Quiet.eqNilN {xt yt : TypeId} {x y : Operand} [SL P xt] (ho : o.op = .binOp .eql xt x y yt) (hx : evA t x = .lit (.slice none 0 0)) (hy : evA t y = .lit (.slice none 0 0)) : Quiet P C t h o (.lit (.bool true)) :=
  Quiet.of_run fun S ψ w ρ _ hρ => by
    have h1 := hρ x (by simp [ho, Op.operands])
    have h2 := hρ y (by simp [ho, Op.operands])
    rw [hx] at h1
    rw [hy] at h2
    unfold AV.rel at h1 h2
    obtain ⟨e, he⟩ := undS (SL.eq (P := P) (ty := xt))
    refine ⟨.bool true, ?_, by unfold AV.rel; rfl⟩
    simp [execOp, ho, h1, h2, eqGuard, binOp, run_equal_slice_nil _ _ _ _ _ _ he]
/-- an empty row is made, where it lies -/
theorem AOp.litE {K : St → Prop} {ty e : TypeId} {bytes m : Nat} [RT P ty e m bytes] (ho : o.op = .buildSlice ty 0 #[]) (h0 : 0 < T.size) (hK : ∀ g : Nat, K ⟨putA t o.dst (.lit (.slice (some ⟨g, 0, none⟩) 0 0)), h ++ [.res (rowR (.slice (some ⟨g, 0, none⟩) 0 0) e T [])]⟩) : AOp P C o ⟨t, h⟩ K := by
  refine AOp.make_res (ι := Nat) (Rs := fun g => rowR (.slice (some ⟨g, 0, none⟩) 0 0) e T []) (val := fun g => .slice (some ⟨g, 0, none⟩) 0 0) (fun _ => rfl) (fun S ψ w ρ H hρ => ?_) hK
  have ho' : o.op = .buildSlice ty ([] : List Operand).length (numbered []) := ho
  have hrun := run_buildOp (P := P) (ρ := ρ) (w := w) ho'
  rw [run_lit (RT.eq (P := P) (ty := ty) (e := e) (n := m) (bytes := bytes)) (by simp) (fun v hv => by cases hv)] at hrun
  have hb : Below w.heap.size w (w.alloc (.cells (([].map ρ).flatMap fun v => v.cells.toList).toArray e)) := (Below.refl _ _).alloc (Nat.le_refl _) _
  have hown : (w.alloc (.cells (([].map ρ).flatMap fun v => v.cells.toList).toArray e)).ownsRow w.heap.size e T.size (.slice (some ⟨w.heap.size, 0, none⟩) 0 0) 0 [] :=
    ⟨by simp, .inr ⟨w.heap.size, 0, #[], rfl, Nat.le_refl _, heap_alloc_new w _, Nat.le_refl _, Nat.zero_le _, by simp, by simp⟩⟩
  rw [hrun]
  refine ⟨⟨hb.os, hb.tape, hb.output, hb.size, fun k hk _ => hb.block k hk⟩, w.heap.size, rfl, ⟨[], hown.mono (Nat.zero_le _), h0, fun i d hd => by simp at hd⟩, fun k hk => ?_⟩
  have hk : some w.heap.size = some k := hk
  cases hk
  exact ⟨.inr (Nat.le_refl _), by simp⟩
/-- such a row is appended to -/
theorem AOp.appendQ {K : St → Prop} {ty : TypeId} {x y : Operand} {i g n c : Nat} {e : TypeId} {bytes : Nat} {l2 : List α} (ho : o.op = .call { callee := .builtin .append, args := #[x, y], argTypes := #[ty, ty] }) (hT : rowTy P ty = some (e, T.size, bytes))
    (hx : evA t x = .lit (.slice (some ⟨g, 0, none⟩) n c)) (hi : h[i]? = some (.res (rowR (.slice (some ⟨g, 0, none⟩) n c) e T l))) (hy : evA t y = .bs T l2) (h1T : One1 T) (hlen : l.length + l2.length ≤ maxLen) (hbytes : (l.length + l2.length) * bytes ≤ 140737488355328)
    (hK : ∀ g' c', K ⟨putA t o.dst (.lit (.slice (some ⟨g', 0, none⟩) (l ++ l2).length c')), h.set i (.res (rowR (.slice (some ⟨g', 0, none⟩) (l ++ l2).length c') e T (l ++ l2)))⟩) : AOp P C o ⟨t, h⟩ K := by
  refine AOp.turn (ι := Nat × Nat) (Rs := fun q => rowR (.slice (some ⟨q.1, 0, none⟩) (l ++ l2).length q.2) e T (l ++ l2)) (val := fun q => .slice (some ⟨q.1, 0, none⟩) (l ++ l2).length q.2) hi (fun _ => rfl) (fun S ψ w ρ H hRw hlt hρ => ?_) fun q => hK q.1 q.2
  have hx' := hρ x (by rw [ho]; exact Array.mem_append.2 (.inr (by simp)))
  have hy' := hρ y (by rw [ho]; exact Array.mem_append.2 (.inr (by simp)))
  rw [hx] at hx'
  rw [hy] at hy'
  unfold AV.rel at hx' hy'
  have hdisS : ∀ k, S k → ¬ (rowR (.slice (some ⟨g, 0, none⟩) n c) e T l).F k := fun k hk hf => ((H.blk i _ hi).1 k hf).2.1 hk
  obtain ⟨cells, hown, h0, hR⟩ := hRw
  obtain ⟨h1, ti, z, h2, h3, h4, h5, h6⟩ := rowTy_spec hT
  obtain ⟨A, c2, hyv⟩ := slice_form hy'
  rw [hyv] at hy'
  obtain ⟨news, hnl, hsrc, hnR, hn1⟩ := slice_src hy' fun cs d hcs => h1T _ _ _ _ hcs
  obtain ⟨v', w', hrun, hown', hgr, hb'⟩ := run_more (P := P) (ty := o.type) (t := ty) (c := c2) h1 h2 h3 h4 h5 h6 h0 hown (hsrc w fun _ _ => rfl) hn1 hlen hbytes (Nat.zero_le _)
  have he : (execOp ρ o).run P w = .ok (.value v') w' := by
    unfold execOp
    simp only [ho, resolve, invoke, builtin, Sem.run_bind, Sem.run_pure, Result.andThen_ok, List.map_toArray, List.map_cons, List.map_nil, hx', hyv, hrun]
  rw [he]
  obtain ⟨g', cap, hv'⟩ : ∃ g' cap, v' = .slice (some ⟨g', 0, none⟩) (l ++ l2).length cap := by
    rcases hown'.2 with ⟨e1, _⟩ | ⟨g', cap, cur, e1, _⟩
    · rw [e1] at hb'
      rcases hb' with e2 | e2 <;> cases e2
    · exact ⟨g', cap, by rw [e1, List.length_append]⟩
  subst hv'
  have hblk : ∀ k, S k → w'.heap[k]? = w.heap[k]? := fun k hk => hgr.block k (H.lt k hk) fun e => hdisS k hk e.symm
  refine ⟨Gr.of_grownBy hgr, (g', cap), rfl, ⟨cells ++ news, by rw [List.length_append] at hown' ⊢; exact hown', h0, fun j d hj => ?_⟩, fun k hk => ⟨?_, (World.ownsRow.lt hown' k hk).2⟩⟩
  · by_cases hjl : j < l.length
    · rw [List.getElem?_append_left hjl] at hj
      rw [join_left hown.1 hjl]
      exact T.keepS (hR j d hj) hblk fun _ h => h
    · rw [List.getElem?_append_right (by omega)] at hj
      obtain ⟨m, rfl⟩ : ∃ m, j = l.length + m := ⟨j - l.length, by omega⟩
      rw [join_right hown.1]
      exact T.keepS (hnR m d (by simpa using hj)) hblk fun _ h => h
  · have hk : some g' = some k := hk
    cases hk
    rcases hb' with e1 | e1
    · left
      exact e1.symm
    · right
      have e1 : some g' = some w.heap.size := e1
      cases e1
      exact Nat.le_refl _
/-- nothing is a nil row -/
theorem St.le_empNil (i : Nat) (e : TypeId) (hi : h[i]? = some (.res .emp)) (h0 : 0 < T.size) : St.le C ⟨t, h⟩ ⟨t, h.set i (.res (rowR (.slice none 0 0) e T []))⟩ :=
  St.le_res hi (fun g hg => by
    have hg : blkOf (.slice none 0 0) = some g := hg
    cases hg) (fun w S _ => ⟨[], ⟨by simp, .inl ⟨rfl, rfl⟩⟩, h0, fun i d hd => by simp at hd⟩) rfl
theorem St.le_move {R : Res} (i j : Nat) (hij : i ≠ j) (hi : h[i]? = some (.res .emp)) (hj : h[j]? = some (.res R)) (hm : R.mrk = [] := by rfl) : St.le C ⟨t, h⟩ ⟨t, (h.set j .dead).set i (.res R)⟩ :=
  St.le_merge hij hi hj rfl hm hm (fun g hg => .inr hg) fun w S _ h2 _ => h2
end
section
variable {P : Program} {f : FuncId} {α : Type} {T : Ty α} {l : List α} {R : Res} {ι κ : Type} {Rs : ι → Res} {rs : ι → AV}
/-- the first argument is nil, or not -/
theorem FnTurnS.nilOr {rest : List AV} (hE : Enters P f = true) (hN : l = [] → FnTurnS P f R (.lit (.slice none 0 0) :: rest) Rs rs) (hP : FnTurnS P f R (.tv T.sliceP l :: rest) Rs rs) : FnTurnS P f R (.bs T l :: rest) Rs rs := ⟨hE, fun w S vs a b c hr => by
  unfold AV.relL at hr
  obtain ⟨v, us, rfl, h1, h2⟩ := hr
  have h1' := h1
  unfold AV.rel at h1
  obtain ⟨A, cc, rfl⟩ := slice_form h1
  cases A with
  | none =>
    obtain ⟨e1, e2, e3⟩ := slice_nil_at h1
    refine (hN e1).2 w S _ a b c ?_
    unfold AV.relL
    exact ⟨_, _, rfl, by unfold AV.rel; rw [e2, e3], h2⟩
  | some ad =>
    refine hP.2 w S _ a b c ?_
    unfold AV.relL
    exact ⟨_, _, rfl, by unfold AV.rel; exact ⟨h1, fun e => by cases e⟩, h2⟩⟩
theorem FnTurnS.reidx {Rs' : κ → Res} {rs' : κ → AV} {xs : List AV} (k : ι → κ) (h1 : ∀ p, Rs' (k p) = Rs p) (h2 : ∀ p, rs' (k p) = rs p) (h : FnTurnS P f R xs Rs rs) : FnTurnS P f R xs Rs' rs' := ⟨h.1, fun w S vs a b c hr => (h.2 w S vs a b c hr).mono fun e w' ⟨v, he, hT⟩ => ⟨v, he, hT.gr, by
  obtain ⟨p, S', k1, k2, k3, k4, k5, k6⟩ := hT.some
  exact ⟨k p, S', k1, k2, k3, by rw [h2]; exact k4, by rw [h1]; exact k5, fun g hg => k6 g (by rw [h1] at hg; exact hg)⟩⟩⟩
end
end Mu
end
section
/-
  The flat model in plain words: a step, and what its frames are.
  Conditions: none.
-/
namespace Mu
open Go

structure Fr where
  f : Nat
  b : Nat
  i : Nat
  regs : List Int
structure Mdl where
  heap : List Int
  out : List Int
  ch : List Int
  ths : List (List Fr)
  at_ : Nat
  kind : Int
  v : Int
def funA (p : Prog) (k : Nat) : Func := p.funcs.getD k default
def blkA (p : Prog) (r : Fr) : List Ins := ((funA p r.f).blocks.getD r.b default).ins
def insA (p : Prog) (r : Fr) : Ins := (blkA p r).getD r.i default
def thA (s : Mdl) : List Fr := s.ths.getD s.at_ []
def topF (s : Mdl) : Fr := (thA s).getLastD ⟨0, 0, 0, []⟩
def putT (s : Mdl) (l : List Fr) : Mdl := { s with ths := s.ths.set s.at_ l }
def setTop (s : Mdl) (r : Fr) : Mdl := putT s ((thA s).dropLast ++ [r])
def liveT (s : Mdl) : List Nat := (List.range s.ths.length).filter fun t => !(s.ths.getD t []).isEmpty
def chooseM (s : Mdl) : Mdl := { s with ch := s.ch.tail, at_ := (liveT s).getD ((s.ch.headD 0).toNat % (liveT s).length) 0 }
def regA (r : Fr) (k : Int) : Int := r.regs.getD k.toNat 0
def newFr (p : Prog) (f : Nat) (args : List Int) : Fr := ⟨f, 0, 0, args.take (funA p f).regs.toNat ++ List.replicate ((funA p f).regs.toNat - args.length) 0⟩
def nextF (r : Fr) (l : List Int) : Fr := ⟨r.f, r.b, r.i + 1, l⟩
def faultM (s : Mdl) (why : Int) : Mdl := { s with kind := 2, v := why }
/-- what an instruction does to a model whose innermost frame is r -/
def stepM (dw : Int → Int → Int → Option Int) (p : Prog) (s : Mdl) (r : Fr) (x : Ins) : Mdl :=
  if x.op = 0 then setTop s (nextF r <| r.regs.set x.d.toNat x.n)
  else if x.op = 1 then
    match dw x.n (regA r x.a) (regA r x.b) with
    | some w => setTop s (nextF r <| r.regs.set x.d.toNat w)
    | none => faultM s 1
  else if x.op = 2 then setTop s (nextF r <| r.regs.set x.d.toNat (regA r x.a))
  else if x.op = 3 then if (regA r x.a).toNat < s.heap.length then setTop s (nextF r <| r.regs.set x.d.toNat (s.heap.getD (regA r x.a).toNat 0)) else faultM s 2
  else if x.op = 4 then if (regA r x.a).toNat < s.heap.length then { setTop s (nextF r r.regs) with heap := s.heap.set (regA r x.a).toNat (regA r x.b) } else faultM s 2
  else if x.op = 5 then putT s (thA s ++ [newFr p x.f.toNat (x.args.map (regA r))])
  else if x.op = 6 then { setTop s (nextF r r.regs) with out := s.out ++ [regA r x.a] }
  else if x.op = 7 then chooseM (setTop s (nextF r r.regs))
  else if x.op = 8 then setTop s ⟨r.f, x.l1.toNat, 0, r.regs⟩
  else if x.op = 9 then setTop s ⟨r.f, if regA r x.a = 0 then x.l2.toNat else x.l1.toNat, 0, r.regs⟩
  else
    match (thA s).dropLast.getLast? with
    | some up => putT s ((thA s).dropLast.dropLast ++ [⟨up.f, up.b, up.i + 1, up.regs.set (insA p up).d.toNat (regA r x.a)⟩])
    | none => if s.at_ = 0 then { putT s [] with kind := 1, v := regA r x.a } else chooseM (putT s [])
/-- one step of a model that runs -/
def oneM (dw : Int → Int → Int → Option Int) (p : Prog) (s : Mdl) : Mdl := stepM dw p s (topF s) (insA p (topF s))

/-! ### what holds of a model -/
structure InsOk (p : Prog) (f : Func) (x : Ins) : Prop where
  op : 0 ≤ x.op ∧ x.op ≤ 10
  reads : ∀ r ∈ readsC x, 0 ≤ r ∧ r < f.regs
  dst : writesB x = true → 0 ≤ x.d ∧ x.d < f.regs
  call : x.op = 5 → 0 ≤ x.f ∧ x.f.toNat < p.funcs.length ∧ (x.args.length : Int) = (funA p x.f.toNat).args
  l1 : x.op = 8 ∨ x.op = 9 → 0 ≤ x.l1 ∧ x.l1.toNat < f.blocks.length
  l2 : x.op = 9 → 0 ≤ x.l2 ∧ x.l2.toNat < f.blocks.length
structure FuncOk (p : Prog) (f : Func) : Prop where
  args : 0 ≤ f.args ∧ f.args ≤ f.regs
  blocks : f.blocks ≠ []
  ins : ∀ b ∈ f.blocks, b.ins ≠ [] ∧ (∀ x ∈ b.ins, InsOk p f x) ∧ ∀ (i : Nat) (x : Ins), b.ins[i]? = some x → (8 ≤ x.op ↔ i + 1 = b.ins.length)
structure ProgOk (p : Prog) : Prop where
  funcs : ∀ f ∈ p.funcs, FuncOk p f
  threads : p.threads ≠ [] ∧ ∀ t ∈ p.threads, 0 ≤ t ∧ t.toNat < p.funcs.length ∧ (funA p t.toNat).args = 0
structure FrOk (p : Prog) (r : Fr) : Prop where
  f : r.f < p.funcs.length
  b : r.b < (funA p r.f).blocks.length
  i : r.i < (blkA p r).length
  regs : r.regs.length = (funA p r.f).regs.toNat
/-- each frame stands at the call of the one above it -/
def Chain (p : Prog) : List Fr → Prop
  | [] => True
  | [_] => True
  | r :: u :: l => ((insA p r).op = 5 ∧ (insA p r).f = (u.f : Int)) ∧ Chain p (u :: l)
theorem Chain.mid {p : Prog} : ∀ {l : List Fr} {r u : Fr} {m : List Fr}, Chain p (l ++ r :: u :: m) → (insA p r).op = 5 ∧ (insA p r).f = (u.f : Int)
  | [], _, _, _, h => h.1
  | [_], _, _, _, h => h.2.1
  | _ :: b :: l, r, u, m, h => Chain.mid (l := b :: l) (r := r) (u := u) (m := m) h.2
theorem Chain.left {p : Prog} : ∀ {l m : List Fr}, Chain p (l ++ m) → Chain p l
  | [], _, _ => trivial
  | [_], _, _ => trivial
  | _ :: b :: l, m, h => ⟨h.1, Chain.left (l := b :: l) (m := m) h.2⟩
/-- the last frame in place of another one of the same function -/
theorem Chain.last {p : Prog} : ∀ {l : List Fr} {r r' : Fr}, Chain p (l ++ [r]) → r'.f = r.f → Chain p (l ++ [r'])
  | [], _, _, _, _ => trivial
  | [_], r, r', h, e => ⟨⟨h.1.1, by rw [h.1.2, e]⟩, trivial⟩
  | _ :: b :: l, r, r', h, e => ⟨h.1, Chain.last (l := b :: l) h.2 e⟩
theorem Chain.push {p : Prog} : ∀ {l : List Fr} {r u : Fr}, Chain p (l ++ [r]) → (insA p r).op = 5 → (insA p r).f = (u.f : Int) → Chain p (l ++ [r, u])
  | [], _, _, _, h1, h2 => ⟨⟨h1, h2⟩, trivial⟩
  | [_], r, u, h, h1, h2 => ⟨h.1, ⟨h1, h2⟩, trivial⟩
  | _ :: b :: l, r, u, h, h1, h2 => ⟨h.1, Chain.push (l := b :: l) h.2 h1 h2⟩
structure MOk (p : Prog) (s : Mdl) : Prop where
  len : s.ths.length = p.threads.length
  frs : ∀ (t : Nat) (l : List Fr), s.ths[t]? = some l → (∀ r ∈ l, FrOk p r) ∧ Chain p l ∧ ∀ r, l.head? = some r → p.threads[t]? = some (r.f : Int)
  zero : s.kind = 0 → s.ths.getD 0 [] ≠ []
  run : s.kind = 0 → s.at_ < s.ths.length ∧ thA s ≠ []
theorem thA_at {s : Mdl} (h : s.at_ < s.ths.length) : s.ths[s.at_]? = some (thA s) := by
  unfold thA
  rw [List.getD_eq_getElem?_getD, List.getElem?_eq_getElem h]
  rfl
theorem putT_get {s : Mdl} {l l' : List Fr} {t : Nat} (hl : s.at_ < s.ths.length) (h : (putT s l).ths[t]? = some l') : (t = s.at_ ∧ l' = l) ∨ (t ≠ s.at_ ∧ s.ths[t]? = some l') := by
  unfold putT at h
  by_cases e : t = s.at_
  · subst e
    rw [List.getElem?_set_self hl] at h
    exact .inl ⟨rfl, (Option.some.inj h).symm⟩
  · rw [List.getElem?_set_ne (Ne.symm e)] at h
    exact .inr ⟨e, h⟩
theorem putT_zero {s : Mdl} {l : List Fr} (h0 : s.ths.getD 0 [] ≠ []) (hl : l ≠ [] ∨ s.at_ ≠ 0) : (putT s l).ths.getD 0 [] ≠ [] := by
  unfold putT
  rw [List.getD_eq_getElem?_getD, List.getElem?_set]
  split
  · split
    · rename_i e _
      rcases hl with hl | hl
      · exact hl
      · exact absurd e hl
    · rename_i e h1
      rw [List.getD_eq_getElem?_getD, ← e, List.getElem?_eq_none (Nat.le_of_not_lt h1)] at h0
      exact absurd rfl h0
  · rw [List.getD_eq_getElem?_getD] at h0
    exact h0
/-- other words, another thread's turn or a stop do not matter -/
theorem MOk.of {p : Prog} {s s' : Mdl} (h : MOk p s) (h1 : s'.ths = s.ths) (h2 : s'.kind = 0 → s.kind = 0 ∧ s'.at_ = s.at_) : MOk p s' where
  len := by rw [h1]; exact h.len
  frs := by rw [h1]; exact h.frs
  zero := fun e => by rw [h1]; exact h.zero (h2 e).1
  run := fun e => by
    obtain ⟨e1, e2⟩ := h2 e
    unfold thA
    rw [h1, e2]
    exact h.run e1
/-- the frames of the thread whose turn it is in place of others -/
theorem MOk.put {p : Prog} {s : Mdl} (h : MOk p s) (hk : s.kind = 0) {l : List Fr} (hl : l ≠ []) (h1 : ∀ r ∈ l, FrOk p r) (h2 : Chain p l) (h3 : ∀ r, l.head? = some r → ∃ r0, (thA s).head? = some r0 ∧ r.f = r0.f) : MOk p (putT s l) := by
  obtain ⟨ha, _⟩ := h.run hk
  have e := thA_at ha
  refine ⟨by unfold putT; rw [List.length_set]; exact h.len, fun t l' ht => ?_, fun _ => putT_zero (h.zero hk) (.inl hl), fun _ => ⟨by unfold putT; rw [List.length_set]; exact ha, ?_⟩⟩
  · rcases putT_get ha ht with ⟨rfl, rfl⟩ | ⟨_, ht⟩
    · refine ⟨h1, h2, fun r hr => ?_⟩
      obtain ⟨r0, hr0, e0⟩ := h3 r hr
      rw [e0]
      exact (h.frs _ _ e).2.2 r0 hr0
    · exact h.frs t l' ht
  · have : thA (putT s l) = l := by
      unfold thA putT
      simp only
      rw [List.getD_eq_getElem?_getD, List.getElem?_set_self ha]
      rfl
    rw [this]
    exact hl
theorem liveT_mem {s : Mdl} {t : Nat} : t ∈ liveT s ↔ t < s.ths.length ∧ s.ths.getD t [] ≠ [] := by
  unfold liveT
  rw [List.mem_filter, List.mem_range]
  simp
theorem MOk.choose {p : Prog} {s : Mdl} (h1 : s.ths.length = p.threads.length) (h2 : ∀ (t : Nat) (l : List Fr), s.ths[t]? = some l → (∀ r ∈ l, FrOk p r) ∧ Chain p l ∧ ∀ r, l.head? = some r → p.threads[t]? = some (r.f : Int)) (h0 : s.ths.getD 0 [] ≠ []) : MOk p (chooseM s) := by
  have hlt : 0 < s.ths.length := by
    rcases Nat.eq_zero_or_pos s.ths.length with e | e
    · rw [List.getD_eq_getElem?_getD, List.getElem?_eq_none (by omega)] at h0
      exact absurd rfl h0
    · exact e
  have hm : 0 ∈ liveT s := liveT_mem.2 ⟨hlt, h0⟩
  have hn : 0 < (liveT s).length := List.length_pos_of_mem hm
  have hi := Nat.mod_lt (s.ch.headD 0).toNat hn
  have hat := liveT_mem.1 (List.getElem_mem hi)
  have e : (chooseM s).at_ = (liveT s)[(s.ch.headD 0).toNat % (liveT s).length] := by
    show (liveT s).getD _ 0 = _
    rw [List.getD_eq_getElem?_getD, List.getElem?_eq_getElem hi]
    rfl
  refine ⟨h1, h2, fun _ => h0, fun _ => ?_⟩
  unfold thA
  rw [e]
  exact hat
theorem blk_ok {p : Prog} (hp : ProgOk p) {r : Fr} (hr : FrOk p r) : FuncOk p (funA p r.f) ∧ InsOk p (funA p r.f) (insA p r) ∧ (8 ≤ (insA p r).op ↔ r.i + 1 = (blkA p r).length) := by
  have hf : funA p r.f ∈ p.funcs := by
    unfold funA
    rw [List.getD_eq_getElem?_getD, List.getElem?_eq_getElem hr.f]
    exact List.getElem_mem hr.f
  have hF := hp.funcs _ hf
  have hb : (funA p r.f).blocks.getD r.b default ∈ (funA p r.f).blocks := by
    rw [List.getD_eq_getElem?_getD, List.getElem?_eq_getElem hr.b]
    exact List.getElem_mem hr.b
  obtain ⟨_, h2, h3⟩ := hF.ins _ hb
  have hx : (blkA p r)[r.i]? = some (insA p r) := by
    unfold insA
    rw [List.getD_eq_getElem?_getD, List.getElem?_eq_getElem hr.i]
    rfl
  exact ⟨hF, h2 _ (List.mem_of_getElem? hx), h3 _ _ hx⟩
theorem fun_ok {p : Prog} (hp : ProgOk p) {k : Nat} (hk : k < p.funcs.length) : FuncOk p (funA p k) := hp.funcs _ (by
  unfold funA
  rw [List.getD_eq_getElem?_getD, List.getElem?_eq_getElem hk]
  exact List.getElem_mem hk)
theorem new_ok {p : Prog} (hp : ProgOk p) {k : Nat} (hk : k < p.funcs.length) {args : List Int} (ha : (args.length : Int) ≤ (funA p k).regs) : FrOk p (newFr p k args) := by
  have hF := fun_ok hp hk
  have hb : 0 < (funA p k).blocks.length := List.length_pos_iff.2 hF.blocks
  have hm : (funA p k).blocks.getD 0 default ∈ (funA p k).blocks := by
    rw [List.getD_eq_getElem?_getD, List.getElem?_eq_getElem hb]
    exact List.getElem_mem hb
  refine ⟨hk, hb, List.length_pos_iff.2 (hF.ins _ hm).1, ?_⟩
  show (args.take (funA p k).regs.toNat ++ List.replicate ((funA p k).regs.toNat - args.length) 0).length = (funA p k).regs.toNat
  rw [List.length_append, List.length_take, List.length_replicate]
  omega
/-- a step keeps it -/
theorem MOk.one {dw : Int → Int → Int → Option Int} {p : Prog} (hp : ProgOk p) {s : Mdl} (h : MOk p s) (hk : s.kind = 0) : MOk p (oneM dw p s) := by
  obtain ⟨ha, hne⟩ := h.run hk
  obtain ⟨hfr, hch, hhd⟩ := h.frs _ _ (thA_at ha)
  obtain ⟨l0, r, hl⟩ : ∃ l0 r, thA s = l0 ++ [r] := ⟨_, _, (List.dropLast_concat_getLast hne).symm⟩
  have htop : topF s = r := by
    unfold topF
    rw [hl]
    simp
  have hdl : (thA s).dropLast = l0 := by rw [hl]; simp
  rw [hl] at hfr hch
  have hr := hfr r (by simp)
  obtain ⟨hF, hx, hend⟩ := blk_ok hp hr
  have hhead : ∀ (r' : Fr) (m : List Fr), r'.f = r.f → ∀ q, (l0 ++ r' :: m).head? = some q → ∃ r0, (thA s).head? = some r0 ∧ q.f = r0.f := fun r' m e q hq => by
    rw [hl]
    cases l0 with
    | nil =>
      simp only [List.nil_append, List.head?_cons, Option.some.injEq] at hq
      exact ⟨r, rfl, by rw [← hq, e]⟩
    | cons a l =>
      simp only [List.cons_append, List.head?_cons, Option.some.injEq] at hq
      exact ⟨a, rfl, by rw [← hq]⟩
  have hset : ∀ r' : Fr, FrOk p r' → r'.f = r.f → MOk p (setTop s r') := fun r' h1 h2 => by
    unfold setTop
    rw [hdl]
    refine h.put hk (by simp) (fun q hq => ?_) (Chain.last hch h2) (hhead r' [] h2)
    rcases List.mem_append.1 hq with hq | hq
    · exact hfr q (by simp [hq])
    · rw [List.mem_singleton.1 hq]
      exact h1
  have hnx : (insA p r).op < 8 → ∀ l : List Int, l.length = r.regs.length → MOk p (setTop s (nextF r l)) := fun h8 l hll => hset _ ⟨hr.f, hr.b, by
    have := hr.i
    show r.i + 1 < (blkA p r).length
    have h1 : ¬ r.i + 1 = (blkA p r).length := fun e => by have := hend.2 e; omega
    omega, by show l.length = _; rw [hll]; exact hr.regs⟩ rfl
  unfold oneM
  rw [htop]
  generalize hX : insA p r = x at hx hend hnx ⊢
  unfold stepM
  by_cases e0 : x.op = 0
  · rw [if_pos e0]
    exact hnx (by omega) _ (by simp)
  rw [if_neg e0]
  by_cases e1 : x.op = 1
  · rw [if_pos e1]
    cases dw x.n (regA r x.a) (regA r x.b) with
    | some w => exact hnx (by omega) _ (by simp)
    | none => exact h.of rfl fun e => by cases e
  rw [if_neg e1]
  by_cases e2 : x.op = 2
  · rw [if_pos e2]
    exact hnx (by omega) _ (by simp)
  rw [if_neg e2]
  by_cases e3 : x.op = 3
  · rw [if_pos e3]
    by_cases hh : (regA r x.a).toNat < s.heap.length
    · rw [if_pos hh]
      exact hnx (by omega) _ (by simp)
    · rw [if_neg hh]
      exact h.of rfl fun e => by cases e
  rw [if_neg e3]
  by_cases e4 : x.op = 4
  · rw [if_pos e4]
    by_cases hh : (regA r x.a).toNat < s.heap.length
    · rw [if_pos hh]
      exact (hnx (by omega) r.regs rfl).of rfl fun e => ⟨e, rfl⟩
    · rw [if_neg hh]
      exact h.of rfl fun e => by cases e
  rw [if_neg e4]
  by_cases h5 : x.op = 5
  · rw [if_pos h5]
    obtain ⟨c1, c2, c3⟩ := hx.call h5
    have hG := fun_ok hp c2
    rw [hl, List.append_assoc]
    refine h.put hk (by simp) (fun q hq => ?_) (Chain.push hch (by rw [hX]; exact h5) (by rw [hX]; show x.f = ((x.f.toNat : Nat) : Int); omega)) (hhead r _ rfl)
    rcases List.mem_append.1 hq with hq | hq
    · exact hfr q (by simp [hq])
    · rcases List.mem_cons.1 hq with rfl | hq
      · exact hr
      · rw [List.mem_singleton.1 hq]
        exact new_ok hp c2 (by rw [List.length_map, c3]; exact hG.args.2)
  rw [if_neg h5]
  by_cases e6 : x.op = 6
  · rw [if_pos e6]
    exact (hnx (by omega) r.regs rfl).of rfl fun e => ⟨e, rfl⟩
  rw [if_neg e6]
  by_cases e7 : x.op = 7
  · rw [if_pos e7]
    have hm := hnx (by omega) r.regs rfl
    exact MOk.choose hm.len hm.frs (hm.zero hk)
  rw [if_neg e7]
  have hgo : ∀ k : Nat, k < (funA p r.f).blocks.length → FrOk p ⟨r.f, k, 0, r.regs⟩ := fun k hk => ⟨hr.f, hk, by
    have hm : (funA p r.f).blocks.getD k default ∈ (funA p r.f).blocks := by
      rw [List.getD_eq_getElem?_getD, List.getElem?_eq_getElem hk]
      exact List.getElem_mem hk
    exact List.length_pos_iff.2 (hF.ins _ hm).1, hr.regs⟩
  by_cases h8 : x.op = 8
  · rw [if_pos h8]
    exact hset _ (hgo _ (hx.l1 (.inl h8)).2) rfl
  rw [if_neg h8]
  by_cases h9 : x.op = 9
  · rw [if_pos h9]
    refine hset _ (hgo _ ?_) rfl
    by_cases hz : regA r x.a = 0
    · rw [if_pos hz]
      exact (hx.l2 h9).2
    · rw [if_neg hz]
      exact (hx.l1 (.inr h9)).2
  rw [if_neg h9]
  rw [hdl]
  cases hup : l0.getLast? with
  | some up =>
    obtain ⟨l1, rfl⟩ : ∃ l1, l0 = l1 ++ [up] := by
      obtain ⟨l1, e⟩ := List.getLast?_eq_some_iff.1 hup
      exact ⟨l1, e⟩
    have hc := Chain.mid (l := l1) (r := up) (u := r) (m := []) (by simpa using hch)
    have hu := hfr up (by simp)
    obtain ⟨_, _, he⟩ := blk_ok hp hu
    rw [List.dropLast_concat]
    refine h.put hk (by simp) (fun q hq => ?_) (Chain.last (r := up) (Chain.left (m := [r]) hch) rfl) fun q hq => ?_
    · rcases List.mem_append.1 hq with hq | hq
      · exact hfr q (by simp [hq])
      · rw [List.mem_singleton.1 hq]
        refine ⟨hu.f, hu.b, ?_, by rw [← hu.regs]; simp⟩
        have h1 : ¬ up.i + 1 = (blkA p up).length := fun e => by have := he.2 e; omega
        have h2 := hu.i
        show up.i + 1 < (blkA p up).length
        omega
    · rw [hl]
      cases l1 with
      | nil =>
        simp only [List.nil_append, List.head?_cons, Option.some.injEq] at hq
        exact ⟨up, rfl, by rw [← hq]⟩
      | cons a l =>
        simp only [List.cons_append, List.head?_cons, Option.some.injEq] at hq
        exact ⟨a, rfl, by rw [← hq]⟩
  | none =>
    have hg : ∀ (t : Nat) (l : List Fr), (putT s []).ths[t]? = some l → (∀ r ∈ l, FrOk p r) ∧ Chain p l ∧ ∀ r, l.head? = some r → p.threads[t]? = some (r.f : Int) := fun t l ht => by
      rcases putT_get ha ht with ⟨_, rfl⟩ | ⟨_, ht⟩
      · exact ⟨fun _ hq => (by cases hq), trivial, fun _ hq => by cases hq⟩
      · exact h.frs t l ht
    have hlen : (putT s []).ths.length = p.threads.length := by
      unfold putT
      rw [List.length_set]
      exact h.len
    show MOk p (if s.at_ = 0 then _ else _)
    by_cases h0 : s.at_ = 0
    · rw [if_pos h0]
      exact ⟨hlen, hg, fun e => (by cases e), fun e => by cases e⟩
    · rw [if_neg h0]
      exact MOk.choose hlen hg (putT_zero (h.zero hk) (.inr h0))
end Mu
end
section
/-
  A region whose proof brings variables of its own.
  Conditions: none; generic.
-/
namespace Mu
open Go Go.RowKit

section
variable {P : Program} {C : Ctx}
end
end Mu
end
section
/-
  Arrays of elements of one cell: made of a literal; an element's address.
  Conditions: none; generic.
-/
namespace Mu
open Go Go.RowKit Go.ChangeShapes Go.WideShapes

section
variable {P : Program} {C : Ctx} {t : List AV} {h : List ABlk} {o : Oper}
def arrOf (P : Program) (ty : TypeId) : Option (Nat × Nat) :=
  match P.underlying ty with
  | some (.array n e) => (P.info? e).map fun i => (n, i.size)
  | _ => none
theorem run_indexAt_arr {ty : TypeId} {b off n sz k : Nat} {ik : IntKind} {w : World} (hs : arrOf P ty = some (n, sz)) (hk : k < n) : (Instr.indexAt ty (.pointer (some ⟨b, off, none⟩)) (.int ik (k : Int))).run P w = .ok (.pointer (some ⟨b, off + k * sz, none⟩)) w := by
  unfold arrOf at hs
  split at hs <;> try (cases hs; done)
  rename_i n' e h1
  cases h2 : P.info? e with
  | none => rw [h2] at hs; cases hs
  | some i =>
    rw [h2] at hs
    simp only [Option.map_some, Option.some.injEq, Prod.mk.injEq] at hs
    obtain ⟨rfl, rfl⟩ := hs
    have h3 : (0 : Int) ≤ (k : Int) ∧ (k : Int) < (n' : Int) := by omega
    simp [Instr.indexAt, asIntOf, underlying, h1, Instr.sureAddr, Go.sizeOf, typeInfo, h2, add_plain, hk]
theorem Quiet.ixArr {ty : TypeId} {x y : Operand} {ik : IntKind} {i off n k : Nat} {cells : List AV} (hs : arrOf P ty = some (n, 1)) (ho : o.op = .indexAddr ty x y) (hx : evA t x = .ptr i off) (hi : h[i]? = some (.box cells)) (hy : evA t y = .lit (.int ik (k : Int))) (hk : k < n) : Quiet P C t h o (.ptr i (off + k)) :=
  Quiet.of_run fun S ψ w ρ H hρ => by
    have h1 := hρ x (by simp [ho, Op.operands])
    have h2 := hρ y (by simp [ho, Op.operands])
    rw [hx] at h1
    rw [hy] at h2
    unfold AV.rel at h1 h2
    obtain ⟨g, h3, h4⟩ := h1.2 (by rw [hi]; rfl)
    have hr := run_indexAt_arr (P := P) (w := w) (b := g) (off := off) (ik := ik) hs hk
    refine ⟨.pointer (some ⟨g, off + k * 1, none⟩), by simp [execOp, ho, h4, h2, hr], ?_⟩
    unfold AV.rel
    exact ⟨h1.1, fun _ => ⟨g, h3, by rw [Nat.mul_one]⟩⟩
/-- cells with single cells put in -/
def putCellsA : List AV → List (Nat × AV) → Option (List AV)
  | cs, [] => some cs
  | cs, (j, x) :: ps => if j < cs.length then putCellsA (cs.set j x) ps else none
theorem fill_arr {w : World} {S : Nat → Prop} {h : List ABlk} {ψ : Nat → Value} : ∀ (ps : List (Nat × AV)) (cs rs : List AV) (vs : List (Nat × Value)) (us : List Value), putCellsA cs ps = some rs → AV.relL w S h ψ cs us →
    vs.map (·.1) = ps.map (·.1) → (∀ (j : Nat) (p : Nat × AV) (v : Nat × Value), ps[j]? = some p → vs[j]? = some v → AV.rel w S h ψ p.2 v.2 ∧ v.2.oneCell' = true) →
    ∃ us', Instr.fill (fun i => some (i * 1, 1)) us.toArray vs = some us'.toArray ∧ AV.relL w S h ψ rs us'
  | [], cs, rs, vs, us, hp, hr, hv, _ => by
    cases hp
    have : vs = [] := by simpa using hv
    subst this
    exact ⟨us, rfl, hr⟩
  | (j, x) :: ps, cs, rs, vs, us, hp, hr, hv, hrel => by
    cases vs with
    | nil => simp at hv
    | cons v vs =>
      simp only [List.map_cons, List.cons.injEq] at hv
      obtain ⟨hv1, hv2⟩ := hv
      unfold putCellsA at hp
      split at hp <;> try (cases hp; done)
      rename_i hoff
      obtain ⟨h1, h2⟩ := hrel 0 _ _ rfl rfl
      have hul := relL_len hr
      obtain ⟨us', h3, h4⟩ := fill_arr ps (cs.set j x) rs vs (us.set j v.2) hp (relL_set hr j h1) hv2 fun j p v hp hv => hrel (j + 1) p v (by simpa using hp) (by simpa using hv)
      refine ⟨us', ?_, h4⟩
      obtain ⟨i, v⟩ := v
      dsimp only at hv1 h1 h2 h3
      subst hv1
      unfold Instr.fill
      simp only [Nat.mul_one, cells_one h2]
      have hc : ¬ ((decide ((#[v] : Array Value).size ≠ 1) || decide (i + (#[v] : Array Value).size > us.toArray.size)) = true) := by
        simp
        omega
      rw [if_neg hc]
      simpa using h3
theorem Quiet.bldA {ty : TypeId} {parts : Array (Nat × Operand)} {zs : List Value} {n : Nat} {rs : List AV} (ho : o.op = .build ty parts) (hz : zeroCells? P ty = some zs) (hs : arrOf P ty = some (n, 1))
    (hr : putCellsA (zs.map .lit) (parts.toList.map fun p => (p.1, evA t p.2)) = some rs) (h1 : (parts.toList.all fun p => litBs (evA t p.2)) = true) : Quiet P C t h o (.agg rs) :=
  Quiet.of_run fun S ψ w ρ H hρ => by
    unfold zeroCells? at hz
    obtain ⟨z, hz1, rfl⟩ := Option.map_eq_some_iff.1 hz
    obtain ⟨i, hi, hz2⟩ := Option.bind_eq_some_iff.1 hz1
    unfold arrOf at hs
    split at hs <;> try (cases hs; done)
    rename_i n' e hu
    cases h2 : P.info? e with
    | none => rw [h2] at hs; cases hs
    | some ie =>
      rw [h2] at hs
      simp only [Option.map_some, Option.some.injEq, Prod.mk.injEq] at hs
      obtain ⟨rfl, he1⟩ := hs
      have hmem : ∀ p ∈ parts.toList, AV.rel w S h ψ (evA t p.2) (ρ p.2) := fun p hp => hρ p.2 (by rw [ho]; exact List.mem_toArray.2 (List.mem_map.2 ⟨p, hp, rfl⟩))
      obtain ⟨us', h3, h4⟩ := fill_arr (w := w) (S := S) (h := h) (ψ := ψ) _ _ rs (parts.toList.map fun p => (p.1, ρ p.2)) z.cells.toList hr (relL_lits _) (by simp) fun j p v hp hv => by
        rw [List.getElem?_map] at hp hv
        obtain ⟨q, hq, rfl⟩ := Option.map_eq_some_iff.1 hp
        rw [hq] at hv
        cases hv
        have hqm := List.mem_of_getElem? hq
        exact ⟨hmem q hqm, One.litBs (List.all_eq_true.1 h1 q hqm) C S ψ w _ H (hmem q hqm)⟩
      refine ⟨.agg us'.toArray, ?_, by unfold AV.rel; exact ⟨us', rfl, h4⟩⟩
      have hf : Instr.fill (fun i => some (i * 1, 1)) z.cells (parts.map fun p => (p.1, ρ p.2)).toList = some us'.toArray := by simpa using h3
      simp only [execOp, ho, Instr.build, zeroValue, typeInfo, underlying, Go.sizeOf, Sem.run_bind, run_program, Result.andThen_ok, hi, hz2, Sem.run_pure, hu, h2, he1, hf]
end
end Mu
end
section
/-
  Records of numbers and bools that are compared.
  Conditions: none; generic.
-/
namespace Mu
open Go Go.RowKit Go.Proofs

section
variable {P : Program} {w : World}
end
section
variable {P : Program} {C : Ctx} {t : List AV} {h : List ABlk} {o : Oper}
end
end Mu
end
section
/-
  Walks that show M: arrays of numbers.
  Conditions: none; generic.
-/
namespace Mu
open Go Go.RowKit Go.Proofs Go.ChangeShapes Go.WideShapes

section
variable {P : Program} {C : Ctx} {t : List AV} {h : List ABlk} {o : Oper}
end
end Mu
end
section
/-
  Regions that draw their order, whatever they do: the state is told by what is done so far.
  Conditions: none; generic.
-/
namespace Mu
open Go Go.RowKit

section
variable {P : Program} {C : Ctx}
def upd (b : Nat → Bool) (i : Nat) : Nat → Bool := fun j => if j = i then true else b j
/-- what an operation waits for is done -/
def aftD (b : Nat → Bool) (o : Oper) : Prop := ∀ (k : Nat) (e : Go.Edge), o.after[k]? = some e → Region.binds .any e = true → b e.on = true
def clsD (ops : Array Oper) (b : Nat → Bool) : Prop := ∀ (j : Nat) (o : Oper), ops[j]? = some o → b j = true → aftD b o
def gS (P : Program) (C : Ctx) (F : (Nat → Bool) → St) (ops : Array Oper) : Nat → List Oper → Prop
  | _, [] => True
  | k, o :: rest => (∀ b, b k = false → aftD b o → clsD ops b → AOp P C o (F b) fun s => St.le C s (F (upd b k))) ∧ gS P C F ops (k + 1) rest
theorem gS_get {F : (Nat → Bool) → St} {ops : Array Oper} : ∀ {l : List Oper} {k j : Nat} {o : Oper}, gS P C F ops k l → l[j]? = some o → ∀ b, b (k + j) = false → aftD b o → clsD ops b → AOp P C o (F b) fun s => St.le C s (F (upd b (k + j)))
  | [], _, _, _, _, hj => by simp at hj
  | o' :: l, k, 0, o, h, hj => by
    simp at hj
    subst hj
    exact h.1
  | o' :: l, k, j + 1, o, h, hj => by
    have := gS_get (l := l) (k := k + 1) (j := j) h.2 (by simpa using hj)
    rwa [show k + 1 + j = k + (j + 1) by omega] at this
def fwdB (ops : Array Oper) : Bool := (List.range ops.size).all fun i => match ops[i]? with
  | none => true
  | some o => o.guard.isNone && o.after.all fun e => !Region.binds .any e || decide (e.on < i)
theorem fwd_get {ops : Array Oper} (hf : fwdB ops = true) {i : Nat} {o : Oper} (ho : ops[i]? = some o) : o.guard = none ∧ ∀ e ∈ o.after, Region.binds .any e = true → e.on < i := by
  have h1 := List.all_eq_true.1 hf i (List.mem_range.2 (Array.getElem?_eq_some_iff.1 ho).1)
  simp only [ho, Bool.and_eq_true] at h1
  refine ⟨by simpa using h1.1, fun e he hb => ?_⟩
  have h2 := Array.all_eq_true_iff_forall_mem.1 h1.2 e he
  rw [hb] at h2
  simpa using h2
theorem aftD_mono {b : Nat → Bool} {i : Nat} {o : Oper} (h : aftD b o) : aftD (upd b i) o := fun k e he hb => by
  unfold upd
  split
  · rfl
  · exact h k e he hb
theorem getD_t {listed : Array Bool} {j : Nat} (h : listed.getD j false = true) : listed.getD j true = true := by
  rcases Nat.lt_or_ge j listed.size with h' | h'
  · simp [h'] at h ⊢; exact h
  · simp [Array.getElem?_eq_none h'] at h
theorem upd_set {listed : Array Bool} {i : Nat} (hi : i < listed.size) : (fun j => (listed.setIfInBounds i true).getD j true) = upd (fun j => listed.getD j true) i := by
  funext j
  unfold upd
  by_cases h : j = i
  · subst h
    rw [if_pos rfl]
    simp [Array.getD_eq_getD_getElem?, hi]
  · rw [if_neg h, getD_set_ne true (Ne.symm h)]
theorem wpAny_of_G {ops : Array Oper} {F : (Nat → Bool) → St} {Q' : Exit → Act → World → Prop} (hf : fwdB ops = true)
    (hs : ∀ (j : Nat) (o : Oper), ops[j]? = some o → ∀ b, b j = false → aftD b o → clsD ops b → AOp P C o (F b) fun s => St.le C s (F (upd b j)))
    (hQ : ∀ a w, (F fun _ => true).rel C a w → Q' .normal a w) :
    ∀ (f : Nat) (listed : Array Bool) (a : Act) (w : World), listed.size = ops.size → listed.toList.count false = f → clsD ops (fun j => listed.getD j true) → (F fun j => listed.getD j true).rel C a w → wpAny P .any ops Q' f listed a w := by
  intro f
  induction f with
  | zero =>
    intro listed a w hsz hc hcl H
    have hall : ∀ j, listed.getD j true = true := fun j => by
      rcases Nat.lt_or_ge j listed.size with h' | h'
      · have hm := List.count_eq_zero.1 hc
        simp only [Array.getD_eq_getD_getElem?, Array.getElem?_eq_getElem h', Option.getD_some]
        rcases hx : listed[j] with _ | _
        · exact absurd (by rw [← hx]; simp) hm
        · rfl
      · simp [Array.getD_eq_getD_getElem?, Array.getElem?_eq_none h']
    refine ⟨List.eq_nil_iff_forall_not_mem.2 fun i hi => ?_, hQ a w ?_⟩
    · have := (mem_ready.1 hi).1
      rw [hall i] at this
      cases this
    · have e : (fun j => listed.getD j true) = fun _ => true := funext hall
      rwa [e] at H
  | succ f ih =>
    intro listed a w hsz hc hcl H
    refine ⟨fun h0 => ?_, fun i hi => ?_⟩
    · exfalso
      have hex : ∃ j, listed.getD j true = false := by
        have hm : false ∈ listed.toList := List.count_pos_iff.1 (by omega)
        obtain ⟨j, hj, he⟩ := List.getElem_of_mem hm
        exact ⟨j, by simp only [Array.length_toList] at hj; simp only [Array.getElem_toList] at he; simp [Array.getD_eq_getD_getElem?, hj, he]⟩
      obtain ⟨j, hj, hmin⟩ := least_of hex
      have hjs : j < ops.size := by
        rcases Nat.lt_or_ge j listed.size with h' | h'
        · omega
        · simp [Array.getElem?_eq_none h'] at hj
      have hmem : j ∈ Region.ready .any ops listed := mem_ready.2 ⟨hj, _, Array.getElem?_eq_getElem hjs, fun e he hb => by
        have hlt := (fwd_get hf (Array.getElem?_eq_getElem hjs)).2 e he hb
        cases hx : listed.getD e.on false with
        | true => rfl
        | false =>
          have hin : e.on < listed.size := by omega
          have := hmin e.on (getD_in hin hx)
          omega⟩
      rw [h0] at hmem
      cases hmem
    · obtain ⟨hun, o, ho, hall⟩ := mem_ready.1 hi
      have his : i < listed.size := by rw [hsz]; exact (Array.getElem?_eq_some_iff.1 ho).1
      obtain ⟨hg, hfw⟩ := fwd_get hf ho
      have haft : aftD (fun j => listed.getD j true) o := fun k e he hb => getD_t (hall e (Array.mem_of_getElem? he) hb)
      have hcnt : (listed.setIfInBounds i true).toList.count false = f := by
        have hfalse : listed.toList[i]'(by simpa using his) = false := by
          have := hun
          simp [Array.getD_eq_getD_getElem?, his] at this
          simpa using this
        rw [Array.toList_setIfInBounds, List.count_set (by simpa using his), hfalse, hc]
        simp
      unfold wpOp
      simp only [ho]
      have hw : Region.wanted o (yielded ops a.tmps) = true := by unfold Region.wanted; rw [hg]
      rw [hw, if_pos rfl]
      refine .inl (Oper.wp_mono (fun a' w' ⟨s', hle, hr⟩ => ?_) (hs i o ho _ hun haft hcl Q' a w H).2)
      refine ih _ a' w' (by simpa using hsz) hcnt ?_ ?_
      · rw [upd_set his]
        intro j o' hj hbj
        by_cases hji : j = i
        · subst hji
          rw [ho] at hj
          cases hj
          exact aftD_mono haft
        · exact aftD_mono (hcl j o' hj (by unfold upd at hbj; rwa [if_neg hji] at hbj))
      · rw [upd_set his]
        exact hle a' w' hr
theorem Awp.drawG {id n : Nat} {l : List Oper} {Q : Exit → St → Prop} (F : (Nat → Bool) → St) (hn : l.length = n) (hm : P.follows .mixedOrders = true) (hB : (Region.noSelect l.toArray && noDefer l.toArray && fwdB l.toArray) = true)
    (hs : gS P C F l.toArray 0 l) (hQ : Q .normal (F fun _ => true)) : Awp P C (.region id l.toArray true) Q (F fun j => decide (n ≤ j)) := fun a w H => by
  simp only [Bool.and_eq_true] at hB
  obtain ⟨⟨hsel, hnd⟩, hf⟩ := hB
  refine fnc_region hm hnd ?_
  have e0 : (fun j => (Array.replicate l.toArray.size false).getD j true) = fun j => decide (n ≤ j) := by
    funext j
    simp only [Array.getD_eq_getD_getElem?, Array.getElem?_replicate, List.size_toArray, hn]
    by_cases h : j < n
    · rw [if_pos h, decide_eq_false (by omega)]; rfl
    · rw [if_neg h, decide_eq_true (by omega)]; rfl
  refine wpAny_of_G (Q' := fun e a' w' => e = .normal ∧ ∃ s', Q e s' ∧ s'.rel C a' w') hf (fun j o ho b h1 h2 h3 => ?_) (fun a' w' h => ⟨rfl, _, hQ, h⟩) _ _ a _ (by simp) (by simp) ?_ ?_
  · have := gS_get (l := l) (k := 0) (j := j) hs (by simpa using ho) b (by rwa [Nat.zero_add]) h2 h3
    rwa [Nat.zero_add] at this
  · intro j o ho hb
    have hj : j < l.toArray.size := (Array.getElem?_eq_some_iff.1 ho).1
    have : (Array.replicate l.toArray.size false).getD j true = true := hb
    rw [Array.getD_eq_getD_getElem?, Array.getElem?_replicate, if_pos hj] at this
    cases this
  · rw [e0]
    obtain ⟨hd, S, ψ, hh', hl⟩ := H
    have hb : Below w.heap.size w { w with drawn := w.drawn + 1 } := ⟨rfl, rfl, rfl, Nat.le_refl _, fun _ _ => rfl⟩
    exact ⟨hd, S, ψ, hh'.grow hb (fun _ h => h) (fun _ h => .inl h) hh'.lt, AV.relL_ext (show Ext w S _ ψ { w with drawn := w.drawn + 1 } S _ ψ from Ext.grow _ ψ (fun k hk => rfl) fun _ h => h) _ _ hl⟩

/-! ### a variable's memory at a place that is kept for it -/
theorem nrL_nil {p : Nat} : AV.nrL p [] = true := rfl
theorem nrL_cons {p : Nat} {x : AV} {l : List AV} (hx : AV.nr p x = true) (hl : AV.nrL p l = true) : AV.nrL p (x :: l) = true := by unfold AV.nrL; rw [hx, hl]; rfl
theorem nr_c {p : Nat} {c : Bool} {x y : AV} (hx : AV.nr p x = true) (hy : AV.nr p y = true) : AV.nr p (bif c then x else y) = true := by cases c; exact hy; exact hx
theorem nr_f {p : Nat} {c : Bool} {x y : AV} (hc : c = false) (hy : AV.nr p y = true) : AV.nr p (bif c then x else y) = true := by subst hc; exact hy
theorem nrH_nil {p : Nat} : List.all [] (nrB p) = true := rfl
theorem nrH_cons {p : Nat} {x : ABlk} {l : List ABlk} (hx : nrB p x = true) (hl : l.all (nrB p) = true) : (x :: l).all (nrB p) = true := by rw [List.all_cons, hx, hl]; rfl
theorem nrB_c {p : Nat} {c : Bool} {x y : ABlk} (hx : nrB p x = true) (hy : nrB p y = true) : nrB p (bif c then x else y) = true := by cases c; exact hy; exact hx
theorem AOp.alAt {o : Oper} {t : List AV} {h : List ABlk} {elem : TypeId} {zs : List Value} {K : St → Prop} [ZC P elem zs] (p : Nat) (ho : o.op = .alloc elem) (hp : h[p]? = some .dead) (hn : h.all (nrB p) = true) (hnt : AV.nrL p t = true) (hK : K ⟨putA t o.dst (.ptr p 0), h.set p (.box (zs.map .lit))⟩) : AOp P C o ⟨t, h⟩ K := by
  rintro Q' a w ⟨hd, S, ψ, hh', hl⟩
  refine ⟨fun c e => (by rw [ho] at e; cases e), ?_⟩
  have hz : zeroCells? P elem = some zs := ZC.eq
  unfold zeroCells? at hz
  obtain ⟨z, hz1, rfl⟩ := Option.map_eq_some_iff.1 hz
  obtain ⟨ti, hti, hz2⟩ := Option.bind_eq_some_iff.1 hz1
  have hrun : (execOp a.eval o).run P w = .ok (.value (.pointer (some ⟨w.heap.size, 0, none⟩))) (w.alloc (.cells z.cells elem)) := by
    simp [execOp, ho, Instr.alloc, zeroValue, typeInfo, hti, hz2, Go.newVar, Go.newRow]
  unfold Oper.wp
  rw [hrun]
  have hb : Below w.heap.size w (w.alloc (.cells z.cells elem)) := (Below.refl _ _).alloc (Nat.le_refl _) _
  have hB : BRel C.N (w.alloc (.cells z.cells elem)) S (h.set p (.box (z.cells.toList.map .lit))) (ψset ψ p (.pointer (some ⟨w.heap.size, 0, none⟩))) (.pointer (some ⟨w.heap.size, 0, none⟩)) (.box (z.cells.toList.map .lit)) :=
    ⟨w.heap.size, z.cells.toList, elem, rfl, fun hN => by have := hh'.nlt _ hN; have := hh'.bel.size; omega, fun hS => by have := hh'.lt _ hS; omega, by simpa using heap_alloc_new w (.cells z.cells elem), relL_lits _⟩
  have H1 := hh'.revive hp hn hb hB fun g hg => by simp [ftp, blkOf] at hg; omega
  have hl1 := AV.relL_ext (Ext.grow h ψ (fun k hk => hb.block k (hh'.lt k hk)) fun _ h => h) _ _ hl
  have hl2 := AV.relL_up (b := .box (z.cells.toList.map .lit)) (ψ' := ψset ψ p (.pointer (some ⟨w.heap.size, 0, none⟩))) (fun i hi => ψset_ne hi) _ _ hnt hl1
  refine ⟨_, hK, by rw [put_defers, hd]; exact (mkD_set (b' := .box (z.cells.toList.map .lit)) hp rfl).symm, S, _, H1, put_rel hl2 o.dst ?_⟩
  unfold AV.rel
  exact ⟨by simpa using (List.getElem?_eq_some_iff.1 hp).1, fun _ => ⟨w.heap.size, ψset_self, rfl⟩⟩
theorem AOp.stBoxV {o : Oper} {t : List AV} {h : List ABlk} {ty : TypeId} {x y : Operand} {i off n : Nat} {v : AV} {cells new : List AV} {K : St → Prop} [SZ P ty n] (ho : o.op = .store ty x y) (hx : evA t x = .ptr i off) (hi : h[i]? = some (.box cells)) (hy : evA t y = v) (hp : Parts h v new) (hs : n = new.length) (hle : off + new.length ≤ cells.length)
    (hK : K ⟨putA t o.dst (.lit undef), h.set i (.box (cells.take off ++ new ++ cells.drop (off + new.length)))⟩) : AOp P C o ⟨t, h⟩ K := by
  subst hy
  exact AOp.stBox ho hx hi hp hs hle hK
theorem St.le_deads {t : List AV} {h h' : List ABlk} (k : Nat) (e : h ++ List.replicate k .dead = h') : St.le C ⟨t, h⟩ ⟨t, h'⟩ := by
  subst e
  induction k with
  | zero => simpa using St.le.refl
  | succ k ih =>
    refine ih.trans ?_
    have := St.le_dead (C := C) (t := t) (h := h ++ List.replicate k .dead)
    rwa [List.append_assoc, ← List.replicate_succ'] at this
theorem cndBT {b : Bool} (h : b = true) (x y : ABlk) : (bif b then x else y) = x := by subst h; rfl
theorem cndBF {b : Bool} (h : b = false) (x y : ABlk) : (bif b then x else y) = y := by subst h; rfl
theorem gS_cons {F : (Nat → Bool) → St} {ops : Array Oper} {k : Nat} {o : Oper} {rest : List Oper} (h1 : ∀ b, b k = false → aftD b o → clsD ops b → AOp P C o (F b) fun s => St.le C s (F (upd b k))) (h2 : gS P C F ops (k + 1) rest) : gS P C F ops k (o :: rest) := ⟨h1, h2⟩
theorem gS_nil {F : (Nat → Bool) → St} {ops : Array Oper} {k : Nat} : gS P C F ops k [] := trivial
theorem not_before {ops : Array Oper} {b : Nat → Bool} (hc : clsD ops b) {i j k : Nat} {o : Oper} {e : Go.Edge} (hj : ops[j]? = some o) (hk : o.after[k]? = some e) (hb : Region.binds .any e = true) (he : e.on = i) (hi : b i = false) : b j = false := by
  cases h : b j with
  | false => rfl
  | true =>
    have := hc j o hj h k e hk hb
    rw [he, hi] at this
    cases this
end
end Mu
end
section
/-
  Walks that show M: loops that are gone through round by round, pointers in arrays, variables at places that closures know.
  Conditions: none; generic.
-/
namespace Mu
open Go Go.RowKit Go.Proofs

/-! ### a loop, round by round -/
section
variable {P : Program} {C : Ctx}
/-! ### pointers -/
variable {t : List AV} {h : List ABlk} {o : Oper}
theorem Quiet.nilL {x : Operand} {g off : Nat} (ho : o.op = .nilCheck x) (hx : evA t x = .lit (.pointer (some ⟨g, off, none⟩))) : Quiet P C t h o (.lit (.pointer (some ⟨g, off, none⟩))) :=
  Quiet.of_run fun S ψ w ρ _ hρ => by
    have h1 := hρ x (by simp [ho, Op.operands])
    rw [hx] at h1
    unfold AV.rel at h1
    exact ⟨.pointer (some ⟨g, off, none⟩), by simp [execOp, ho, h1], by unfold AV.rel; rfl⟩
end
section
variable {P : Program} {C : Ctx} {t : List AV} {h : List ABlk} {o : Oper}
end

theorem mapc {x y : AV} {l l' : List AV} (h1 : x = y) (h2 : l = l') : x :: l = y :: l' := by rw [h1, h2]
/-! ### function values that turn memory, where something of the world is presupposed -/
section
variable {G : World → Prop} {P : Program} {f : FuncId} {fn : Go.Func} {c : Code} {args : List AV} {ι : Type} {R : Res} {Rs : ι → Res} {val : ι → Value} {t : Tmp} {n : Nat}
end
section
variable {G : World → Prop} {P : Program} {C : Ctx} {o : Oper} {t : List AV} {h : List ABlk} {ι : Type} {Rs : ι → Res} {val : ι → Value}
end
end Mu
end
section
/-
  A row of the call's own, opened to its cells: parts of it are cut, moved within it, cleared; it is closed again.
  Conditions: none; generic.
-/
namespace Mu
open Go Go.RowKit Go.ChangeShapes Go.WideShapes Go.Proofs

/-- the part of a row from its l-th element on -/
def sufV (g sz cap l m : Nat) : Value := .slice (if cap = l then some ⟨g, 0, none⟩ else some ⟨g, l * sz, none⟩) (m - l) (cap - l)
section
variable {P : Program} {C : Ctx} {t : List AV} {h : List ABlk} {o : Oper} {K : St → Prop}
theorem Quiet.slSuf {ty : TypeId} {x : Operand} {lo hi : Option Operand} {g n cap l m sz : Nat} [ES P ty sz] (ho : o.op = .slice ty x lo hi none) (hx : evA t x = .lit (.slice (some ⟨g, 0, none⟩) n cap)) (hl : BndA t 0 lo l) (hm : BndA t n hi m) (h1 : l ≤ m) (h2 : m ≤ cap) :
    Quiet P C t h o (.lit (sufV g sz cap l m)) :=
  Quiet.of_run fun S ψ w ρ H hρ => by
    have hx' := hρ x (by rw [ho]; simp [Op.operands])
    have hlo := hl.val (h := h) (w := w) (S := S) (ψ := ψ) (ρ := ρ) fun y hy => hρ y (by rw [ho, hy]; simp [Op.operands])
    have hhi := hm.val (h := h) (w := w) (S := S) (ψ := ψ) (ρ := ρ) fun y hy => hρ y (by rw [ho, hy]; simp [Op.operands])
    rw [hx] at hx'
    unfold AV.rel at hx'
    have hr := run_sl (P := P) (w := w) (a := some ⟨g, 0, none⟩) (len := n) (cap := cap) (ES.eq (P := P) (ty := ty) (n := sz)) hlo hhi h1 h2
    have e : (Value.slice (if cap = l then some ⟨g, 0, none⟩ else (some (⟨g, 0, none⟩ : Addr)).map (·.add (l * sz))) (m - l) (cap - l)) = sufV g sz cap l m := by
      unfold sufV
      split <;> simp [add_plain]
    rw [e] at hr
    refine ⟨sufV g sz cap l m, by simp [execOp, ho, hx', hr], ?_⟩
    unfold AV.rel
    rfl
theorem Quiet.slPre {ty : TypeId} {x : Operand} {hi : Option Operand} {g n cap m sz : Nat} [ES P ty sz] (ho : o.op = .slice ty x none hi none) (hx : evA t x = .lit (.slice (some ⟨g, 0, none⟩) n cap)) (hm : BndA t n hi m) (h2 : m ≤ cap) :
    Quiet P C t h o (.lit (.slice (some ⟨g, 0, none⟩) m cap)) := by
  have e : sufV g sz cap 0 m = .slice (some ⟨g, 0, none⟩) m cap := by
    unfold sufV
    split <;> simp
  rw [← e]
  exact Quiet.slSuf ho hx rfl hm (Nat.zero_le _) h2
end
section
variable {P : Program} {C : Ctx} {t : List AV} {h : List ABlk} {c : Code} {Q : Exit → St → Prop}
end
end Mu
end
section
/-
  A row of the call's own that takes another one's place; empty literals in drawn regions; rows that are made by calls to which rows are lent; boxes that hold rows, lent.
  Conditions: none; generic.
-/
namespace Mu
open Go Go.RowKit Go.ChangeShapes Go.WideShapes Go.Proofs

section
variable {C : Ctx} {h : List ABlk} {S : Nat → Prop} {ψ : Nat → Value} {w : World} {t t' : List AV}
end

section
variable {α0 : Type} {P : Program} {C : Ctx} {t : List AV} {h : List ABlk} {o : Oper} {K : St → Prop}
/-- what is lent, by what it is read as -/
def LendW (h : List ABlk) (x x' : AV) : Prop := ∀ (C : Ctx) (S : Nat → Prop) (ψ : Nat → Value) (w : World) (v : Value), HRel C h S ψ w → AV.rel w S h ψ x v → AV.rel w (fun k => k < w.heap.size) [] ψ0 x' v
inductive LendWs (h : List ABlk) : List AV → List AV → Prop
  | nil : LendWs h [] []
  | cons {x x' : AV} {l l' : List AV} (hx : LendW h x x') (hl : LendWs h l l') : LendWs h (x :: l) (x' :: l')
theorem LendWs.rel {w : World} {S : Nat → Prop} {ψ : Nat → Value} (H : HRel C h S ψ w) {l l' : List AV} (hl : LendWs h l l') : ∀ {vs : List Value}, AV.relL w S h ψ l vs → AV.relL w (fun k => k < w.heap.size) [] ψ0 l' vs := by
  induction hl with
  | nil => intro vs hr; unfold AV.relL at hr ⊢; exact hr
  | cons hx _ ih =>
    intro vs hr
    unfold AV.relL at hr ⊢
    obtain ⟨v, vs', e, h1, h2⟩ := hr
    exact ⟨v, vs', e, hx C S ψ w v H h1, ih h2⟩
theorem LendW.of {x x' : AV} (hl : LendV h x x') : LendW h x x' := fun _ _ _ _ _ H hr => LendV.rel H hl hr
theorem LendW.cl {x : AV} (hx : AV.cl x = true) : LendW h x x := .of (.cl hx)
/-- a row is made by a call to which what is the call's own is lent -/
theorem AOp.callOwnW {f : FuncId} {args : Array Operand} {tys : Array TypeId} {xs : List AV} {e : TypeId} {α : Type} {T : Ty α} {l : List α}
    (ho : o.op = .call { callee := .value (.func f), args := args, argTypes := tys }) (hF : FnOwn P f xs e T l) (h0 : 0 < T.size) (hfl : ∀ w S S' cs d, T.RS w S cs d → T.RS w S' cs d) (hx : LendWs h (args.toList.map (evA t)) xs)
    (hK : K ⟨putA t o.dst (.own h.length 0), h ++ [.row 0 e T l]⟩) : AOp P C o ⟨t, h⟩ K := by
  rintro Q' a w ⟨hd, S, ψ, H, hl⟩
  refine ⟨fun c e => (by rw [ho] at e; cases e), ?_⟩
  have h2 : AV.relL w S h ψ (args.toList.map (evA t)) (args.toList.map a.eval) := relL_map fun x _ => ev_rel hl x
  unfold Oper.wp
  rw [run_call ho hF.1 a.eval w rfl]
  simp only [Oper.upon]
  rw [show (args.map a.eval) = (args.toList.map a.eval).toArray from (by rw [← Array.toList_map])]
  refine (hF.2 w _ (args.toList.map a.eval) (fun _ h => h) (hx.rel H h2)).mono ?_
  rintro r w' ⟨v, cells, rfl, hb, hown, hR⟩
  have X : Ext w S h ψ w' S (h ++ [.row 0 e T l]) (ψset ψ h.length v) := Ext.push _ _ fun k hk => hb.block k (H.lt k hk)
  have hB : BRel C.N w' S (h ++ [.row 0 e T l]) (ψset ψ h.length v) v (.row 0 e T l) :=
    ⟨cells, hown.mono (Nat.zero_le _), h0, fun i d hd => hfl _ _ _ _ _ (hR i d hd), fun g hg => by
      have hlt := hown.lt g hg
      exact ⟨fun hN => by have := H.nlt _ hN; have := H.bel.size; omega, fun hS => by have := H.lt _ hS; omega⟩⟩
  refine ⟨_, hK, st_push (s := ⟨t, h⟩) hd hl (H.push hb hB (ftp_row hown)) X ?_⟩
  unfold AV.rel
  refine ⟨by simp, fun c' hc' => ?_⟩
  rw [List.getElem?_append_right (Nat.le_refl _)] at hc'
  simp [ABlk.ver] at hc'
  exact ⟨by omega, fun _ => ψset_self.symm⟩
theorem AOp.callOwnI {f : FuncId} {args : Array Operand} {tys : Array TypeId} {xs : List AV} {e : TypeId} {α : Type} {T : Ty α} {l : List α} (i : Nat) (hi : h.length = i)
    (ho : o.op = .call { callee := .value (.func f), args := args, argTypes := tys }) (hF : FnOwn P f xs e T l) (h0 : 0 < T.size) (hfl : ∀ w S S' cs d, T.RS w S cs d → T.RS w S' cs d) (hx : LendWs h (args.toList.map (evA t)) xs)
    (hK : K ⟨putA t o.dst (.own i 0), h ++ [.row 0 e T l]⟩) : AOp P C o ⟨t, h⟩ K := by
  subst hi
  exact AOp.callOwnW ho hF h0 hfl hx hK
end
end Mu
end
section
/-
  A row of rows of numbers, all the call's own, whose rows are appended to in place.
  Conditions: none.
-/
namespace Mu
open Go Go.RowKit Go.Proofs

theorem getD_of {α : Type} {l : List α} {k : Nat} {d : α} (h : k < l.length) : l[k]? = some (l.getD k d) := by rw [List.getD_eq_getElem?_getD, List.getElem?_eq_getElem h]; rfl
section
variable {P : Program} {C : Ctx} {o : Oper} {t : List AV} {h : List ABlk} {K : St → Prop}
def inZ (n : Nat) (z : Int) : Bool := decide (0 ≤ z) && decide (z.toNat < n)
theorem Quiet.ixRows {ty : TypeId} {x y : Operand} {ik : IntKind} {g n c : Nat} {z : Int} [ES P ty 1] (ho : o.op = .indexAddr ty x y) (hx : evA t x = .lit (.slice (some ⟨g, 0, none⟩) n c)) (hy : evA t y = .lit (.int ik z)) (hz : inZ n z = true) :
    Quiet P C t h o (.lit (.pointer (some ⟨g, z.toNat, none⟩))) := by
  unfold inZ at hz
  simp only [Bool.and_eq_true, decide_eq_true_eq] at hz
  have e : z = (z.toNat : Int) := by omega
  have := Quiet.ixl (P := P) (n := 1) (C := C) (h := h) (k := z.toNat) ho hx (by rw [hy, ← e]) hz.2
  rwa [show 0 + z.toNat * 1 = z.toNat by omega] at this
end
end Mu
end
section
/-
  The flat model's memory: what is read in it, and how parts of it are written.
  Conditions: none.
-/
namespace Mu
open Go Go.RowKit Go.Proofs

structure FrA where
  fr : Fr
  rg : Nat
/-- a thread: what its cell holds, where its frames are -/
structure ThA where
  cv : Value
  fv : Value
  l : List FrA
/-- a model and where it lies -/
structure MdA where
  g : Nat
  hg : Nat
  oc : Value
  ov : Value
  tc : Value
  tv : Value
  heap : List Int
  out : List Int
  ch : List Int
  ths : List ThA
  at_ : Nat
  kind : Int
  v : Int
def MdA.abs (m : MdA) : Mdl := ⟨m.heap, m.out, m.ch, m.ths.map fun t => t.l.map FrA.fr, m.at_, m.kind, m.v⟩
abbrev tW : Ty Int := Ty.int .u32
@[reducible] def slV (g n c : Nat) : Value := .slice (some ⟨g, 0, none⟩) n c
@[reducible] def ptV (g off : Nat) : Value := .pointer (some ⟨g, off, none⟩)
@[reducible] def frC (q : FrA) : List Cl := [.v (.int .i64 (q.fr.f : Int)), .v (.int .i64 (q.fr.b : Int)), .v (.int .i64 (q.fr.i : Int)), .v (slV q.rg q.fr.regs.length q.fr.regs.length)]
@[reducible] def frA (q : FrA) : List AV := [.lit (.int .i64 (q.fr.f : Int)), .lit (.int .i64 (q.fr.b : Int)), .lit (.int .i64 (q.fr.i : Int)), .lit (slV q.rg q.fr.regs.length q.fr.regs.length)]
@[reducible] def mdC (p : Prog) (m : MdA) : List AV := [.lit (.int .i64 p.heap), .bs tInt p.threads, .bs tFunc p.funcs, .lit (slV m.hg m.heap.length m.heap.length), .lit m.oc, .lit m.tc, .lit (.int .i64 (m.at_ : Int)), .bs tW m.ch, .lit (.int .u8 m.kind), .lit (.int .u32 m.v)]
def rgR (q : FrA) : Res := rowL q.rg q.fr.regs.length 38 tW q.fr.regs
def thL (t : ThA) : List Res := rowR t.fv 91 (tCl 3) (t.l.map frC) :: t.l.map rgR
def thR (t : ThA) : Res := .all (thL t)
def modL (p : Prog) (m : MdA) : List Res := boxR m.g (mdC p m) :: rowL m.hg m.heap.length 38 tW m.heap :: rowR m.ov 38 tW m.out :: rowR m.tv 97 (tCl 0) (m.ths.map fun t => [Cl.v t.cv]) :: m.ths.map thR
def modR (p : Prog) (m : MdA) : Res := .all (modL p m)
/-- memory, known to be as it was -/
def Res.pin (R : Res) (w0 : World) : Res := ⟨R.mrk, R.F, fun w S => R.R w S ∧ ∀ g, R.F g → w.heap[g]? = w0.heap[g]?, fun ⟨h1, h2⟩ hb hS hs => ⟨R.keep h1 hb hS hs, fun g hg => (hb g hg).trans (h2 g hg)⟩⟩
/-- its rows are where its cells say -/
structure MdA.Nrm (m : MdA) : Prop where
  out : m.oc = m.ov
  tv : m.tc = m.tv
  tg : ∃ tg c, m.tv = slV tg m.ths.length c
  th : ∀ t ∈ m.ths, t.cv = t.fv ∧ ∃ fg c, t.fv = slV fg t.l.length c
@[reducible] def MdA.upT (m : MdA) (ti : Nat) (t : ThA) : MdA := { m with ths := m.ths.set ti t }
@[reducible] def ThA.upF (t : ThA) (k : Nat) (q : FrA) : ThA := { t with l := t.l.set k q }
@[reducible] def MdA.upF (m : MdA) (ti : Nat) (t : ThA) (k : Nat) (q : FrA) : MdA := m.upT ti (t.upF k q)

/-! ### what is read -/
class TV (m : MdA) (tg : Nat) : Prop where
  e : ∃ c, m.tv = slV tg m.ths.length c
class TI (m : MdA) (j : Nat) (t : outParam ThA) : Prop where
  e : m.ths[j]? = some t
class TG (m : MdA) (fg : Nat) (ti : outParam Nat) (t : outParam ThA) : Prop where
  e : m.ths[ti]? = some t ∧ ∃ c, t.fv = slV fg t.l.length c
class QK (t : ThA) (k : Nat) (q : outParam FrA) : Prop where
  e : t.l[k]? = some q
class OFF (off m : Nat) (k j : outParam Nat) : Prop where
  e : off = k * m + j
instance inMuFlatR1 {k m : Nat} : OFF (k * m) m k 0 := ⟨rfl⟩
instance inMuFlatR2 {k m j : Nat} : OFF (k * m + j) m k j := ⟨rfl⟩
class MC (R : Res) (b off : Nat) (r : outParam AV) : Prop where
  c : AV.cl r = true
  e : ∀ w S, R.R w S → ∃ u, w.cell? ⟨b, off, none⟩ = some u ∧ AV.rel w S [] ψ0 r u
class FM (h : List ABlk) (i : outParam Nat) (p : outParam Prog) (m : outParam MdA) : Prop where
  e : ∃ R : Res, h[i]? = some (.res R) ∧ ∀ w S, R.R w S → (modR p m).R w S
instance inMuFlatR3 {h : List ABlk} {p : Prog} {m : MdA} : FM (.res (modR p m) :: h) 0 p m := ⟨_, rfl, fun _ _ h => h⟩
instance inMuFlatR4 {h : List ABlk} {p : Prog} {m : MdA} {w0 : World} : FM (.res ((modR p m).pin w0) :: h) 0 p m := ⟨_, rfl, fun _ _ h => h.1⟩
instance inMuFlatR5 {b : ABlk} {h : List ABlk} {p : Prog} {m : MdA} {i : Nat} [FM h i p m] : FM (b :: h) (i + 1) p m := ⟨by rw [List.getElem?_cons_succ]; exact FM.e⟩
section
variable {p : Prog} {m : MdA} {t : ThA} {q : FrA} {w : World} {S : Nat → Prop} {ti k : Nat}
theorem mod_box (H : (modR p m).R w S) : (boxR m.g (mdC p m)).R w S := H.1 _ (by unfold modL; simp)
theorem mod_heap (H : (modR p m).R w S) : (rowL m.hg m.heap.length 38 tW m.heap).R w S := H.1 _ (by unfold modL; simp)
theorem mod_out (H : (modR p m).R w S) : (rowR m.ov 38 tW m.out).R w S := H.1 _ (by unfold modL; simp)
theorem mod_ths (H : (modR p m).R w S) : (rowR m.tv 97 (tCl 0) (m.ths.map fun t => [Cl.v t.cv])).R w S := H.1 _ (by unfold modL; simp)
theorem mod_th (H : (modR p m).R w S) (ht : m.ths[ti]? = some t) : (thR t).R w S := H.1 _ (by
  unfold modL
  exact List.mem_cons_of_mem _ (List.mem_cons_of_mem _ (List.mem_cons_of_mem _ (List.mem_cons_of_mem _ (List.mem_map.2 ⟨t, List.mem_of_getElem? ht, rfl⟩)))))
theorem mod_frs (H : (modR p m).R w S) (ht : m.ths[ti]? = some t) : (rowR t.fv 91 (tCl 3) (t.l.map frC)).R w S := (mod_th H ht).1 _ (by unfold thL; simp)
theorem mod_rg (H : (modR p m).R w S) (ht : m.ths[ti]? = some t) (hq : t.l[k]? = some q) : (rgR q).R w S := (mod_th H ht).1 _ (by
  unfold thL
  exact List.mem_cons_of_mem _ (List.mem_map.2 ⟨q, List.mem_of_getElem? hq, rfl⟩))
theorem rowV_at {α : Type} {T : Ty α} {enc : α → List AV} [EncOf T enc] {g n c k j : Nat} {e : TypeId} {v : Value} {l : List α} {d : α} (hv : v = slV g n c) (hR : (rowR v e T l).R w S) (hk : l[k]? = some d) {r : AV} (hr : (enc d)[j]? = some r) : ∃ u, w.cell? ⟨g, k * T.size + j, none⟩ = some u ∧ AV.rel w S [] ψ0 r u := by
  subst hv
  have hn : n = l.length := by
    obtain ⟨cells, hown, _⟩ := hR
    rcases hown.2 with ⟨e3, _⟩ | ⟨g', cap, cur, e3, _⟩
    · cases e3
    · simp only [slV, Value.slice.injEq] at e3
      exact e3.2.1
  subst hn
  exact rowL_at (T := T) (enc := enc) hR hk hr
end
instance inMuFlatR6 {p : Prog} {m : MdA} {off : Nat} {r : AV} [LD (mdC p m) off r] [CA r] : MC (modR p m) m.g off r := ⟨CA.e, fun w S H => by
  obtain ⟨cs, e, h1, h2⟩ := mod_box H
  obtain ⟨u, h3, h4⟩ := relL_get h2 (by rw [← LD.e (l := mdC p m) (k := off) (x := r), List.getElem?_drop, Nat.add_zero] : (mdC p m)[off]? = some r)
  exact ⟨u, by simp [World.cell?, h1, h3], h4⟩⟩
instance inMuFlatR7 {p : Prog} {m : MdA} {tg j : Nat} {t : ThA} [TV m tg] [TI m j t] : MC (modR p m) tg j (.lit t.cv) := ⟨rfl, fun w S H => by
  obtain ⟨c, hv⟩ := TV.e (m := m) (tg := tg)
  have := rowV_at (T := tCl 0) (enc := fun l => l.map Cl.av) (k := j) (j := 0) hv (mod_ths H) (by rw [List.getElem?_map, TI.e (m := m) (j := j) (t := t)]; rfl) (show ([Cl.v t.cv].map Cl.av)[0]? = some (.lit t.cv) from rfl)
  rwa [show j * (tCl 0).size + 0 = j by show j * 1 + 0 = j; omega] at this⟩
instance inMuFlatR8 {p : Prog} {m : MdA} {t : ThA} {q : FrA} {fg off ti k j : Nat} {r : AV} [OFF off 4 k j] [TG m fg ti t] [QK t k q] [LD (frA q) j r] [CA r] : MC (modR p m) fg off r := ⟨CA.e, fun w S H => by
  obtain ⟨ht, c, hv⟩ := TG.e (m := m) (fg := fg) (ti := ti) (t := t)
  have e := OFF.e (off := off) (m := 4) (k := k) (j := j)
  subst e
  have h1 : ((frC q).map Cl.av)[j]? = some r := by
    show (frA q)[j]? = some r
    rw [← LD.e (l := frA q) (k := j) (x := r), List.getElem?_drop, Nat.add_zero]
  exact rowV_at (T := tCl 3) (enc := fun l => l.map Cl.av) hv (mod_frs H ht) (by rw [List.getElem?_map, QK.e (t := t) (k := k) (q := q)]; rfl) h1⟩
instance inMuFlatR9 {m : MdA} {t : ThA} {fg ti k : Nat} {q : FrA} [TG m fg ti t] : TG (m.upT ti (t.upF k q)) fg ti (t.upF k q) := ⟨by
  obtain ⟨h1, c, h2⟩ := TG.e (m := m) (fg := fg) (ti := ti) (t := t)
  exact ⟨by unfold MdA.upT; exact List.getElem?_set_self (List.getElem?_eq_some_iff.1 h1).1, c, by show t.fv = slV fg (t.l.set k q).length c; rw [List.length_set]; exact h2⟩⟩
instance inMuFlatR10 {t : ThA} {k : Nat} {q q' : FrA} [QK t k q] : QK (t.upF k q') k q' := ⟨List.getElem?_set_self (List.getElem?_eq_some_iff.1 (QK.e (t := t) (k := k) (q := q))).1⟩
section
variable {P : Program} {C : Ctx} {t : List AV} {h : List ABlk} {o : Oper} {K : St → Prop}
instance inMuFlatR12 {ty : TypeId} {x : Operand} {n i b off : Nat} {p : Prog} {m : MdA} {r : AV} [AG P ty false n] [GA t x (.lit (.pointer (some ⟨b, off, none⟩)))] [FM h i p m] [MC (modR p m) b off r] : QI P C t h (.load ty x) r := ⟨fun _ _ _ _ => by
  obtain ⟨R, h1, h2⟩ := FM.e (h := h) (i := i) (p := p) (m := m)
  exact Quiet.ld_res rfl GA.e h1 (MC.c (modR p m) b off) fun w S H => MC.e (R := modR p m) (b := b) (off := off) w S (h2 w S H)⟩
instance inMuFlatR13 {ty : TypeId} {x : Operand} {n i b off : Nat} {p : Prog} {m : MdA} {r : AV} {g : Bool} [AG P ty false n] [GX g t x (.lit (.pointer (some ⟨b, off, none⟩)))] [FM h i p m] [MC (modR p m) b off r] : QG P C t h (.load ty x) g r := ⟨fun _ _ _ _ _ hg => by
  obtain ⟨R, h1, h2⟩ := FM.e (h := h) (i := i) (p := p) (m := m)
  exact Quiet.ld_res rfl (GX.e hg) h1 (MC.c (modR p m) b off) fun w S H => MC.e (R := modR p m) (b := b) (off := off) w S (h2 w S H)⟩
theorem rowW_wf {v : Value} {e : TypeId} {l : List Int} {w : World} {S : Nat → Prop} (H : (rowR v e tW l).R w S) {j : Nat} {x : Int} (hj : l[j]? = some x) : wfI .u32 x := by
  obtain ⟨cells, _, _, h2⟩ := H
  exact (h2 j x hj).2
/-- a cell of a row of words -/
theorem Quiet.ldW {ty : TypeId} {x : Operand} {i b n : Nat} {p : Prog} {m : MdA} {l : List Int} {z : Int} {e : TypeId} {c : Nat} [AG P ty false n] (ho : o.op = .load ty x) (hx : evA t x = .lit (ptV b z.toNat)) (hi : h[i]? = some (.res (modR p m))) (hR : ∀ w S, (modR p m).R w S → (rowL b c e tW l).R w S) (hz : z.toNat < l.length) : Quiet P C t h o (.lit (.int .u32 (l.getD z.toNat 0))) :=
  Quiet.ld_res ho hx hi rfl fun w S H => by
    have h1 := getD_of (d := (0 : Int)) hz
    have := rowL_at (T := tW) (enc := fun d => [.lit (.int .u32 d)]) (k := z.toNat) (j := 0) (hR w S H) h1 rfl
    rwa [show z.toNat * tW.size + 0 = z.toNat by show z.toNat * 1 + 0 = z.toNat; omega] at this
/-! ### what is written -/
theorem modL_th {p : Prog} {m : MdA} {ti : Nat} {t0 : ThA} (ht : m.ths[ti]? = some t0) : (modL p m)[4 + ti]? = some (thR t0) := by
  unfold modL
  rw [Nat.add_comm]
  show (m.ths.map thR)[ti]? = _
  rw [List.getElem?_map, ht]
  rfl
theorem modL_upT {p : Prog} {m : MdA} {ti : Nat} {t0 t' : ThA} (ht : m.ths[ti]? = some t0) (hc : t'.cv = t0.cv) : (modL p m).set (4 + ti) (thR t') = modL p (m.upT ti t') := by
  have h1 : (m.ths.set ti t').map (fun t => [Cl.v t.cv]) = m.ths.map fun t => [Cl.v t.cv] := by
    rw [List.map_set, hc]
    exact set_at (by rw [List.getElem?_map, ht]; rfl)
  unfold modL MdA.upT
  rw [Nat.add_comm]
  show _ :: _ :: _ :: _ :: (m.ths.map thR).set ti (thR t') = _ :: _ :: _ :: rowR m.tv 97 (tCl 0) ((m.ths.set ti t').map fun t => [Cl.v t.cv]) :: (m.ths.set ti t').map thR
  rw [h1, List.map_set]
/-- the box is written -/
theorem AOp.stMB {ty : TypeId} {x y : Operand} {i off n : Nat} {new : List AV} {p : Prog} {m : MdA} (m' : MdA) [SZ P ty n] (ho : o.op = .store ty x y) (hx : evA t x = .lit (ptV m.g off)) (hi : h[i]? = some (.res (modR p m))) (hp : ∀ h1, Parts h1 (evA t y) new) (hc : AV.clL new = true) (hs : n = new.length) (hle : off + new.length ≤ (mdC p m).length)
    (hm : (modL p m).set 0 (boxR m.g ((mdC p m).take off ++ new ++ (mdC p m).drop (off + new.length))) = modL p m') (hK : K ⟨putA t o.dst (.lit undef), h.set i (.res (modR p m')) ++ [.dead]⟩) : AOp P C o ⟨t, h⟩ K :=
  AOp.inAll (ι := Unit) (t' := fun _ => putA t o.dst (.lit undef)) (A' := fun _ => boxR m.g ((mdC p m).take off ++ new ++ (mdC p m).drop (off + new.length))) i 0 [] hi rfl rfl (fun _ => rfl)
    (fun h1 K' hi1 _ hK' => AOp.stL ho hx hi1 (hp h1) hc hs hle (by have := hK' (); rwa [List.append_nil] at this)) fun _ => by rw [hm]; exact hK
/-- part of a thread -/
theorem AOp.inTh {ι : Type} {A : Res} {t' : ι → List AV} {A' : ι → Res} {i ti k : Nat} {p : Prog} {m : MdA} {t0 : ThA} (t1 : ι → ThA) (hi : h[i]? = some (.res (modR p m))) (ht : m.ths[ti]? = some t0) (hk : (thL t0)[k]? = some A) (hm : A.mrk = []) (hm' : ∀ q, (A' q).mrk = []) (hc : ∀ q, (t1 q).cv = t0.cv)
    (e : ∀ q, (thL t0).set k (A' q) = thL (t1 q))
    (hop : ∀ (h1 : List ABlk) (K' : St → Prop) (n : Nat), h1[n]? = some (.res A) → (∀ q, K' ⟨t' q, h1.set n (.res (A' q))⟩) → AOp P C o ⟨t, h1⟩ K')
    (hK : ∀ q, K ⟨t' q, h.set i (.res (modR p (m.upT ti (t1 q)))) ++ [.dead, .dead]⟩) : AOp P C o ⟨t, h⟩ K :=
  AOp.inAll (ι := ι) (t' := t') (A' := fun q => thR (t1 q)) i (4 + ti) [.dead] hi (modL_th ht) rfl (fun _ => rfl)
    (fun h1 K1 hi1 _ hK1 => AOp.inAll (ι := ι) (t' := t') (A' := A') h.length k [] hi1 hk hm hm' (fun h2 K2 hi2 _ hK2 => hop h2 K2 h1.length hi2 fun q => by have := hK2 q; rwa [List.append_nil] at this) fun q => by
      have := hK1 q
      rw [e q]
      exact this) fun q => by rw [modL_upT ht (hc q)]; exact hK q
/-- a frame's cell is written -/
theorem AOp.stMF {ty : TypeId} {x y : Operand} {i off ti k j fg : Nat} {p : Prog} {m : MdA} {t0 : ThA} {q : FrA} {u : Value} (q' : FrA) [SZ P ty 1] (ho : o.op = .store ty x y) (hx : evA t x = .lit (ptV fg off)) (hy : evA t y = .lit u) (hi : h[i]? = some (.res (modR p m))) (hT : TG m fg ti t0) (hq : t0.l[k]? = some q) (hoff : off = k * 4 + j) (h1 : u.oneCell' = true)
    (hj : j < 4) (hq' : (frC q).set j (.v u) = frC q') (hrg : rgR q' = rgR q) (hK : K ⟨putA t o.dst (.lit undef), h.set i (.res (modR p (m.upF ti t0 k q'))) ++ [.dead, .dead]⟩) : AOp P C o ⟨t, h⟩ K := by
  obtain ⟨ht, c, hv⟩ := hT.e
  refine AOp.inTh (ι := Unit) (A := rowR t0.fv 91 (tCl 3) (t0.l.map frC)) (t' := fun _ => putA t o.dst (.lit undef)) (A' := fun _ => rowR t0.fv 91 (tCl 3) ((t0.l.map frC).set k (frC q'))) (k := 0) (fun _ => t0.upF k q') hi ht rfl rfl (fun _ => rfl) (fun _ => rfl) (fun _ => ?_) (fun h1' K' n hn hK' => ?_) fun _ => hK
  · show rowR t0.fv 91 (tCl 3) ((t0.l.map frC).set k (frC q')) :: t0.l.map rgR = rowR t0.fv 91 (tCl 3) ((t0.l.set k q').map frC) :: (t0.l.set k q').map rgR
    rw [List.map_set, List.map_set, hrg, set_at (by rw [List.getElem?_map, hq]; rfl : (t0.l.map rgR)[k]? = some (rgR q))]
  · have hlen : t0.l.length = (t0.l.map frC).length := (List.length_map _).symm
    rw [hv, hlen] at hn
    have hK2 := hK' ()
    rw [hv] at hK2
    refine AOp.stRL (T := tCl 3) (k := k) (j := j) (d := frC q) ((frC q).set j (.v u)) ho hx hn (by rw [List.getElem?_map, hq]; rfl) hoff (by rw [hy]; exact RowUpd.cl (.v u) (One.lit h1) hj) ?_
    rw [hq']
    unfold rowL
    rw [List.length_set, ← hlen]
    exact hK2
theorem upd_W {h : List ABlk} {d u : Int} (hu : wfI .u32 u) : RowUpd h tW d 0 (.lit (.int .u32 u)) 1 u := RowUpd.fit (T := tW) (Fit.int hu) (one1_of_enc (enc := fun d => [.lit (.int .u32 d)]) EncOf.ok fun d x hx => by rw [List.mem_singleton.1 hx]; exact .inl ⟨_, rfl, rfl⟩)
/-- a register is written -/
theorem AOp.stMR {ty : TypeId} {x y : Operand} {i ti k : Nat} {z u : Int} {p : Prog} {m : MdA} {t0 : ThA} {q : FrA} [SZ P ty 1] (ho : o.op = .store ty x y) (hx : evA t x = .lit (ptV q.rg z.toNat)) (hy : evA t y = .lit (.int .u32 u)) (hi : h[i]? = some (.res (modR p m))) (ht : m.ths[ti]? = some t0) (hq : t0.l[k]? = some q) (hz : z.toNat < q.fr.regs.length) (hu : wfI .u32 u)
    (hK : K ⟨putA t o.dst (.lit undef), h.set i (.res (modR p (m.upF ti t0 k { q with fr := { q.fr with regs := q.fr.regs.set z.toNat u } }))) ++ [.dead, .dead]⟩) : AOp P C o ⟨t, h⟩ K := by
  obtain ⟨q', hq'⟩ : ∃ q' : FrA, q' = { q with fr := { q.fr with regs := q.fr.regs.set z.toNat u } } := ⟨_, rfl⟩
  rw [← hq'] at hK
  have hl : q'.fr.regs = q.fr.regs.set z.toNat u := by rw [hq']
  have hf : frC q' = frC q := by
    unfold frC
    rw [hl, List.length_set, hq']
  refine AOp.inTh (ι := Unit) (A := rgR q) (t' := fun _ => putA t o.dst (.lit undef)) (A' := fun _ => rgR q') (k := k + 1) (fun _ => t0.upF k q') hi ht ?_ rfl (fun _ => rfl) (fun _ => rfl) (fun _ => ?_) (fun h1' K' n hn hK' => ?_) fun _ => hK
  · show (t0.l.map rgR)[k]? = _
    rw [List.getElem?_map, hq]
    rfl
  · show rowR t0.fv 91 (tCl 3) (t0.l.map frC) :: (t0.l.map rgR).set k (rgR q') = rowR t0.fv 91 (tCl 3) ((t0.l.set k q').map frC) :: (t0.l.set k q').map rgR
    rw [List.map_set, List.map_set, hf, set_at (by rw [List.getElem?_map, hq]; rfl : (t0.l.map frC)[k]? = some (frC q))]
  · have hK2 := hK' ()
    refine AOp.stRL (T := tW) (k := z.toNat) (j := 0) (d := q.fr.regs[z.toNat]) u ho hx hn (List.getElem?_eq_getElem hz) (by show _ = z.toNat * 1 + 0; omega) (by rw [hy]; exact upd_W hu) ?_
    rw [show rgR q' = rowL q.rg q.fr.regs.length 38 tW (q.fr.regs.set z.toNat u) by unfold rgR; rw [hl, List.length_set, hq']] at hK2
    exact hK2
/-- a word of the heap is written -/
theorem AOp.stMH {ty : TypeId} {x y : Operand} {i : Nat} {z u : Int} {p : Prog} {m : MdA} [SZ P ty 1] (ho : o.op = .store ty x y) (hx : evA t x = .lit (ptV m.hg z.toNat)) (hy : evA t y = .lit (.int .u32 u)) (hi : h[i]? = some (.res (modR p m))) (hz : z.toNat < m.heap.length) (hu : wfI .u32 u)
    (hK : K ⟨putA t o.dst (.lit undef), h.set i (.res (modR p { m with heap := m.heap.set z.toNat u })) ++ [.dead]⟩) : AOp P C o ⟨t, h⟩ K := by
  refine AOp.inAll (ι := Unit) (t' := fun _ => putA t o.dst (.lit undef)) (A' := fun _ => rowL m.hg m.heap.length 38 tW (m.heap.set z.toNat u)) i 1 [] hi rfl rfl (fun _ => rfl) (fun h1 K' hi1 _ hK' => ?_) fun _ => ?_
  · have hK2 := hK' ()
    rw [List.append_nil] at hK2
    exact AOp.stRL (T := tW) (k := z.toNat) (j := 0) (d := m.heap[z.toNat]) u ho hx hi1 (List.getElem?_eq_getElem hz) (by show _ = z.toNat * 1 + 0; omega) (by rw [hy]; exact upd_W hu) hK2
  · have e : (modL p m).set 1 (rowL m.hg m.heap.length 38 tW (m.heap.set z.toNat u)) = modL p { m with heap := m.heap.set z.toNat u } := by
      unfold modL mdC
      simp only [List.length_set, List.set_cons_succ, List.set_cons_zero]
    rw [e]
    exact hK
/-- the output grows -/
theorem AOp.apMO {ty : TypeId} {x y : Operand} {i bytes : Nat} {p : Prog} {m : MdA} {l2 : List Int} (ho : o.op = .call { callee := .builtin .append, args := #[x, y], argTypes := #[ty, ty] }) (hT : rowTy P ty = some (38, tW.size, bytes)) (hx : evA t x = .lit m.ov) (hy : evA t y = .bs tW l2) (hi : h[i]? = some (.res (modR p m)))
    (hb : rowB (m.out.length + l2.length) bytes = true) (hK : ∀ v', K ⟨putA t o.dst (.lit v'), h.set i (.res (modR p { m with ov := v', out := m.out ++ l2 })) ++ [.dead]⟩) : AOp P C o ⟨t, h⟩ K := by
  unfold rowB at hb
  simp only [Bool.and_eq_true, decide_eq_true_eq] at hb
  exact AOp.inAll (ι := Value) (t' := fun v' => putA t o.dst (.lit v')) (A' := fun v' => rowR v' 38 tW (m.out ++ l2)) i 2 [] hi rfl rfl (fun _ => rfl)
    (fun h1 K' hi1 _ hK' => AOp.appendL ho hT hx hi1 hy (one1_of_enc (enc := fun d => [.lit (.int .u32 d)]) EncOf.ok fun d x hx => by rw [List.mem_singleton.1 hx]; exact .inl ⟨_, rfl, rfl⟩) hb.1 hb.2 fun v' => by have := hK' v'; rwa [List.append_nil] at this) hK
end
/-- its blocks are the same while frames move on -/
theorem mod_F {p : Prog} {m : MdA} {ti k : Nat} {t0 : ThA} {q q' : FrA} (ht : m.ths[ti]? = some t0) (hq : t0.l[k]? = some q) (hr : q'.rg = q.rg) {g : Nat} (h : (modR p m).F g) : (modR p (m.upF ti t0 k q')).F g := by
  obtain ⟨A, hA, hg⟩ := h
  have htl := (List.getElem?_eq_some_iff.1 ht).1
  have hql := (List.getElem?_eq_some_iff.1 hq).1
  unfold modL at hA
  rcases List.mem_cons.1 hA with rfl | hA
  · exact ⟨_, List.mem_cons_self .., hg⟩
  rcases List.mem_cons.1 hA with rfl | hA
  · exact ⟨_, List.mem_cons_of_mem _ (List.mem_cons_self ..), hg⟩
  rcases List.mem_cons.1 hA with rfl | hA
  · exact ⟨_, List.mem_cons_of_mem _ (List.mem_cons_of_mem _ (List.mem_cons_self ..)), hg⟩
  rcases List.mem_cons.1 hA with rfl | hA
  · exact ⟨_, List.mem_cons_of_mem _ (List.mem_cons_of_mem _ (List.mem_cons_of_mem _ (List.mem_cons_self ..))), hg⟩
  obtain ⟨t, htm, rfl⟩ := List.mem_map.1 hA
  obtain ⟨i, hi⟩ := List.getElem?_of_mem htm
  by_cases e : i = ti
  · subst e
    obtain rfl := Option.some.inj (hi.symm.trans ht)
    refine ⟨thR (t.upF k q'), List.mem_of_getElem? (modL_th (ti := i) (List.getElem?_set_self htl)), ?_⟩
    obtain ⟨B, hB, hg⟩ := hg
    rcases List.mem_cons.1 hB with rfl | hB
    · exact ⟨_, List.mem_cons_self .., hg⟩
    · obtain ⟨q2, hqm, rfl⟩ := List.mem_map.1 hB
      obtain ⟨j, hj⟩ := List.getElem?_of_mem hqm
      by_cases ej : j = k
      · subst ej
        obtain rfl := Option.some.inj (hj.symm.trans hq)
        refine ⟨rgR q', List.mem_cons_of_mem _ (List.mem_map.2 ⟨q', List.mem_of_getElem? (List.getElem?_set_self hql), rfl⟩), ?_⟩
        have hg : some q2.rg = some g := hg
        show some q'.rg = some g
        rw [hr]
        exact hg
      · exact ⟨rgR q2, List.mem_cons_of_mem _ (List.mem_map.2 ⟨q2, List.mem_of_getElem? (i := j) (by show (t.l.set k q')[j]? = _; rw [List.getElem?_set_ne (Ne.symm ej)]; exact hj), rfl⟩), hg⟩
  · refine ⟨thR t, List.mem_of_getElem? (modL_th (ti := i) ?_), hg⟩
    show (m.ths.set ti _)[i]? = _
    rw [List.getElem?_set_ne (Ne.symm e)]
    exact hi
end Mu
end
section
/-
  Operations in few letters: pointers compared with nil, slices as known values, copy.
  Conditions: none; generic.
-/
namespace Mu
open Go Go.RowKit Go.Proofs

/-- a type of pointers -/
class PN (P : Program) (ty : TypeId) : Prop where
  e : P.underlying ty = some (.pointer (P.pointee ty))
section
variable {P : Program} {C : Ctx} {t t' : List AV} {h h' : List ABlk} {o : Oper} {K : St → Prop}
theorem Quiet.eqPN {xt yt : TypeId} {x y : Operand} {a : Option Addr} [PN P xt] (ho : o.op = .binOp .eql xt x y yt) (hx : evA t x = .lit (.pointer a)) (hy : evA t y = .lit (.pointer none)) : Quiet P C t h o (.lit (.bool a.isNone)) :=
  Quiet.of_run fun S ψ w ρ _ hρ => by
    have h1 := hρ x (by simp [ho, Op.operands])
    have h2 := hρ y (by simp [ho, Op.operands])
    rw [hx] at h1
    rw [hy] at h2
    unfold AV.rel at h1 h2
    refine ⟨.bool a.isNone, ?_, by unfold AV.rel; rfl⟩
    simp [execOp, ho, h1, h2, eqGuard, run_eql_pointer_nil _ _ _ (PN.e (P := P) (ty := xt))]
theorem Quiet.nePN {xt yt : TypeId} {x y : Operand} {a : Option Addr} [PN P xt] (ho : o.op = .binOp .neq xt x y yt) (hx : evA t x = .lit (.pointer a)) (hy : evA t y = .lit (.pointer none)) : Quiet P C t h o (.lit (.bool (!a.isNone))) :=
  Quiet.of_run fun S ψ w ρ _ hρ => by
    have h1 := hρ x (by simp [ho, Op.operands])
    have h2 := hρ y (by simp [ho, Op.operands])
    rw [hx] at h1
    rw [hy] at h2
    unfold AV.rel at h1 h2
    refine ⟨.bool (!a.isNone), ?_, by unfold AV.rel; rfl⟩
    simp [execOp, ho, h1, h2, eqGuard, run_neq_pointer_nil _ _ _ (PN.e (P := P) (ty := xt))]
instance inMuTokM1 {xt yt : TypeId} {x y : Operand} {a : Option Addr} [PN P xt] [GA t x (.lit (.pointer a))] [GA t y (.lit (.pointer none))] : QI P C t h (.binOp .eql xt x y yt) (.lit (.bool a.isNone)) := ⟨fun _ _ _ _ => Quiet.eqPN rfl GA.e GA.e⟩
instance inMuTokM2 {xt yt : TypeId} {x y : Operand} {a : Option Addr} [PN P xt] [GA t x (.lit (.pointer a))] [GA t y (.lit (.pointer none))] : QI P C t h (.binOp .neq xt x y yt) (.lit (.bool (!a.isNone))) := ⟨fun _ _ _ _ => Quiet.nePN rfl GA.e GA.e⟩
instance inMuTokM3 {x : Operand} {g off : Nat} [GA t x (.lit (.pointer (some ⟨g, off, none⟩)))] : QI P C t h (.nilCheck x) (.lit (.pointer (some ⟨g, off, none⟩))) := ⟨fun _ _ _ _ => Quiet.nilL rfl GA.e⟩
instance inMuTokM5 {x : Operand} {g off : Nat} {q : Bool} [GX q t x (.lit (.pointer (some ⟨g, off, none⟩)))] : QG P C t h (.nilCheck x) q (.lit (.pointer (some ⟨g, off, none⟩))) := ⟨fun _ _ _ _ _ hg => Quiet.nilL rfl (GX.e hg)⟩
instance inMuTokM6 {ty : TypeId} {x : Operand} {a : Option Addr} {n c : Nat} [SL P ty] [GA t x (.lit (.slice a n c))] : QI P C t h (.call { callee := .builtin .len, args := #[x], argTypes := #[ty] }) (.lit (.int .i64 (n : Int))) := ⟨fun _ _ _ _ => Quiet.lnl rfl GA.e⟩
instance inMuTokM7 {ty : TypeId} {x : Operand} {a : Option Addr} {n c : Nat} {q : Bool} [SL P ty] [GX q t x (.lit (.slice a n c))] : QG P C t h (.call { callee := .builtin .len, args := #[x], argTypes := #[ty] }) q (.lit (.int .i64 (n : Int))) := ⟨fun _ _ _ _ _ hg => Quiet.lnl rfl (GX.e hg)⟩
variable {ops : Array Oper} {rest l : List Oper} {d : Option Nat} {ty : TypeId} {ps : String} {af : Array Go.Edge} {L : List AV → Prop} {y : Code} {Q : Exit → St → Prop} {id j : Nat} {s : St}
theorem sH {op : Op} {r : AV} (hq : Quiet P C t h ⟨d, op, ty, ps, af, none⟩ r) [PA t d r t'] (hk : aSeq P C ops K rest ⟨t', h⟩) : aSeq P C ops K (⟨d, op, ty, ps, af, none⟩ :: rest) ⟨t, h⟩ := sA (hg := rfl) (hq := hq) (ht := PA.e) (hk := hk)
theorem qH {op : Op} {r : AV} (hq : Quiet P C t h ⟨d, op, ty, ps, af, none⟩ r) [PA t d r t'] (hk : aQ P C ops h L rest t') : aQ P C ops h L (⟨d, op, ty, ps, af, none⟩ :: rest) t := qA (hg := rfl) (hq := hq) (ht := PA.e) (hk := hk)
/-- an element's address, of a slice that is a known value -/
theorem sI {st : TypeId} {x z : Operand} {ik : IntKind} {m : Int} {b n c : Nat} (hz : inZ n m = true) [GA t x (.lit (.slice (some ⟨b, 0, none⟩) n c))] [GA t z (.lit (.int ik m))] [ES P st 1] [PA t d (.lit (.pointer (some ⟨b, m.toNat, none⟩))) t'] (hk : aSeq P C ops K rest ⟨t', h⟩) : aSeq P C ops K (⟨d, .indexAddr st x z, ty, ps, af, none⟩ :: rest) ⟨t, h⟩ := sA (hg := rfl) (hq := Quiet.ixRows rfl GA.e GA.e hz) (ht := PA.e) (hk := hk)
theorem qI {st : TypeId} {x z : Operand} {ik : IntKind} {m : Int} {b n c : Nat} (hz : inZ n m = true) [GA t x (.lit (.slice (some ⟨b, 0, none⟩) n c))] [GA t z (.lit (.int ik m))] [ES P st 1] [PA t d (.lit (.pointer (some ⟨b, m.toNat, none⟩))) t'] (hk : aQ P C ops h L rest t') : aQ P C ops h L (⟨d, .indexAddr st x z, ty, ps, af, none⟩ :: rest) t := qA (hg := rfl) (hq := Quiet.ixRows rfl GA.e GA.e hz) (ht := PA.e) (hk := hk)
/-- copy into a row of the call's own -/
theorem AOp.cpL {dT sT e : TypeId} {x y : Operand} {i g n c : Nat} {α : Type} {T : Ty α} {l l2 : List α} (hT : T.size = 1) (h1T : One1 T) (hu : P.underlying dT = some (.slice e)) (hs : (P.info? e).map (·.size) = some 1) (ho : o.op = .call { callee := .builtin .copy, args := #[x, y], argTypes := #[dT, sT] })
    (hx : evA t x = .lit (.slice (some ⟨g, 0, none⟩) n c)) (hy : evA t y = .bs T l2) (hi : h[i]? = some (.res (rowR (.slice (some ⟨g, 0, none⟩) n c) e T l))) (hn : l.length = n) (hl : l2.length ≤ n)
    (hK : K ⟨putA t o.dst (.lit (.int .i64 (l2.length : Int))), h.set i (.res (rowR (.slice (some ⟨g, 0, none⟩) n c) e T (l2 ++ l.drop l2.length)))⟩) : AOp P C o ⟨t, h⟩ K := by
  subst hn
  refine AOp.turn (ι := Unit) (Rs := fun _ => rowR (.slice (some ⟨g, 0, none⟩) l.length c) e T (l2 ++ l.drop l2.length)) (val := fun _ => .int .i64 (l2.length : Int)) hi (fun _ => rfl) (fun S ψ w ρ H hR hlt hρ => ?_) fun _ => hK
  have hx' := hρ x (by rw [ho]; exact Array.mem_append.2 (.inr (by simp)))
  have hy' := hρ y (by rw [ho]; exact Array.mem_append.2 (.inr (by simp)))
  rw [hx] at hx'
  rw [hy] at hy'
  unfold AV.rel at hx' hy'
  have hgS : ¬ S g := ((H.blk i _ hi).1 g rfl).2.1
  obtain ⟨cur, hg, hnc, hcm, hsz, h0, hE⟩ := rowL_cells hR
  rw [hT, Nat.mul_one] at hsz
  obtain ⟨A, c2, hyf⟩ := slice_form hy'
  rw [hyf] at hy'
  obtain ⟨news, hnl, hsrc, hnR, hn1⟩ := slice_src hy' fun cs d hcs => h1T _ _ _ _ hcs
  rw [hT, Nat.mul_one] at hnl
  have hS := hsrc w fun _ _ => rfl
  obtain ⟨w', hw'⟩ : ∃ w', w' = w.setRow g (news ++ cur.toList.drop news.length).toArray := ⟨_, rfl⟩
  have hrun : (execOp ρ o).run P w = .ok (.value (.int .i64 (l2.length : Int))) w' := by
    rw [hw']
    cases A with
    | none =>
      have e0 : l2.length = 0 := by
        rcases Nat.eq_zero_or_pos l2.length with e | e
        · exact e
        · obtain ⟨ad, ha, _⟩ := hS.cells 0 news[0] (List.getElem?_eq_getElem (by omega))
          cases ha
      have e1 : news = [] := List.eq_nil_of_length_eq_zero (by omega)
      have hc2 : c2 = 0 := by
        obtain ⟨A', c', e, _, hc, _⟩ := hy'
        cases e
        exact hc.2 rfl
      rw [e1, e0]
      have := run_copy_nil P w dT sT o.type e ⟨g, 0, none⟩ l.length c hu (by rw [hs]; rfl)
      rw [e0] at hyf
      subst hc2
      simp [execOp, ho, resolve, invoke, builtin, hx', hyf, this]
      rw [setRow_self w g cur e (0, 0) hg]
      exact ⟨rfl, rfl⟩
    | some a =>
      have := run_copy_row P w dT sT o.type e g 0 l.length c a l2.length c2 cur e news hu hs hg (by rw [hnl]; exact (Nat.min_eq_left hl).symm) (fun j v hj => by
        obtain ⟨ad, ha, hc⟩ := hS.cells j v hj
        cases ha
        exact hc) (by omega) hn1
      rw [List.take_zero, List.nil_append, Nat.zero_add] at this
      simp [execOp, ho, resolve, invoke, builtin, hx', hyf, this]
      rw [← hnl]
      rfl
  rw [hrun]
  have hgr := grown_setRow w g (news ++ cur.toList.drop news.length).toArray
  rw [← hw'] at hgr
  have hblk : ∀ q, S q → w'.heap[q]? = w.heap[q]? := fun q hq => by
    rw [hw']
    exact setRow_other _ _ _ _ fun e => hgS (by rw [← e]; exact hq)
  refine ⟨⟨hgr.os, hgr.tape, hgr.output, hgr.size, fun q hq hno => hgr.block q hq fun e => hno (by injection e with e; exact congrArg some e.symm)⟩, (), rfl, ?_, fun q hq => ⟨.inl hq, Nat.lt_of_lt_of_le (hlt q hq) hgr.size⟩⟩
  have hlen : l.length = (l2 ++ l.drop l2.length).length := by
    rw [List.length_append, List.length_drop]
    omega
  show (rowR (.slice (some ⟨g, 0, none⟩) l.length c) e T (l2 ++ l.drop l2.length)).R _ _
  have key := rowL_of (g := g) (c := c) (e := e) (T := T) (l := l2 ++ l.drop l2.length) (w := w') (S := S) (cur := (news ++ cur.toList.drop news.length).toArray) (by rw [hw']; exact setRow_heap w g _ _ e _ hg) (by rw [← hlen]; exact hnc) hcm (by rw [hT, Nat.mul_one]; simp; omega) h0 fun q d hq => by
    rw [hT, Nat.mul_one, List.toList_toArray]
    by_cases hql : q < l2.length
    · rw [List.getElem?_append_left hql] at hq
      have h5 := hnR q d hq
      rw [hT, Nat.mul_one] at h5
      rw [List.drop_append_of_le_length (by omega), List.take_append_of_le_length (by rw [List.length_drop]; omega)]
      exact T.keepS h5 hblk fun _ h => h
    · rw [List.getElem?_append_right (by omega), List.getElem?_drop, show l2.length + (q - l2.length) = q by omega] at hq
      have h5 := hE q d hq
      rw [hT, Nat.mul_one] at h5
      rw [List.drop_append, List.drop_eq_nil_of_le (by omega : news.length ≤ q), List.nil_append, List.drop_drop, show news.length + (q - news.length) = q by omega]
      exact T.keepS h5 hblk fun _ h => h
  unfold rowL at key
  rw [← hlen] at key
  exact key
end
end Mu
end
