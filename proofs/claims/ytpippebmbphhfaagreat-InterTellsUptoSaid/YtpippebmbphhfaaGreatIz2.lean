/-
  Own texts laid together, part 2: MuReads2, MuShape, MuSame, MuFlowP, MuGoes, MuNext, MuOk, MuBuild, MuDraw, MuRowFn, MuDrawT, MuDrawF, MuRes, MuRange, MuFnM, MuLitR, MuSlice, MuStep, MuFull, MuCond, MuStr, MuBytes, MuTab, MuOwnG, MuClo, MuLine, MuMark, MuZeros, MuFnC2, MuBoxRow.
  Conditions: as each part says.
-/
import Derived.Test.YtpippebmbphhfaaGreatIz1
import Derived.BigQuiet
import Derived.WalkSpells
import Derived.RangeFuncNested
import Derived.RangeFuncBound
import Derived.RangeFuncCalls
import Derived.RangeFuncLeaves
import Derived.Shelf.Abstract
import Derived.Shelf.RegionOpen
import Derived.WalkKit
import Derived.OwnWalkIn
import Derived.TacticsInMore
import Derived.LoopNIn
import Derived.LoopIn
import Derived.RangeFuncBox
import Derived.RangeFuncWrites
import Derived.RangeFuncRecord
import Derived.Deep.Upon
import Derived.Laws.Strings3
import Derived.Laws.IdiomStrings
import Derived.Laws.StructEq
import Derived.Deep.Onto
import Derived.Lib.AppendZeros
section
/-
  muntinref14.Reads, Writes, walked.
  Conditions: an instruction's arguments are at most 2^21.
-/
namespace Mu
open Go Go.RowKit Go.Proofs

section
variable {w w' : World} {cs : List Value} {T : TypeId}
theorem bx_Has (op : Int) (h0 : 0 ≤ op) (h1 : op ≤ 255) (h : Bx w cs T w') :
    Calls Tryz.prog 109 #[.int .u8 op] w' fun e w'' => e = .returned (.string ⟨(hasS op).toArray⟩) ∧ Bx w cs T w'' :=
  (ref_Has op w' h0 h1).mono fun _ _ hp => ⟨hp.1, h.call hp.2⟩
theorem bx_in97 (op : Int) {b : Bool} (hb : (hasS op).contains 97 = b) (w' : World) :
    Calls Tryz.prog 110 #[.string ⟨(hasS op).toArray⟩, .int .u8 97] w' fun e w'' => e = .returned (.bool b) ∧ w' = w'' :=
  (ref_in14 ⟨(hasS op).toArray⟩ 97 w' (hasS_size op)).mono fun _ _ hp => ⟨by rw [hp.1, hasC_hasS, hb], hp.2⟩
theorem bx_in98 (op : Int) {b : Bool} (hb : (hasS op).contains 98 = b) (w' : World) :
    Calls Tryz.prog 110 #[.string ⟨(hasS op).toArray⟩, .int .u8 98] w' fun e w'' => e = .returned (.bool b) ∧ w' = w'' :=
  (ref_in14 ⟨(hasS op).toArray⟩ 98 w' (hasS_size op)).mono fun _ _ hp => ⟨by rw [hp.1, hasC_hasS, hb], hp.2⟩
theorem bx_in120 (op : Int) {b : Bool} (hb : (hasS op).contains 120 = b) (w' : World) :
    Calls Tryz.prog 110 #[.string ⟨(hasS op).toArray⟩, .int .u8 120] w' fun e w'' => e = .returned (.bool b) ∧ w' = w'' :=
  (ref_in14 ⟨(hasS op).toArray⟩ 120 w' (hasS_size op)).mono fun _ _ hp => ⟨by rw [hp.1, hasC_hasS, hb], hp.2⟩
theorem bx_in100 (op : Int) {b : Bool} (hb : (hasS op).contains 100 = b) (w' : World) :
    Calls Tryz.prog 110 #[.string ⟨(hasS op).toArray⟩, .int .u8 100] w' fun e w'' => e = .returned (.bool b) ∧ w' = w'' :=
  (ref_in14 ⟨(hasS op).toArray⟩ 100 w' (hasS_size op)).mono fun _ _ hp => ⟨by rw [hp.1, hasC_hasS, hb], hp.2⟩
end
theorem bx_grown {w w2 : World} {cs : List Value} {T : TypeId} {v : Value} {n sz : Nat} {e : TypeId} {xs : List Value} {o : World} (ho : Bx w cs T o) (hown : o.ownsRow (w.heap.size + 1) e sz v n xs) (hg : o.grownBy w2 v.ownBlock) : Bx w cs T w2 :=
  Below.grown (show Below (w.heap.size + 1) _ o from ho) hg (by have := ho.lt; omega) (fun q hq => (hown.lt q hq).1)

set_option maxRecDepth 100000 in
set_option maxHeartbeats 1000000 in
theorem ref_reads_000 (x : Ins) (w : World) (A : Option Addr) (c : Nat) (hI : InsCells w (fun k => k < w.heap.size) [.int .u8 x.op, .int .i64 x.d, .int .i64 x.a, .int .i64 x.b, .int .u32 x.n, .int .i64 x.f, .slice A x.args.length c, .int .i64 x.l1, .int .i64 x.l2] x A c) (_hl : x.args.length ≤ 2097152)
    (ha : (hasS x.op).contains 97 = false) (hb : (hasS x.op).contains 98 = false) (hx : (hasS x.op).contains 120 = false) :
    Calls Tryz.prog 61 #[.agg #[.int .u8 x.op, .int .i64 x.d, .int .i64 x.a, .int .i64 x.b, .int .u32 x.n, .int .i64 x.f, .slice A x.args.length c, .int .i64 x.l1, .int .i64 x.l2]] w fun e w' => ∃ v, e = .returned v ∧ OwnI w' w.heap.size v (readsC x) ∧ Below w.heap.size w w' := by
  obtain ⟨_, hop, _, _, _, _, _, _, _, hA⟩ := hI
  obtain ⟨h0, h255⟩ := wfI_u8 hop
  obtain ⟨i0, hi, hz0, hz1, hz2⟩ := info_parts int_info
  have HS := Lib.hid fun w' (h : Below w.heap.size w w') => ints_src hA w' h.block
  have H1 := Lib.hid (ints_one .i64 x.args)
  have HG : Hid (readsC x = []) := by
    show _ = _
    unfold readsC
    rw [ha, hb, hx]
    rfl
  have HA := Lib.hid ha
  have HB := Lib.hid hb
  have HX := Lib.hid hx
  clear hA ha hb hx
  obtain ⟨cs, hcs⟩ : ∃ cs : List Value, cs = [.int .u8 x.op, .int .i64 x.d, .int .i64 x.a, .int .i64 x.b, .int .u32 x.n, .int .i64 x.f, .slice A x.args.length c, .int .i64 x.l1, .int .i64 x.l2] := ⟨_, rfl⟩
  have q2 : ∀ w', Bx w cs 70 w' → w'.cell? ⟨w.heap.size, 2, none⟩ = some (.int .i64 x.a) := fun w' h => h.cell (by rw [hcs]; rfl)
  have q3 : ∀ w', Bx w cs 70 w' → w'.cell? ⟨w.heap.size, 3, none⟩ = some (.int .i64 x.b) := fun w' h => h.cell (by rw [hcs]; rfl)
  have q6 : ∀ w', Bx w cs 70 w' → w'.cell? ⟨w.heap.size, 6, none⟩ = some (.slice A x.args.length c) := fun w' h => h.cell (by rw [hcs]; rfl)
  have hstart : Hid (Bx w cs 70 (w.alloc (.cells #[.int .u8 x.op, .int .i64 x.d, .int .i64 x.a, .int .i64 x.b, .int .u32 x.n, .int .i64 x.f, .slice A x.args.length c, .int .i64 x.l1, .int .i64 x.l2] 70))) := by
    have h := Bx.refl (w0 := w) (cs := cs) (T := 70)
    rw [hcs] at h
    rw [hcs]
    exact h
  clear hcs
  go_enter Tryz.func61, Tryz.ntmps61
  go_wp2_with fail
  refine (bx_Has x.op h0 h255 hstart.out).mono ?_
  rintro e w1 ⟨rfl, hx1⟩
  have hown1 : Hid (w1.ownsRow (w.heap.size + 1) 3 1 (.slice none 0 0) 0 []) := World.ownsRow_nil _ _ _ _
  have hlt1 := hx1.lt
  clear hstart
  go_wp2_with fail
  refine (bx_in97 x.op HA.out w1).mono ?_
  rintro e w' ⟨rfl, rfl⟩
  go_wp2_with fail
  refine (bx_in98 x.op HB.out w1).mono ?_
  rintro e w' ⟨rfl, rfl⟩
  go_wp2_with fail
  refine (bx_in120 x.op HX.out w1).mono ?_
  rintro e w' ⟨rfl, rfl⟩
  go_wp2_with fail
  go_ret
  refine ⟨_, rfl, ?_, hx1.below⟩
  rw [HG.out]
  exact OwnI.base (OwnI.of hown1.out (by first | (simp; done) | (simp; omega)) (by simp)) (by omega)

set_option maxRecDepth 100000 in
set_option maxHeartbeats 1000000 in
theorem ref_reads_001 (x : Ins) (w : World) (A : Option Addr) (c : Nat) (hI : InsCells w (fun k => k < w.heap.size) [.int .u8 x.op, .int .i64 x.d, .int .i64 x.a, .int .i64 x.b, .int .u32 x.n, .int .i64 x.f, .slice A x.args.length c, .int .i64 x.l1, .int .i64 x.l2] x A c) (hl : x.args.length ≤ 2097152)
    (ha : (hasS x.op).contains 97 = false) (hb : (hasS x.op).contains 98 = false) (hx : (hasS x.op).contains 120 = true) :
    Calls Tryz.prog 61 #[.agg #[.int .u8 x.op, .int .i64 x.d, .int .i64 x.a, .int .i64 x.b, .int .u32 x.n, .int .i64 x.f, .slice A x.args.length c, .int .i64 x.l1, .int .i64 x.l2]] w fun e w' => ∃ v, e = .returned v ∧ OwnI w' w.heap.size v (readsC x) ∧ Below w.heap.size w w' := by
  obtain ⟨_, hop, _, _, _, _, _, _, _, hA⟩ := hI
  obtain ⟨h0, h255⟩ := wfI_u8 hop
  obtain ⟨i0, hi, hz0, hz1, hz2⟩ := info_parts int_info
  have HS := Lib.hid fun w' (h : Below w.heap.size w w') => ints_src hA w' h.block
  have H1 := Lib.hid (ints_one .i64 x.args)
  have HG : Hid (readsC x = x.args) := by
    show _ = _
    unfold readsC
    rw [ha, hb, hx]
    rfl
  have HA := Lib.hid ha
  have HB := Lib.hid hb
  have HX := Lib.hid hx
  clear hA ha hb hx
  obtain ⟨cs, hcs⟩ : ∃ cs : List Value, cs = [.int .u8 x.op, .int .i64 x.d, .int .i64 x.a, .int .i64 x.b, .int .u32 x.n, .int .i64 x.f, .slice A x.args.length c, .int .i64 x.l1, .int .i64 x.l2] := ⟨_, rfl⟩
  have q2 : ∀ w', Bx w cs 70 w' → w'.cell? ⟨w.heap.size, 2, none⟩ = some (.int .i64 x.a) := fun w' h => h.cell (by rw [hcs]; rfl)
  have q3 : ∀ w', Bx w cs 70 w' → w'.cell? ⟨w.heap.size, 3, none⟩ = some (.int .i64 x.b) := fun w' h => h.cell (by rw [hcs]; rfl)
  have q6 : ∀ w', Bx w cs 70 w' → w'.cell? ⟨w.heap.size, 6, none⟩ = some (.slice A x.args.length c) := fun w' h => h.cell (by rw [hcs]; rfl)
  have hstart : Hid (Bx w cs 70 (w.alloc (.cells #[.int .u8 x.op, .int .i64 x.d, .int .i64 x.a, .int .i64 x.b, .int .u32 x.n, .int .i64 x.f, .slice A x.args.length c, .int .i64 x.l1, .int .i64 x.l2] 70))) := by
    have h := Bx.refl (w0 := w) (cs := cs) (T := 70)
    rw [hcs] at h
    rw [hcs]
    exact h
  clear hcs
  go_enter Tryz.func61, Tryz.ntmps61
  go_wp2_with fail
  refine (bx_Has x.op h0 h255 hstart.out).mono ?_
  rintro e w1 ⟨rfl, hx1⟩
  have hown1 : Hid (w1.ownsRow (w.heap.size + 1) 3 1 (.slice none 0 0) 0 []) := World.ownsRow_nil _ _ _ _
  have hlt1 := hx1.lt
  clear hstart
  go_wp2_with fail
  refine (bx_in97 x.op HA.out w1).mono ?_
  rintro e w' ⟨rfl, rfl⟩
  go_wp2_with fail
  refine (bx_in98 x.op HB.out w1).mono ?_
  rintro e w' ⟨rfl, rfl⟩
  go_wp2_with fail
  refine (bx_in120 x.op HX.out w1).mono ?_
  rintro e w' ⟨rfl, rfl⟩
  go_wp2_with (at_builtin; refine list_more rfl (.tmp 24) (.tmp 26) _ rfl (w.heap.size + 1) 3 i0 _ 1 8 Tryz.underlying31 hi hz0 hz1 hz2 rfl (by decide) rfl hown1.out rfl (HS.out _ hx1.below) H1.out (by unfold maxLen; omega) (by omega) (by omega) ?_)
  intro v2 w2 ho2 hg2 _
  have hx2 : Bx w cs 70 w2 := bx_grown hx1 hown1.out hg2
  have hown2 := Lib.hid ho2
  have hlt2 := hx2.lt
  clear ho2 hg2
  go_wp2_with fail
  go_ret
  refine ⟨_, rfl, ?_, hx2.below⟩
  rw [HG.out]
  exact OwnI.base (OwnI.of hown2.out (by first | (simp; done) | (simp; omega)) (by simp)) (by omega)

set_option maxRecDepth 100000 in
set_option maxHeartbeats 1000000 in
theorem ref_reads_010 (x : Ins) (w : World) (A : Option Addr) (c : Nat) (hI : InsCells w (fun k => k < w.heap.size) [.int .u8 x.op, .int .i64 x.d, .int .i64 x.a, .int .i64 x.b, .int .u32 x.n, .int .i64 x.f, .slice A x.args.length c, .int .i64 x.l1, .int .i64 x.l2] x A c) (_hl : x.args.length ≤ 2097152)
    (ha : (hasS x.op).contains 97 = false) (hb : (hasS x.op).contains 98 = true) (hx : (hasS x.op).contains 120 = false) :
    Calls Tryz.prog 61 #[.agg #[.int .u8 x.op, .int .i64 x.d, .int .i64 x.a, .int .i64 x.b, .int .u32 x.n, .int .i64 x.f, .slice A x.args.length c, .int .i64 x.l1, .int .i64 x.l2]] w fun e w' => ∃ v, e = .returned v ∧ OwnI w' w.heap.size v (readsC x) ∧ Below w.heap.size w w' := by
  obtain ⟨_, hop, _, _, _, _, _, _, _, hA⟩ := hI
  obtain ⟨h0, h255⟩ := wfI_u8 hop
  obtain ⟨i0, hi, hz0, hz1, hz2⟩ := info_parts int_info
  have HS := Lib.hid fun w' (h : Below w.heap.size w w') => ints_src hA w' h.block
  have H1 := Lib.hid (ints_one .i64 x.args)
  have HG : Hid (readsC x = [x.b]) := by
    show _ = _
    unfold readsC
    rw [ha, hb, hx]
    rfl
  have HA := Lib.hid ha
  have HB := Lib.hid hb
  have HX := Lib.hid hx
  clear hA ha hb hx
  obtain ⟨cs, hcs⟩ : ∃ cs : List Value, cs = [.int .u8 x.op, .int .i64 x.d, .int .i64 x.a, .int .i64 x.b, .int .u32 x.n, .int .i64 x.f, .slice A x.args.length c, .int .i64 x.l1, .int .i64 x.l2] := ⟨_, rfl⟩
  have q2 : ∀ w', Bx w cs 70 w' → w'.cell? ⟨w.heap.size, 2, none⟩ = some (.int .i64 x.a) := fun w' h => h.cell (by rw [hcs]; rfl)
  have q3 : ∀ w', Bx w cs 70 w' → w'.cell? ⟨w.heap.size, 3, none⟩ = some (.int .i64 x.b) := fun w' h => h.cell (by rw [hcs]; rfl)
  have q6 : ∀ w', Bx w cs 70 w' → w'.cell? ⟨w.heap.size, 6, none⟩ = some (.slice A x.args.length c) := fun w' h => h.cell (by rw [hcs]; rfl)
  have hstart : Hid (Bx w cs 70 (w.alloc (.cells #[.int .u8 x.op, .int .i64 x.d, .int .i64 x.a, .int .i64 x.b, .int .u32 x.n, .int .i64 x.f, .slice A x.args.length c, .int .i64 x.l1, .int .i64 x.l2] 70))) := by
    have h := Bx.refl (w0 := w) (cs := cs) (T := 70)
    rw [hcs] at h
    rw [hcs]
    exact h
  clear hcs
  go_enter Tryz.func61, Tryz.ntmps61
  go_wp2_with fail
  refine (bx_Has x.op h0 h255 hstart.out).mono ?_
  rintro e w1 ⟨rfl, hx1⟩
  have hown1 : Hid (w1.ownsRow (w.heap.size + 1) 3 1 (.slice none 0 0) 0 []) := World.ownsRow_nil _ _ _ _
  have hlt1 := hx1.lt
  clear hstart
  go_wp2_with fail
  refine (bx_in97 x.op HA.out w1).mono ?_
  rintro e w' ⟨rfl, rfl⟩
  go_wp2_with fail
  refine (bx_in98 x.op HB.out w1).mono ?_
  rintro e w' ⟨rfl, rfl⟩
  go_wp2_with (at_builtin; refine list_more rfl (.tmp 17) (.tmp 20) _ rfl (w.heap.size + 1) 3 i0 _ 1 8 Tryz.underlying31 hi hz0 hz1 hz2 rfl (by decide) rfl (hown1.out.alloc _) rfl (src_one rfl) (by simp [Value.oneCell']) (by unfold maxLen; omega) (by omega) (by simp; omega) ?_)
  intro v2 w2 ho2 hg2 _
  have hx2 : Bx w cs 70 w2 := bx_grown (hx1.alloc _) (hown1.out.alloc _) hg2
  have hown2 := Lib.hid ho2
  have hlt2 := hx2.lt
  clear ho2 hg2
  go_wp2_with fail
  refine (bx_in120 x.op HX.out w2).mono ?_
  rintro e w' ⟨rfl, rfl⟩
  go_wp2_with fail
  go_ret
  refine ⟨_, rfl, ?_, hx2.below⟩
  rw [HG.out]
  exact OwnI.base (OwnI.of hown2.out (by first | (simp; done) | (simp; omega)) (by simp)) (by omega)

set_option maxRecDepth 100000 in
set_option maxHeartbeats 1000000 in
theorem ref_reads_011 (x : Ins) (w : World) (A : Option Addr) (c : Nat) (hI : InsCells w (fun k => k < w.heap.size) [.int .u8 x.op, .int .i64 x.d, .int .i64 x.a, .int .i64 x.b, .int .u32 x.n, .int .i64 x.f, .slice A x.args.length c, .int .i64 x.l1, .int .i64 x.l2] x A c) (hl : x.args.length ≤ 2097152)
    (ha : (hasS x.op).contains 97 = false) (hb : (hasS x.op).contains 98 = true) (hx : (hasS x.op).contains 120 = true) :
    Calls Tryz.prog 61 #[.agg #[.int .u8 x.op, .int .i64 x.d, .int .i64 x.a, .int .i64 x.b, .int .u32 x.n, .int .i64 x.f, .slice A x.args.length c, .int .i64 x.l1, .int .i64 x.l2]] w fun e w' => ∃ v, e = .returned v ∧ OwnI w' w.heap.size v (readsC x) ∧ Below w.heap.size w w' := by
  obtain ⟨_, hop, _, _, _, _, _, _, _, hA⟩ := hI
  obtain ⟨h0, h255⟩ := wfI_u8 hop
  obtain ⟨i0, hi, hz0, hz1, hz2⟩ := info_parts int_info
  have HS := Lib.hid fun w' (h : Below w.heap.size w w') => ints_src hA w' h.block
  have H1 := Lib.hid (ints_one .i64 x.args)
  have HG : Hid (readsC x = [x.b] ++ x.args) := by
    show _ = _
    unfold readsC
    rw [ha, hb, hx]
    rfl
  have HA := Lib.hid ha
  have HB := Lib.hid hb
  have HX := Lib.hid hx
  clear hA ha hb hx
  obtain ⟨cs, hcs⟩ : ∃ cs : List Value, cs = [.int .u8 x.op, .int .i64 x.d, .int .i64 x.a, .int .i64 x.b, .int .u32 x.n, .int .i64 x.f, .slice A x.args.length c, .int .i64 x.l1, .int .i64 x.l2] := ⟨_, rfl⟩
  have q2 : ∀ w', Bx w cs 70 w' → w'.cell? ⟨w.heap.size, 2, none⟩ = some (.int .i64 x.a) := fun w' h => h.cell (by rw [hcs]; rfl)
  have q3 : ∀ w', Bx w cs 70 w' → w'.cell? ⟨w.heap.size, 3, none⟩ = some (.int .i64 x.b) := fun w' h => h.cell (by rw [hcs]; rfl)
  have q6 : ∀ w', Bx w cs 70 w' → w'.cell? ⟨w.heap.size, 6, none⟩ = some (.slice A x.args.length c) := fun w' h => h.cell (by rw [hcs]; rfl)
  have hstart : Hid (Bx w cs 70 (w.alloc (.cells #[.int .u8 x.op, .int .i64 x.d, .int .i64 x.a, .int .i64 x.b, .int .u32 x.n, .int .i64 x.f, .slice A x.args.length c, .int .i64 x.l1, .int .i64 x.l2] 70))) := by
    have h := Bx.refl (w0 := w) (cs := cs) (T := 70)
    rw [hcs] at h
    rw [hcs]
    exact h
  clear hcs
  go_enter Tryz.func61, Tryz.ntmps61
  go_wp2_with fail
  refine (bx_Has x.op h0 h255 hstart.out).mono ?_
  rintro e w1 ⟨rfl, hx1⟩
  have hown1 : Hid (w1.ownsRow (w.heap.size + 1) 3 1 (.slice none 0 0) 0 []) := World.ownsRow_nil _ _ _ _
  have hlt1 := hx1.lt
  clear hstart
  go_wp2_with fail
  refine (bx_in97 x.op HA.out w1).mono ?_
  rintro e w' ⟨rfl, rfl⟩
  go_wp2_with fail
  refine (bx_in98 x.op HB.out w1).mono ?_
  rintro e w' ⟨rfl, rfl⟩
  go_wp2_with (at_builtin; refine list_more rfl (.tmp 17) (.tmp 20) _ rfl (w.heap.size + 1) 3 i0 _ 1 8 Tryz.underlying31 hi hz0 hz1 hz2 rfl (by decide) rfl (hown1.out.alloc _) rfl (src_one rfl) (by simp [Value.oneCell']) (by unfold maxLen; omega) (by omega) (by simp; omega) ?_)
  intro v2 w2 ho2 hg2 _
  have hx2 : Bx w cs 70 w2 := bx_grown (hx1.alloc _) (hown1.out.alloc _) hg2
  have hown2 := Lib.hid ho2
  have hlt2 := hx2.lt
  clear ho2 hg2
  go_wp2_with fail
  refine (bx_in120 x.op HX.out w2).mono ?_
  rintro e w' ⟨rfl, rfl⟩
  go_wp2_with (at_builtin; refine list_more rfl (.tmp 24) (.tmp 26) _ rfl (w.heap.size + 1) 3 i0 _ 1 8 Tryz.underlying31 hi hz0 hz1 hz2 rfl (by decide) rfl hown2.out rfl (HS.out _ hx2.below) H1.out (by unfold maxLen; omega) (by omega) (by omega) ?_)
  intro v3 w3 ho3 hg3 _
  have hx3 : Bx w cs 70 w3 := bx_grown hx2 hown2.out hg3
  have hown3 := Lib.hid ho3
  have hlt3 := hx3.lt
  clear ho3 hg3
  go_wp2_with fail
  go_ret
  refine ⟨_, rfl, ?_, hx3.below⟩
  rw [HG.out]
  exact OwnI.base (OwnI.of hown3.out (by first | (simp; done) | (simp; omega)) (by simp)) (by omega)

set_option maxRecDepth 100000 in
set_option maxHeartbeats 1000000 in
theorem ref_reads_100 (x : Ins) (w : World) (A : Option Addr) (c : Nat) (hI : InsCells w (fun k => k < w.heap.size) [.int .u8 x.op, .int .i64 x.d, .int .i64 x.a, .int .i64 x.b, .int .u32 x.n, .int .i64 x.f, .slice A x.args.length c, .int .i64 x.l1, .int .i64 x.l2] x A c) (_hl : x.args.length ≤ 2097152)
    (ha : (hasS x.op).contains 97 = true) (hb : (hasS x.op).contains 98 = false) (hx : (hasS x.op).contains 120 = false) :
    Calls Tryz.prog 61 #[.agg #[.int .u8 x.op, .int .i64 x.d, .int .i64 x.a, .int .i64 x.b, .int .u32 x.n, .int .i64 x.f, .slice A x.args.length c, .int .i64 x.l1, .int .i64 x.l2]] w fun e w' => ∃ v, e = .returned v ∧ OwnI w' w.heap.size v (readsC x) ∧ Below w.heap.size w w' := by
  obtain ⟨_, hop, _, _, _, _, _, _, _, hA⟩ := hI
  obtain ⟨h0, h255⟩ := wfI_u8 hop
  obtain ⟨i0, hi, hz0, hz1, hz2⟩ := info_parts int_info
  have HS := Lib.hid fun w' (h : Below w.heap.size w w') => ints_src hA w' h.block
  have H1 := Lib.hid (ints_one .i64 x.args)
  have HG : Hid (readsC x = [x.a]) := by
    show _ = _
    unfold readsC
    rw [ha, hb, hx]
    rfl
  have HA := Lib.hid ha
  have HB := Lib.hid hb
  have HX := Lib.hid hx
  clear hA ha hb hx
  obtain ⟨cs, hcs⟩ : ∃ cs : List Value, cs = [.int .u8 x.op, .int .i64 x.d, .int .i64 x.a, .int .i64 x.b, .int .u32 x.n, .int .i64 x.f, .slice A x.args.length c, .int .i64 x.l1, .int .i64 x.l2] := ⟨_, rfl⟩
  have q2 : ∀ w', Bx w cs 70 w' → w'.cell? ⟨w.heap.size, 2, none⟩ = some (.int .i64 x.a) := fun w' h => h.cell (by rw [hcs]; rfl)
  have q3 : ∀ w', Bx w cs 70 w' → w'.cell? ⟨w.heap.size, 3, none⟩ = some (.int .i64 x.b) := fun w' h => h.cell (by rw [hcs]; rfl)
  have q6 : ∀ w', Bx w cs 70 w' → w'.cell? ⟨w.heap.size, 6, none⟩ = some (.slice A x.args.length c) := fun w' h => h.cell (by rw [hcs]; rfl)
  have hstart : Hid (Bx w cs 70 (w.alloc (.cells #[.int .u8 x.op, .int .i64 x.d, .int .i64 x.a, .int .i64 x.b, .int .u32 x.n, .int .i64 x.f, .slice A x.args.length c, .int .i64 x.l1, .int .i64 x.l2] 70))) := by
    have h := Bx.refl (w0 := w) (cs := cs) (T := 70)
    rw [hcs] at h
    rw [hcs]
    exact h
  clear hcs
  go_enter Tryz.func61, Tryz.ntmps61
  go_wp2_with fail
  refine (bx_Has x.op h0 h255 hstart.out).mono ?_
  rintro e w1 ⟨rfl, hx1⟩
  have hown1 : Hid (w1.ownsRow (w.heap.size + 1) 3 1 (.slice none 0 0) 0 []) := World.ownsRow_nil _ _ _ _
  have hlt1 := hx1.lt
  clear hstart
  go_wp2_with fail
  refine (bx_in97 x.op HA.out w1).mono ?_
  rintro e w' ⟨rfl, rfl⟩
  go_wp2_with (at_builtin; refine list_more rfl (.tmp 10) (.tmp 13) _ rfl (w.heap.size + 1) 3 i0 _ 1 8 Tryz.underlying31 hi hz0 hz1 hz2 rfl (by decide) rfl (hown1.out.alloc _) rfl (src_one rfl) (by simp [Value.oneCell']) (by unfold maxLen; omega) (by omega) (by simp; omega) ?_)
  intro v2 w2 ho2 hg2 _
  have hx2 : Bx w cs 70 w2 := bx_grown (hx1.alloc _) (hown1.out.alloc _) hg2
  have hown2 := Lib.hid ho2
  have hlt2 := hx2.lt
  clear ho2 hg2
  go_wp2_with fail
  refine (bx_in98 x.op HB.out w2).mono ?_
  rintro e w' ⟨rfl, rfl⟩
  go_wp2_with fail
  refine (bx_in120 x.op HX.out w2).mono ?_
  rintro e w' ⟨rfl, rfl⟩
  go_wp2_with fail
  go_ret
  refine ⟨_, rfl, ?_, hx2.below⟩
  rw [HG.out]
  exact OwnI.base (OwnI.of hown2.out (by first | (simp; done) | (simp; omega)) (by simp)) (by omega)

set_option maxRecDepth 100000 in
set_option maxHeartbeats 1000000 in
theorem ref_reads_101 (x : Ins) (w : World) (A : Option Addr) (c : Nat) (hI : InsCells w (fun k => k < w.heap.size) [.int .u8 x.op, .int .i64 x.d, .int .i64 x.a, .int .i64 x.b, .int .u32 x.n, .int .i64 x.f, .slice A x.args.length c, .int .i64 x.l1, .int .i64 x.l2] x A c) (hl : x.args.length ≤ 2097152)
    (ha : (hasS x.op).contains 97 = true) (hb : (hasS x.op).contains 98 = false) (hx : (hasS x.op).contains 120 = true) :
    Calls Tryz.prog 61 #[.agg #[.int .u8 x.op, .int .i64 x.d, .int .i64 x.a, .int .i64 x.b, .int .u32 x.n, .int .i64 x.f, .slice A x.args.length c, .int .i64 x.l1, .int .i64 x.l2]] w fun e w' => ∃ v, e = .returned v ∧ OwnI w' w.heap.size v (readsC x) ∧ Below w.heap.size w w' := by
  obtain ⟨_, hop, _, _, _, _, _, _, _, hA⟩ := hI
  obtain ⟨h0, h255⟩ := wfI_u8 hop
  obtain ⟨i0, hi, hz0, hz1, hz2⟩ := info_parts int_info
  have HS := Lib.hid fun w' (h : Below w.heap.size w w') => ints_src hA w' h.block
  have H1 := Lib.hid (ints_one .i64 x.args)
  have HG : Hid (readsC x = [x.a] ++ x.args) := by
    show _ = _
    unfold readsC
    rw [ha, hb, hx]
    rfl
  have HA := Lib.hid ha
  have HB := Lib.hid hb
  have HX := Lib.hid hx
  clear hA ha hb hx
  obtain ⟨cs, hcs⟩ : ∃ cs : List Value, cs = [.int .u8 x.op, .int .i64 x.d, .int .i64 x.a, .int .i64 x.b, .int .u32 x.n, .int .i64 x.f, .slice A x.args.length c, .int .i64 x.l1, .int .i64 x.l2] := ⟨_, rfl⟩
  have q2 : ∀ w', Bx w cs 70 w' → w'.cell? ⟨w.heap.size, 2, none⟩ = some (.int .i64 x.a) := fun w' h => h.cell (by rw [hcs]; rfl)
  have q3 : ∀ w', Bx w cs 70 w' → w'.cell? ⟨w.heap.size, 3, none⟩ = some (.int .i64 x.b) := fun w' h => h.cell (by rw [hcs]; rfl)
  have q6 : ∀ w', Bx w cs 70 w' → w'.cell? ⟨w.heap.size, 6, none⟩ = some (.slice A x.args.length c) := fun w' h => h.cell (by rw [hcs]; rfl)
  have hstart : Hid (Bx w cs 70 (w.alloc (.cells #[.int .u8 x.op, .int .i64 x.d, .int .i64 x.a, .int .i64 x.b, .int .u32 x.n, .int .i64 x.f, .slice A x.args.length c, .int .i64 x.l1, .int .i64 x.l2] 70))) := by
    have h := Bx.refl (w0 := w) (cs := cs) (T := 70)
    rw [hcs] at h
    rw [hcs]
    exact h
  clear hcs
  go_enter Tryz.func61, Tryz.ntmps61
  go_wp2_with fail
  refine (bx_Has x.op h0 h255 hstart.out).mono ?_
  rintro e w1 ⟨rfl, hx1⟩
  have hown1 : Hid (w1.ownsRow (w.heap.size + 1) 3 1 (.slice none 0 0) 0 []) := World.ownsRow_nil _ _ _ _
  have hlt1 := hx1.lt
  clear hstart
  go_wp2_with fail
  refine (bx_in97 x.op HA.out w1).mono ?_
  rintro e w' ⟨rfl, rfl⟩
  go_wp2_with (at_builtin; refine list_more rfl (.tmp 10) (.tmp 13) _ rfl (w.heap.size + 1) 3 i0 _ 1 8 Tryz.underlying31 hi hz0 hz1 hz2 rfl (by decide) rfl (hown1.out.alloc _) rfl (src_one rfl) (by simp [Value.oneCell']) (by unfold maxLen; omega) (by omega) (by simp; omega) ?_)
  intro v2 w2 ho2 hg2 _
  have hx2 : Bx w cs 70 w2 := bx_grown (hx1.alloc _) (hown1.out.alloc _) hg2
  have hown2 := Lib.hid ho2
  have hlt2 := hx2.lt
  clear ho2 hg2
  go_wp2_with fail
  refine (bx_in98 x.op HB.out w2).mono ?_
  rintro e w' ⟨rfl, rfl⟩
  go_wp2_with fail
  refine (bx_in120 x.op HX.out w2).mono ?_
  rintro e w' ⟨rfl, rfl⟩
  go_wp2_with (at_builtin; refine list_more rfl (.tmp 24) (.tmp 26) _ rfl (w.heap.size + 1) 3 i0 _ 1 8 Tryz.underlying31 hi hz0 hz1 hz2 rfl (by decide) rfl hown2.out rfl (HS.out _ hx2.below) H1.out (by unfold maxLen; omega) (by omega) (by omega) ?_)
  intro v3 w3 ho3 hg3 _
  have hx3 : Bx w cs 70 w3 := bx_grown hx2 hown2.out hg3
  have hown3 := Lib.hid ho3
  have hlt3 := hx3.lt
  clear ho3 hg3
  go_wp2_with fail
  go_ret
  refine ⟨_, rfl, ?_, hx3.below⟩
  rw [HG.out]
  exact OwnI.base (OwnI.of hown3.out (by first | (simp; done) | (simp; omega)) (by simp)) (by omega)

set_option maxRecDepth 100000 in
set_option maxHeartbeats 1000000 in
theorem ref_reads_110 (x : Ins) (w : World) (A : Option Addr) (c : Nat) (hI : InsCells w (fun k => k < w.heap.size) [.int .u8 x.op, .int .i64 x.d, .int .i64 x.a, .int .i64 x.b, .int .u32 x.n, .int .i64 x.f, .slice A x.args.length c, .int .i64 x.l1, .int .i64 x.l2] x A c) (_hl : x.args.length ≤ 2097152)
    (ha : (hasS x.op).contains 97 = true) (hb : (hasS x.op).contains 98 = true) (hx : (hasS x.op).contains 120 = false) :
    Calls Tryz.prog 61 #[.agg #[.int .u8 x.op, .int .i64 x.d, .int .i64 x.a, .int .i64 x.b, .int .u32 x.n, .int .i64 x.f, .slice A x.args.length c, .int .i64 x.l1, .int .i64 x.l2]] w fun e w' => ∃ v, e = .returned v ∧ OwnI w' w.heap.size v (readsC x) ∧ Below w.heap.size w w' := by
  obtain ⟨_, hop, _, _, _, _, _, _, _, hA⟩ := hI
  obtain ⟨h0, h255⟩ := wfI_u8 hop
  obtain ⟨i0, hi, hz0, hz1, hz2⟩ := info_parts int_info
  have HS := Lib.hid fun w' (h : Below w.heap.size w w') => ints_src hA w' h.block
  have H1 := Lib.hid (ints_one .i64 x.args)
  have HG : Hid (readsC x = [x.a] ++ [x.b]) := by
    show _ = _
    unfold readsC
    rw [ha, hb, hx]
    rfl
  have HA := Lib.hid ha
  have HB := Lib.hid hb
  have HX := Lib.hid hx
  clear hA ha hb hx
  obtain ⟨cs, hcs⟩ : ∃ cs : List Value, cs = [.int .u8 x.op, .int .i64 x.d, .int .i64 x.a, .int .i64 x.b, .int .u32 x.n, .int .i64 x.f, .slice A x.args.length c, .int .i64 x.l1, .int .i64 x.l2] := ⟨_, rfl⟩
  have q2 : ∀ w', Bx w cs 70 w' → w'.cell? ⟨w.heap.size, 2, none⟩ = some (.int .i64 x.a) := fun w' h => h.cell (by rw [hcs]; rfl)
  have q3 : ∀ w', Bx w cs 70 w' → w'.cell? ⟨w.heap.size, 3, none⟩ = some (.int .i64 x.b) := fun w' h => h.cell (by rw [hcs]; rfl)
  have q6 : ∀ w', Bx w cs 70 w' → w'.cell? ⟨w.heap.size, 6, none⟩ = some (.slice A x.args.length c) := fun w' h => h.cell (by rw [hcs]; rfl)
  have hstart : Hid (Bx w cs 70 (w.alloc (.cells #[.int .u8 x.op, .int .i64 x.d, .int .i64 x.a, .int .i64 x.b, .int .u32 x.n, .int .i64 x.f, .slice A x.args.length c, .int .i64 x.l1, .int .i64 x.l2] 70))) := by
    have h := Bx.refl (w0 := w) (cs := cs) (T := 70)
    rw [hcs] at h
    rw [hcs]
    exact h
  clear hcs
  go_enter Tryz.func61, Tryz.ntmps61
  go_wp2_with fail
  refine (bx_Has x.op h0 h255 hstart.out).mono ?_
  rintro e w1 ⟨rfl, hx1⟩
  have hown1 : Hid (w1.ownsRow (w.heap.size + 1) 3 1 (.slice none 0 0) 0 []) := World.ownsRow_nil _ _ _ _
  have hlt1 := hx1.lt
  clear hstart
  go_wp2_with fail
  refine (bx_in97 x.op HA.out w1).mono ?_
  rintro e w' ⟨rfl, rfl⟩
  go_wp2_with (at_builtin; refine list_more rfl (.tmp 10) (.tmp 13) _ rfl (w.heap.size + 1) 3 i0 _ 1 8 Tryz.underlying31 hi hz0 hz1 hz2 rfl (by decide) rfl (hown1.out.alloc _) rfl (src_one rfl) (by simp [Value.oneCell']) (by unfold maxLen; omega) (by omega) (by simp; omega) ?_)
  intro v2 w2 ho2 hg2 _
  have hx2 : Bx w cs 70 w2 := bx_grown (hx1.alloc _) (hown1.out.alloc _) hg2
  have hown2 := Lib.hid ho2
  have hlt2 := hx2.lt
  clear ho2 hg2
  go_wp2_with fail
  refine (bx_in98 x.op HB.out w2).mono ?_
  rintro e w' ⟨rfl, rfl⟩
  go_wp2_with (at_builtin; refine list_more rfl (.tmp 17) (.tmp 20) _ rfl (w.heap.size + 1) 3 i0 _ 1 8 Tryz.underlying31 hi hz0 hz1 hz2 rfl (by decide) rfl (hown2.out.alloc _) rfl (src_one rfl) (by simp [Value.oneCell']) (by unfold maxLen; omega) (by omega) (by simp; omega) ?_)
  intro v3 w3 ho3 hg3 _
  have hx3 : Bx w cs 70 w3 := bx_grown (hx2.alloc _) (hown2.out.alloc _) hg3
  have hown3 := Lib.hid ho3
  have hlt3 := hx3.lt
  clear ho3 hg3
  go_wp2_with fail
  refine (bx_in120 x.op HX.out w3).mono ?_
  rintro e w' ⟨rfl, rfl⟩
  go_wp2_with fail
  go_ret
  refine ⟨_, rfl, ?_, hx3.below⟩
  rw [HG.out]
  exact OwnI.base (OwnI.of hown3.out (by first | (simp; done) | (simp; omega)) (by simp)) (by omega)

set_option maxRecDepth 100000 in
set_option maxHeartbeats 1000000 in
theorem ref_reads_111 (x : Ins) (w : World) (A : Option Addr) (c : Nat) (hI : InsCells w (fun k => k < w.heap.size) [.int .u8 x.op, .int .i64 x.d, .int .i64 x.a, .int .i64 x.b, .int .u32 x.n, .int .i64 x.f, .slice A x.args.length c, .int .i64 x.l1, .int .i64 x.l2] x A c) (hl : x.args.length ≤ 2097152)
    (ha : (hasS x.op).contains 97 = true) (hb : (hasS x.op).contains 98 = true) (hx : (hasS x.op).contains 120 = true) :
    Calls Tryz.prog 61 #[.agg #[.int .u8 x.op, .int .i64 x.d, .int .i64 x.a, .int .i64 x.b, .int .u32 x.n, .int .i64 x.f, .slice A x.args.length c, .int .i64 x.l1, .int .i64 x.l2]] w fun e w' => ∃ v, e = .returned v ∧ OwnI w' w.heap.size v (readsC x) ∧ Below w.heap.size w w' := by
  obtain ⟨_, hop, _, _, _, _, _, _, _, hA⟩ := hI
  obtain ⟨h0, h255⟩ := wfI_u8 hop
  obtain ⟨i0, hi, hz0, hz1, hz2⟩ := info_parts int_info
  have HS := Lib.hid fun w' (h : Below w.heap.size w w') => ints_src hA w' h.block
  have H1 := Lib.hid (ints_one .i64 x.args)
  have HG : Hid (readsC x = [x.a] ++ [x.b] ++ x.args) := by
    show _ = _
    unfold readsC
    rw [ha, hb, hx]
    rfl
  have HA := Lib.hid ha
  have HB := Lib.hid hb
  have HX := Lib.hid hx
  clear hA ha hb hx
  obtain ⟨cs, hcs⟩ : ∃ cs : List Value, cs = [.int .u8 x.op, .int .i64 x.d, .int .i64 x.a, .int .i64 x.b, .int .u32 x.n, .int .i64 x.f, .slice A x.args.length c, .int .i64 x.l1, .int .i64 x.l2] := ⟨_, rfl⟩
  have q2 : ∀ w', Bx w cs 70 w' → w'.cell? ⟨w.heap.size, 2, none⟩ = some (.int .i64 x.a) := fun w' h => h.cell (by rw [hcs]; rfl)
  have q3 : ∀ w', Bx w cs 70 w' → w'.cell? ⟨w.heap.size, 3, none⟩ = some (.int .i64 x.b) := fun w' h => h.cell (by rw [hcs]; rfl)
  have q6 : ∀ w', Bx w cs 70 w' → w'.cell? ⟨w.heap.size, 6, none⟩ = some (.slice A x.args.length c) := fun w' h => h.cell (by rw [hcs]; rfl)
  have hstart : Hid (Bx w cs 70 (w.alloc (.cells #[.int .u8 x.op, .int .i64 x.d, .int .i64 x.a, .int .i64 x.b, .int .u32 x.n, .int .i64 x.f, .slice A x.args.length c, .int .i64 x.l1, .int .i64 x.l2] 70))) := by
    have h := Bx.refl (w0 := w) (cs := cs) (T := 70)
    rw [hcs] at h
    rw [hcs]
    exact h
  clear hcs
  go_enter Tryz.func61, Tryz.ntmps61
  go_wp2_with fail
  refine (bx_Has x.op h0 h255 hstart.out).mono ?_
  rintro e w1 ⟨rfl, hx1⟩
  have hown1 : Hid (w1.ownsRow (w.heap.size + 1) 3 1 (.slice none 0 0) 0 []) := World.ownsRow_nil _ _ _ _
  have hlt1 := hx1.lt
  clear hstart
  go_wp2_with fail
  refine (bx_in97 x.op HA.out w1).mono ?_
  rintro e w' ⟨rfl, rfl⟩
  go_wp2_with (at_builtin; refine list_more rfl (.tmp 10) (.tmp 13) _ rfl (w.heap.size + 1) 3 i0 _ 1 8 Tryz.underlying31 hi hz0 hz1 hz2 rfl (by decide) rfl (hown1.out.alloc _) rfl (src_one rfl) (by simp [Value.oneCell']) (by unfold maxLen; omega) (by omega) (by simp; omega) ?_)
  intro v2 w2 ho2 hg2 _
  have hx2 : Bx w cs 70 w2 := bx_grown (hx1.alloc _) (hown1.out.alloc _) hg2
  have hown2 := Lib.hid ho2
  have hlt2 := hx2.lt
  clear ho2 hg2
  go_wp2_with fail
  refine (bx_in98 x.op HB.out w2).mono ?_
  rintro e w' ⟨rfl, rfl⟩
  go_wp2_with (at_builtin; refine list_more rfl (.tmp 17) (.tmp 20) _ rfl (w.heap.size + 1) 3 i0 _ 1 8 Tryz.underlying31 hi hz0 hz1 hz2 rfl (by decide) rfl (hown2.out.alloc _) rfl (src_one rfl) (by simp [Value.oneCell']) (by unfold maxLen; omega) (by omega) (by simp; omega) ?_)
  intro v3 w3 ho3 hg3 _
  have hx3 : Bx w cs 70 w3 := bx_grown (hx2.alloc _) (hown2.out.alloc _) hg3
  have hown3 := Lib.hid ho3
  have hlt3 := hx3.lt
  clear ho3 hg3
  go_wp2_with fail
  refine (bx_in120 x.op HX.out w3).mono ?_
  rintro e w' ⟨rfl, rfl⟩
  go_wp2_with (at_builtin; refine list_more rfl (.tmp 24) (.tmp 26) _ rfl (w.heap.size + 1) 3 i0 _ 1 8 Tryz.underlying31 hi hz0 hz1 hz2 rfl (by decide) rfl hown3.out rfl (HS.out _ hx3.below) H1.out (by unfold maxLen; omega) (by omega) (by omega) ?_)
  intro v4 w4 ho4 hg4 _
  have hx4 : Bx w cs 70 w4 := bx_grown hx3 hown3.out hg4
  have hown4 := Lib.hid ho4
  have hlt4 := hx4.lt
  clear ho4 hg4
  go_wp2_with fail
  go_ret
  refine ⟨_, rfl, ?_, hx4.below⟩
  rw [HG.out]
  exact OwnI.base (OwnI.of hown4.out (by first | (simp; done) | (simp; omega)) (by simp)) (by omega)

theorem ref_reads (x : Ins) (w : World) (cs : List Value) (hR : tIns.R w w.heap.size cs x) (hl : x.args.length ≤ 2097152) :
    Calls Tryz.prog 61 #[.agg cs.toArray] w fun e w' => ∃ v, e = .returned v ∧ OwnI w' w.heap.size v (readsC x) ∧ Below w.heap.size w w' := by
  obtain ⟨A, c, hI⟩ := tIns_R.1 hR
  have e := hI.cs
  subst e
  rcases ha : (hasS x.op).contains 97 with _ | _ <;> rcases hb : (hasS x.op).contains 98 with _ | _ <;> rcases hx : (hasS x.op).contains 120 with _ | _
  · exact ref_reads_000 x w A c hI hl ha hb hx
  · exact ref_reads_001 x w A c hI hl ha hb hx
  · exact ref_reads_010 x w A c hI hl ha hb hx
  · exact ref_reads_011 x w A c hI hl ha hb hx
  · exact ref_reads_100 x w A c hI hl ha hb hx
  · exact ref_reads_101 x w A c hI hl ha hb hx
  · exact ref_reads_110 x w A c hI hl ha hb hx
  · exact ref_reads_111 x w A c hI hl ha hb hx
end Mu
end
section
/-
  muntinref14.Writes; shape.Reads, shape.Writes, walked.
  Conditions: an instruction's arguments are at most 2^21.
-/
namespace Mu
open Go Go.RowKit Go.Proofs

/-- the register that is written, and whether one is -/
def writesV (x : Ins) : Value := if writesB x then .tuple #[.int .i64 x.d, .bool true] else .tuple #[.int .i64 0, .bool false]
theorem writesV_yes {x : Ins} (h : writesB x = true) : writesV x = .tuple #[.int .i64 x.d, .bool true] := by unfold writesV; rw [if_pos h]
theorem writesV_no {x : Ins} (h : writesB x = false) : writesV x = .tuple #[.int .i64 0, .bool false] := by unfold writesV; rw [if_neg (by simp [h])]

set_option maxHeartbeats 1000000 in
theorem ref_writes (x : Ins) (w : World) (cs : List Value) (hR : tIns.R w w.heap.size cs x) :
    Calls Tryz.prog 62 #[.agg cs.toArray] w fun e w' => e = .returned (writesV x) ∧ Below w.heap.size w w' := by
  obtain ⟨A, c, hI⟩ := tIns_R.1 hR
  obtain ⟨rfl, hop, _, _, _, _, _, _, _, _⟩ := hI
  obtain ⟨h0, h255⟩ := wfI_u8 hop
  obtain ⟨cs, hcs⟩ : ∃ cs : List Value, cs = [.int .u8 x.op, .int .i64 x.d, .int .i64 x.a, .int .i64 x.b, .int .u32 x.n, .int .i64 x.f, .slice A x.args.length c, .int .i64 x.l1, .int .i64 x.l2] := ⟨_, rfl⟩
  have q1 : ∀ w', Bx w cs 70 w' → w'.cell? ⟨w.heap.size, 1, none⟩ = some (.int .i64 x.d) := fun w' h => h.cell (by rw [hcs]; rfl)
  have hstart : Hid (Bx w cs 70 (w.alloc (.cells #[.int .u8 x.op, .int .i64 x.d, .int .i64 x.a, .int .i64 x.b, .int .u32 x.n, .int .i64 x.f, .slice A x.args.length c, .int .i64 x.l1, .int .i64 x.l2] 70))) := by
    have h := Bx.refl (w0 := w) (cs := cs) (T := 70)
    rw [hcs] at h
    rw [hcs]
    exact h
  clear hcs hR
  rcases hq : writesB x with _ | _
  · have HQ := Lib.hid hq
    clear hq
    go_enter Tryz.func62, Tryz.ntmps62
    go_wp2_with fail
    refine (bx_Has x.op h0 h255 hstart.out).mono ?_
    rintro e w1 ⟨rfl, hx1⟩
    go_wp2_with fail
    refine (bx_in100 x.op HQ.out w1).mono ?_
    rintro e w' ⟨rfl, rfl⟩
    go_wp2_with fail
    go_ret2
    exact ⟨by rw [writesV_no HQ.out]; rfl, hx1.below⟩
  · have HQ := Lib.hid hq
    clear hq
    go_enter Tryz.func62, Tryz.ntmps62
    go_wp2_with fail
    refine (bx_Has x.op h0 h255 hstart.out).mono ?_
    rintro e w1 ⟨rfl, hx1⟩
    go_wp2_with fail
    refine (bx_in100 x.op HQ.out w1).mono ?_
    rintro e w' ⟨rfl, rfl⟩
    go_wp2_with fail
    go_ret2
    exact ⟨by rw [writesV_yes HQ.out]; rfl, hx1.below⟩

set_option maxHeartbeats 2000000 in
theorem shape_writes (x : Ins) (w : World) (cs : List Value) (hR : tIns.R w w.heap.size cs x) :
    Calls Tryz.prog 63 #[.agg cs.toArray] w fun e w' => e = .returned (writesV x) ∧ Below w.heap.size w w' := by
  obtain ⟨A, c, hI⟩ := tIns_R.1 hR
  obtain ⟨rfl, hop, _, _, _, _, _, _, _, _⟩ := hI
  obtain ⟨h0, h255⟩ := wfI_u8 hop
  clear hR
  have hc : (x.op = 0 ∨ x.op = 1 ∨ x.op = 2 ∨ x.op = 3 ∨ x.op = 5) ∨ (x.op ≠ 0 ∧ x.op ≠ 1 ∧ x.op ≠ 2 ∧ x.op ≠ 3 ∧ x.op ≠ 5) := by omega
  rcases hc with hc | ⟨n0, n1, n2, n3, n5⟩
  · have HQ : Hid (writesB x = true) := by
      show _ = _
      unfold writesB hasS
      rcases hc with h | h | h | h | h <;> rw [h] <;> decide
    rcases hc with h | h | h | h | h
    all_goals
      rw [h]
      go_enter Tryz.func63, Tryz.ntmps63
      go_wp2_with fail
      go_ret2
      exact ⟨by rw [writesV_yes HQ.out]; rfl, (Below.refl _ _).alloc (Nat.le_refl _) _⟩
  · have HQ : Hid (writesB x = false) := by
      show _ = _
      unfold writesB hasS
      rw [if_neg n0, if_neg n1, if_neg n2, if_neg n3]
      by_cases h4 : x.op = 4
      · rw [h4]; decide
      · rw [if_neg h4, if_neg n5]
        repeat' split
        all_goals decide
    have e0 : (x.op == 0) = false := beq_eq_false_iff_ne.2 n0
    have e1 : (x.op == 1) = false := beq_eq_false_iff_ne.2 n1
    have e2 : (x.op == 2) = false := beq_eq_false_iff_ne.2 n2
    have e3 : (x.op == 3) = false := beq_eq_false_iff_ne.2 n3
    have e5 : (x.op == 5) = false := beq_eq_false_iff_ne.2 n5
    clear n0 n1 n2 n3 n5
    go_enter Tryz.func63, Tryz.ntmps63
    go_wp2_with fail
    go_ret2
    exact ⟨by rw [writesV_no HQ.out]; rfl, (Below.refl _ _).alloc (Nat.le_refl _) _⟩

theorem one_row (w : World) (o : Obj) (a : Value) : ((w.alloc o).alloc (.cells #[a] 3)).ownsRow (w.heap.size + 1) 3 1 (.slice (some ⟨w.heap.size + 1, 0, none⟩) 1 1) 1 [a] := by
  have h := heap_alloc_new (w.alloc o) (.cells #[a] 3)
  rw [show (w.alloc o).heap.size = w.heap.size + 1 from by simp] at h
  exact row_lit (cs := [a]) h (Nat.le_refl _) rfl one_max
theorem two_rows (w : World) (o : Obj) (a b : Value) : (((w.alloc o).alloc (.cells #[b] 3)).alloc (.cells #[a] 3)).ownsRow (w.heap.size + 1) 3 1 (.slice (some ⟨w.heap.size + 1 + 1, 0, none⟩) 1 1) 1 [a] ∧
    Src (((w.alloc o).alloc (.cells #[b] 3)).alloc (.cells #[a] 3)) 1 (some ⟨w.heap.size + 1, 0, none⟩) 1 [b] := by
  have h := heap_alloc_new ((w.alloc o).alloc (.cells #[b] 3)) (.cells #[a] 3)
  rw [show ((w.alloc o).alloc (.cells #[b] 3)).heap.size = w.heap.size + 1 + 1 from by simp] at h
  have h2 := heap_alloc_new (w.alloc o) (.cells #[b] 3)
  rw [show (w.alloc o).heap.size = w.heap.size + 1 from by simp] at h2
  exact ⟨row_lit (cs := [a]) h (by omega) rfl one_max, src_row (cs := #[b]) (box_alloc h2 _) rfl⟩

set_option maxRecDepth 100000 in
set_option maxHeartbeats 2000000 in
theorem shape_reads (x : Ins) (w : World) (cs : List Value) (hR : tIns.R w w.heap.size cs x) (hl : x.args.length ≤ 2097152) :
    Calls Tryz.prog 141 #[.agg cs.toArray] w fun e w' => ∃ v, e = .returned v ∧ OwnI w' w.heap.size v (readsC x) ∧ Below w.heap.size w w' := by
  obtain ⟨A, c, hI⟩ := tIns_R.1 hR
  obtain ⟨rfl, hop, _, _, _, _, _, _, _, hA⟩ := hI
  obtain ⟨h0, h255⟩ := wfI_u8 hop
  obtain ⟨i0, hi, hz0, hz1, hz2⟩ := info_parts int_info
  have hb0 : Hid (Below w.heap.size w (w.alloc (.cells #[.int .u8 x.op, .int .i64 x.d, .int .i64 x.a, .int .i64 x.b, .int .u32 x.n, .int .i64 x.f, .slice A x.args.length c, .int .i64 x.l1, .int .i64 x.l2] 70))) := (Below.refl _ _).alloc (Nat.le_refl _) _
  have HA : Hid (tInt.slice.R (w.alloc (.cells #[.int .u8 x.op, .int .i64 x.d, .int .i64 x.a, .int .i64 x.b, .int .u32 x.n, .int .i64 x.f, .slice A x.args.length c, .int .i64 x.l1, .int .i64 x.l2] 70)) (w.alloc (.cells #[.int .u8 x.op, .int .i64 x.d, .int .i64 x.a, .int .i64 x.b, .int .u32 x.n, .int .i64 x.f, .slice A x.args.length c, .int .i64 x.l1, .int .i64 x.l2] 70)).heap.size [.slice A x.args.length c] x.args) := Ty.below hA hb0.out hb0.out.size
  clear hR hA
  have hc : (x.op = 1 ∨ x.op = 4) ∨ (x.op = 2 ∨ x.op = 3 ∨ x.op = 6 ∨ x.op = 9 ∨ x.op = 10) ∨ x.op = 5 ∨ (x.op = 0 ∨ x.op = 7 ∨ x.op = 8) ∨ 11 ≤ x.op := by omega
  rcases hc with hc | hc | hc | hc | hc
  · have HQ : Hid (readsC x = [x.a, x.b]) := by
      show _ = _
      unfold readsC hasS
      rcases hc with h | h <;> rw [h] <;> rfl
    rcases hc with h | h
    all_goals
      rw [h] at hb0 HA ⊢
      go_enter Tryz.func141, Tryz.ntmps141
      go_wp2_with (at_builtin; refine list_more rfl (.tmp 22) (.tmp 23) _ rfl (w.heap.size + 1) 3 i0 _ 1 8 Tryz.underlying31 hi hz0 hz1 hz2 rfl (by decide) rfl (two_rows _ _ _ _).1 rfl (two_rows _ _ _ _).2 (by simp [Value.oneCell']) (by unfold maxLen; omega) (by omega) (by simp) ?_)
      intro v2 w2 ho2 hg2 _
      have hbn : Hid (Below w.heap.size w w2) := ((hb0.out.alloc (by simp) _).alloc (by simp; omega) _).grown hg2 (by simp; omega) (fun q hq => by simp [Value.ownBlock] at hq; omega)
      have HO := Lib.hid ho2
      clear ho2 hg2
      go_wp2_with fail
      go_ret
      exact ⟨_, rfl, by rw [HQ.out]; exact OwnI.base (OwnI.of HO.out rfl rfl) (by omega), hbn.out⟩
  · have HQ : Hid (readsC x = [x.a]) := by
      show _ = _
      unfold readsC hasS
      rcases hc with h | h | h | h | h <;> rw [h] <;> rfl
    rcases hc with h | h | h | h | h
    all_goals
      rw [h] at hb0 HA ⊢
      go_enter Tryz.func141, Tryz.ntmps141
      have hbn : Hid (Below w.heap.size w _) := hb0.out.alloc (by simp) (.cells #[.int .i64 x.a] 3)
      go_wp2_with fail
      go_ret
      exact ⟨_, rfl, by rw [HQ.out]; exact OwnI.base (OwnI.of (one_row _ _ _) rfl rfl) (by omega), hbn.out⟩
  · have HQ : Hid (readsC x = x.args) := by
      show _ = _
      unfold readsC hasS
      rw [hc]
      rfl
    rw [hc] at hb0 HA ⊢
    go_enter Tryz.func141, Tryz.ntmps141
    go_wp2_with fail
    refine (clone_any HA.out (by omega)).mono ?_
    rintro e w1 ⟨v, rfl, ho, hb⟩
    have HO := Lib.hid ho
    have HB := Lib.hid hb
    clear ho hb
    go_wp2_with fail
    go_ret
    exact ⟨_, rfl, by rw [HQ.out]; exact HO.out.base (by simp), hb0.out.trans (HB.out.mono hb0.out.size)⟩
  · have HQ : Hid (readsC x = []) := by
      show _ = _
      unfold readsC hasS
      rcases hc with h | h | h <;> rw [h] <;> rfl
    rcases hc with h | h | h
    all_goals
      rw [h] at hb0 HA ⊢
      go_enter Tryz.func141, Tryz.ntmps141
      go_wp2_with fail
      go_ret
      exact ⟨_, rfl, by rw [HQ.out]; exact OwnI.nil _ _, hb0.out⟩
  · have HQ : Hid (readsC x = []) := by
      show _ = _
      have e : hasS x.op = [] := by
        unfold hasS
        repeat rw [if_neg (by omega)]
      unfold readsC
      rw [e]
      rfl
    have e1 : (x.op == 1) = false := beq_eq_false_iff_ne.2 (by omega)
    have e2 : (x.op == 2) = false := beq_eq_false_iff_ne.2 (by omega)
    have e3 : (x.op == 3) = false := beq_eq_false_iff_ne.2 (by omega)
    have e4 : (x.op == 4) = false := beq_eq_false_iff_ne.2 (by omega)
    have e5 : (x.op == 5) = false := beq_eq_false_iff_ne.2 (by omega)
    have e6 : (x.op == 6) = false := beq_eq_false_iff_ne.2 (by omega)
    have e9 : (x.op == 9) = false := beq_eq_false_iff_ne.2 (by omega)
    have e10 : (x.op == 10) = false := beq_eq_false_iff_ne.2 (by omega)
    go_enter Tryz.func141, Tryz.ntmps141
    go_wp2_with fail
    go_ret
    exact ⟨_, rfl, by rw [HQ.out]; exact OwnI.nil _ _, hb0.out⟩
end Mu
end
section
/-
  muntinref14.SameInts, and the searches of a row for a number, walked.
  Conditions: the rows have at most 2^21 numbers.
-/
namespace Mu
open Go Go.RowKit Go.Proofs

theorem same_no {xs ys : List Int} {j : Nat} {x y : Int} (hx : xs[j]? = some x) (hy : ys[j]? = some y) (h : x ≠ y) : false = decide (xs = ys) := by
  symm
  rw [decide_eq_false_iff_not]
  rintro rfl
  rw [hx] at hy
  injection hy with hy
  exact h hy
theorem same_step {xs ys : List Int} {j : Nat} {x y : Int} (hx : xs[j]? = some x) (hy : ys[j]? = some y) (h : x = y) (hs : xs.take j = ys.take j) : Hid (xs.take (j + 1) = ys.take (j + 1)) := by
  show _ = _
  rw [List.take_add_one, List.take_add_one, hx, hy, h, hs]
theorem far {B : Nat} {w wr : World} (h : Below B w wr) : ∀ a : Addr, a.block < B → wr.cell? a = w.cell? a := fun _ ha => h.cell ha

set_option maxRecDepth 100000 in
set_option maxHeartbeats 1000000 in
theorem ref_same (xs ys : List Int) (va vb : Value) (w : World) (hA : tInt.slice.R w w.heap.size [va] xs) (hB : tInt.slice.R w w.heap.size [vb] ys) (hx : xs.length ≤ 2097152) :
    Calls Tryz.prog 13 #[va, vb] w fun e w' => e = .returned (.bool (decide (xs = ys))) ∧ Below w.heap.size w w' := by
  obtain ⟨A, c, rfl⟩ := slice_form hA
  obtain ⟨A', c', rfl⟩ := slice_form hB
  have HA := Lib.hid hA
  have HB := Lib.hid hB
  clear hA hB
  by_cases hl : xs.length = ys.length
  · have dl : ((xs.length : Int) != (ys.length : Int)) = false := by simp [hl]
    have HL := Lib.hid hl
    clear hl
    go_enter Tryz.func13, Tryz.ntmps13
    go_wp2
    go_loopw [5] (fun i wr => ∃ j : Nat, j ≤ xs.length ∧ i = .int .i64 j ∧ Hid (xs.take j = ys.take j) ∧ Below w.heap.size w wr) (fun i _ => xs.length - (RowKit.intOf i).toNat)
    case atStart => exact ⟨0, Nat.zero_le _, rfl, rfl, Below.refl _ _⟩
    case round =>
      obtain ⟨j, hj, rfl, hs, hbe⟩ := hrel
      have HBE := Lib.hid hbe
      have hfar := far hbe
      clear hbe
      by_cases hlt : j < xs.length
      · obtain ⟨x, hx1⟩ : ∃ x, xs[j]? = some x := ⟨_, List.getElem?_eq_getElem hlt⟩
        obtain ⟨y, hy1⟩ : ∃ y, ys[j]? = some y := ⟨_, List.getElem?_eq_getElem (by have := HL.out; omega)⟩
        obtain ⟨b1, o1, rfl, hb1, e1, _⟩ := int_at HA.out hx1
        obtain ⟨b2, o2, rfl, hb2, e2, _⟩ := int_at HB.out hy1
        have hlt2 : j < ys.length := by have := HL.out; omega
        have HX := Lib.hid hx1
        have HY := Lib.hid hy1
        clear hx1 hy1
        by_cases hxy : x = y
        · have d : (x != y) = false := by simp [hxy]
          have HXY := Lib.hid hxy
          clear hxy
          go_wp2
          go_quiet (fail)
          go_wp2
          go_roundw
          case rel => exact ⟨j + 1, by omega, by go_num, same_step HX.out HY.out HXY.out hs.out, bdrew HBE.out _⟩
          case measure => simp [RowKit.intOf]; omega
        · have d : (x != y) = true := by simp [hxy]
          have HXY := Lib.hid hxy
          clear hxy
          go_wp2
          go_quiet (fail)
          go_wp2
          go_ret
          exact ⟨ret_bool (same_no HX.out HY.out HXY.out), bdrew HBE.out _⟩
      · obtain rfl : j = xs.length := by omega
        go_wp2
        go_ret
        have hs' := hs.out
        rw [List.take_length, HL.out, List.take_length] at hs'
        exact ⟨ret_bool (by simp [hs']), HBE.out⟩
  · have dl : ((xs.length : Int) != (ys.length : Int)) = true := by simp; omega
    have HL := Lib.hid hl
    clear hl
    go_enter Tryz.func13, Tryz.ntmps13
    go_wp2
    go_ret
    exact ⟨ret_bool (by symm; rw [decide_eq_false_iff_not]; rintro rfl; exact HL.out rfl), Below.refl _ _⟩

theorem in_step {xs : List Int} {j : Nat} {x n : Int} (hx : xs[j]? = some x) (h : ¬ x = n) (hs : (xs.take j).contains n = false) : Hid ((xs.take (j + 1)).contains n = false) := by
  show _ = _
  rw [List.contains_eq_any_beq] at hs ⊢
  rw [List.take_add_one, hx, List.any_append, hs]
  simpa using fun e => h e.symm
theorem in_yes {xs : List Int} {j : Nat} {x n : Int} (hx : xs[j]? = some x) (h : x = n) : true = xs.contains n := by
  subst h
  simpa using (List.mem_of_getElem? hx)

set_option maxRecDepth 100000 in
set_option maxHeartbeats 1000000 in
theorem ref17_in (xs : List Int) (n : Int) (va : Value) (w : World) (hA : tInt.slice.R w w.heap.size [va] xs) (hx : xs.length ≤ 2097152) :
    Calls Tryz.prog 85 #[va, .int .i64 n] w fun e w' => e = .returned (.bool (xs.contains n)) ∧ Below w.heap.size w w' := by
  obtain ⟨A, c, rfl⟩ := slice_form hA
  have HA := Lib.hid hA
  clear hA
  go_enter Tryz.func85, Tryz.ntmps85
  go_wp2
  go_loopw [5] (fun i wr => ∃ j : Nat, j ≤ xs.length ∧ i = .int .i64 j ∧ Hid ((xs.take j).contains n = false) ∧ Below w.heap.size w wr) (fun i _ => xs.length - (RowKit.intOf i).toNat)
  case atStart => exact ⟨0, Nat.zero_le _, rfl, rfl, Below.refl _ _⟩
  case round =>
    obtain ⟨j, hj, rfl, hs, hbe⟩ := hrel
    have HBE := Lib.hid hbe
    have hfar := far hbe
    clear hbe
    by_cases hlt : j < xs.length
    · obtain ⟨x, hx1⟩ : ∃ x, xs[j]? = some x := ⟨_, List.getElem?_eq_getElem hlt⟩
      obtain ⟨b1, o1, rfl, hb1, e1, _⟩ := int_at HA.out hx1
      have HX := Lib.hid hx1
      clear hx1
      by_cases hxy : x = n
      · have d : (x == n) = true := by simp [hxy]
        have HXY := Lib.hid hxy
        clear hxy
        go_wp2
        go_ret
        exact ⟨ret_bool (in_yes HX.out HXY.out), HBE.out⟩
      · have d : (x == n) = false := by simp [hxy]
        have HXY := Lib.hid hxy
        clear hxy
        go_wp2
        go_roundw
        case rel => exact ⟨j + 1, by omega, by go_num, in_step HX.out HXY.out hs.out, HBE.out⟩
        case measure => simp [RowKit.intOf]; omega
    · obtain rfl : j = xs.length := by omega
      go_wp2
      go_ret
      have hs' := hs.out
      rw [List.take_length] at hs'
      exact ⟨ret_bool hs'.symm, HBE.out⟩
end Mu
end
section
/-
  Where one goes from a block: plain.
  Conditions: none.
-/
namespace Mu
open Go

/-- a block's number -/
abbrev Blk (f : Func) := { k : Nat // k < f.blocks.length }
def toBlk (f : Func) (k : Int) : Option (Blk f) := if h : 0 ≤ k ∧ k < f.blocks.length then some ⟨k.toNat, by omega⟩ else none
def filtB (f : Func) (l : List Int) : List (Blk f) := l.filterMap (toBlk f)
/-- the ways behind an instruction, whether they are there or not -/
def rawWays (x : Ins) : List Int := if x.op = 9 then [x.l1, if x.l2 = x.l1 then -1 else x.l2] else if x.op = 8 then [x.l1, -1] else []
def nextB (f : Func) (b : Block) : List (Blk f) :=
  match b.ins.getLast? with
  | none => []
  | some x => filtB f (rawWays x)
def nextS (f : Func) (b : Int) : List (Blk f) :=
  if 0 ≤ b then
    match f.blocks[b.toNat]? with
    | none => []
    | some bl => nextB f bl
  else []
theorem toBlk_yes {f : Func} {m : Nat} (h : m < f.blocks.length) : toBlk f (m : Int) = some ⟨m, h⟩ := by
  unfold toBlk
  rw [dif_pos ⟨by omega, by omega⟩]
  simp
theorem toBlk_no {f : Func} {k : Int} (h : ¬ (0 ≤ k ∧ k < f.blocks.length)) : toBlk f k = none := by
  unfold toBlk
  rw [dif_neg h]
theorem rawWays_len (x : Ins) : (rawWays x).length ≤ 2 := by
  unfold rawWays
  repeat' split
  all_goals simp
theorem filtB_len (f : Func) (l : List Int) : (filtB f l).length ≤ l.length := List.length_filterMap_le _ _
theorem nextB_len (f : Func) (b : Block) : (nextB f b).length ≤ 2 := by
  unfold nextB
  split
  · simp
  · exact Nat.le_trans (filtB_len _ _) (rawWays_len _)
theorem nextS_len (f : Func) (b : Int) : (nextS f b).length ≤ 2 := by
  unfold nextS
  repeat' split
  · simp
  · exact nextB_len _ _
  · simp
end Mu
end
section
/-
  flow.goes, the iterator over where one goes from a block: its contract.
  Conditions: the function's blocks lie where the rounds leave them as they are.
-/
namespace Mu
open Go Go.RowKit Go.Proofs Go.Shelf
attribute [local go_sem] Oper.semAt_some

/-- some blocks lie as they lay -/
structure KS (S : Nat → Prop) (W W' : World) : Prop where
  size : W.heap.size ≤ W'.heap.size
  block : ∀ k, S k → W'.heap[k]? = W.heap[k]?
theorem KS.refl {S : Nat → Prop} {W : World} : KS S W W := ⟨Nat.le_refl _, fun _ _ => rfl⟩
theorem KS.trans {S : Nat → Prop} {A B C : World} (h : KS S A B) (k : KS S B C) : KS S A C := ⟨Nat.le_trans h.size k.size, fun i hi => (k.block i hi).trans (h.block i hi)⟩
theorem KS.cell {S : Nat → Prop} {W W' : World} (h : KS S W W') {a : Addr} {v : Value} (ha : S a.block) (hc : W.cell? a = some v) : W'.cell? a = some v := (World.cell?_of_block (h.block a.block ha)).trans hc
theorem KS.alloc {S : Nat → Prop} {W W' : World} (h : KS S W W') (hS : ∀ k, S k → k < W'.heap.size) (o : Obj) : KS S W (W'.alloc o) := ⟨by have := h.size; simp; omega, fun k hk => (Below.heap_alloc _ _ _ (hS k hk)).trans (h.block k hk)⟩

/-- what the iterator reads: the function's box, the number's box, the block -/
structure GoesAt (W : World) (S : Nat → Prop) (f : Func) (bi : Int) (Bf Bb : Nat) : Prop where
  fS : S Bf
  f3 : ∃ A c, W.cell? ⟨Bf, 3, none⟩ = some (.slice A f.blocks.length c) ∧ tBlock.slice.RS W S [.slice A f.blocks.length c] f.blocks
  bS : S Bb
  b0 : W.cell? ⟨Bb, 0, none⟩ = some (.int .i64 bi)
  len : f.blocks.length ≤ 2097152
  ins : ∀ b ∈ f.blocks, b.ins.length ≤ 2097152

theorem abides_alloc {β : Type} {B : Nat} {J : List β → World → Prop} (hJ : AbidesFrom B J) {s : List β} {A : World} (h : J s A) (o : Obj) : J s (A.alloc o) := hJ s A _ none h (World.grownBy_alloc _ _ _) (fun r e => by cases e)
/-- how the iterator ends -/
def GPost {f : Func} (xs : List (Blk f)) (J Jx : List (Blk f) → World → Prop) (W' : World) : Prop := (∃ ys, ys = xs ∧ J ys W') ∨ (∃ pre, pre <+: xs ∧ Jx pre W')
theorem filtB_append (f : Func) (l m : List Int) : filtB f (l ++ m) = filtB f l ++ filtB f m := List.filterMap_append
theorem filtB_one_yes {f : Func} {m : Nat} (h : m < f.blocks.length) {a : Int} (e : a = m) : filtB f [a] = [⟨m, h⟩] := by
  unfold filtB
  rw [e, List.filterMap_cons, toBlk_yes h]
  rfl
theorem filtB_one_no {f : Func} {a : Int} (h : ¬ (0 ≤ a ∧ a < f.blocks.length)) : filtB f [a] = [] := by
  unfold filtB
  rw [List.filterMap_cons, toBlk_no h]
  rfl
set_option maxRecDepth 100000 in
set_option maxHeartbeats 4000000 in
theorem goes1_in (F : Fence) (n : Nat) (h89 : F.fn 201) (hro : F.round = none) (hn : 1 ≤ n) (l : Nat) (f : Func) (bi : Int) (Bf Bb : Nat) (S : Nat → Prop) (J Jx : List (Blk f) → World → Prop) (W : World)
    (hJ : AbidesFrom W.heap.size J) (hS : ∀ k, S k → k < W.heap.size)
    (hY : ∀ pre x W, J pre W → pre.length < 2 → YieldAt F (n - 1) Tryz.prog l #[.int .i64 ((x : Blk f).1 : Int)] W fun e W' =>
      (e = .returned (.bool true) ∧ J (pre ++ [x]) W' ∧ KS S W W') ∨ (e = .returned (.bool false) ∧ Jx (pre ++ [x]) W'))
    (hG : GoesAt W S f bi Bf Bb) (h0 : J [] W) :
    CallsIn F n Tryz.prog 201 #[.func (.yield l) #[] #[], .pointer (some ⟨Bb, 0, none⟩), .pointer (some ⟨Bf, 0, none⟩)] W fun e W' => (∃ v, e = .returned v) ∧ GPost (nextS f bi) J Jx W' := by
  obtain ⟨hfS, ⟨A, c, hf3, hBR⟩, hbS, hb0, hlen, hins⟩ := hG
  have HBR := Lib.hid hBR
  have HINS := Lib.hid hins
  have HY := Lib.hid hY
  have H0 := Lib.hid h0
  clear hBR hins hY h0
  by_cases h0 : bi < 0
  · have d0 : decide (bi < 0) = true := decide_eq_true h0
    have hnx : Hid (nextS f bi = []) := by
      show _ = _
      unfold nextS
      rw [if_neg (by omega)]
    refine callsIn_of_wp Tryz.func201 rfl h89 ?_ hro
    simp only [Tryz.ntmps201, List.size_toArray, List.length_cons, List.length_nil, Nat.reduceAdd, Nat.reduceSub, Array.replicate_succ, Array.replicate_zero, List.push_toArray, List.append_toArray, List.nil_append, List.cons_append]
    gi_wp2
    refine bodyPost_ret (results_none rfl _ _ _) rfl ?_
    exact ⟨⟨_, rfl⟩, .inl ⟨_, hnx.out.symm, H0.out⟩⟩
  · have d0 : decide (bi < 0) = false := decide_eq_false h0
    obtain ⟨q, rfl⟩ := Int.eq_ofNat_of_zero_le (show 0 ≤ bi by omega)
    by_cases h1 : q < f.blocks.length
    · have d1 : decide ((f.blocks.length : Int) ≤ (q : Int)) = false := decide_eq_false (by omega)
      obtain ⟨bl, hbk⟩ : ∃ bl, f.blocks[q]? = some bl := ⟨_, List.getElem?_eq_getElem h1⟩
      obtain ⟨bb, bo, Ai, ci, rfl, hbb, hc0, hc1, hnm, hIR⟩ := block_at HBR.out hbk
      have hnb : Hid (nextS f (q : Int) = nextB f bl) := by
        show _ = _
        unfold nextS
        rw [if_pos (by omega), show ((q : Int)).toNat = q from by omega, hbk]
      have hil : bl.ins.length ≤ 2097152 := HINS.out bl (List.mem_of_getElem? hbk)
      have HIR := Lib.hid hIR
      have HBK := Lib.hid hbk
      clear hIR hbk hc0
      by_cases h2 : bl.ins = []
      · have hz : bl.ins.length = 0 := by rw [h2]; rfl
        rw [hz] at hc1
        have hnx : Hid (nextS f (q : Int) = []) := by
          show _ = _
          rw [hnb.out]
          unfold nextB
          rw [h2]
          rfl
        clear h2
        refine callsIn_of_wp Tryz.func201 rfl h89 ?_ hro
        simp only [Tryz.ntmps201, List.size_toArray, List.length_cons, List.length_nil, Nat.reduceAdd, Nat.reduceSub, Array.replicate_succ, Array.replicate_zero, List.push_toArray, List.append_toArray, List.nil_append, List.cons_append]
        gi_wp2
        refine bodyPost_ret (results_none rfl _ _ _) rfl ?_
        exact ⟨⟨_, rfl⟩, .inl ⟨_, hnx.out.symm, H0.out⟩⟩
      · obtain ⟨li, hli⟩ : ∃ li, bl.ins.length = li + 1 := ⟨bl.ins.length - 1, by have := List.length_pos_iff.2 h2; omega⟩
        obtain ⟨x, hxk⟩ : ∃ x, bl.ins[li]? = some x := ⟨_, List.getElem?_eq_getElem (by omega)⟩
        obtain ⟨ib, io, Aa, ca, rfl, hib, hat⟩ := ins_at HIR.out hxk
        have hnx : Hid (nextS f (q : Int) = filtB f (rawWays x)) := by
          show _ = _
          rw [hnb.out]
          unfold nextB
          rw [List.getLast?_eq_getElem?, show bl.ins.length - 1 = li from by omega, hxk]
        have e0 := hat.c0
        have e1 := hat.c1
        have e2 := hat.c2
        have e3 := hat.c3
        have e4 := hat.c4
        have e5 := hat.c5
        have e6 := hat.c6
        have e7 := hat.c7
        have e8 := hat.c8
        rw [hli] at hc1
        have dz : ((li : Int) + 1 == 0) = false := beq_eq_false_iff_ne.2 (by omega)
        have hll : li ≤ 2097152 := by omega
        clear hat h2 hli hxk hil
        have hcs : (x.op = 9 ∧ x.l2 ≠ x.l1) ∨ (x.op = 9 ∧ x.l2 = x.l1) ∨ x.op = 8 ∨ (x.op ≠ 9 ∧ x.op ≠ 8) := by omega
        rcases hcs with ⟨h9, hne⟩ | ⟨h9, heq⟩ | h8 | ⟨n9, n8⟩
        · have k9 : (x.op == 9) = true := beq_iff_eq.2 h9
          have k9' : (x.op != 9) = false := by rw [h9]; rfl
          have kn : (x.l2 != x.l1) = true := by rw [bne_iff_ne]; exact hne
          have hws : Hid (rawWays x = [x.l1, x.l2]) := by
            show _ = _
            unfold rawWays
            rw [if_pos h9, if_neg hne]
          have hJ1 : Hid (J [] ((W.alloc (.cells #[.int .u8 x.op, .int .i64 x.d, .int .i64 x.a, .int .i64 x.b, .int .u32 x.n, .int .i64 x.f, .slice Aa x.args.length ca, .int .i64 x.l1, .int .i64 x.l2] 70)).alloc (.cells #[.int .i64 x.l1, .int .i64 x.l2] 243))) :=
            abides_alloc hJ (abides_alloc hJ H0.out _) _
          have hK1 : Hid (KS S W ((W.alloc (.cells #[.int .u8 x.op, .int .i64 x.d, .int .i64 x.a, .int .i64 x.b, .int .u32 x.n, .int .i64 x.f, .slice Aa x.args.length ca, .int .i64 x.l1, .int .i64 x.l2] 70)).alloc (.cells #[.int .i64 x.l1, .int .i64 x.l2] 243))) :=
            (KS.refl.alloc hS _).alloc (fun k hk => by have := hS k hk; simp; omega) _
          clear h9 hne
          refine callsIn_of_wp Tryz.func201 rfl h89 ?_ hro
          simp only [Tryz.ntmps201, List.size_toArray, List.length_cons, List.length_nil, Nat.reduceAdd, Nat.reduceSub, Array.replicate_succ, Array.replicate_zero, List.push_toArray, List.append_toArray, List.nil_append, List.cons_append]
          gi_wp2
          have i0 : ∀ w, (Instr.index 243 (.agg #[.int .i64 x.l1, .int .i64 x.l2]) (.int .i64 0)).run Tryz.prog w = .ok (.int .i64 x.l1) w := fun _ => by kernel_rfl
          have i1 : ∀ w, (Instr.index 243 (.agg #[.int .i64 x.l1, .int .i64 x.l2]) (.int .i64 1)).run Tryz.prog w = .ok (.int .i64 x.l2) w := fun _ => by kernel_rfl
          gi_loopw [67] (fun i wr => ∃ k : Nat, k ≤ 2 ∧ i = .int .i64 k ∧ J (filtB f ([x.l1, x.l2].take k)) wr ∧ KS S W wr) (fun i _ => 2 - (RowKit.intOf i).toNat)
          case atStart => exact ⟨0, Nat.zero_le _, rfl, hJ1.out, hK1.out⟩
          case round =>
            obtain ⟨k, hk, rfl, hJk, hKk⟩ := hrel
            have hf3' := hKk.cell (a := ⟨Bf, 3, none⟩) hfS hf3
            have hk3 : k = 0 ∨ k = 1 ∨ k = 2 := by omega
            clear hJ1 hK1
            rcases hk3 with rfl | rfl | rfl
            · by_cases hin : 0 ≤ x.l1 ∧ x.l1 < (f.blocks.length : Int)
              · obtain ⟨m, hm⟩ := Int.eq_ofNat_of_zero_le hin.1
                have hml : m < f.blocks.length := by have := hin.2; omega
                have hst : Hid (filtB f [x.l1] = filtB f [] ++ [⟨m, hml⟩]) := by
                  show _ = _
                  rw [filtB_one_yes hml hm]; rfl
                have hprf : Hid (filtB f [] ++ [⟨m, hml⟩] <+: nextS f (q : Int)) := by
                  show _ <+: _
                  rw [← hst.out, hnx.out, hws.out]
                  exact List.IsPrefix.filterMap _ ⟨[x.l2], rfl⟩
                obtain ⟨fn, tmps, assign, body, hy, hR⟩ := HY.out _ (⟨m, hml⟩ : Blk f) wr hJk (Nat.lt_of_le_of_lt (filtB_len _ _) (by simp))
                have t0 : decide (0 ≤ x.l1) = true := decide_eq_true hin.1
                have t1 : decide (x.l1 < (f.blocks.length : Int)) = true := decide_eq_true hin.2
                dsimp only at hy
                rw [← hm] at hy
                clear hin hm
                gi_wp2
                refine hR.mono ?_
                rintro e W3 (⟨rfl, hJ3, hk3⟩ | ⟨rfl, hJx3⟩)
                · gi_wp2
                  go_roundw
                  case rel => exact ⟨1, by omega, by rfl, by rw [show ([x.l1, x.l2].take 1) = [x.l1] from rfl, hst.out]; exact hJ3, hKk.trans hk3⟩
                  case measure => simp [RowKit.intOf]
                · gi_wp2
                  refine bodyPost_ret (results_none rfl _ _ _) rfl ?_
                  exact ⟨⟨_, rfl⟩, .inr ⟨_, hprf.out, hJx3⟩⟩
              · have hst : Hid (filtB f [x.l1] = filtB f []) := by
                  show _ = _
                  rw [filtB_one_no hin]; rfl
                have hJn : J (filtB f [x.l1]) wr := by rw [hst.out]; exact hJk
                by_cases h0' : 0 ≤ x.l1
                · have t0 : decide (0 ≤ x.l1) = true := decide_eq_true h0'
                  have t1 : decide (x.l1 < (f.blocks.length : Int)) = false := decide_eq_false (by omega)
                  gi_wp2
                  refine ⟨fun _ h => (by cases h), ?_⟩
                  gi_wp2
                  go_roundw
                  case rel => exact ⟨1, by omega, by rfl, hJn, hKk⟩
                  case measure => simp [RowKit.intOf]
                · have t0 : decide (0 ≤ x.l1) = false := decide_eq_false h0'
                  gi_wp2
                  refine ⟨fun _ h => (by cases h), ?_⟩
                  gi_wp2
                  go_roundw
                  case rel => exact ⟨1, by omega, by rfl, hJn, hKk⟩
                  case measure => simp [RowKit.intOf]
            · by_cases hin : 0 ≤ x.l2 ∧ x.l2 < (f.blocks.length : Int)
              · obtain ⟨m, hm⟩ := Int.eq_ofNat_of_zero_le hin.1
                have hml : m < f.blocks.length := by have := hin.2; omega
                have hst : Hid (filtB f [x.l1, x.l2] = filtB f [x.l1] ++ [⟨m, hml⟩]) := by
                  show _ = _
                  exact (filtB_append f [x.l1] [_]).trans (by rw [filtB_one_yes hml hm])
                have hprf : Hid (filtB f [x.l1] ++ [⟨m, hml⟩] <+: nextS f (q : Int)) := by
                  show _ <+: _
                  rw [← hst.out, hnx.out, hws.out]
                  exact List.prefix_rfl
                obtain ⟨fn, tmps, assign, body, hy, hR⟩ := HY.out _ (⟨m, hml⟩ : Blk f) wr hJk (Nat.lt_of_le_of_lt (filtB_len _ _) (by simp))
                have t0 : decide (0 ≤ x.l2) = true := decide_eq_true hin.1
                have t1 : decide (x.l2 < (f.blocks.length : Int)) = true := decide_eq_true hin.2
                dsimp only at hy
                rw [← hm] at hy
                clear hin hm
                gi_wp2
                refine hR.mono ?_
                rintro e W3 (⟨rfl, hJ3, hk3⟩ | ⟨rfl, hJx3⟩)
                · gi_wp2
                  go_roundw
                  case rel => exact ⟨2, by omega, by rfl, by rw [show ([x.l1, x.l2].take 2) = [x.l1, x.l2] from rfl, hst.out]; exact hJ3, hKk.trans hk3⟩
                  case measure => simp [RowKit.intOf]
                · gi_wp2
                  refine bodyPost_ret (results_none rfl _ _ _) rfl ?_
                  exact ⟨⟨_, rfl⟩, .inr ⟨_, hprf.out, hJx3⟩⟩
              · have hst : Hid (filtB f [x.l1, x.l2] = filtB f [x.l1]) := by
                  show _ = _
                  exact (filtB_append f [x.l1] [_]).trans (by rw [filtB_one_no hin, List.append_nil])
                have hJn : J (filtB f [x.l1, x.l2]) wr := by rw [hst.out]; exact hJk
                by_cases h0' : 0 ≤ x.l2
                · have t0 : decide (0 ≤ x.l2) = true := decide_eq_true h0'
                  have t1 : decide (x.l2 < (f.blocks.length : Int)) = false := decide_eq_false (by omega)
                  gi_wp2
                  refine ⟨fun _ h => (by cases h), ?_⟩
                  gi_wp2
                  go_roundw
                  case rel => exact ⟨2, by omega, by rfl, hJn, hKk⟩
                  case measure => simp [RowKit.intOf]
                · have t0 : decide (0 ≤ x.l2) = false := decide_eq_false h0'
                  gi_wp2
                  refine ⟨fun _ h => (by cases h), ?_⟩
                  gi_wp2
                  go_roundw
                  case rel => exact ⟨2, by omega, by rfl, hJn, hKk⟩
                  case measure => simp [RowKit.intOf]
            · have hfin : Hid (J (nextS f (q : Int)) wr) := by
                show J _ _
                rw [hnx.out, hws.out]
                exact hJk
              gi_wp2
              go_end0
              exact ⟨⟨_, rfl⟩, .inl ⟨_, rfl, hfin.out⟩⟩
        · have k9 : (x.op == 9) = true := beq_iff_eq.2 h9
          have k9' : (x.op != 9) = false := by rw [h9]; rfl
          have kn : (x.l2 != x.l1) = false := by rw [heq]; simp
          have hws : Hid (rawWays x = [x.l1, (-1)]) := by
            show _ = _
            unfold rawWays
            rw [if_pos h9, if_pos heq]
          have hJ1 : Hid (J [] ((W.alloc (.cells #[.int .u8 x.op, .int .i64 x.d, .int .i64 x.a, .int .i64 x.b, .int .u32 x.n, .int .i64 x.f, .slice Aa x.args.length ca, .int .i64 x.l1, .int .i64 x.l2] 70)).alloc (.cells #[.int .i64 x.l1, .int .i64 (-1)] 243))) :=
            abides_alloc hJ (abides_alloc hJ H0.out _) _
          have hK1 : Hid (KS S W ((W.alloc (.cells #[.int .u8 x.op, .int .i64 x.d, .int .i64 x.a, .int .i64 x.b, .int .u32 x.n, .int .i64 x.f, .slice Aa x.args.length ca, .int .i64 x.l1, .int .i64 x.l2] 70)).alloc (.cells #[.int .i64 x.l1, .int .i64 (-1)] 243))) :=
            (KS.refl.alloc hS _).alloc (fun k hk => by have := hS k hk; simp; omega) _
          clear h9 heq
          refine callsIn_of_wp Tryz.func201 rfl h89 ?_ hro
          simp only [Tryz.ntmps201, List.size_toArray, List.length_cons, List.length_nil, Nat.reduceAdd, Nat.reduceSub, Array.replicate_succ, Array.replicate_zero, List.push_toArray, List.append_toArray, List.nil_append, List.cons_append]
          gi_wp2
          have i0 : ∀ w, (Instr.index 243 (.agg #[.int .i64 x.l1, .int .i64 (-1)]) (.int .i64 0)).run Tryz.prog w = .ok (.int .i64 x.l1) w := fun _ => by kernel_rfl
          have i1 : ∀ w, (Instr.index 243 (.agg #[.int .i64 x.l1, .int .i64 (-1)]) (.int .i64 1)).run Tryz.prog w = .ok (.int .i64 (-1)) w := fun _ => by kernel_rfl
          gi_loopw [67] (fun i wr => ∃ k : Nat, k ≤ 2 ∧ i = .int .i64 k ∧ J (filtB f ([x.l1, (-1)].take k)) wr ∧ KS S W wr) (fun i _ => 2 - (RowKit.intOf i).toNat)
          case atStart => exact ⟨0, Nat.zero_le _, rfl, hJ1.out, hK1.out⟩
          case round =>
            obtain ⟨k, hk, rfl, hJk, hKk⟩ := hrel
            have hf3' := hKk.cell (a := ⟨Bf, 3, none⟩) hfS hf3
            have hk3 : k = 0 ∨ k = 1 ∨ k = 2 := by omega
            clear hJ1 hK1
            rcases hk3 with rfl | rfl | rfl
            · by_cases hin : 0 ≤ x.l1 ∧ x.l1 < (f.blocks.length : Int)
              · obtain ⟨m, hm⟩ := Int.eq_ofNat_of_zero_le hin.1
                have hml : m < f.blocks.length := by have := hin.2; omega
                have hst : Hid (filtB f [x.l1] = filtB f [] ++ [⟨m, hml⟩]) := by
                  show _ = _
                  rw [filtB_one_yes hml hm]; rfl
                have hprf : Hid (filtB f [] ++ [⟨m, hml⟩] <+: nextS f (q : Int)) := by
                  show _ <+: _
                  rw [← hst.out, hnx.out, hws.out]
                  exact List.IsPrefix.filterMap _ ⟨[(-1)], rfl⟩
                obtain ⟨fn, tmps, assign, body, hy, hR⟩ := HY.out _ (⟨m, hml⟩ : Blk f) wr hJk (Nat.lt_of_le_of_lt (filtB_len _ _) (by simp))
                have t0 : decide (0 ≤ x.l1) = true := decide_eq_true hin.1
                have t1 : decide (x.l1 < (f.blocks.length : Int)) = true := decide_eq_true hin.2
                dsimp only at hy
                rw [← hm] at hy
                clear hin hm
                gi_wp2
                refine hR.mono ?_
                rintro e W3 (⟨rfl, hJ3, hk3⟩ | ⟨rfl, hJx3⟩)
                · gi_wp2
                  go_roundw
                  case rel => exact ⟨1, by omega, by rfl, by rw [show ([x.l1, (-1)].take 1) = [x.l1] from rfl, hst.out]; exact hJ3, hKk.trans hk3⟩
                  case measure => simp [RowKit.intOf]
                · gi_wp2
                  refine bodyPost_ret (results_none rfl _ _ _) rfl ?_
                  exact ⟨⟨_, rfl⟩, .inr ⟨_, hprf.out, hJx3⟩⟩
              · have hst : Hid (filtB f [x.l1] = filtB f []) := by
                  show _ = _
                  rw [filtB_one_no hin]; rfl
                have hJn : J (filtB f [x.l1]) wr := by rw [hst.out]; exact hJk
                by_cases h0' : 0 ≤ x.l1
                · have t0 : decide (0 ≤ x.l1) = true := decide_eq_true h0'
                  have t1 : decide (x.l1 < (f.blocks.length : Int)) = false := decide_eq_false (by omega)
                  gi_wp2
                  refine ⟨fun _ h => (by cases h), ?_⟩
                  gi_wp2
                  go_roundw
                  case rel => exact ⟨1, by omega, by rfl, hJn, hKk⟩
                  case measure => simp [RowKit.intOf]
                · have t0 : decide (0 ≤ x.l1) = false := decide_eq_false h0'
                  gi_wp2
                  refine ⟨fun _ h => (by cases h), ?_⟩
                  gi_wp2
                  go_roundw
                  case rel => exact ⟨1, by omega, by rfl, hJn, hKk⟩
                  case measure => simp [RowKit.intOf]
            · have hst : Hid (filtB f [x.l1, (-1)] = filtB f [x.l1]) := by
                show _ = _
                exact (filtB_append f [x.l1] [_]).trans (by rw [filtB_one_no (a := -1) (by omega), List.append_nil])
              have hJn : J (filtB f [x.l1, (-1)]) wr := by rw [hst.out]; exact hJk
              gi_wp2
              refine ⟨fun _ h => (by cases h), ?_⟩
              gi_wp2
              go_roundw
              case rel => exact ⟨2, by omega, by rfl, hJn, hKk⟩
              case measure => simp [RowKit.intOf]
            · have hfin : Hid (J (nextS f (q : Int)) wr) := by
                show J _ _
                rw [hnx.out, hws.out]
                exact hJk
              gi_wp2
              go_end0
              exact ⟨⟨_, rfl⟩, .inl ⟨_, rfl, hfin.out⟩⟩
        · have k9 : (x.op == 9) = false := by rw [h8]; rfl
          have k9' : (x.op != 9) = true := by rw [h8]; rfl
          have k8' : (x.op != 8) = false := by rw [h8]; rfl
          have hws : Hid (rawWays x = [x.l1, (-1)]) := by
            show _ = _
            unfold rawWays
            rw [if_neg (by omega), if_pos h8]
          have hJ1 : Hid (J [] ((W.alloc (.cells #[.int .u8 x.op, .int .i64 x.d, .int .i64 x.a, .int .i64 x.b, .int .u32 x.n, .int .i64 x.f, .slice Aa x.args.length ca, .int .i64 x.l1, .int .i64 x.l2] 70)).alloc (.cells #[.int .i64 x.l1, .int .i64 (-1)] 243))) :=
            abides_alloc hJ (abides_alloc hJ H0.out _) _
          have hK1 : Hid (KS S W ((W.alloc (.cells #[.int .u8 x.op, .int .i64 x.d, .int .i64 x.a, .int .i64 x.b, .int .u32 x.n, .int .i64 x.f, .slice Aa x.args.length ca, .int .i64 x.l1, .int .i64 x.l2] 70)).alloc (.cells #[.int .i64 x.l1, .int .i64 (-1)] 243))) :=
            (KS.refl.alloc hS _).alloc (fun k hk => by have := hS k hk; simp; omega) _
          clear h8
          refine callsIn_of_wp Tryz.func201 rfl h89 ?_ hro
          simp only [Tryz.ntmps201, List.size_toArray, List.length_cons, List.length_nil, Nat.reduceAdd, Nat.reduceSub, Array.replicate_succ, Array.replicate_zero, List.push_toArray, List.append_toArray, List.nil_append, List.cons_append]
          gi_wp2
          have i0 : ∀ w, (Instr.index 243 (.agg #[.int .i64 x.l1, .int .i64 (-1)]) (.int .i64 0)).run Tryz.prog w = .ok (.int .i64 x.l1) w := fun _ => by kernel_rfl
          have i1 : ∀ w, (Instr.index 243 (.agg #[.int .i64 x.l1, .int .i64 (-1)]) (.int .i64 1)).run Tryz.prog w = .ok (.int .i64 (-1)) w := fun _ => by kernel_rfl
          gi_loopw [67] (fun i wr => ∃ k : Nat, k ≤ 2 ∧ i = .int .i64 k ∧ J (filtB f ([x.l1, (-1)].take k)) wr ∧ KS S W wr) (fun i _ => 2 - (RowKit.intOf i).toNat)
          case atStart => exact ⟨0, Nat.zero_le _, rfl, hJ1.out, hK1.out⟩
          case round =>
            obtain ⟨k, hk, rfl, hJk, hKk⟩ := hrel
            have hf3' := hKk.cell (a := ⟨Bf, 3, none⟩) hfS hf3
            have hk3 : k = 0 ∨ k = 1 ∨ k = 2 := by omega
            clear hJ1 hK1
            rcases hk3 with rfl | rfl | rfl
            · by_cases hin : 0 ≤ x.l1 ∧ x.l1 < (f.blocks.length : Int)
              · obtain ⟨m, hm⟩ := Int.eq_ofNat_of_zero_le hin.1
                have hml : m < f.blocks.length := by have := hin.2; omega
                have hst : Hid (filtB f [x.l1] = filtB f [] ++ [⟨m, hml⟩]) := by
                  show _ = _
                  rw [filtB_one_yes hml hm]; rfl
                have hprf : Hid (filtB f [] ++ [⟨m, hml⟩] <+: nextS f (q : Int)) := by
                  show _ <+: _
                  rw [← hst.out, hnx.out, hws.out]
                  exact List.IsPrefix.filterMap _ ⟨[(-1)], rfl⟩
                obtain ⟨fn, tmps, assign, body, hy, hR⟩ := HY.out _ (⟨m, hml⟩ : Blk f) wr hJk (Nat.lt_of_le_of_lt (filtB_len _ _) (by simp))
                have t0 : decide (0 ≤ x.l1) = true := decide_eq_true hin.1
                have t1 : decide (x.l1 < (f.blocks.length : Int)) = true := decide_eq_true hin.2
                dsimp only at hy
                rw [← hm] at hy
                clear hin hm
                gi_wp2
                refine hR.mono ?_
                rintro e W3 (⟨rfl, hJ3, hk3⟩ | ⟨rfl, hJx3⟩)
                · gi_wp2
                  go_roundw
                  case rel => exact ⟨1, by omega, by rfl, by rw [show ([x.l1, (-1)].take 1) = [x.l1] from rfl, hst.out]; exact hJ3, hKk.trans hk3⟩
                  case measure => simp [RowKit.intOf]
                · gi_wp2
                  refine bodyPost_ret (results_none rfl _ _ _) rfl ?_
                  exact ⟨⟨_, rfl⟩, .inr ⟨_, hprf.out, hJx3⟩⟩
              · have hst : Hid (filtB f [x.l1] = filtB f []) := by
                  show _ = _
                  rw [filtB_one_no hin]; rfl
                have hJn : J (filtB f [x.l1]) wr := by rw [hst.out]; exact hJk
                by_cases h0' : 0 ≤ x.l1
                · have t0 : decide (0 ≤ x.l1) = true := decide_eq_true h0'
                  have t1 : decide (x.l1 < (f.blocks.length : Int)) = false := decide_eq_false (by omega)
                  gi_wp2
                  refine ⟨fun _ h => (by cases h), ?_⟩
                  gi_wp2
                  go_roundw
                  case rel => exact ⟨1, by omega, by rfl, hJn, hKk⟩
                  case measure => simp [RowKit.intOf]
                · have t0 : decide (0 ≤ x.l1) = false := decide_eq_false h0'
                  gi_wp2
                  refine ⟨fun _ h => (by cases h), ?_⟩
                  gi_wp2
                  go_roundw
                  case rel => exact ⟨1, by omega, by rfl, hJn, hKk⟩
                  case measure => simp [RowKit.intOf]
            · have hst : Hid (filtB f [x.l1, (-1)] = filtB f [x.l1]) := by
                show _ = _
                exact (filtB_append f [x.l1] [_]).trans (by rw [filtB_one_no (a := -1) (by omega), List.append_nil])
              have hJn : J (filtB f [x.l1, (-1)]) wr := by rw [hst.out]; exact hJk
              gi_wp2
              refine ⟨fun _ h => (by cases h), ?_⟩
              gi_wp2
              go_roundw
              case rel => exact ⟨2, by omega, by rfl, hJn, hKk⟩
              case measure => simp [RowKit.intOf]
            · have hfin : Hid (J (nextS f (q : Int)) wr) := by
                show J _ _
                rw [hnx.out, hws.out]
                exact hJk
              gi_wp2
              go_end0
              exact ⟨⟨_, rfl⟩, .inl ⟨_, rfl, hfin.out⟩⟩
        · have hny : Hid (nextS f (q : Int) = []) := by
            show _ = _
            rw [hnx.out]
            unfold rawWays
            rw [if_neg n9, if_neg n8]
            rfl
          have k9 : (x.op == 9) = false := beq_eq_false_iff_ne.2 n9
          have k9' : (x.op != 9) = true := by rw [bne_iff_ne]; exact n9
          have k8' : (x.op != 8) = true := by rw [bne_iff_ne]; exact n8
          have hJ1 : Hid (J [] ((W.alloc (.cells #[.int .u8 x.op, .int .i64 x.d, .int .i64 x.a, .int .i64 x.b, .int .u32 x.n, .int .i64 x.f, .slice Aa x.args.length ca, .int .i64 x.l1, .int .i64 x.l2] 70)).alloc (.cells #[.int .i64 x.l1, .int .i64 (-1)] 243))) :=
            abides_alloc hJ (abides_alloc hJ H0.out _) _
          clear n9 n8
          refine callsIn_of_wp Tryz.func201 rfl h89 ?_ hro
          simp only [Tryz.ntmps201, List.size_toArray, List.length_cons, List.length_nil, Nat.reduceAdd, Nat.reduceSub, Array.replicate_succ, Array.replicate_zero, List.push_toArray, List.append_toArray, List.nil_append, List.cons_append]
          gi_wp2
          refine bodyPost_ret (results_none rfl _ _ _) rfl ?_
          exact ⟨⟨_, rfl⟩, .inl ⟨_, hny.out.symm, hJ1.out⟩⟩
    · have d1 : decide ((f.blocks.length : Int) ≤ (q : Int)) = true := decide_eq_true (by omega)
      have hnx : Hid (nextS f (q : Int) = []) := by
        show _ = _
        unfold nextS
        rw [if_pos (by omega), show ((q : Int)).toNat = q from by omega, List.getElem?_eq_none (by omega)]
      refine callsIn_of_wp Tryz.func201 rfl h89 ?_ hro
      simp only [Tryz.ntmps201, List.size_toArray, List.length_cons, List.length_nil, Nat.reduceAdd, Nat.reduceSub, Array.replicate_succ, Array.replicate_zero, List.push_toArray, List.append_toArray, List.nil_append, List.cons_append]
      gi_wp2
      refine bodyPost_ret (results_none rfl _ _ _) rfl ?_
      exact ⟨⟨_, rfl⟩, .inl ⟨_, hnx.out.symm, H0.out⟩⟩
end Mu
end
section
/-
  flow.goes and flow.Next, walked.
  Conditions: at most 2^21 blocks and instructions.
-/
namespace Mu
open Go Go.RowKit Go.Proofs Go.Shelf
attribute [local go_sem] Oper.semAt_some

/-- flow.goes: the function and the number are boxed; the function value holds the boxes -/
theorem goes_in (F : Fence) (n : Nat) (h60 : F.fn 170) (hro : F.round = none) (cs : List Value) (bi : Int) (w : World) (hcs : cs.length = 4) :
    CallsIn F n Tryz.prog 170 #[.agg cs.toArray, .int .i64 bi] w fun e w' => e = .returned (.func (.func 201) #[] #[.pointer (some ⟨w.heap.size + 1, 0, none⟩), .pointer (some ⟨w.heap.size, 0, none⟩)]) ∧
      w' = (w.alloc (.cells cs.toArray 24)).alloc (.cells #[.int .i64 bi] 3) := by
  match cs, hcs with
  | [a, b, c, d], _ =>
    refine callsIn_of_wp Tryz.func170 rfl h60 ?_ hro
    simp only [Tryz.ntmps170, List.size_toArray, List.length_cons, List.length_nil, Nat.reduceAdd, Nat.reduceSub, Array.replicate_succ, Array.replicate_zero, List.push_toArray, List.append_toArray, List.nil_append, List.cons_append]
    gi_wp2
    go_ret
    exact ⟨rfl, rfl⟩

/-- what the iterator reads lies in a world -/
theorem goes_at {W : World} {S : Nat → Prop} {cs : List Value} {f : Func} {bi : Int} (hR : tFunc.RS W S cs f) (hS : ∀ k, S k → k < W.heap.size) (hl : f.blocks.length ≤ 2097152) (hi : ∀ b ∈ f.blocks, b.ins.length ≤ 2097152) :
    GoesAt ((W.alloc (.cells cs.toArray 24)).alloc (.cells #[.int .i64 bi] 3)) (fun k => S k ∨ k = W.heap.size ∨ k = W.heap.size + 1) f bi W.heap.size (W.heap.size + 1) := by
  obtain ⟨A, c, rfl, _, _, _, hB⟩ := tFunc_R.1 hR
  refine ⟨.inr (.inl rfl), ⟨A, c, ?_, ?_⟩, .inr (.inr rfl), ?_, hl, hi⟩
  · exact box_cell (box_alloc (heap_alloc_new W _) _) rfl
  · refine tBlock.slice.keepS hB (fun k hk => ?_) (fun k hk => .inl hk)
    have hk' := hS k hk
    rw [Below.heap_alloc _ _ _ (by simp; omega), Below.heap_alloc _ _ _ hk']
  · have h := heap_alloc_new (W.alloc (.cells [.string f.name, .int .i64 f.args, .int .i64 f.regs, .slice A f.blocks.length c].toArray 24)) (.cells #[.int .i64 bi] 3)
    rw [show (W.alloc (.cells [.string f.name, .int .i64 f.args, .int .i64 f.regs, .slice A f.blocks.length c].toArray 24)).heap.size = W.heap.size + 1 from by simp] at h
    exact box_cell (cs := [_]) h rfl
theorem GoesAt.keep {W W' : World} {S : Nat → Prop} {f : Func} {bi : Int} {Bf Bb : Nat} (h : GoesAt W S f bi Bf Bb) (hk : ∀ k, S k → W'.heap[k]? = W.heap[k]?) : GoesAt W' S f bi Bf Bb := by
  obtain ⟨h1, ⟨A, c, h2, h3⟩, h4, h5, h6, h7⟩ := h
  exact ⟨h1, ⟨A, c, (World.cell?_of_block (w := W) (a := ⟨Bf, 3, none⟩) (hk _ h1)).trans h2, tBlock.slice.keepS h3 hk (fun _ h => h)⟩, h4, (World.cell?_of_block (w := W) (a := ⟨Bb, 0, none⟩) (hk _ h4)).trans h5, h6, h7⟩

/-- the iterator's contract -/
theorem goes_stops (F : Fence) (n : Nat) (h89 : F.fn 201) (hro : F.round = none) (hn : 1 ≤ n) (f : Func) (bi : Int) (Bf Bb : Nat) (S : Nat → Prop) (w : World) (hS : ∀ k, S k → k < w.heap.size) (hG : GoesAt w S f bi Bf Bb) :
    SeqStopsK F n Tryz.prog 201 #[.pointer (some ⟨Bb, 0, none⟩), .pointer (some ⟨Bf, 0, none⟩)] (fun x : Blk f => #[Value.int .i64 ((x.1 : Nat) : Int)]) (KS S) (fun ys => ys = nextS f bi) (fun pre => pre <+: nextS f bi) 2 w := fun l J Jx W hW hJ _ hY h0 =>
  goes1_in F n h89 hro hn l f bi Bf Bb S J Jx W hJ (fun k hk => Nat.lt_of_lt_of_le (hS k hk) hW.size) hY (hG.keep (fun k hk => hW.block k (hS k hk))) h0
theorem ksK_t {S : Nat → Prop} {A B C : World} (h : KS S A B) (k : KS S B C) : KS S A C := h.trans k
theorem ksK_b {S : Nat → Prop} {w : World} (hS : ∀ k, S k → k < w.heap.size) (W : World) (l : Nat) (o o' : Obj) (hl : w.heap.size ≤ l) (h : W.heap[l]? = some o) (_ : o.isCells = false) (_ : o.isWalk = false) : KS S W (W.putObj l o') := by
  have hg := grownBy_putObj' W l o'
  refine ⟨hg.size, fun k hk => hg.block k ?_ ?_⟩
  · have := hS k hk; have := (Array.getElem?_eq_some_iff.1 h).1; omega
  · intro e; injection e with e; have := hS k hk; omega

def blkI {f : Func} (x : Blk f) : Int := ((x.1 : Nat) : Int)
/-- where one goes from a block, as numbers -/
def nextL (f : Func) (b : Int) : List Int := (nextS f b).map blkI

end Mu
end
section
/-
  What data that was read is known to be; contracts said over worlds, said over abstract values.
  Conditions: none.
-/
namespace Mu
open Go Go.RowKit Go.Proofs

def okInts (l : List Int) : Prop := ∀ x ∈ l, wfI .i64 x
structure okIns (x : Ins) : Prop where
  op : wfI .u8 x.op
  d : wfI .i64 x.d
  a : wfI .i64 x.a
  b : wfI .i64 x.b
  n : wfI .u32 x.n
  f : wfI .i64 x.f
  l1 : wfI .i64 x.l1
  l2 : wfI .i64 x.l2
  args : okInts x.args
structure okBlock (b : Block) : Prop where
  name : b.name.size ≤ maxLen
  ins : ∀ x ∈ b.ins, okIns x
structure okFunc (f : Func) : Prop where
  name : f.name.size ≤ maxLen
  args : wfI .i64 f.args
  regs : wfI .i64 f.regs
  blocks : ∀ b ∈ f.blocks, okBlock b
section
variable {w : World} {S : Nat → Prop} {cs : List Value}
theorem ok_slice {α : Type} {T : Ty α} {p : α → Prop} {l : List α} (hp : ∀ cs d, T.RS w S cs d → p d) (h : T.slice.RS w S cs l) : ∀ x ∈ l, p x := by
  obtain ⟨A, c, rfl, _, _, hi⟩ := h
  intro x hx
  obtain ⟨j, hj⟩ := List.mem_iff_getElem?.1 hx
  obtain ⟨b, o, _, _, cs', h1, _⟩ := hi j x hj
  exact hp cs' x h1
theorem ok_ints {l : List Int} (h : tInt.slice.RS w S cs l) : okInts l := ok_slice (T := tInt) (p := wfI .i64) (fun _ _ h => (tInt_R.1 h).2) h
theorem ok_ins {x : Ins} (h : tIns.RS w S cs x) : okIns x := by
  obtain ⟨A, c, hI⟩ := tIns_R.1 h
  exact ⟨hI.op, hI.d, hI.a, hI.b, hI.n, hI.f, hI.l1, hI.l2, ok_ints hI.args⟩
theorem ok_block {x : Block} (h : tBlock.RS w S cs x) : okBlock x := by
  obtain ⟨A, c, _, h1, h2⟩ := tBlock_R.1 h
  exact ⟨h1, ok_slice (fun _ _ h => ok_ins h) h2⟩
theorem ok_func {x : Func} (h : tFunc.RS w S cs x) : okFunc x := by
  obtain ⟨A, c, _, h1, h2, h3, h4⟩ := tFunc_R.1 h
  exact ⟨h1, h2, h3, ok_slice (fun _ _ h => ok_block h) h4⟩
variable {h : List ABlk} {ψ : Nat → Value}
theorem put_ins {x : Ins} (ho : okIns x) (H : AV.relL w S h ψ (encIns x) cs) : tIns.RS w S cs x := by
  simp only [encIns, AV.relL, AV.rel] at H
  obtain ⟨_, _, rfl, rfl, _, _, rfl, rfl, _, _, rfl, rfl, _, _, rfl, rfl, _, _, rfl, rfl, _, _, rfl, rfl, _, _, rfl, ha, _, _, rfl, rfl, _, _, rfl, rfl, rfl⟩ := H
  obtain ⟨A, c, rfl⟩ := slice_form ha
  exact tIns_R.2 ⟨A, c, rfl, ho.op, ho.d, ho.a, ho.b, ho.n, ho.f, ho.l1, ho.l2, ha⟩
theorem put_block {x : Block} (ho : x.name.size ≤ maxLen) (H : AV.relL w S h ψ (encBlock x) cs) : tBlock.RS w S cs x := by
  simp only [encBlock, AV.relL, AV.rel] at H
  obtain ⟨_, _, rfl, rfl, _, _, rfl, ha, rfl⟩ := H
  obtain ⟨A, c, rfl⟩ := slice_form ha
  exact tBlock_R.2 ⟨A, c, rfl, ho, ha⟩
theorem put_func {x : Func} (ho : okFunc x) (H : AV.relL w S h ψ (encFunc x) cs) : tFunc.RS w S cs x := by
  simp only [encFunc, AV.relL, AV.rel] at H
  obtain ⟨_, _, rfl, rfl, _, _, rfl, rfl, _, _, rfl, rfl, _, _, rfl, ha, rfl⟩ := H
  obtain ⟨A, c, rfl⟩ := slice_form ha
  exact tFunc_R.2 ⟨A, c, rfl, ho.name, ho.args, ho.regs, ha⟩
end

section
variable {P : Program}
/-- a contract that speaks of all that is there, as one over abstract values: a result that does not lead to memory -/
theorem Fn.of_lit {f : FuncId} {args : List AV} {v : Value} (hE : Enters P f = true) (h : ∀ (w : World) (vs : List Value), AV.relL w (fun k => k < w.heap.size) [] ψ0 args vs → Calls P f vs.toArray w fun e w' => e = .returned v ∧ Below w.heap.size w w') : Fn P f args (.lit v) :=
  ⟨hE, fun w S vs hS hr => (h w vs (AV.relL_ext (Ext.grow [] ψ0 (fun _ _ => rfl) hS) _ _ hr)).mono fun e w' ⟨he, hb⟩ => ⟨v, he, hb, S, fun _ h => h, fun _ h => .inl h, fun k hk => Nat.lt_of_lt_of_le (hS k hk) hb.size, by unfold AV.rel; rfl⟩⟩
theorem Fn.of_tup2 {f : FuncId} {args : List AV} {v u : Value} (hE : Enters P f = true) (h : ∀ (w : World) (vs : List Value), AV.relL w (fun k => k < w.heap.size) [] ψ0 args vs → Calls P f vs.toArray w fun e w' => e = .returned (.tuple #[v, u]) ∧ Below w.heap.size w w') : Fn P f args (.tup [.lit v, .lit u]) :=
  ⟨hE, fun w S vs hS hr => (h w vs (AV.relL_ext (Ext.grow [] ψ0 (fun _ _ => rfl) hS) _ _ hr)).mono fun e w' ⟨he, hb⟩ => ⟨_, he, hb, S, fun _ h => h, fun _ h => .inl h, fun k hk => Nat.lt_of_lt_of_le (hS k hk) hb.size, by
    unfold AV.rel
    exact ⟨[v, u], rfl, by simp [AV.relL, AV.rel]⟩⟩⟩
/-- .. a row of integers that it made -/
theorem Fn.of_ints {f : FuncId} {args : List AV} {l : List Int} (hE : Enters P f = true) (hl : okInts l) (h : ∀ (w : World) (vs : List Value), AV.relL w (fun k => k < w.heap.size) [] ψ0 args vs → Calls P f vs.toArray w fun e w' => ∃ v, e = .returned v ∧ OwnI w' w.heap.size v l ∧ Below w.heap.size w w') : Fn P f args (.bs tInt l) :=
  ⟨hE, fun w S vs hS hr => (h w vs (AV.relL_ext (Ext.grow [] ψ0 (fun _ _ => rfl) hS) _ _ hr)).mono fun e w' ⟨v, he, ho, hb⟩ => by
    refine ⟨v, he, hb, fun k => S k ∨ v.ownBlock = some k, fun _ h => .inl h, fun k hk => hk.imp id fun e => (ho.lt k e).1, fun k hk => ?_, ?_⟩
    · rcases hk with hk | hk
      · exact Nat.lt_of_lt_of_le (hS k hk) hb.size
      · exact (ho.lt k hk).2
    · unfold AV.rel
      exact tInt.slice.keepS (own_intsS ho hl) (fun _ _ => rfl) fun k hk => .inr hk⟩
/-- .. rows of integers that it made: whatever is read lies in memory that it made -/
theorem Fn.of_fresh {f : FuncId} {args : List AV} {α : Type} {T : Ty α} {l : List α} (hE : Enters P f = true) (h : ∀ (w : World) (vs : List Value), AV.relL w (fun k => k < w.heap.size) [] ψ0 args vs → Calls P f vs.toArray w fun e w' => ∃ v, e = .returned v ∧ T.slice.RS w' (fun k => w.heap.size ≤ k ∧ k < w'.heap.size) [v] l ∧ Below w.heap.size w w') : Fn P f args (.bs T l) :=
  ⟨hE, fun w S vs hS hr => (h w vs (AV.relL_ext (Ext.grow [] ψ0 (fun _ _ => rfl) hS) _ _ hr)).mono fun e w' ⟨v, he, ho, hb⟩ => by
    refine ⟨v, he, hb, fun k => S k ∨ (w.heap.size ≤ k ∧ k < w'.heap.size), fun _ h => .inl h, fun k hk => hk.imp id fun e => e.1, fun k hk => ?_, ?_⟩
    · rcases hk with hk | hk
      · exact Nat.lt_of_lt_of_le (hS k hk) hb.size
      · exact hk.2
    · unfold AV.rel
      exact T.slice.keepS ho (fun _ _ => rfl) fun k hk => .inr hk⟩
theorem arg1 {w : World} {S : Nat → Prop} {h : List ABlk} {ψ : Nat → Value} {x : AV} {vs : List Value} (H : AV.relL w S h ψ [x] vs) : ∃ v, vs = [v] ∧ AV.rel w S h ψ x v := by
  simp only [AV.relL] at H
  obtain ⟨v, _, rfl, h1, rfl⟩ := H
  exact ⟨v, rfl, h1⟩
theorem arg2 {w : World} {S : Nat → Prop} {h : List ABlk} {ψ : Nat → Value} {x y : AV} {vs : List Value} (H : AV.relL w S h ψ [x, y] vs) : ∃ v u, vs = [v, u] ∧ AV.rel w S h ψ x v ∧ AV.rel w S h ψ y u := by
  simp only [AV.relL] at H
  obtain ⟨v, _, rfl, h1, u, _, rfl, h2, rfl⟩ := H
  exact ⟨v, u, rfl, h1, h2⟩
theorem rel_agg {w : World} {S : Nat → Prop} {h : List ABlk} {ψ : Nat → Value} {l : List AV} {v : Value} (H : AV.rel w S h ψ (.agg l) v) : ∃ cs, v = .agg cs.toArray ∧ AV.relL w S h ψ l cs := by unfold AV.rel at H; exact H
theorem rel_lit {w : World} {S : Nat → Prop} {h : List ABlk} {ψ : Nat → Value} {u v : Value} (H : AV.rel w S h ψ (.lit u) v) : v = u := by unfold AV.rel at H; exact H
theorem rel_bs {w : World} {S : Nat → Prop} {h : List ABlk} {ψ : Nat → Value} {α : Type} {T : Ty α} {l : List α} {v : Value} (H : AV.rel w S h ψ (.bs T l) v) : T.slice.RS w S [v] l := by unfold AV.rel at H; exact H
end

theorem readsC_ok {x : Ins} (h : okIns x) : okInts (readsC x) := by
  intro r hr
  unfold readsC at hr
  simp only [List.mem_append] at hr
  rcases hr with (hr | hr) | hr <;> split at hr <;> first | (simp at hr; done) | (simp at hr; subst hr; first | exact h.a | exact h.b) | exact h.args r hr
theorem ref_reads_fn (x : Ins) (ho : okIns x) (hl : x.args.length ≤ 2097152) : Fn Tryz.prog 61 [.agg (encIns x)] (.bs tInt (readsC x)) :=
  Fn.of_ints (by kernel_rfl) (readsC_ok ho) fun w vs hr => by
    obtain ⟨v, rfl, hv⟩ := arg1 hr
    obtain ⟨cs, rfl, hc⟩ := rel_agg hv
    exact ref_reads x w cs (put_ins ho hc) hl
theorem ref_writes_fn (x : Ins) (ho : okIns x) : Fn Tryz.prog 62 [.agg (encIns x)] (.tup [.lit (.int .i64 (if writesB x then x.d else 0)), .lit (.bool (writesB x))]) :=
  Fn.of_tup2 (by kernel_rfl) fun w vs hr => by
    obtain ⟨v, rfl, hv⟩ := arg1 hr
    obtain ⟨cs, rfl, hc⟩ := rel_agg hv
    refine (ref_writes x w cs (put_ins ho hc)).mono fun e w' ⟨he, hb⟩ => ⟨?_, hb⟩
    rw [he]
    unfold writesV
    cases writesB x <;> rfl
theorem same_fn (xs ys : List Int) (hx : xs.length ≤ 2097152) : Fn Tryz.prog 13 [.bs tInt xs, .bs tInt ys] (.lit (.bool (decide (xs = ys)))) :=
  Fn.of_lit (by kernel_rfl) fun w vs hr => by
    obtain ⟨v, u, rfl, hv, hu⟩ := arg2 hr
    exact (ref_same xs ys v u w (rel_bs hv) (rel_bs hu) hx).mono fun e w' ⟨he, hb⟩ => ⟨he, hb⟩
theorem in17_fn (xs : List Int) (n : Int) (hx : xs.length ≤ 2097152) : Fn Tryz.prog 85 [.bs tInt xs, .lit (.int .i64 n)] (.lit (.bool (xs.contains n))) :=
  Fn.of_lit (by kernel_rfl) fun w vs hr => by
    obtain ⟨v, u, rfl, hv, hu⟩ := arg2 hr
    obtain rfl := rel_lit hu
    exact (ref17_in xs n v w (rel_bs hv) hx).mono fun e w' h => by first | exact h | exact ⟨h.1, by rw [← h.2]; exact Below.refl _ _⟩ | exact ⟨h.1, by rw [h.2]; exact Below.refl _ _⟩
end Mu
end
section
/-
  Structs that are written out; results that lie in memory; over abstract states.
  Conditions: none; generic.
-/
namespace Mu
open Go Go.RowKit Go.Proofs

section
variable {P : Program}
/-- a struct's fields: places and sizes -/
def placesL? (P : Program) : List Field → Option (List (Nat × Nat))
  | [] => some []
  | f :: fs =>
    match P.info? f.type with
    | some i => (placesL? P fs).map fun l => (f.offset, i.size) :: l
    | none => none
def places? (P : Program) (t : TypeId) : Option (List (Nat × Nat)) :=
  match P.underlying t with
  | some (.struct fs) => placesL? P fs.toList
  | _ => none
theorem run_places (w : World) : ∀ (fs : List Field) (l : List (Nat × Nat)), placesL? P fs = some l → (fs.mapM (m := Sem) fun f => do pure (f.offset, ← Go.sizeOf f.type)).run P w = .ok l w
  | [], l, h => by cases h; rfl
  | f :: fs, l, h => by
    unfold placesL? at h
    split at h <;> try (cases h; done)
    rename_i i hi
    obtain ⟨l', h1, rfl⟩ := Option.map_eq_some_iff.1 h
    have ih := run_places w fs l' h1
    have h0 : (do pure (f.offset, ← Go.sizeOf f.type) : Sem (Nat × Nat)).run P w = .ok (f.offset, i.size) w := by simp [Go.sizeOf, typeInfo, hi]
    rw [List.mapM_cons, Sem.run_bind, h0]
    simp only [Result.andThen_ok, Sem.run_bind, ih, Sem.run_pure]
/-- cells with single cells put in -/
def putCells (pl : List (Nat × Nat)) : List AV → List (Nat × AV) → Option (List AV)
  | cs, [] => some cs
  | cs, (j, x) :: ps =>
    match pl[j]? with
    | some (off, 1) => if off < cs.length then putCells pl (cs.set off x) ps else none
    | _ => none
theorem fill_put {w : World} {S : Nat → Prop} {h : List ABlk} {ψ : Nat → Value} {pl : List (Nat × Nat)} : ∀ (ps : List (Nat × AV)) (cs rs : List AV) (vs : List (Nat × Value)) (us : List Value), putCells pl cs ps = some rs → AV.relL w S h ψ cs us →
    vs.map (·.1) = ps.map (·.1) → (∀ (j : Nat) (p : Nat × AV) (v : Nat × Value), ps[j]? = some p → vs[j]? = some v → AV.rel w S h ψ p.2 v.2 ∧ v.2.oneCell' = true) →
    ∃ us', Instr.fill (fun i => pl[i]?) us.toArray vs = some us'.toArray ∧ AV.relL w S h ψ rs us'
  | [], cs, rs, vs, us, hp, hr, hv, _ => by
    cases hp
    have : vs = [] := by simpa using hv
    subst this
    exact ⟨us, rfl, hr⟩
  | (j, x) :: ps, cs, rs, vs, us, hp, hr, hv, hrel => by
    cases vs with
    | nil => simp at hv
    | cons v vs =>
      simp only [List.map_cons, List.cons.injEq] at hv
      obtain ⟨hv1, hv2⟩ := hv
      unfold putCells at hp
      split at hp <;> try (cases hp; done)
      rename_i off hpl
      split at hp <;> try (cases hp; done)
      rename_i hoff
      obtain ⟨h1, h2⟩ := hrel 0 _ _ rfl rfl
      have hul := relL_len hr
      obtain ⟨us', h3, h4⟩ := fill_put ps (cs.set off x) rs vs (us.set off v.2) hp (relL_set hr off h1) hv2 fun j p v hp hv => hrel (j + 1) p v (by simpa using hp) (by simpa using hv)
      refine ⟨us', ?_, h4⟩
      obtain ⟨i, v⟩ := v
      dsimp only at hv1 h1 h2 h3
      subst hv1
      unfold Instr.fill
      simp only [hpl, cells_one h2]
      have hc : ¬ ((decide ((#[v] : Array Value).size ≠ 1) || decide (off + (#[v] : Array Value).size > us.toArray.size)) = true) := by
        simp
        omega
      rw [if_neg hc]
      simpa using h3
theorem Quiet.build {C : Ctx} {t : List AV} {h : List ABlk} {o : Oper} {ty : TypeId} {parts : Array (Nat × Operand)} {zs : List Value} {pl : List (Nat × Nat)} {rs : List AV} (ho : o.op = .build ty parts) (hz : zeroCells? P ty = some zs) (hpl : places? P ty = some pl)
    (hr : putCells pl (zs.map .lit) (parts.toList.map fun p => (p.1, evA t p.2)) = some rs) (h1 : ∀ p ∈ parts.toList, One h (evA t p.2)) : Quiet P C t h o (.agg rs) :=
  Quiet.of_run fun S ψ w ρ H hρ => by
    unfold zeroCells? at hz
    obtain ⟨z, hz1, rfl⟩ := Option.map_eq_some_iff.1 hz
    obtain ⟨i, hi, hz2⟩ := Option.bind_eq_some_iff.1 hz1
    unfold places? at hpl
    split at hpl <;> try (cases hpl; done)
    rename_i fs hu
    have hrp := run_places (P := P) w fs.toList pl hpl
    have hmem : ∀ p ∈ parts.toList, AV.rel w S h ψ (evA t p.2) (ρ p.2) := fun p hp => hρ p.2 (by rw [ho]; exact List.mem_toArray.2 (List.mem_map.2 ⟨p, hp, rfl⟩))
    obtain ⟨us', h3, h4⟩ := fill_put (w := w) (S := S) (h := h) (ψ := ψ) _ _ rs (parts.toList.map fun p => (p.1, ρ p.2)) z.cells.toList hr (relL_lits _) (by simp) fun j p v hp hv => by
      rw [List.getElem?_map] at hp hv
      obtain ⟨q, hq, rfl⟩ := Option.map_eq_some_iff.1 hp
      rw [hq] at hv
      cases hv
      have hqm := List.mem_of_getElem? hq
      exact ⟨hmem q hqm, h1 q hqm C S ψ w _ H (hmem q hqm)⟩
    refine ⟨.agg us'.toArray, ?_, by unfold AV.rel; exact ⟨us', rfl, h4⟩⟩
    have hpa : (fs.mapM (m := Sem) fun f => do pure (f.offset, ← Go.sizeOf f.type)).run P w = .ok pl.toArray w := by
      rw [← Array.toArray_toList (xs := fs), List.mapM_toArray, Sem.run_map, hrp]
      rfl
    have hf : Instr.fill (fun i => pl.toArray[i]?) z.cells (parts.map fun p => (p.1, ρ p.2)).toList = some us'.toArray := by simpa using h3
    simp only [execOp, ho, Instr.build, zeroValue, typeInfo, underlying, Sem.run_bind, run_program, Result.andThen_ok, hi, hz2, Sem.run_pure, hu, hpa, hf]

/-- a result that lies in memory -/
def RetsC (t : Tmp) (r : AV) : Exit → St → Prop := fun e s => (e = .normal ∨ e = .ret) ∧ ∃ i cells, evA s.t (.tmp t) = .ptr i 0 ∧ s.h[i]? = some (.box cells) ∧ Fin s.h (.agg cells) r
theorem Fn.of_awpC {f : FuncId} {fn : Go.Func} {c : Code} {args : List AV} {r : AV} {t : Tmp} {ty : TypeId} {n m : Nat} (hf : P.funcs[f]? = some fn) (hb : fn.body = some c) (hE : Enters P f = true) (hres : fn.results = #[.cell t ty]) (ha : aggT P ty = some (true, m)) (hn : fn.ntmps = n)
    (h : ∀ C : Ctx, C.std → Awp P C c (fun e s => RetsC t r e s ∧ ∀ i cells, evA s.t (.tmp t) = .ptr i 0 → s.h[i]? = some (.box cells) → cells.length = m) ⟨args ++ List.replicate (n - args.length) (.lit undef), []⟩) : Fn P f args r := by
  refine ⟨hE, fun w S vs hS hr => calls_of_wp hf hb ?_⟩
  rw [hn]
  refine wp_mono ((h ⟨w, S, fun k => k < w.heap.size, none⟩ (fun _ h => h)).wp rfl (start_rel hS hr)) ?_
  rintro e a' w' ⟨s, ⟨⟨he, i, cells, hev, hi, hfin⟩, hlen⟩, hd, S1, ψ, H, hl⟩
  rw [hfin.1] at hd
  have hm := hlen i cells hev hi
  have hv := ev_rel hl (.tmp t)
  rw [hev] at hv
  unfold AV.rel at hv
  obtain ⟨g, h1, h2⟩ := hv.2 (by rw [hi]; rfl)
  obtain ⟨g', cs, e', h3, _, _, h4, h5⟩ := H.blk i _ hi
  rw [h1] at h3
  cases h3
  have hc : ∀ j u, cs[j]? = some u → w'.cell? ⟨g, 0 + j, none⟩ = some u := fun j u hu => by simp [World.cell?, h4, hu]
  have hload := run_load_agg (P := P) (ty := ty) (b := g) (off := 0) ha (by rw [relL_len h5]; exact hm) hc
  have hres' : (results fn a'.tmps).run P w' = .ok (.agg cs.toArray) w' := by
    have e1 : (a'.tmps[t]?).getD undef = .pointer (some ⟨g, 0, none⟩) := by rw [← Array.getD_eq_getD_getElem?]; exact h2
    unfold Instr.loadAt Instr.sureAddr at hload
    simp only [Sem.run_bind, Sem.run_pure, Result.andThen_ok] at hload
    simp [results, hres, e1, asAddr, hload]
  have hg := good_final H hfin (by unfold AV.rel; exact ⟨cs, rfl, h5⟩)
  rcases he with rfl | rfl
  · exact ⟨hd, _, hres', _, rfl, hg⟩
  · exact ⟨hd, _, hres', _, rfl, hg⟩
end
end Mu
end
section
/-
  Regions that draw their order in which a variable's memory is made beside reads and calls.
  Conditions: none; generic.
-/
namespace Mu
open Go Go.RowKit

mutual
/-- does not speak of block p -/
def AV.nr (p : Nat) : AV → Bool
  | .own i _ => i != p
  | .ptr i _ => i != p
  | .rp i _ _ _ => i != p
  | .agg l => AV.nrL p l
  | .tup l => AV.nrL p l
  | .fn _ l => AV.nrL p l
  | _ => true
def AV.nrL (p : Nat) : List AV → Bool
  | [] => true
  | x :: l => AV.nr p x && AV.nrL p l
end
def nrB (p : Nat) : ABlk → Bool
  | .box cells => AV.nrL p cells
  | _ => true
section
variable {w : World} {S : Nat → Prop} {h : List ABlk} {ψ ψ' : Nat → Value} {p : Nat} {b : ABlk}
mutual
theorem AV.rel_up (hψ : ∀ i, i ≠ p → ψ' i = ψ i) : ∀ (x : AV) (v : Value), AV.nr p x = true → AV.rel w S h ψ x v → AV.rel w S (h.set p b) ψ' x v
  | .any, _, _, _ => by unfold AV.rel; trivial
  | .lit u, v, _, H => by unfold AV.rel at H ⊢; exact H
  | .bs T l, v, _, H => by unfold AV.rel at H ⊢; exact H
  | .tv T d, v, _, H => by unfold AV.rel at H ⊢; exact H
  | .own i ver, v, hn, H => by
    have hi : i ≠ p := by simpa [AV.nr] using hn
    unfold AV.rel at H ⊢
    rw [List.getElem?_set_ne (Ne.symm hi), hψ i hi]
    exact ⟨by simpa using H.1, H.2⟩
  | .ptr i off, v, hn, H => by
    have hi : i ≠ p := by simpa [AV.nr] using hn
    unfold AV.rel at H ⊢
    rw [List.getElem?_set_ne (Ne.symm hi), hψ i hi]
    exact ⟨by simpa using H.1, H.2⟩
  | .rp i ver k off, v, hn, H => by
    have hi : i ≠ p := by simpa [AV.nr] using hn
    unfold AV.rel at H ⊢
    rw [List.getElem?_set_ne (Ne.symm hi), hψ i hi]
    exact ⟨by simpa using H.1, H.2⟩
  | .bp T d off, v, _, H => by unfold AV.rel at H ⊢; exact H
  | .agg l, v, hn, H => by
    unfold AV.nr at hn
    unfold AV.rel at H ⊢
    obtain ⟨cs, e, hl⟩ := H
    exact ⟨cs, e, AV.relL_up hψ l cs hn hl⟩
  | .tup l, v, hn, H => by
    unfold AV.nr at hn
    unfold AV.rel at H ⊢
    obtain ⟨cs, e, hl⟩ := H
    exact ⟨cs, e, AV.relL_up hψ l cs hn hl⟩
  | .fn f l, v, hn, H => by
    unfold AV.nr at hn
    unfold AV.rel at H ⊢
    obtain ⟨cs, e, hl⟩ := H
    exact ⟨cs, e, AV.relL_up hψ l cs hn hl⟩
theorem AV.relL_up (hψ : ∀ i, i ≠ p → ψ' i = ψ i) : ∀ (l : List AV) (cs : List Value), AV.nrL p l = true → AV.relL w S h ψ l cs → AV.relL w S (h.set p b) ψ' l cs
  | [], cs, _, H => by unfold AV.relL at H ⊢; exact H
  | x :: l, cs, hn, H => by
    unfold AV.nrL at hn
    rw [Bool.and_eq_true] at hn
    unfold AV.relL at H ⊢
    obtain ⟨v, vs, e, h1, h2⟩ := H
    exact ⟨v, vs, e, AV.rel_up hψ x v hn.1 h1, AV.relL_up hψ l vs hn.2 h2⟩
end
variable {h' : List ABlk}
mutual
theorem AV.rel_cute (hc : Cut h h') (hl : h'.length = h.length) : ∀ (x : AV) (v : Value), AV.rel w S h ψ x v → AV.rel w S h' ψ x v
  | .any, _, _ => by unfold AV.rel; trivial
  | .lit u, v, H => by unfold AV.rel at H ⊢; exact H
  | .bs T l, v, H => by unfold AV.rel at H ⊢; exact H
  | .tv T d, v, H => by unfold AV.rel at H ⊢; exact H
  | .own i ver, v, H => by
    unfold AV.rel at H ⊢
    exact ⟨by omega, fun c hv => H.2 c (hc.ver hv).1⟩
  | .ptr i off, v, H => by
    unfold AV.rel at H ⊢
    exact ⟨by omega, fun hv => H.2 (hc.box hv)⟩
  | .rp i ver k off, v, H => by
    unfold AV.rel at H ⊢
    refine ⟨by omega, fun c hv => ?_⟩
    rw [(hc.ver hv).2]
    exact H.2 c (hc.ver hv).1
  | .bp T d off, v, H => by unfold AV.rel at H ⊢; exact H
  | .agg l, v, H => by
    unfold AV.rel at H ⊢
    obtain ⟨cs, e, hL⟩ := H
    exact ⟨cs, e, AV.relL_cute hc hl l cs hL⟩
  | .tup l, v, H => by
    unfold AV.rel at H ⊢
    obtain ⟨cs, e, hL⟩ := H
    exact ⟨cs, e, AV.relL_cute hc hl l cs hL⟩
  | .fn f l, v, H => by
    unfold AV.rel at H ⊢
    obtain ⟨cs, e, hL⟩ := H
    exact ⟨cs, e, AV.relL_cute hc hl l cs hL⟩
theorem AV.relL_cute (hc : Cut h h') (hl : h'.length = h.length) : ∀ (l : List AV) (cs : List Value), AV.relL w S h ψ l cs → AV.relL w S h' ψ l cs
  | [], cs, H => by unfold AV.relL at H ⊢; exact H
  | x :: l, cs, H => by
    unfold AV.relL at H ⊢
    obtain ⟨v, vs, e, h1, h2⟩ := H
    exact ⟨v, vs, e, AV.rel_cute hc hl x v h1, AV.relL_cute hc hl l vs h2⟩
end
theorem HRel.cute {C : Ctx} (H : HRel C h S ψ w) (hc : Cut h h') (hl : h'.length = h.length) : HRel C h' S ψ w :=
  ⟨H.bel, H.nlt, H.lt, H.sub, H.new, fun i b hi => by
    rcases hc.blk i b hi with rfl | h1
    · trivial
    · have hB := H.blk i b h1
      cases b with
      | dead => trivial
      | box cells =>
        obtain ⟨g, cs, e, k1, k2, k3, k4, k5⟩ := hB
        exact ⟨g, cs, e, k1, k2, k3, k4, AV.relL_cute hc hl _ _ k5⟩
      | row ver e T l => exact hB
      | res R => exact hB, fun i j hij h1 h2 => by rw [hc.same h1, hc.same h2]; exact H.dis i j hij (hc.live h1) (hc.live h2)⟩
theorem Cut.of_set (hp : h[p]? = some .dead) : Cut (h.set p b) h := ⟨by simp, fun i c hi => by
  by_cases hip : i = p
  · subst hip; rw [hp] at hi; exact .inl (by injection hi with e; exact e.symm)
  · exact .inr (by rw [List.getElem?_set_ne (Ne.symm hip)]; exact hi)⟩
theorem Quiet.up {P : Program} {C : Ctx} {t : List AV} {o : Oper} {r : AV} (hp : h[p]? = some .dead) (hr : AV.nr p r = true) (hq : Quiet P C t h o r) : Quiet P C t (h.set p b) o r := by
  intro S ψ w ρ H hx
  have hc : Cut (h.set p b) h := Cut.of_set hp
  have hl : h.length = (h.set p b).length := by simp
  have h1 := hq S ψ w ρ (H.cute hc hl) fun x hxm => AV.rel_cute hc hl _ _ (hx x hxm)
  have key : ∀ v w', Good w S h ψ r v w' → Good w S (h.set p b) ψ r v w' := fun v w' ⟨hb, S', k1, k2, k3, k4⟩ => ⟨hb, S', k1, k2, k3, AV.rel_up (fun _ _ => rfl) r v hr k4⟩
  cases hres : (execOp ρ o).run P w with
  | ok n w' =>
    rw [hres] at h1
    cases n <;> simp only [qUpon] at h1 ⊢
    case value v => exact key _ _ h1
    case skip => exact key _ _ h1
    case enter f args => exact ⟨h1.1, h1.2.mono fun e w'' ⟨v, he, hg⟩ => ⟨v, he, key _ _ hg⟩⟩
  | halt x w' => rw [hres] at h1; simp only [qUpon] at h1
theorem HRel.revive {C : Ctx} {w' : World} {v : Value} (H : HRel C h S ψ w) (hp : h[p]? = some .dead) (hn : h.all (nrB p) = true) (hb : Below w.heap.size w w') (hB : BRel C.N w' S (h.set p b) (ψset ψ p v) v b) (hg : ∀ g, ftp (some b) v g → w.heap.size ≤ g) :
    HRel C (h.set p b) S (ψset ψ p v) w' := by
  have hpl := (List.getElem?_eq_some_iff.1 hp).1
  have H' := H.grow (S' := S) hb (fun _ h => h) (fun _ h => .inl h) fun k hk => Nat.lt_of_lt_of_le (H.lt k hk) hb.size
  have hlt : ∀ i, ABlk.live h[i]? = true → ∀ g, ftp h[i]? (ψ i) g → g < w.heap.size := fun i hl g hgg => by
    obtain ⟨c, hc⟩ := live_some hl
    rw [hc] at hgg
    exact ((H.blk i c hc).lt (by rw [← hc]; exact hl) g hgg).2.1
  refine ⟨H'.bel, H'.nlt, H'.lt, H'.sub, H'.new, fun i c hi => ?_, fun i j hij hi hj g h1 h2 => ?_⟩
  · by_cases hip : i = p
    · subst hip
      rw [List.getElem?_set_self hpl] at hi
      cases hi
      rw [ψset_self]
      exact hB
    · rw [List.getElem?_set_ne (Ne.symm hip)] at hi
      rw [ψset_ne hip]
      have hc := H'.blk i c hi
      have hnr := List.all_eq_true.1 hn c (List.mem_of_getElem? hi)
      cases c with
      | dead => trivial
      | box cells =>
        obtain ⟨g, cs, e, k1, k2, k3, k4, k5⟩ := hc
        exact ⟨g, cs, e, k1, k2, k3, k4, AV.relL_up (fun i hi => ψset_ne hi) _ _ hnr k5⟩
      | row ver e T l => exact hc
      | res R => exact hc
  · by_cases hip : i = p
    · subst hip
      rw [ψset_self, List.getElem?_set_self hpl] at h1
      have hji : j ≠ i := Ne.symm hij
      rw [ψset_ne hji, List.getElem?_set_ne (Ne.symm hji)] at h2
      rw [List.getElem?_set_ne (Ne.symm hji)] at hj
      have := hlt j hj g h2
      have := hg g h1
      omega
    · rw [ψset_ne hip, List.getElem?_set_ne (Ne.symm hip)] at h1
      rw [List.getElem?_set_ne (Ne.symm hip)] at hi
      by_cases hjp : j = p
      · subst hjp
        rw [ψset_self, List.getElem?_set_self hpl] at h2
        have := hlt i hi g h1
        have := hg g h2
        omega
      · rw [ψset_ne hjp, List.getElem?_set_ne (Ne.symm hjp)] at h2
        rw [List.getElem?_set_ne (Ne.symm hjp)] at hj
        exact H.dis i j hij hi hj g h1 h2
end

section
variable {P : Program} {C : Ctx} {ops : Array Oper} {md : Region.Mode} {h : List ABlk} {p ip : Nat} {zs : List Value} {elem : TypeId}

/-- an operation among them makes a variable -/
def isAl (o : Oper) : Bool :=
  match o.op with
  | .alloc _ => true
  | _ => false
def bYields (P : Program) (C : Ctx) (ops : Array Oper) (h : List ABlk) (p : Nat) (zs : List Value) (o : Oper) (r : AV) (t : List AV) : Prop :=
  (isAl o = false ∧ gA ops t o = some true ∧ Quiet P C t h o r ∧ AV.nr p r = true) ∨ (isAl o = false ∧ gA ops t o = some false ∧ r = .lit undef) ∨ (isAl o = true ∧ o.guard = none ∧ r = .ptr p 0 ∧ ∃ elem, o.op = .alloc elem ∧ zeroCells? P elem = some zs)
def bOp (P : Program) (C : Ctx) (ops : Array Oper) (h : List ABlk) (p ip : Nat) (zs : List Value) (i : Nat) (K : List AV → Prop) (t : List AV) : Prop :=
  match ops[i]? with
  | none => K t
  | some o => ∃ r, bYields P C ops h p zs o r t ∧ isAl o = decide (i = ip) ∧ K (putA t o.dst r)
theorem bOp_mono {i : Nat} {t : List AV} {K K' : List AV → Prop} (hk : ∀ t, K t → K' t) (hh : bOp P C ops h p ip zs i K t) : bOp P C ops h p ip zs i K' t := by
  unfold bOp at *
  split
  · exact hk _ (by simpa [*] using hh)
  · rename_i o ho
    simp only [ho] at hh
    obtain ⟨r, h1, h2, h3⟩ := hh
    exact ⟨r, h1, h2, hk _ h3⟩
def bAny (P : Program) (C : Ctx) (md : Region.Mode) (ops : Array Oper) (h : List ABlk) (p ip : Nat) (zs : List Value) (n : Nat) (L : Array Bool → List AV → Prop) : Nat → Array Bool → List AV → Prop
  | 0, listed, t => L listed t
  | f + 1, listed, t =>
    Region.ready md ops listed ≠ [] ∧ ∀ i ∈ Region.ready md ops listed, i < n ∧ bOp P C ops h p ip zs i (bAny P C md ops h p ip zs n L f (listed.setIfInBounds i true)) t
def hcur (h : List ABlk) (p ip : Nat) (zs : List Value) (listed : Array Bool) : List ABlk := if listed.getD ip false = true then h.set p (.box (zs.map .lit)) else h
theorem hcur_ne {listed : Array Bool} {i : Nat} (hi : i ≠ ip) : hcur h p ip zs (listed.setIfInBounds i true) = hcur h p ip zs listed := by
  unfold hcur
  rw [getD_set_ne false hi]
theorem hcur_or {listed : Array Bool} : hcur h p ip zs listed = h ∨ hcur h p ip zs listed = h.set p (.box (zs.map .lit)) := by
  unfold hcur
  split
  · exact .inr rfl
  · exact .inl rfl
theorem nrL_put {t : List AV} {d : Option Tmp} {r : AV} (ht : AV.nrL p t = true) (hr : AV.nr p r = true) : AV.nrL p (putA t d r) = true := by
  cases d with
  | none => exact ht
  | some d =>
    unfold putA
    simp only
    induction t generalizing d with
    | nil => exact ht
    | cons x t ih =>
      unfold AV.nrL at ht
      rw [Bool.and_eq_true] at ht
      cases d with
      | zero => unfold List.set AV.nrL; rw [hr, ht.2]; rfl
      | succ d => unfold List.set AV.nrL; rw [ht.1, ih ht.2]; rfl
theorem wpOp_of_bOp {i : Nat} {t : List AV} {a : Act} {w : World} {K : List AV → Prop} {K' : Act → World → Prop} {Q' : Exit → Act → World → Prop} {listed : Array Bool} (hp : h[p]? = some .dead) (hn : h.all (nrB p) = true) (hnt : listed.getD ip false = false → AV.nrL p t = true)
    (hip : ip < listed.size) (hr : i ∈ Region.ready md ops listed) (H : St.rel C ⟨t, hcur h p ip zs listed⟩ a w)
    (hK : ∀ t a w, K t → ((listed.setIfInBounds i true).getD ip false = false → AV.nrL p t = true) → St.rel C ⟨t, hcur h p ip zs (listed.setIfInBounds i true)⟩ a w → K' a w)
    (hh : bOp P C ops h p ip zs i K t) : wpOp P ops Q' i K' a w := by
  obtain ⟨hun, o, ho, -⟩ := mem_ready.1 hr
  unfold bOp at hh
  unfold wpOp
  simp only [ho] at hh ⊢
  obtain ⟨r, hy, hal, hk⟩ := hh
  obtain ⟨hd, S, ψ, hh', hl⟩ := id H
  have hnr : ∀ {r : AV}, i ≠ ip → AV.nr p r = true → ((listed.setIfInBounds i true).getD ip false = false → AV.nrL p (putA t o.dst r) = true) := fun hi hr hl => by
    rw [getD_set_ne false hi] at hl
    exact nrL_put (hnt hl) hr
  rcases hy with ⟨ha, hg, hq, hrn⟩ | ⟨ha, hg, rfl⟩ | ⟨ha, hgd, rfl, el, hop, hz⟩
  · have hw := gA_wanted hg hl
    rw [hw, if_pos rfl]
    have hi : i ≠ ip := fun e => by rw [ha] at hal; simp [e] at hal
    refine .inl ?_
    have hq' : Quiet P C t (hcur h p ip zs listed) o r := by
      rcases hcur_or (h := h) (p := p) (ip := ip) (zs := zs) (listed := listed) with e | e <;> rw [e]
      · exact hq
      · exact hq.up hp hrn
    exact upon_of_q (s := ⟨t, hcur h p ip zs listed⟩) hd hh' hl (hq' S ψ w a.eval hh' fun x _ => ev_rel hl x) fun a' w' h' => hK _ _ _ hk (hnr hi hrn) (by rw [hcur_ne hi]; exact h')
  · have hw := gA_wanted hg hl
    rw [hw, if_neg (by simp)]
    have hi : i ≠ ip := fun e => by rw [ha] at hal; simp [e] at hal
    exact hK _ _ _ hk (hnr hi rfl) (by rw [hcur_ne hi]; exact undef_rel H o.dst)
  · have hi : i = ip := by rw [ha] at hal; simpa using hal.symm
    subst hi
    have hw : Region.wanted o (yielded ops a.tmps) = true := by unfold Region.wanted; rw [hgd]
    rw [hw, if_pos rfl]
    refine .inl ?_
    have hun' : listed.getD i false = false := getD_both hun
    have hc0 : hcur h p i zs listed = h := by unfold hcur; rw [if_neg (by simp [hun'])]
    have hc1 : hcur h p i zs (listed.setIfInBounds i true) = h.set p (.box (zs.map .lit)) := by
      unfold hcur
      rw [if_pos (by simp [Array.getD_eq_getD_getElem?, hip])]
    rw [hc0] at hh' hl
    unfold zeroCells? at hz
    obtain ⟨z, hz1, rfl⟩ := Option.map_eq_some_iff.1 hz
    obtain ⟨ti, hti, hz2⟩ := Option.bind_eq_some_iff.1 hz1
    have hrun : (execOp a.eval o).run P w = .ok (.value (.pointer (some ⟨w.heap.size, 0, none⟩))) (w.alloc (.cells z.cells el)) := by
      simp [execOp, hop, Instr.alloc, zeroValue, typeInfo, hti, hz2, newVar, newRow]
    unfold Oper.wp
    rw [hrun]
    have hb : Below w.heap.size w (w.alloc (.cells z.cells el)) := (Below.refl _ _).alloc (Nat.le_refl _) _
    have hB : BRel C.N (w.alloc (.cells z.cells el)) S (h.set p (.box (z.cells.toList.map .lit))) (ψset ψ p (.pointer (some ⟨w.heap.size, 0, none⟩))) (.pointer (some ⟨w.heap.size, 0, none⟩)) (.box (z.cells.toList.map .lit)) :=
      ⟨w.heap.size, z.cells.toList, el, rfl, fun hN => by have := hh'.nlt _ hN; have := hh'.bel.size; omega, fun hS => by have := hh'.lt _ hS; omega, by simpa using heap_alloc_new w (.cells z.cells el), relL_lits _⟩
    have H1 := hh'.revive hp hn hb hB fun g hg => by simp [ftp, blkOf] at hg; omega
    have hl1 := AV.relL_ext (Ext.grow h ψ (fun k hk => hb.block k (hh'.lt k hk)) fun _ h => h) _ _ hl
    have hl2 := AV.relL_up (b := .box (z.cells.toList.map .lit)) (ψ' := ψset ψ p (.pointer (some ⟨w.heap.size, 0, none⟩))) (fun i hi => ψset_ne hi) _ _ (hnt hun') hl1
    refine hK _ _ _ hk (fun hl => ?_) ?_
    · simp [Array.getD_eq_getD_getElem?, hip] at hl
    · rw [hc1]
      refine ⟨by rw [put_defers, hd]; show mkD (hcur _ _ _ _ _) = mkD (h.set p _); rw [hc0]; exact (mkD_set (b' := .box (z.cells.toList.map .lit)) hp rfl).symm, S, _, H1, put_rel hl2 o.dst ?_⟩
      unfold AV.rel
      exact ⟨by simpa using (List.getElem?_eq_some_iff.1 hp).1, fun _ => ⟨w.heap.size, ψset_self, rfl⟩⟩
theorem wpAny_of_b {n g : Nat} {L : Array Bool → List AV → Prop} {Q' : Exit → Act → World → Prop} (hp : h[p]? = some .dead) (hn : h.all (nrB p) = true) (hL : ∀ listed t a w, L listed t → St.rel C ⟨t, hcur h p ip zs listed⟩ a w → wpAny P md ops Q' g listed a w) :
    ∀ (f : Nat) (listed : Array Bool) (t : List AV) (a : Act) (w : World), ip < listed.size → (listed.getD ip false = false → AV.nrL p t = true) → bAny P C md ops h p ip zs n L f listed t → St.rel C ⟨t, hcur h p ip zs listed⟩ a w → wpAny P md ops Q' (f + g) listed a w
  | 0, listed, t, a, w, _, _, hh, H => by rw [Nat.zero_add]; exact hL _ _ _ _ hh H
  | f + 1, listed, t, a, w, hip, hnt, hh, H => by
    rw [show f + 1 + g = (f + g) + 1 by omega]
    exact ⟨fun h0 => absurd h0 hh.1, fun i hi => wpOp_of_bOp hp hn hnt hip hi H (fun t' a' w' h' hnt' H' => wpAny_of_b hp hn hL f _ t' a' w' (by simpa using hip) hnt' h' H') (hh.2 i hi).2⟩
theorem bYields_put {o : Oper} {t : List AV} {dst : Option Tmp} {u r : AV} (hdst : ∀ d, dst = some d → d ∉ o.looksAt ops) : bYields P C ops h p zs o r (putA t dst u) ↔ bYields P C ops h p zs o r t := by
  unfold bYields
  rw [gA_put hdst, quiet_put hdst]
theorem bOp_put {j : Nat} {oi oj : Oper} {v : AV} (hj : ops[j]? = some oj) (hap : oi.apart ops oj = true) {K : List AV → Prop} {t : List AV} (hy : bYields P C ops h p zs oi v t) (hh : bOp P C ops h p ip zs j K (putA t oi.dst v)) :
    bOp P C ops h p ip zs j (fun t' => bYields P C ops h p zs oi v t' ∧ K (putA t' oi.dst v)) t := by
  obtain ⟨h1, h2, h3⟩ := Oper.apart_spec hap
  unfold bOp at *
  simp only [hj] at *
  obtain ⟨r, hr, ha, hk⟩ := hh
  exact ⟨r, (bYields_put h1).1 hr, ha, (bYields_put h3).2 hy, by rw [← putA_comm t v r h2]; exact hk⟩
theorem bAny_first {n i : Nat} {oi : Oper} {v : AV} {L : Array Bool → List AV → Prop} (hi : ops[i]? = some oi) (hial : isAl oi = decide (i = ip))
    (htail : ∀ listed i, HeadInv md ops n listed → i < n → listed.getD i true = false → ∀ t, n ≤ t → t ∉ Region.ready md ops listed) (hin : i < n)
    (hdone : ∀ listed t, L listed t → ∀ j ∈ Region.ready md ops listed, n ≤ j) :
    ∀ (f : Nat) (listed : Array Bool) (t : List AV), HeadInv md ops n listed →
      (∀ j oj, ops[j]? = some oj → j ≠ i → listed.getD j true = false → (∀ e ∈ oj.after, Region.binds md e = true → e.on ≠ i) → oi.apart ops oj = true) →
      i ∈ Region.ready md ops listed → bYields P C ops h p zs oi v t →
      bAny P C md ops h p ip zs n L f (listed.setIfInBounds i true) (putA t oi.dst v) → bAny P C md ops h p ip zs n L (f + 1) listed t := by
  intro f
  induction f with
  | zero =>
    intro listed t inv _ hr hy H
    have hun := (mem_ready.1 hr).1
    refine ⟨fun h => (by rw [h] at hr; cases hr), fun j hj => ?_⟩
    have hjn : j < n := by
      rcases Nat.lt_or_ge j n with h | h
      · exact h
      · exact absurd hj (htail _ i inv hin hun j h)
    refine ⟨hjn, ?_⟩
    by_cases hji : j = i
    · subst hji
      unfold bOp
      simp only [hi]
      exact ⟨v, hy, hial, H⟩
    · have := hdone _ _ H j (ready_mono hj hji)
      omega
  | succ f ih =>
    intro listed t inv hfree hr hy H
    have hun := (mem_ready.1 hr).1
    refine ⟨fun h => (by rw [h] at hr; cases hr), fun j hj => ?_⟩
    have hjn : j < n := by
      rcases Nat.lt_or_ge j n with h | h
      · exact h
      · exact absurd hj (htail _ i inv hin hun j h)
    refine ⟨hjn, ?_⟩
    by_cases hji : j = i
    · subst hji
      unfold bOp
      simp only [hi]
      exact ⟨v, hy, hial, H⟩
    · have h1 := (H.2 j (ready_mono hj hji)).2
      obtain ⟨hjun, oj, hoj, hall⟩ := mem_ready.1 hj
      have hnot : ∀ e ∈ oj.after, Region.binds md e = true → e.on ≠ i := fun e he hb heq => by
        have h1 := hall e he hb
        rw [heq, getD_both hun] at h1
        cases h1
      have h2 := bOp_put hoj (hfree j oj hoj hji hjun hnot) hy h1
      have hfree' : ∀ k ok, ops[k]? = some ok → k ≠ i → (listed.setIfInBounds j true).getD k true = false →
          (∀ e ∈ ok.after, Region.binds md e = true → e.on ≠ i) → oi.apart ops ok = true := fun k ok hk hki hun hno => by
        refine hfree k ok hk hki ?_ hno
        by_cases hjk : j = k
        · subst hjk; exact hjun
        · rw [getD_set_ne true hjk] at hun; exact hun
      refine bOp_mono (fun a' h3 => ih (listed.setIfInBounds j true) a' (inv.set hj hjn) hfree' (ready_mono hr (Ne.symm hji)) h3.1 ?_) h2
      rw [Array.setIfInBounds_comm _ _ hji]
      exact h3.2
def bQ (P : Program) (C : Ctx) (ops : Array Oper) (h : List ABlk) (p ip : Nat) (zs : List Value) (K : List AV → Prop) : Nat → List Oper → List AV → Prop
  | _, [], t => K t
  | k, o :: rest, t => ∃ r, bYields P C ops h p zs o r t ∧ isAl o = decide (k = ip) ∧ bQ P C ops h p ip zs K (k + 1) rest (putA t o.dst r)
theorem bAny_lex {n g : Nat} {Lq : List AV → Prop} (htail : ∀ listed i, HeadInv md ops n listed → i < n → listed.getD i true = false → ∀ t, n ≤ t → t ∉ Region.ready md ops listed) (hipn : ip < n) :
    ∀ (l : List Oper) (k : Nat) (listed : Array Bool) (t : List AV), (∀ j, j < l.length → l[j]? = ops[k + j]?) → k + l.length = n → HeadInv md ops n listed → (∀ j, j < k → listed.getD j false = true) →
    Region.lexHead md ops g l.length k listed = true → bQ P C ops h p ip zs Lq k l t →
    bAny P C md ops h p ip zs n (fun listed' t' => Region.seqB md ops g n listed' = true ∧ listed'.getD ip false = true ∧ Lq t') l.length listed t
  | [], k, listed, t, _, hk, _, hset, hB, hh => by
    have : k = n := by simpa using hk
    subst this
    exact ⟨by simpa [Region.lexHead] using hB, hset ip hipn, hh⟩
  | o :: l, k, listed, t, hl, hk, inv, hset, hB, hh => by
    have h0 : ops[k]? = some o := by simpa using (hl 0 (by simp)).symm
    simp only [List.length_cons, Region.lexHead, Bool.and_eq_true] at hB
    obtain ⟨⟨hr, hf⟩, hB'⟩ := hB
    have hkn : k < n := by simp only [List.length_cons] at hk; omega
    have hr' : k ∈ Region.ready md ops listed := by simpa using hr
    obtain ⟨v, hy, ha, hK⟩ := hh
    have hks : k < listed.size := by rw [inv.size]; exact (Array.getElem?_eq_some_iff.1 h0).1
    refine bAny_first h0 ha htail hkn (fun listed' a' hL => seqB_ready hL.1) l.length listed t inv (Region.free_spec h0 hf) hr' hy
      (bAny_lex htail hipn l (k + 1) _ _ (fun j hj => by have := hl (j + 1) (by simp; omega); simpa [Nat.add_assoc, Nat.add_comm 1 j] using this) (by simp only [List.length_cons] at hk; omega) (inv.set hr' hkn) (fun j hj => ?_) hB' hK)
    by_cases hjk : k = j
    · subst hjk
      simp [Array.getD_eq_getD_getElem?, hks]
    · exact getD_set_true (hset j (by omega))
end
theorem St.le_dead {C : Ctx} {t : List AV} {h : List ABlk} : St.le C ⟨t, h⟩ ⟨t, h ++ [.dead]⟩ := fun a w ⟨hd, S, ψ, H, hl⟩ => by
  have X : Ext w S h ψ w S (h ++ [.dead]) (ψset ψ h.length (.slice none 0 0)) := Ext.push _ _ fun _ _ => rfl
  exact ⟨by rw [hd]; show mkD h = mkD (h ++ [_]); rw [mkD_push]; rfl, S, _, H.push (Below.refl _ _) trivial (fun g hg => by simp [ftp, blkOf] at hg), AV.relL_ext X _ _ hl⟩
theorem Awp.drawB {P : Program} {C : Ctx} {id : Nat} {l : List Oper} {Q : Exit → St → Prop} {t : List AV} {h : List ABlk} {zs : List Value} (n ip : Nat) (hm : P.follows .mixedOrders = true) (hB : regB l.toArray n = true) (hip : decide (ip < n) = true)
    (hn : AV.nrL h.length t = true) (hnh : h.all (nrB h.length) = true)
    (hh : bQ P C l.toArray (h ++ [.dead]) h.length ip zs (fun t => aSeq P C l.toArray (Q .normal) (l.drop n) ⟨t, h ++ [.box (zs.map .lit)]⟩) 0 (l.take n) t) : Awp P C (.region id l.toArray true) Q ⟨t, h⟩ := fun a w H0 => by
  have H := St.le_dead a w H0
  have hipn : ip < n := by simpa using hip
  simp only [regB, Bool.and_eq_true, decide_eq_true_eq, Bool.or_eq_true, beq_iff_eq] at hB
  obtain ⟨⟨⟨⟨hsel, hnd⟩, hn'⟩, hs⟩, hlex⟩ := hB
  have hn'' : n ≤ l.length := by simpa using hn'
  have htl : (l.take n).length = n := by simp; omega
  have hdl : (l.drop n).length = l.toArray.size - n := by simp
  have inv0 : HeadInv .any l.toArray n (Array.replicate l.toArray.size false) :=
    ⟨by simp, fun j oj _ hl => (by rw [getD_replicate_false] at hl; cases hl), fun t _ ht => getD_in (by simpa using ht) (getD_replicate_false _ _)⟩
  have htail : ∀ (listed : Array Bool) (i : Nat), HeadInv .any l.toArray n listed → i < n → listed.getD i true = false → ∀ t, n ≤ t → t ∉ Region.ready .any l.toArray listed := by
    intro listed i inv hi hun t ht
    rcases hs with hs | ⟨hs, hc⟩
    · intro hr
      obtain ⟨_, o, ho, _⟩ := mem_ready.1 hr
      have := (Array.getElem?_eq_some_iff.1 ho).1
      omega
    · by_cases hlt : n < l.toArray.size
      · exact tail_waits hs hc hlt inv _ i rfl hi hun t ht
      · intro hr
        obtain ⟨_, o, ho, _⟩ := mem_ready.1 hr
        have := (Array.getElem?_eq_some_iff.1 ho).1
        omega
  have HH := bAny_lex (md := .any) (g := l.toArray.size - n) htail hipn (l.take n) 0 _ t (fun j hj => by
    have hj' : j < n := by rw [htl] at hj; exact hj
    simp [hj']) (by simpa using htl) inv0 (fun j hj => by omega) (by rw [htl]; exact hlex) hh
  refine fnc_region hm hnd ?_
  have hp : (h ++ [ABlk.dead])[h.length]? = some .dead := by simp
  have hna : (h ++ [ABlk.dead]).all (nrB h.length) = true := by rw [List.all_append, hnh]; rfl
  have hset : (h ++ [ABlk.dead]).set h.length (.box (zs.map .lit)) = h ++ [.box (zs.map .lit)] := by simp
  have H' : St.rel C ⟨t, hcur (h ++ [.dead]) h.length ip zs (Array.replicate l.toArray.size false)⟩ a { w with drawn := w.drawn + 1 } := by
    obtain ⟨hd, S, ψ, hh', hl⟩ := H
    have hb : Below w.heap.size w { w with drawn := w.drawn + 1 } := ⟨rfl, rfl, rfl, Nat.le_refl _, fun _ _ => rfl⟩
    have e : hcur (h ++ [.dead]) h.length ip zs (Array.replicate l.toArray.size false) = h ++ [.dead] := by unfold hcur; rw [getD_replicate_false]; rfl
    rw [e]
    exact ⟨hd, S, ψ, hh'.grow hb (fun _ h => h) (fun _ h => .inl h) hh'.lt, AV.relL_ext (show Ext w S (h ++ [.dead]) ψ { w with drawn := w.drawn + 1 } S (h ++ [.dead]) ψ from Ext.grow _ ψ (fun k hk => rfl) fun _ h => h) _ _ hl⟩
  have := wpAny_of_b (Q' := fun e a' w' => e = .normal ∧ ∃ s', Q e s' ∧ s'.rel C a' w') (g := l.toArray.size - n) hp hna (fun listed t a' w' hL H' => by
    have hc : hcur (h ++ [.dead]) h.length ip zs listed = h ++ [.box (zs.map .lit)] := by unfold hcur; rw [if_pos hL.2.1]; exact hset
    rw [hc] at H'
    have := wpAny_of_seq (md := .any) (l.drop n) n listed a' w' (fun j => by simp [List.getElem?_drop]) (by rw [hdl]; exact hL.1) (wpList_of_aSeq (Q' := fun e a' w' => e = .normal ∧ ∃ s', Q e s' ∧ s'.rel C a' w') (fun s a w h H => ⟨rfl, s, h, H⟩) _ _ _ _ hL.2.2 H')
    rwa [hdl] at this) _ _ _ _ _ (by simp; omega) (fun _ => hn) HH H'
  rw [htl, show n + (l.toArray.size - n) = l.toArray.size by omega] at this
  exact this
section
variable {P : Program} {C : Ctx} {ops : Array Oper} {h : List ABlk} {p ip k : Nat} {zs : List Value} {K : List AV → Prop} {o : Oper} {rest : List Oper} {t : List AV}
theorem Awp.drawE {id : Nat} {l : List Oper} {Q : Exit → St → Prop} (elem : TypeId) [ZC P elem zs] (n ip : Nat) (hm : P.follows .mixedOrders = true) (hB : regB l.toArray n = true) (hip : decide (ip < n) = true)
    (hn : AV.nrL h.length t = true) (hnh : h.all (nrB h.length) = true)
    (hh : bQ P C l.toArray (h ++ [.dead]) h.length ip zs (fun t => aSeq P C l.toArray (Q .normal) (l.drop n) ⟨t, h ++ [.box (zs.map .lit)]⟩) 0 (l.take n) t) : Awp P C (.region id l.toArray true) Q ⟨t, h⟩ := Awp.drawB n ip hm hB hip hn hnh hh
def BOp (P : Program) (C : Ctx) (o : Oper) (t : List AV) (h : List ABlk) (p : Nat) (K : List AV → Prop) : Prop := ∃ r, Quiet P C t h o r ∧ AV.nr p r = true ∧ K (putA t o.dst r)
theorem BOp.q {r : AV} {K : List AV → Prop} (hq : Quiet P C t h o r) (hk : AV.nr p r = true ∧ K (putA t o.dst r)) : BOp P C o t h p K := ⟨r, hq, hk.1, hk.2⟩
theorem bQ_t (ha : isAl o = false) (hi : decide (k = ip) = false) (hg : gA ops t o = some true) (hq : BOp P C o t h p (bQ P C ops h p ip zs K (k + 1) rest)) : bQ P C ops h p ip zs K k (o :: rest) t :=
  let ⟨r, h1, h2, h3⟩ := hq; ⟨r, .inl ⟨ha, hg, h1, h2⟩, by rw [ha, hi], h3⟩
theorem bQ_al {elem : TypeId} [ZC P elem zs] (ha : isAl o = true) (hi : decide (k = ip) = true) (hgd : o.guard = none) (ho : o.op = .alloc elem) (hk : bQ P C ops h p ip zs K (k + 1) rest (putA t o.dst (.ptr p 0))) : bQ P C ops h p ip zs K k (o :: rest) t := ⟨_, .inr (.inr ⟨ha, hgd, rfl, elem, ho, ZC.eq⟩), by rw [ha, hi], hk⟩
theorem bQ_nt {l : List Oper} {t' : List AV} (ht : t = t') (hk : bQ P C ops h p ip zs K k l t') : bQ P C ops h p ip zs K k l t := by subst ht; exact hk
theorem bQ_nil (hk : K t) : bQ P C ops h p ip zs K k [] t := hk
end
end Mu
end
section
/-
  Functions that take a row of the caller's, change it, and hand it back.
  Conditions: none; generic.
-/
namespace Mu
open Go Go.RowKit

def FnRow (P : Program) (f : FuncId) (e : TypeId) {α : Type} (T : Ty α) (l l' : List α) : Prop :=
  Enters P f = true ∧ ∀ (N S : Nat → Prop) (w : World) (v : Value), (∀ k, N k → k < w.heap.size) → (∀ k, S k → k < w.heap.size) → BRel N w S [] ψ0 v (.row 0 e T l) →
    Calls P f #[v] w fun x w' => ∃ v', x = .returned v' ∧ w.grownBy w' (blkOf v) ∧ BRel N w' S [] ψ0 v' (.row 0 e T l') ∧ ∀ g, blkOf v' = some g → blkOf v = some g ∨ w.heap.size ≤ g
def RetsRow (t : Tmp) (e : TypeId) {α : Type} (T : Ty α) (l' : List α) : Exit → St → Prop := fun x s => (x = .normal ∨ x = .ret) ∧ ∃ i ver, evA s.t (.tmp t) = .own i ver ∧ s.h[i]? = some (.row ver e T l') ∧ mkD s.h = []
theorem FnRow.of_awp {P : Program} {f : FuncId} {fn : Go.Func} {c : Code} {e : TypeId} {α : Type} {T : Ty α} {l l' : List α} {t : Tmp} {n : Nat} (hf : P.funcs[f]? = some fn) (hb : fn.body = some c) (hE : Enters P f = true) (hres : fn.results = #[.tmp t]) (hn : fn.ntmps = n) (hflat : ∀ w S S' cs d, T.RS w S cs d → T.RS w S' cs d)
    (h : ∀ C : Ctx, Awp P C c (RetsRow t e T l') ⟨[.own 0 0] ++ List.replicate (n - 1) (.lit undef), [.row 0 e T l]⟩) : FnRow P f e T l l' := by
  refine ⟨hE, fun N S w v hN hS hB => calls_of_wp hf hb ?_⟩
  rw [hn]
  have hlv := hB.lt rfl
  have hst : St.rel ⟨w, S, fun k => k < w.heap.size ∧ blkOf v ≠ some k, none⟩ ⟨[.own 0 0] ++ List.replicate (n - 1) (.lit undef), [.row 0 e T l]⟩ { tmps := #[v] ++ Array.replicate (n - (#[v] : Array Value).size) undef, defers := [] } w := by
    refine ⟨rfl, S, fun _ => v, ⟨Kp.refl _ _, fun k hk => hk.1, hS, fun _ h => h, fun _ h => .inl h, fun i b hi => ?_, fun i j hij hi hj => ?_⟩, ?_⟩
    · cases i with
      | zero =>
        simp only [List.getElem?_cons_zero, Option.some.injEq] at hi
        subst hi
        obtain ⟨cells, k1, k2, k3, k4⟩ := hB
        exact ⟨cells, k1, k2, k3, fun g hg => ⟨fun hc => hc.2 (ownBlock_blkOf hg), (k4 g hg).2⟩⟩
      | succ i => simp at hi
    · cases i with
      | zero => cases j with
        | zero => exact absurd rfl hij
        | succ j => simp [ABlk.live] at hj
      | succ i => simp [ABlk.live] at hi
    · simp only [Array.toList_append, Array.toList_replicate]
      refine relL_append ?_ (relL_of (by simp) fun i x u hx hu => ?_)
      · unfold AV.relL
        refine ⟨v, [], rfl, ?_, by unfold AV.relL; rfl⟩
        unfold AV.rel
        refine ⟨by simp, fun c hc => ?_⟩
        simp [ABlk.ver] at hc
        exact ⟨by omega, fun _ => rfl⟩
      · rw [List.getElem?_replicate] at hx hu
        split at hx <;> cases hx
        split at hu <;> cases hu
        unfold AV.rel
        rfl
  refine wp_mono ((h ⟨w, S, fun k => k < w.heap.size ∧ blkOf v ≠ some k, none⟩).wp rfl hst) ?_
  rintro x a' w' ⟨s, ⟨hx, i, ver, hev, hi, hmk⟩, hd, S1, ψ, H, hl⟩
  rw [hmk] at hd
  have hv := ev_rel hl (.tmp t)
  rw [hev] at hv
  unfold AV.rel at hv
  have hv' := (hv.2 _ (by rw [hi]; rfl)).2 rfl
  have hBi := H.blk i _ hi
  have hlt := hBi.lt rfl
  have hres' : (results fn a'.tmps).run P w' = .ok (a'.eval (.tmp t)) w' := results_tmp hres _ _ _
  have hg : w.grownBy w' (blkOf v) := ⟨H.bel.os, H.bel.tape, H.bel.output, H.bel.size, fun k hk hne => H.bel.block k ⟨hk, fun e => hne e.symm⟩⟩
  have hfin : ∃ v', Ending.returned (a'.eval (.tmp t)) = .returned v' ∧ w.grownBy w' (blkOf v) ∧ BRel N w' S [] ψ0 v' (.row 0 e T l') ∧ ∀ g, blkOf v' = some g → blkOf v = some g ∨ w.heap.size ≤ g := by
    have hor : ∀ g, blkOf (ψ i) = some g → blkOf v = some g ∨ w.heap.size ≤ g := fun g hgg => by
      have := (hlt g hgg).1
      by_cases hc : blkOf v = some g
      · exact .inl hc
      · exact .inr (Nat.le_of_not_lt fun h => this ⟨h, hc⟩)
    obtain ⟨cells, k1, k2, k3, k4⟩ := hBi
    rw [hv']
    refine ⟨_, rfl, hg, ⟨cells, k1, k2, ?_, fun g hgg => ?_⟩, hor⟩
    · intro j d hj
      exact hflat _ _ _ _ _ (k3 j d hj)
    · refine ⟨fun hNg => ?_, fun hSg => (k4 g hgg).2 (H.sub g hSg)⟩
      rcases hor g (ownBlock_blkOf hgg) with h1 | h1
      · exact (hlv g h1).1 hNg
      · have := hN g hNg; omega
  rcases hx with rfl | rfl
  · exact ⟨hd, _, hres', hfin⟩
  · exact ⟨hd, _, hres', hfin⟩
theorem AOp.callRow {P : Program} {C : Ctx} {o : Oper} {t : List AV} {h : List ABlk} {K : St → Prop} {f : FuncId} {x : Operand} {tys : Array TypeId} {i ver : Nat} {e : TypeId} {α : Type} {T : Ty α} {l l' : List α}
    (ho : o.op = .call { callee := .value (.func f), args := #[x], argTypes := tys }) (hF : FnRow P f e T l l') (hx : evA t x = .own i ver) (hi : h[i]? = some (.row ver e T l))
    (hK : K ⟨putA t o.dst (.own i (ver + 1)), h.set i (.row (ver + 1) e T l')⟩) : AOp P C o ⟨t, h⟩ K := by
  rintro Q' a w ⟨hd, S, ψ, H, hl⟩
  refine ⟨fun c e => (by rw [ho] at e; cases e), ?_⟩
  have hx' := ev_rel hl x
  rw [show evA (St.mk t h).t x = .own i ver from hx] at hx'
  unfold AV.rel at hx'
  have hv := (hx'.2 _ (by rw [hi]; rfl)).2 rfl
  have hBi := H.blk i _ hi
  have hlt := hBi.lt rfl
  unfold Oper.wp
  rw [run_call ho hF.1 a.eval w rfl]
  simp only [Oper.upon]
  have hc := hF.2 C.N S w (ψ i) (fun k hk => Nat.lt_of_lt_of_le (H.nlt k hk) H.bel.size) H.lt hBi
  rw [show (#[x].map a.eval) = #[ψ i] from by simp [hv]]
  refine hc.mono ?_
  rintro r w' ⟨v', rfl, hgr, hB', hor⟩
  have hblk : ∀ k, S k → w'.heap[k]? = w.heap[k]? := fun k hk => hgr.block k (H.lt k hk) fun e => (hlt k e.symm).2.2 hk
  have X : Ext w S h ψ w' S (h.set i (.row (ver + 1) e T l')) (ψset ψ i v') := Ext.set hblk hi (fun c' hc => by
    simp only [ABlk.ver, Option.some.injEq] at hc
    exact ⟨ver, rfl, by omega, fun e => by omega⟩) fun h => by simp [ABlk.isBox] at h
  refine ⟨_, hK, st_set (s := ⟨t, h⟩) hi hd hl (H.set hi rfl (Gr.of_grownBy hgr) X hB' hor) X ?_⟩
  unfold AV.rel
  refine ⟨by simp [(List.getElem?_eq_some_iff.1 hi).1], fun c' hc' => ?_⟩
  rw [List.getElem?_set_self (List.getElem?_eq_some_iff.1 hi).1] at hc'
  simp only [ABlk.ver, Option.some.injEq] at hc'
  exact ⟨by omega, fun _ => by rw [ψset_self]⟩
end Mu
end
section
/-
  Regions that draw their order, whose last operations may come in several orders.
  Conditions: none; generic.
-/
namespace Mu
open Go Go.RowKit

section
variable {P : Program} {C : Ctx} {ops : Array Oper} {md : Region.Mode} {h : List ABlk} {K : St → Prop}
def tOp (P : Program) (C : Ctx) (ops : Array Oper) (i : Nat) (K : St → Prop) (s : St) : Prop :=
  match ops[i]? with
  | none => K s
  | some o => ∃ b, gA ops s.t o = some b ∧ (b = true → AOp P C o s K) ∧ (b = false → K ⟨putA s.t o.dst (.lit undef), s.h⟩)
def tAny (P : Program) (C : Ctx) (md : Region.Mode) (ops : Array Oper) (K : St → Prop) : Nat → Array Bool → St → Prop
  | 0, listed, s => Region.ready md ops listed = [] ∧ K s
  | f + 1, listed, s => (Region.ready md ops listed = [] → K s) ∧ ∀ i ∈ Region.ready md ops listed, tOp P C ops i (tAny P C md ops K f (listed.setIfInBounds i true)) s
theorem wpOp_of_tOp {i : Nat} {s : St} {a : Act} {w : World} {K' : Act → World → Prop} {Q' : Exit → Act → World → Prop} (H : s.rel C a w) (hK : ∀ s a w, K s → s.rel C a w → K' a w) (hh : tOp P C ops i K s) : wpOp P ops Q' i K' a w := by
  unfold tOp at hh
  unfold wpOp
  split
  · rename_i ho; simp only [ho] at hh; exact hK _ _ _ hh H
  · rename_i o ho
    simp only [ho] at hh
    obtain ⟨b, hg, ht, hf⟩ := hh
    obtain ⟨_, S, ψ, _, hl⟩ := id H
    rw [gA_wanted hg hl]
    cases b with
    | true =>
      rw [if_pos rfl]
      exact .inl (Oper.wp_mono (fun a' w' ⟨s', h1, h2⟩ => hK s' a' w' h1 h2) (ht rfl Q' a w H).2)
    | false =>
      rw [if_neg (by simp)]
      exact hK _ _ _ (hf rfl) (undef_rel H o.dst)
theorem wpAny_of_tAny {Q' : Exit → Act → World → Prop} (hQ : ∀ s a w, K s → s.rel C a w → Q' .normal a w) : ∀ (f : Nat) (listed : Array Bool) (s : St) (a : Act) (w : World), tAny P C md ops K f listed s → s.rel C a w → wpAny P md ops Q' f listed a w
  | 0, _, s, a, w, hh, H => ⟨hh.1, hQ s a w hh.2 H⟩
  | f + 1, _, s, a, w, hh, H => ⟨fun h0 => hQ s a w (hh.1 h0) H, fun i hi => wpOp_of_tOp H (fun s' a' w' h' H' => wpAny_of_tAny hQ f _ s' a' w' h' H') (hh.2 i hi)⟩

def lexHd (ops : Array Oper) (n : Nat) : Nat → Nat → Array Bool → Bool
  | 0, _, listed => (Region.ready .any ops listed).all fun j => decide (n ≤ j)
  | f + 1, k, listed => (Region.ready .any ops listed).contains k && Region.free .any ops listed k && lexHd ops n f (k + 1) (listed.setIfInBounds k true)
def regT (ops : Array Oper) (n : Nat) : Bool :=
  (Region.noSelect ops && noDefer ops) && decide (n ≤ ops.size) && ((List.range ops.size).all fun t => decide (t < n) || (List.range n).all fun i => Region.waitsFor .any ops t i) && lexHd ops n n 0 (Array.replicate ops.size false)
def listedN (sz : Nat) : Nat → Array Bool
  | 0 => Array.replicate sz false
  | k + 1 => (listedN sz k).setIfInBounds k true
theorem aAny_lexT {n sz : Nat} {Lq : List AV → Prop} (htail : ∀ listed i, HeadInv .any ops n listed → i < n → listed.getD i true = false → ∀ t, n ≤ t → t ∉ Region.ready .any ops listed) :
    ∀ (l : List Oper) (k : Nat) (t : List AV), (∀ j, j < l.length → l[j]? = ops[k + j]?) → k + l.length = n → HeadInv .any ops n (listedN sz k) →
    lexHd ops n l.length k (listedN sz k) = true → aQ P C ops h Lq l t →
    aAny P C .any ops h n (fun listed' t' => (∀ j ∈ Region.ready .any ops listed', n ≤ j) ∧ listed' = listedN sz n ∧ Lq t') l.length (listedN sz k) t
  | [], k, t, _, hk, _, hB, hh => by
    have : k = n := by simpa using hk
    subst this
    exact ⟨fun j hj => of_decide_eq_true (List.all_eq_true.1 hB j hj), rfl, hh⟩
  | o :: l, k, t, hl, hk, inv, hB, hh => by
    have h0 : ops[k]? = some o := by simpa using (hl 0 (by simp)).symm
    simp only [List.length_cons, lexHd, Bool.and_eq_true] at hB
    obtain ⟨⟨hr, hf⟩, hB'⟩ := hB
    have hkn : k < n := by simp only [List.length_cons] at hk; omega
    have hr' : k ∈ Region.ready .any ops (listedN sz k) := by simpa using hr
    obtain ⟨v, hy, hK⟩ := hh
    exact aAny_first h0 htail hkn (fun listed' a' hL => hL.1) l.length _ t inv (Region.free_spec h0 hf) hr' hy
      (aAny_lexT htail l (k + 1) _ (fun j hj => by have := hl (j + 1) (by simp; omega); simpa [Nat.add_assoc, Nat.add_comm 1 j] using this) (by simp only [List.length_cons] at hk; omega) (inv.set hr' hkn) hB' hK)
end
theorem Awp.drawT {P : Program} {C : Ctx} {id : Nat} {l : List Oper} {Q : Exit → St → Prop} {s : St} (n : Nat) (hm : P.follows .mixedOrders = true) (hB : regT l.toArray n = true)
    (hh : aQ P C l.toArray s.h (fun t => tAny P C .any l.toArray (Q .normal) (l.length - n) (listedN l.length n) ⟨t, s.h⟩) (l.take n) s.t) : Awp P C (.region id l.toArray true) Q s := fun a w H => by
  simp only [regT, Bool.and_eq_true, decide_eq_true_eq] at hB
  obtain ⟨⟨⟨⟨hsel, hnd⟩, hn⟩, hs⟩, hlex⟩ := hB
  have hn' : n ≤ l.length := by simpa using hn
  have htl : (l.take n).length = n := by simp; omega
  have inv0 : HeadInv .any l.toArray n (Array.replicate l.toArray.size false) :=
    ⟨by simp, fun j oj _ hl => (by rw [getD_replicate_false] at hl; cases hl), fun t _ ht => getD_in (by simpa using ht) (getD_replicate_false _ _)⟩
  have htail : ∀ (listed : Array Bool) (i : Nat), HeadInv .any l.toArray n listed → i < n → listed.getD i true = false → ∀ t, n ≤ t → t ∉ Region.ready .any l.toArray listed := by
    intro listed i inv hi hun t ht hr
    obtain ⟨_, ot, hot, hall⟩ := mem_ready.1 hr
    have htlt : t < l.toArray.size := (Array.getElem?_eq_some_iff.1 hot).1
    have h1 := List.all_eq_true.1 hs t (List.mem_range.2 htlt)
    simp only [Bool.or_eq_true, decide_eq_true_eq] at h1
    rcases h1 with h1 | h1
    · omega
    · obtain ⟨oj, hoj, e, he, hb, hon⟩ := Region.waitsFor_spec (List.all_eq_true.1 h1 i (List.mem_range.2 hi))
      have : oj = ot := Option.some.inj (hoj.symm.trans hot)
      subst this
      have h2 := hall e he hb
      rw [hon, getD_both hun] at h2
      cases h2
  have HH := aAny_lexT (P := P) (C := C) (h := s.h) (sz := l.length) (Lq := fun t => tAny P C .any l.toArray (Q .normal) (l.length - n) (listedN l.length n) ⟨t, s.h⟩) htail (l.take n) 0 s.t (fun j hj => by
    have hj' : j < n := by rw [htl] at hj; exact hj
    simp [hj']) (by simpa using htl) (by simpa [listedN] using inv0) (by rw [htl]; simpa [listedN] using hlex) hh
  refine fnc_region hm hnd ?_
  have H' : St.rel C ⟨s.t, s.h⟩ a { w with drawn := w.drawn + 1 } := by
    obtain ⟨hd, S, ψ, hh', hl⟩ := H
    have hb : Below w.heap.size w { w with drawn := w.drawn + 1 } := ⟨rfl, rfl, rfl, Nat.le_refl _, fun _ _ => rfl⟩
    exact ⟨hd, S, ψ, hh'.grow hb (fun _ h => h) (fun _ h => .inl h) hh'.lt, AV.relL_ext (show Ext w S s.h ψ { w with drawn := w.drawn + 1 } S s.h ψ from Ext.grow s.h ψ (fun k hk => rfl) fun _ h => h) _ _ hl⟩
  have := wpAny_of_a (Q' := fun e a' w' => e = .normal ∧ ∃ s', Q e s' ∧ s'.rel C a' w') (g := l.length - n) (fun listed t a' w' hL H' => by
    rw [hL.2.1]
    exact wpAny_of_tAny (fun s a w h H => ⟨rfl, s, h, H⟩) _ _ _ _ _ hL.2.2 H') _ _ _ _ _ HH H'
  rw [htl, show n + (l.length - n) = l.toArray.size by simp; omega] at this
  exact this
section
variable {P : Program} {C : Ctx} {ops : Array Oper} {K : St → Prop} {listed : Array Bool} {g : Nat} {s : St} {t : List AV} {h : List ABlk}
def tAll (P : Program) (C : Ctx) (ops : Array Oper) (K : St → Prop) (g : Nat) (listed : Array Bool) (s : St) (rs : List Nat) : Prop := ∀ i ∈ rs, tOp P C ops i (tAny P C .any ops K g (listed.setIfInBounds i true)) s
theorem tAny_step (rs : List Nat) (hr : Region.ready .any ops listed = rs) (hne : rs ≠ []) (hh : tAll P C ops K g listed s rs) : tAny P C .any ops K (g + 1) listed s := ⟨fun h0 => absurd (hr ▸ h0) hne, hr ▸ hh⟩
theorem tAny_done (hr : Region.ready .any ops listed = []) (hh : K s) : tAny P C .any ops K 0 listed s := ⟨hr, hh⟩
theorem tAll_nil : tAll P C ops K g listed s [] := fun i hi => by cases hi
theorem tAll_cons {i : Nat} {rs : List Nat} {o : Oper} (ho : ops[i]? = some o) (hg : gA ops s.t o = some true) (h1 : AOp P C o s (tAny P C .any ops K g (listed.setIfInBounds i true))) (h2 : tAll P C ops K g listed s rs) : tAll P C ops K g listed s (i :: rs) := fun j hj => by
  rcases List.mem_cons.1 hj with rfl | hj
  · unfold tOp
    simp only [ho]
    exact ⟨true, hg, fun _ => h1, fun e => by cases e⟩
  · exact h2 j hj
end
end Mu
end
section
/-
  Regions that draw their order: some moves first, the reads in an order of one's own, the last operations in whatever order.
  Conditions: none; generic.
-/
namespace Mu
open Go Go.RowKit

section
variable {P : Program} {C : Ctx} {ops : Array Oper} {md : Region.Mode} {h : List ABlk} {Inv : Array Bool → Prop} {n : Nat}
theorem aAny_firstI {i : Nat} {oi : Oper} {v : AV} {L : Array Bool → List AV → Prop} (hset : ∀ listed i, Inv listed → i ∈ Region.ready md ops listed → i < n → Inv (listed.setIfInBounds i true)) (hi : ops[i]? = some oi)
    (htail : ∀ listed i, Inv listed → i < n → listed.getD i true = false → ∀ t, n ≤ t → t ∉ Region.ready md ops listed) (hin : i < n)
    (hdone : ∀ listed t, L listed t → ∀ j ∈ Region.ready md ops listed, n ≤ j) :
    ∀ (f : Nat) (listed : Array Bool) (t : List AV), Inv listed →
      (∀ j oj, ops[j]? = some oj → j ≠ i → listed.getD j true = false → (∀ e ∈ oj.after, Region.binds md e = true → e.on ≠ i) → oi.apart ops oj = true) →
      i ∈ Region.ready md ops listed → aYields P C ops h oi v t →
      aAny P C md ops h n L f (listed.setIfInBounds i true) (putA t oi.dst v) → aAny P C md ops h n L (f + 1) listed t := by
  intro f
  induction f with
  | zero =>
    intro listed t inv _ hr hy H
    have hun := (mem_ready.1 hr).1
    refine ⟨fun h => (by rw [h] at hr; cases hr), fun j hj => ?_⟩
    have hjn : j < n := by
      rcases Nat.lt_or_ge j n with h | h
      · exact h
      · exact absurd hj (htail _ i inv hin hun j h)
    refine ⟨hjn, ?_⟩
    by_cases hji : j = i
    · subst hji
      unfold aOp
      simp only [hi]
      exact ⟨v, hy, H⟩
    · have := hdone _ _ H j (ready_mono hj hji)
      omega
  | succ f ih =>
    intro listed t inv hfree hr hy H
    have hun := (mem_ready.1 hr).1
    refine ⟨fun h => (by rw [h] at hr; cases hr), fun j hj => ?_⟩
    have hjn : j < n := by
      rcases Nat.lt_or_ge j n with h | h
      · exact h
      · exact absurd hj (htail _ i inv hin hun j h)
    refine ⟨hjn, ?_⟩
    by_cases hji : j = i
    · subst hji
      unfold aOp
      simp only [hi]
      exact ⟨v, hy, H⟩
    · have h1 := (H.2 j (ready_mono hj hji)).2
      obtain ⟨hjun, oj, hoj, hall⟩ := mem_ready.1 hj
      have hnot : ∀ e ∈ oj.after, Region.binds md e = true → e.on ≠ i := fun e he hb heq => by
        have h1 := hall e he hb
        rw [heq, getD_both hun] at h1
        cases h1
      have h2 := aOp_put hoj (hfree j oj hoj hji hjun hnot) hy h1
      have hfree' : ∀ k ok, ops[k]? = some ok → k ≠ i → (listed.setIfInBounds j true).getD k true = false →
          (∀ e ∈ ok.after, Region.binds md e = true → e.on ≠ i) → oi.apart ops ok = true := fun k ok hk hki hun hno => by
        refine hfree k ok hk hki ?_ hno
        by_cases hjk : j = k
        · subst hjk; exact hjun
        · rw [getD_set_ne true hjk] at hun; exact hun
      refine aOp_mono (fun a' h3 => ih (listed.setIfInBounds j true) a' (hset _ _ inv hj hjn) hfree' (ready_mono hr (Ne.symm hji)) h3.1 ?_) h2
      rw [Array.setIfInBounds_comm _ _ hji]
      exact h3.2

/-- the slots' operations in an order of one's own -/
def aQo (P : Program) (C : Ctx) (ops : Array Oper) (h : List ABlk) (K : List AV → Prop) : List Nat → List AV → Prop
  | [], t => K t
  | i :: rest, t => ∃ o r, ops[i]? = some o ∧ aYields P C ops h o r t ∧ aQo P C ops h K rest (putA t o.dst r)
def setAll : List Nat → Array Bool → Array Bool
  | [], l => l
  | i :: is, l => setAll is (l.setIfInBounds i true)
def ordB (ops : Array Oper) (n : Nat) : List Nat → Array Bool → Bool
  | [], listed => (Region.ready .any ops listed).all fun j => decide (n ≤ j)
  | i :: is, listed => decide (i < n) && (Region.ready .any ops listed).contains i && Region.free .any ops listed i && ordB ops n is (listed.setIfInBounds i true)
theorem aAny_ord {Lq : List AV → Prop} (hset : ∀ listed i, Inv listed → i ∈ Region.ready .any ops listed → i < n → Inv (listed.setIfInBounds i true))
    (htail : ∀ listed i, Inv listed → i < n → listed.getD i true = false → ∀ t, n ≤ t → t ∉ Region.ready .any ops listed) :
    ∀ (l : List Nat) (listed : Array Bool) (t : List AV), Inv listed → ordB ops n l listed = true → aQo P C ops h Lq l t →
    aAny P C .any ops h n (fun listed' t' => (∀ j ∈ Region.ready .any ops listed', n ≤ j) ∧ listed' = setAll l listed ∧ Lq t') l.length listed t
  | [], listed, t, _, hB, hh => ⟨fun j hj => of_decide_eq_true (List.all_eq_true.1 hB j hj), rfl, hh⟩
  | i :: l, listed, t, inv, hB, hh => by
    obtain ⟨o, v, h0, hy, hK⟩ := hh
    simp only [ordB, Bool.and_eq_true, decide_eq_true_eq] at hB
    obtain ⟨⟨⟨hin, hr⟩, hf⟩, hB'⟩ := hB
    have hr' : i ∈ Region.ready .any ops listed := by simpa using hr
    exact aAny_firstI hset h0 htail hin (fun listed' a' hL => hL.1) l.length _ t inv (Region.free_spec h0 hf) hr' hy (aAny_ord hset htail l _ _ (hset _ _ inv hr' hin) hB' hK)

/-- moves that come first -/
def movesA (ops : Array Oper) : List Nat → List AV → Option (List AV)
  | [], t => some t
  | i :: is, t =>
    match ops[i]? with
    | some ⟨dst, .move x, _, _, _, none⟩ => movesA ops is (putA t dst (evA t x))
    | _ => none
def freeB (ops : Array Oper) : List Nat → Array Bool → Bool
  | [], _ => true
  | i :: is, listed => (Region.ready .any ops listed).contains i && Region.free .any ops listed i && freeB ops is (listed.setIfInBounds i true)
theorem wpAny_moves {Q : Exit → Act → World → Prop} (hsel : Region.noSelect ops = true) (hQ : ∀ c a w, ¬ Q (.panic c) a w) : ∀ (is : List Nat) (fuel : Nat) (listed : Array Bool) (t t' : List AV) (a : Act) (w : World), freeB ops is listed = true → movesA ops is t = some t' → St.rel C ⟨t, h⟩ a w →
    (∀ a' , St.rel C ⟨t', h⟩ a' w → wpAny P .any ops Q fuel (setAll is listed) a' w) → wpAny P .any ops Q (fuel + is.length) listed a w
  | [], fuel, listed, t, t', a, w, _, hm, H, hk => by
    cases hm
    exact hk a H
  | i :: is, fuel, listed, t, t', a, w, hB, hm, H, hk => by
    unfold movesA at hm
    split at hm <;> try (cases hm; done)
    rename_i dst x ty pos af ho
    simp only [freeB, Bool.and_eq_true] at hB
    obtain ⟨⟨hr, hf⟩, hB'⟩ := hB
    obtain ⟨hd, S, ψ, hh, hl⟩ := id H
    have hy : Yields P ops ⟨dst, .move x, ty, pos, af, none⟩ (a.eval x) a := .inl ⟨by simp [Region.wanted], fun w => by simp [execOp]⟩
    rw [show fuel + (i :: is).length = (fuel + is.length) + 1 from by simp; omega]
    refine wpAny_take ho hsel hf hr (fun c a w hq => absurd hq (hQ c _ w)) hy ?_
    exact wpAny_moves hsel hQ is fuel _ _ t' _ w hB' hm ⟨by rw [put_defers]; exact hd, S, ψ, hh, put_rel hl dst (ev_rel hl x)⟩ hk
end
def waitB (ops : Array Oper) : Nat → Nat → Nat → Bool
  | 0, _, _ => false
  | f + 1, j, i =>
    match ops[j]? with
    | some oj => oj.after.any fun e => Region.binds .any e && (e.on == i || waitB ops f e.on i)
    | none => false
theorem waitB_listed {ops : Array Oper} {n : Nat} {listed : Array Bool} (inv : HeadInv .any ops n listed) : ∀ (f j i : Nat), (∀ oj, ops[j]? = some oj → ∀ e ∈ oj.after, Region.binds .any e = true → listed.getD e.on false = true) → waitB ops f j i = true → listed.getD i false = true
  | 0, j, i, _, h => by cases h
  | f + 1, j, i, hj, h => by
    unfold waitB at h
    cases ho : ops[j]? with
    | none => rw [ho] at h; cases h
    | some oj =>
      rw [ho] at h
      obtain ⟨e, he, hb⟩ := Array.any_eq_true'.1 h
      simp only [Bool.and_eq_true, Bool.or_eq_true, beq_iff_eq] at hb
      have hl := hj oj ho e he hb.1
      rcases hb.2 with h1 | h1
      · rw [← h1]; exact hl
      · exact waitB_listed inv f e.on i (fun oj' ho' e' he' hb' => inv.closed e.on oj' ho' hl e' he' hb') h1
def regF (ops : Array Oper) (n : Nat) (fs is : List Nat) : Bool :=
  (Region.noSelect ops && noDefer ops) && decide (n ≤ ops.size) && (fs.all fun i => decide (i < n)) && freeB ops fs (Array.replicate ops.size false) && ordB ops n is (setAll fs (Array.replicate ops.size false)) && ((List.range ops.size).all fun t => decide (t < n) || (List.range n).all fun i => fs.contains i || waitB ops ops.size t i)
theorem setAll_keep : ∀ (l : List Nat) (a : Array Bool) (j : Nat), a.getD j false = true → (setAll l a).getD j false = true
  | [], _a, _j, h => h
  | _i :: l, _a, j, h => setAll_keep l _ j (getD_set_true h)
theorem setAll_mem : ∀ (l : List Nat) (a : Array Bool) (j : Nat), j ∈ l → j < a.size → (setAll l a).getD j false = true
  | [], a, j, h, _ => by cases h
  | i :: l, a, j, h, hs => by
    unfold setAll
    rcases List.mem_cons.1 h with rfl | h
    · exact setAll_keep l _ _ (by simp [Array.getD_eq_getD_getElem?, hs])
    · exact setAll_mem l _ j h (by simpa using hs)
theorem headInv_all {ops : Array Oper} {n : Nat} : ∀ (fs : List Nat) (listed : Array Bool), HeadInv .any ops n listed → (fs.all fun i => decide (i < n)) = true → freeB ops fs listed = true → HeadInv .any ops n (setAll fs listed)
  | [], listed, inv, _, _ => inv
  | i :: fs, listed, inv, hn, hB => by
    simp only [List.all_cons, Bool.and_eq_true, decide_eq_true_eq] at hn
    simp only [freeB, Bool.and_eq_true] at hB
    exact headInv_all fs _ (inv.set (by simpa using hB.1.1) hn.1) hn.2 hB.2
theorem Awp.drawF {P : Program} {C : Ctx} {id : Nat} {l : List Oper} {Q : Exit → St → Prop} {s : St} (n : Nat) (fs is : List Nat) {t1 : List AV} (hm : P.follows .mixedOrders = true) (hB : regF l.toArray n fs is = true) (hl : fs.length + is.length = n ∧ n ≤ l.length) (hmv : movesA l.toArray fs s.t = some t1)
    (hh : aQo P C l.toArray s.h (fun t => tAny P C .any l.toArray (Q .normal) (l.length - n) (setAll is (setAll fs (Array.replicate l.length false))) ⟨t, s.h⟩) is t1) : Awp P C (.region id l.toArray true) Q s := fun a w H => by
  simp only [regF, Bool.and_eq_true, decide_eq_true_eq] at hB
  obtain ⟨⟨⟨⟨⟨⟨hsel, hnd⟩, hn⟩, hfn⟩, hfree⟩, hord⟩, hs⟩ := hB
  have inv0 : HeadInv .any l.toArray n (Array.replicate l.toArray.size false) :=
    ⟨by simp, fun j oj _ hl => (by rw [getD_replicate_false] at hl; cases hl), fun t _ ht => getD_in (by simpa using ht) (getD_replicate_false _ _)⟩
  let Inv : Array Bool → Prop := fun listed => HeadInv .any l.toArray n listed ∧ ∀ j ∈ fs, listed.getD j false = true
  have hset : ∀ listed i, Inv listed → i ∈ Region.ready .any l.toArray listed → i < n → Inv (listed.setIfInBounds i true) := fun listed i inv hr hi => ⟨inv.1.set hr hi, fun j hj => getD_set_true (inv.2 j hj)⟩
  have htail : ∀ (listed : Array Bool) (i : Nat), Inv listed → i < n → listed.getD i true = false → ∀ t, n ≤ t → t ∉ Region.ready .any l.toArray listed := by
    intro listed i inv hi hun t ht hr
    obtain ⟨_, ot, hot, hall⟩ := mem_ready.1 hr
    have htlt : t < l.toArray.size := (Array.getElem?_eq_some_iff.1 hot).1
    have h1 := List.all_eq_true.1 hs t (List.mem_range.2 htlt)
    simp only [Bool.or_eq_true, decide_eq_true_eq] at h1
    rcases h1 with h1 | h1
    · omega
    · have h2 := List.all_eq_true.1 h1 i (List.mem_range.2 hi)
      simp only [Bool.or_eq_true] at h2
      rcases h2 with h2 | h2
      · have := inv.2 i (by simpa using h2)
        rw [getD_both hun] at this
        cases this
      · have h3 := waitB_listed inv.1 _ t i (fun oj hoj e he hb => by
          have : oj = ot := Option.some.inj (hoj.symm.trans hot)
          subst this
          exact hall e he hb) h2
        rw [getD_both hun] at h3
        cases h3
  have inv1 : Inv (setAll fs (Array.replicate l.toArray.size false)) := ⟨headInv_all fs _ inv0 hfn hfree, fun j hj => setAll_mem fs _ j hj (by
    have := List.all_eq_true.1 hfn j hj
    simp only [decide_eq_true_eq] at this
    simp
    omega)⟩
  have HH := aAny_ord (P := P) (C := C) (h := s.h) (Inv := Inv) (Lq := fun t => tAny P C .any l.toArray (Q .normal) (l.length - n) (setAll is (setAll fs (Array.replicate l.length false))) ⟨t, s.h⟩) hset htail is _ t1 inv1 hord hh
  have H' : St.rel C ⟨s.t, s.h⟩ a { w with drawn := w.drawn + 1 } := by
    obtain ⟨hd, S, ψ, hh', hl⟩ := H
    have hb : Below w.heap.size w { w with drawn := w.drawn + 1 } := ⟨rfl, rfl, rfl, Nat.le_refl _, fun _ _ => rfl⟩
    exact ⟨hd, S, ψ, hh'.grow hb (fun _ h => h) (fun _ h => .inl h) hh'.lt, AV.relL_ext (show Ext w S s.h ψ { w with drawn := w.drawn + 1 } S s.h ψ from Ext.grow s.h ψ (fun k hk => rfl) fun _ h => h) _ _ hl⟩
  refine fnc_region hm hnd ?_
  have key := wpAny_moves (P := P) (C := C) (h := s.h) (Q := fun e a' w' => e = .normal ∧ ∃ s', Q e s' ∧ s'.rel C a' w') hsel (fun c a w hq => by cases hq.1) fs (is.length + (l.length - n)) (Array.replicate l.toArray.size false) s.t t1 a { w with drawn := w.drawn + 1 } hfree hmv H' fun a' H'' =>
    wpAny_of_a (Q' := fun e a' w' => e = .normal ∧ ∃ s', Q e s' ∧ s'.rel C a' w') (g := l.length - n) (fun listed t a' w' hL H' => by
      rw [hL.2.1]
      have := hL.2.2
      simp only [List.size_toArray] at this ⊢
      exact wpAny_of_tAny (fun s a w h H => ⟨rfl, s, h, H⟩) _ _ _ _ _ this H') _ _ _ _ _ HH H''
  rw [show is.length + (l.length - n) + fs.length = l.toArray.size by simp; omega] at key
  exact key
section
variable {P : Program} {C : Ctx} {ops : Array Oper} {K : List AV → Prop} {h : List ABlk} {t : List AV}
theorem aQo_t {i : Nat} {is : List Nat} {o : Oper} (ho : ops[i]? = some o) (hg : gA ops t o = some true) (hq : QOp P C o t h (aQo P C ops h K is)) : aQo P C ops h K (i :: is) t := let ⟨r, h1, h2⟩ := hq; ⟨o, r, ho, .inl ⟨hg, h1⟩, h2⟩
theorem aQo_nt {l : List Nat} {t' : List AV} (ht : t = t') (hk : aQo P C ops h K l t') : aQo P C ops h K l t := by subst ht; exact hk
theorem aQo_nil (hk : K t) : aQo P C ops h K [] t := hk
end
end Mu
end
section
/-
  Memory of any form among the call's own: read, lent, turned, made; known addresses.
  Conditions: none; generic.
-/
namespace Mu
open Go Go.RowKit

section
variable {P : Program} {C : Ctx} {t : List AV} {h : List ABlk} {o : Oper}

/-- a cell within it, at a known place -/
theorem CellsOf.res {i b off : Nat} {R : Res} {rs : List AV} (hi : h[i]? = some (.res R)) (hc : AV.clL rs = true)
    (hp : ∀ w S, R.R w S → ∀ j r, rs[j]? = some r → ∃ u, w.cell? ⟨b, off + j, none⟩ = some u ∧ AV.rel w S [] ψ0 r u) : CellsOf h (.lit (.pointer (some ⟨b, off, none⟩))) rs := fun C S ψ w v H hv => by
  unfold AV.rel at hv
  refine ⟨b, off, hv, fun j y hy => ?_⟩
  obtain ⟨u, h1, h2⟩ := hp w S (H.blk i _ hi).2 j y hy
  have hcy : AV.cl y = true := by
    have : ∀ (l : List AV), AV.clL l = true → ∀ y ∈ l, AV.cl y = true := fun l => by
      induction l with
      | nil => intro _ y hy; cases hy
      | cons x l ih =>
        intro hl y hy
        unfold AV.clL at hl
        rw [Bool.and_eq_true] at hl
        rcases List.mem_cons.1 hy with rfl | hy
        · exact hl.1
        · exact ih hl.2 y hy
    exact this rs hc y (List.mem_of_getElem? hy)
  exact ⟨u, h1, AV.rel_cl _ _ hcy h2⟩
theorem Quiet.ld_res {ty : TypeId} {x : Operand} {n i b off : Nat} {R : Res} {r : AV} [AG P ty false n] (ho : o.op = .load ty x) (hx : evA t x = .lit (.pointer (some ⟨b, off, none⟩))) (hi : h[i]? = some (.res R)) (hc : AV.cl r = true)
    (hp : ∀ w S, R.R w S → ∃ u, w.cell? ⟨b, off, none⟩ = some u ∧ AV.rel w S [] ψ0 r u) : Quiet P C t h o r :=
  Quiet.load1 (cells := [r]) ho AG.eq hx (CellsOf.res (rs := [r]) hi (by unfold AV.clL; rw [hc]; rfl) fun w S hR j y hy => by
    cases j with
    | zero => cases hy; exact hp w S hR
    | succ j => cases hy) rfl
/-- an element's address in a row at a known place -/
theorem Quiet.ixl {ty : TypeId} {x y : Operand} {ik : IntKind} {k n b off len c : Nat} [ES P ty n] (ho : o.op = .indexAddr ty x y) (hx : evA t x = .lit (.slice (some ⟨b, off, none⟩) len c)) (hy : evA t y = .lit (.int ik (k : Int))) (hk : k < len) :
    Quiet P C t h o (.lit (.pointer (some ⟨b, off + k * n, none⟩))) :=
  Quiet.of_run fun S ψ w ρ H hρ => by
    have h1 := hρ x (by simp [ho, Op.operands])
    have h2 := hρ y (by simp [ho, Op.operands])
    rw [hx] at h1
    rw [hy] at h2
    unfold AV.rel at h1 h2
    have hr := run_indexAt_sl (P := P) (w := w) (b := b) (off := off) (c := c) (ik := ik) (ES.eq (P := P) (ty := ty) (n := n)) hk
    exact ⟨_, by simp [execOp, ho, h1, h2, hr]; rfl, by unfold AV.rel; rfl⟩

/-- what an operation makes of such memory: one of several outcomes -/
structure Turns {ι : Type} (w : World) (S : Nat → Prop) (F : Nat → Prop) (Rs : ι → Res) (val : ι → Value) (v : Value) (w' : World) : Prop where
  gr : Gr F w w'
  some : ∃ p, v = val p ∧ (Rs p).R w' S ∧ ∀ k, (Rs p).F k → (F k ∨ w.heap.size ≤ k) ∧ k < w'.heap.size
def tUpon {ι : Type} (P : Program) (w : World) (S : Nat → Prop) (F : Nat → Prop) (Rs : ι → Res) (val : ι → Value) : Result Next → Prop
  | .ok (.value v) w' => Turns w S F Rs val v w'
  | .ok .skip w' => Turns w S F Rs val undef w'
  | .ok (.enter f args) w1 => w1 = w ∧ Calls P f args w fun e w' => ∃ v, e = .returned v ∧ Turns w S F Rs val v w'
  | _ => False
variable {ι : Type} {Rs : ι → Res} {val : ι → Value}
theorem tUpon_noDefer {w : World} {S : Nat → Prop} {F : Nat → Prop} {ρ : Operand → Value} (hq : tUpon P w S F Rs val ((execOp ρ o).run P w)) : ∀ c, o.op ≠ .defer c := fun c e => by
  simp only [execOp, e, Sem.run_bind] at hq
  generalize (resolve ρ c o.type).run P w = x at hq
  cases x with
  | ok d w' => exact hq
  | halt x w' => exact hq
theorem upon_of_t {K : Act → World → Prop} {Q' : Exit → Act → World → Prop} {a : Act} {w : World} {S : Nat → Prop} {F : Nat → Prop} {res : Result Next} (hq : tUpon P w S F Rs val res) (hK : ∀ v w', Turns w S F Rs val v w' → K (a.put o.dst v) w') : o.upon P a K Q' res := by
  cases res with
  | ok n w' =>
    cases n <;> simp only [tUpon] at hq <;> simp only [Oper.upon]
    case value v => exact hK v w' hq
    case skip => exact hK undef w' hq
    case enter f args =>
      obtain ⟨rfl, hc⟩ := hq
      exact hc.mono fun e w'' ⟨v, he, hg⟩ => by subst he; exact hK v w'' hg
  | halt x w' => simp only [tUpon] at hq
/-- such memory is turned -/
theorem AOp.turn {i : Nat} {R : Res} {K : St → Prop} (hi : h[i]? = some (.res R)) (hm : ∀ p, (Rs p).mrk = R.mrk)
    (hq : ∀ S ψ w (ρ : Operand → Value), HRel C h S ψ w → R.R w S → (∀ g, R.F g → g < w.heap.size) → (∀ x ∈ o.op.operands, AV.rel w S h ψ (evA t x) (ρ x)) → tUpon P w S R.F Rs val ((execOp ρ o).run P w))
    (hK : ∀ p, K ⟨putA t o.dst (.lit (val p)), h.set i (.res (Rs p))⟩) : AOp P C o ⟨t, h⟩ K := by
  rintro Q' a w ⟨hd, S, ψ, H, hl⟩
  have hB := H.blk i _ hi
  have hq' := hq S ψ w a.eval H hB.2 (fun g hg => (hB.1 g hg).2.2) fun x _ => ev_rel hl x
  refine ⟨tUpon_noDefer hq', upon_of_t hq' fun v w' hT => ?_⟩
  obtain ⟨p, rfl, hR, hF⟩ := hT.some
  have hblk : ∀ k, S k → w'.heap[k]? = w.heap[k]? := fun k hk => hT.gr.block k (H.lt k hk) fun hf => (hB.1 k hf).2.1 hk
  have X : Ext w S h ψ w' S (h.set i (.res (Rs p))) (ψset ψ i (ψ i)) := Ext.set hblk hi (fun c' hc => by simp [ABlk.ver] at hc) fun h => by simp [ABlk.isBox] at h
  have hBn : BRel C.N w' S (h.set i (.res (Rs p))) (ψset ψ i (ψ i)) (ψ i) (.res (Rs p)) := ⟨fun g hg => by
    obtain ⟨h1, h2⟩ := hF g hg
    rcases h1 with h1 | h1
    · exact ⟨(hB.1 g h1).1, (hB.1 g h1).2.1, h2⟩
    · exact ⟨fun hn => by have := H.nlt g hn; have := H.bel.size; omega, fun hs => by have := H.lt g hs; omega, h2⟩, hR⟩
  exact ⟨_, hK p, st_set (s := ⟨t, h⟩) hi hd hl (H.set hi rfl hT.gr X hBn fun g hg => (hF g hg).1) X (by unfold AV.rel; rfl) (by show (Rs p).mrk.map mark = R.mrk.map mark; rw [hm p])⟩
/-- such memory is made -/
theorem AOp.make_res {K : St → Prop} (hm : ∀ p, (Rs p).mrk = [])
    (hq : ∀ S ψ w (ρ : Operand → Value), HRel C h S ψ w → (∀ x ∈ o.op.operands, AV.rel w S h ψ (evA t x) (ρ x)) → tUpon P w S (fun _ => False) Rs val ((execOp ρ o).run P w))
    (hK : ∀ p, K ⟨putA t o.dst (.lit (val p)), h ++ [.res (Rs p)]⟩) : AOp P C o ⟨t, h⟩ K := by
  rintro Q' a w ⟨hd, S, ψ, H, hl⟩
  have hq' := hq S ψ w a.eval H fun x _ => ev_rel hl x
  refine ⟨tUpon_noDefer hq', upon_of_t hq' fun v w' hT => ?_⟩
  obtain ⟨p, rfl, hR, hF⟩ := hT.some
  have hb : Below w.heap.size w w' := ⟨hT.gr.os, hT.gr.tape, hT.gr.output, hT.gr.size, fun k hk => hT.gr.block k hk fun h => h⟩
  have X : Ext w S h ψ w' S (h ++ [.res (Rs p)]) (ψset ψ h.length (val p)) := Ext.push _ _ fun k hk => hb.block k (H.lt k hk)
  have hBn : BRel C.N w' S (h ++ [.res (Rs p)]) (ψset ψ h.length (val p)) (val p) (.res (Rs p)) := ⟨fun g hg => by
    obtain ⟨h1, h2⟩ := hF g hg
    rcases h1 with h1 | h1
    · exact h1.elim
    · exact ⟨fun hn => by have := H.nlt g hn; have := H.bel.size; omega, fun hs => by have := H.lt g hs; omega, h2⟩, hR⟩
  exact ⟨_, hK p, st_push (s := ⟨t, h⟩) hd hl (H.push hb hBn fun g hg => by
    rcases (hF g hg).1 with h1 | h1
    · exact h1.elim
    · exact h1) X (by unfold AV.rel; rfl) (by show (Rs p).mrk.map mark = []; rw [hm p]; rfl)⟩

/-- a contract whose result is such memory, made -/
def FnNew (P : Program) (f : FuncId) (args : List AV) (Rs : ι → Res) (val : ι → Value) : Prop :=
  Enters P f = true ∧ ∀ (w : World) (S : Nat → Prop) (vs : List Value), (∀ k, S k → k < w.heap.size) → AV.relL w S [] ψ0 args vs →
    Calls P f vs.toArray w fun e w' => ∃ v, e = .returned v ∧ Turns w S (fun _ => False) Rs val v w'
theorem AOp.callNew {f : FuncId} {args : Array Operand} {tys : Array TypeId} {xs : List AV} {K : St → Prop}
    (ho : o.op = .call { callee := .value (.func f), args := args, argTypes := tys }) (hF : FnNew P f xs Rs val) (hm : ∀ p, (Rs p).mrk = []) (hx : args.toList.map (evA t) = xs) (hc : AV.clL xs = true)
    (hK : ∀ p, K ⟨putA t o.dst (.lit (val p)), h ++ [.res (Rs p)]⟩) : AOp P C o ⟨t, h⟩ K := by
  refine AOp.make_res hm (fun S ψ w ρ H hρ => ?_) hK
  have h1 : ρ (.func f) = .func (.func f) #[] #[] := by
    have := hρ (.func f) (by rw [ho]; exact Array.mem_append.2 (.inl (by simp)))
    simpa [evA, AV.rel] using this
  rw [run_call ho hF.1 ρ w h1]
  refine ⟨rfl, ?_⟩
  have h2 : AV.relL w S h ψ xs (args.toList.map ρ) := by
    rw [← hx]
    exact relL_map fun x hx' => hρ x (by rw [ho]; exact Array.mem_append.2 (.inr (Array.mem_toList_iff.1 hx')))
  rw [show (args.map ρ) = (args.toList.map ρ).toArray from (by rw [← Array.toList_map])]
  exact hF.2 w S (args.toList.map ρ) H.lt (AV.relL_cl _ _ hc h2)
/-- a contract that reads such memory and makes another one -/
def FnRNew (P : Program) (f : FuncId) (R : Res) (args : List AV) (Rs : ι → Res) (val : ι → Value) : Prop :=
  Enters P f = true ∧ ∀ (w : World) (S : Nat → Prop) (vs : List Value), (∀ k, S k → k < w.heap.size) → (∀ g, R.F g → g < w.heap.size) → R.R w S → AV.relL w S [] ψ0 args vs →
    Calls P f vs.toArray w fun e w' => ∃ v, e = .returned v ∧ Turns w S (fun _ => False) Rs val v w'
theorem AOp.callRNew {i : Nat} {R : Res} {f : FuncId} {args : Array Operand} {tys : Array TypeId} {xs : List AV} {K : St → Prop} (hi : h[i]? = some (.res R))
    (ho : o.op = .call { callee := .value (.func f), args := args, argTypes := tys }) (hF : FnRNew P f R xs Rs val) (hm : ∀ p, (Rs p).mrk = []) (hx : args.toList.map (evA t) = xs) (hc : AV.clL xs = true)
    (hK : ∀ p, K ⟨putA t o.dst (.lit (val p)), h ++ [.res (Rs p)]⟩) : AOp P C o ⟨t, h⟩ K := by
  refine AOp.make_res hm (fun S ψ w ρ H hρ => ?_) hK
  have h1 : ρ (.func f) = .func (.func f) #[] #[] := by
    have := hρ (.func f) (by rw [ho]; exact Array.mem_append.2 (.inl (by simp)))
    simpa [evA, AV.rel] using this
  rw [run_call ho hF.1 ρ w h1]
  refine ⟨rfl, ?_⟩
  have h2 : AV.relL w S h ψ xs (args.toList.map ρ) := by
    rw [← hx]
    exact relL_map fun x hx' => hρ x (by rw [ho]; exact Array.mem_append.2 (.inr (Array.mem_toList_iff.1 hx')))
  rw [show (args.map ρ) = (args.toList.map ρ).toArray from (by rw [← Array.toList_map])]
  have hB := H.blk i _ hi
  exact hF.2 w S (args.toList.map ρ) H.lt (fun g hg => (hB.1 g hg).2.2) hB.2 (AV.relL_cl _ _ hc h2)
/-- a contract that turns such memory -/
def FnTurn (P : Program) (f : FuncId) (R : Res) (args : List AV) (Rs : ι → Res) (val : ι → Value) : Prop :=
  Enters P f = true ∧ ∀ (w : World) (S : Nat → Prop) (vs : List Value), (∀ k, S k → k < w.heap.size ∧ ¬ R.F k) → (∀ g, R.F g → g < w.heap.size) → R.R w S → AV.relL w S [] ψ0 args vs →
    Calls P f vs.toArray w fun e w' => ∃ v, e = .returned v ∧ Turns w S R.F Rs val v w'
theorem AOp.callTurn {i : Nat} {R : Res} {f : FuncId} {args : Array Operand} {tys : Array TypeId} {xs : List AV} {K : St → Prop} (hi : h[i]? = some (.res R))
    (ho : o.op = .call { callee := .value (.func f), args := args, argTypes := tys }) (hF : FnTurn P f R xs Rs val) (hm : ∀ p, (Rs p).mrk = R.mrk) (hx : args.toList.map (evA t) = xs) (hc : AV.clL xs = true)
    (hK : ∀ p, K ⟨putA t o.dst (.lit (val p)), h.set i (.res (Rs p))⟩) : AOp P C o ⟨t, h⟩ K := by
  refine AOp.turn hi hm (fun S ψ w ρ H hR hlt hρ => ?_) hK
  have h1 : ρ (.func f) = .func (.func f) #[] #[] := by
    have := hρ (.func f) (by rw [ho]; exact Array.mem_append.2 (.inl (by simp)))
    simpa [evA, AV.rel] using this
  rw [run_call ho hF.1 ρ w h1]
  refine ⟨rfl, ?_⟩
  have h2 : AV.relL w S h ψ xs (args.toList.map ρ) := by
    rw [← hx]
    exact relL_map fun x hx' => hρ x (by rw [ho]; exact Array.mem_append.2 (.inr (Array.mem_toList_iff.1 hx')))
  rw [show (args.map ρ) = (args.toList.map ρ).toArray from (by rw [← Array.toList_map])]
  exact hF.2 w S (args.toList.map ρ) (fun k hk => ⟨H.lt k hk, fun hf => ((H.blk i _ hi).1 k hf).2.1 hk⟩) hlt hR (AV.relL_cl _ _ hc h2)

/-- what is known of such memory is weakened -/
theorem St.le_res {i : Nat} {R R' : Res} (hi : h[i]? = some (.res R)) (hF : ∀ g, R'.F g → R.F g) (hR : ∀ w S, R.R w S → R'.R w S) (hm : R'.mrk = R.mrk) : St.le C ⟨t, h⟩ ⟨t, h.set i (.res R')⟩ := fun a w ⟨hd, S, ψ, H, hl⟩ => by
  have hB := H.blk i _ hi
  have X : Ext w S h ψ w S (h.set i (.res R')) (ψset ψ i (ψ i)) := Ext.set (fun _ _ => rfl) hi (fun c' hc => by simp [ABlk.ver] at hc) fun h => by simp [ABlk.isBox] at h
  refine ⟨by rw [hd]; exact (mkD_set hi (by show R'.mrk.map mark = R.mrk.map mark; rw [hm])).symm, S, _, H.set (v' := ψ i) hi rfl ⟨rfl, rfl, rfl, Nat.le_refl _, fun _ _ _ => rfl⟩ X ⟨fun g hg => hB.1 g (hF g hg), hR w S hB.2⟩ fun g hg => .inl (hF g hg), AV.relL_ext X _ _ hl⟩
/-- two such memories are taken as one -/
theorem St.le_merge {i j : Nat} {R1 R2 R : Res} (hij : i ≠ j) (hi : h[i]? = some (.res R1)) (hj : h[j]? = some (.res R2)) (h1 : R1.mrk = []) (h2 : R2.mrk = []) (h3 : R.mrk = []) (hF : ∀ g, R.F g → R1.F g ∨ R2.F g)
    (hR : ∀ w S, R1.R w S → R2.R w S → (∀ g, R1.F g → ¬ R2.F g) → R.R w S) : St.le C ⟨t, h⟩ ⟨t, (h.set j .dead).set i (.res R)⟩ := fun a w ⟨hd, S, ψ, H, hl⟩ => by
  have hB1 := H.blk i _ hi
  have hB2 := H.blk j _ hj
  have hil := (List.getElem?_eq_some_iff.1 hi).1
  have hjl := (List.getElem?_eq_some_iff.1 hj).1
  have hdis : ∀ g, R1.F g → ¬ R2.F g := fun g k1 k2 => H.dis i j hij (by rw [hi]; rfl) (by rw [hj]; rfl) g (by rw [hi]; exact k1) (by rw [hj]; exact k2)
  have X1 : Ext w S h ψ w S (h.set j .dead) (ψset ψ j (ψ j)) := Ext.set (fun _ _ => rfl) hj (fun c' hc => by simp [ABlk.ver] at hc) fun h => by simp [ABlk.isBox] at h
  have hi' : (h.set j .dead)[i]? = some (.res R1) := by rw [List.getElem?_set_ne (Ne.symm hij)]; exact hi
  have X2 : Ext w S (h.set j .dead) (ψset ψ j (ψ j)) w S ((h.set j .dead).set i (.res R)) (ψset (ψset ψ j (ψ j)) i (ψset ψ j (ψ j) i)) := Ext.set (fun _ _ => rfl) hi' (fun c' hc => by simp [ABlk.ver] at hc) fun h => by simp [ABlk.isBox] at h
  have e : ∀ (φ : Nat → Value) k, ψset φ k (φ k) = φ := fun φ k => funext fun q => by unfold ψset; split <;> simp_all
  rw [e] at X1
  rw [e, e] at X2
  have X : Ext w S h ψ w S ((h.set j .dead).set i (.res R)) ψ := ⟨fun _ _ => rfl, fun _ h => h, by simp, fun k c' hk hv => by
    obtain ⟨c1, k1, k2, k3⟩ := X2.ver k c' (by simpa using hk) hv
    obtain ⟨c2, k4, k5, k6⟩ := X1.ver k c1 hk k1
    exact ⟨c2, k4, by omega, fun e' => ⟨rfl, by rw [(k3 (by omega)).2, (k6 (by omega)).2]⟩⟩, fun k hk hv => ⟨(X1.box k hk (X2.box k (by simpa using hk) hv).1).1, rfl⟩⟩
  have hget : ∀ k b, ((h.set j .dead).set i (.res R))[k]? = some b → (k = i ∧ b = .res R) ∨ (k = j ∧ b = .dead) ∨ (k ≠ i ∧ k ≠ j ∧ h[k]? = some b) := fun k b hb => by
    by_cases hki : k = i
    · subst hki
      rw [List.getElem?_set_self (by simpa using hil)] at hb
      cases hb
      exact .inl ⟨rfl, rfl⟩
    · rw [List.getElem?_set_ne (Ne.symm hki)] at hb
      by_cases hkj : k = j
      · subst hkj
        rw [List.getElem?_set_self hjl] at hb
        cases hb
        exact .inr (.inl ⟨rfl, rfl⟩)
      · rw [List.getElem?_set_ne (Ne.symm hkj)] at hb
        exact .inr (.inr ⟨hki, hkj, hb⟩)
  refine ⟨?_, S, ψ, ⟨H.bel, H.nlt, H.lt, H.sub, H.new, fun k b hb => ?_, fun k q hkq hk hq g g1 g2 => ?_⟩, AV.relL_ext X _ _ hl⟩
  · rw [hd]
    show mkD h = _
    rw [mkD_set hi' (by show R.mrk.map mark = R1.mrk.map mark; rw [h1, h3]), mkD_set hj (by show [] = R2.mrk.map mark; rw [h2]; rfl)]
  · rcases hget k b hb with ⟨rfl, rfl⟩ | ⟨rfl, rfl⟩ | ⟨_, _, hb⟩
    · exact ⟨fun g hg => (hF g hg).elim (hB1.1 g) (hB2.1 g), hR w S hB1.2 hB2.2 hdis⟩
    · trivial
    · exact (H.blk k b hb).keep X fun g _ => ⟨rfl, fun h => h⟩
  · have key : ∀ k, ABlk.live ((h.set j .dead).set i (.res R))[k]? = true → ftp ((h.set j .dead).set i (.res R))[k]? (ψ k) g → (k = i ∧ (R1.F g ∨ R2.F g)) ∨ (k ≠ i ∧ k ≠ j ∧ ABlk.live h[k]? = true ∧ ftp h[k]? (ψ k) g) := fun k k1 k2 => by
      obtain ⟨b, hb⟩ := live_some k1
      rw [hb] at k1 k2
      rcases hget k b hb with ⟨rfl, rfl⟩ | ⟨rfl, rfl⟩ | ⟨q1, q2, hb'⟩
      · exact .inl ⟨rfl, hF g k2⟩
      · cases k1
      · exact .inr ⟨q1, q2, by rw [hb']; exact k1, by rw [hb']; exact k2⟩
    have no : ∀ k, k ≠ i → k ≠ j → ABlk.live h[k]? = true → ftp h[k]? (ψ k) g → (R1.F g ∨ R2.F g) → False := fun k q1 q2 q3 q4 q5 => by
      rcases q5 with q5 | q5
      · exact H.dis k i q1 q3 (by rw [hi]; rfl) g q4 (by rw [hi]; exact q5)
      · exact H.dis k j q2 q3 (by rw [hj]; rfl) g q4 (by rw [hj]; exact q5)
    rcases key k hk g1 with ⟨e1, f1⟩ | ⟨a1, a2, a3, a4⟩ <;> rcases key q hq g2 with ⟨e2, f2⟩ | ⟨b1, b2, b3, b4⟩
    · exact hkq (e1.trans e2.symm)
    · exact no q b1 b2 b3 b4 f1
    · exact no k a1 a2 a3 a4 f2
    · exact H.dis k q hkq a3 b3 g a4 b4
end
end Mu
end
section
/-
  A range over a function, over abstract states.
  Conditions: outermost; the rounds end normally; what the slots name lies at known places.
-/
namespace Mu
open Go Go.RowKit

/-- an iterator's contract: its k-th yield gives what encs k allows -/
def IterK (P : Program) (gf : FuncId) (lb : Array Value) (Sg : Nat → Prop) (W0 : World) (encs : Nat → List Value → Prop) (N : Nat) : Prop :=
  ∀ (l : Nat) (J : Nat → World → Prop) (W : World), KS Sg W0 W →
    (∀ k vs W1, k < N → encs k vs → J k W1 → YieldAt Fence.wide 2 P l vs.toArray W1 fun e W' => e = .returned (.bool true) ∧ J (k + 1) W' ∧ KS Sg W1 W') →
    J 0 W → CallsIn Fence.wide 3 P gf (#[.func (.yield l) #[] #[]] ++ lb) W fun e W' => (∃ v, e = .returned v) ∧ J N W'

/-- the marks of loops that are over -/
def marksR (ds : List Nat) : Res := ⟨ds, fun g => g ∈ ds, fun w _ => ds.Nodup ∧ ∀ d ∈ ds, w.heap[d]? = some (.deferred (some [])), fun h hk _ _ => ⟨h.1, fun d hd => (hk d hd).trans (h.2 d hd)⟩⟩

def owns (h : List ABlk) (ψ : Nat → Value) (g : Nat) : Prop := ∃ j, ABlk.live h[j]? = true ∧ ftp h[j]? (ψ j) g

section
variable {C : Ctx} {h h' : List ABlk} {S : Nat → Prop} {ψ : Nat → Value} {w w' W W' : World} {N N' : Nat → Prop}
theorem BRel.re {b : ABlk} {v : Value} (H : BRel N w S h ψ v b) (hn : ∀ g, ftp (some b) v g → ABlk.live (some b) = true → ¬ N' g) : BRel N' w S h ψ v b := by
  cases b with
  | dead => trivial
  | box cells =>
    obtain ⟨g, cs, e, rfl, h1, h2, h3, h4⟩ := H
    exact ⟨g, cs, e, rfl, hn g rfl rfl, h2, h3, h4⟩
  | row ver e T l =>
    obtain ⟨cells, h1, h0, h2, h3⟩ := H
    exact ⟨cells, h1, h0, h2, fun g hg => ⟨hn g (ownBlock_blkOf hg) rfl, (h3 g hg).2⟩⟩
  | res R => exact ⟨fun g hg => ⟨hn g hg rfl, (H.1 g hg).2⟩, H.2⟩
theorem HRel.own_lt (H : HRel C h S ψ w) {g : Nat} (hg : owns h ψ g) : ¬ C.N g ∧ g < w.heap.size ∧ ¬ S g := by
  obtain ⟨j, h1, h2⟩ := hg
  obtain ⟨b, hb⟩ := live_some h1
  rw [hb] at h1 h2
  exact (H.blk j b hb).lt h1 g h2
/-- another frame for the same memory -/
theorem HRel.re (H : HRel C h S ψ W) (hS : ∀ k, S k → W'.heap[k]? = W.heap[k]?) (hO : ∀ k, owns h ψ k → W'.heap[k]? = W.heap[k]?) (N' : Nat → Prop) (hN : ∀ k, N' k → k < W'.heap.size ∧ ¬ owns h ψ k) (rd : Option Nat) : HRel ⟨W', S, N', rd⟩ h S ψ W' := by
  refine ⟨Kp.refl _ _, fun k hk => (hN k hk).1, fun k hk => ?_, fun _ h => h, fun _ h => .inl h, fun i b hi => ?_, H.dis⟩
  · have h1 := hS k hk
    rw [Array.getElem?_eq_getElem (H.lt k hk)] at h1
    exact (Array.getElem?_eq_some_iff.1 h1).1
  · by_cases hl : ABlk.live (some b) = true
    · have hown : ∀ g, ftp (some b) (ψ i) g → owns h ψ g := fun g hg => ⟨i, by rw [hi]; exact hl, by rw [hi]; exact hg⟩
      exact BRel.re ((H.blk i b hi).keep (Ext.grow h ψ hS fun _ h => h) fun g hg => ⟨hO g (hown g hg), fun h => h⟩) fun g hg _ hn => (hN g hn).2 (hown g hg)
    · cases b <;> simp [ABlk.live] at hl
      trivial
/-- back to the frame of the call -/
theorem HRel.to {C' : Ctx} (H : HRel C' h S ψ W) (hbel : Kp C.N C.w0 W) (hnlt : ∀ k, C.N k → k < C.w0.heap.size) (hsub : ∀ k, C.S0 k → S k) (hnew : ∀ k, S k → C.S0 k ∨ C.w0.heap.size ≤ k) (hown : ∀ g, owns h ψ g → ¬ C.N g) : HRel C h S ψ W :=
  ⟨hbel, hnlt, H.lt, hsub, hnew, fun i b hi => (H.blk i b hi).re fun g hg hl => hown g ⟨i, by rw [hi]; exact hl, by rw [hi]; exact hg⟩, H.dis⟩
theorem HRel.cut (H : HRel C h S ψ w) (hc : Cut h h') (hb : ∀ b ∈ h', boxBd h'.length b = true) : HRel C h' S ψ w := by
  refine ⟨H.bel, H.nlt, H.lt, H.sub, H.new, fun i b hi => ?_, fun i j hij h1 h2 => by rw [hc.same h1, hc.same h2]; exact H.dis i j hij (hc.live h1) (hc.live h2)⟩
  rcases hc.blk i b hi with rfl | h1
  · trivial
  · have hB := H.blk i b h1
    cases b with
    | dead => trivial
    | box cells =>
      obtain ⟨g, cs, e, k1, k2, k3, k4, k5⟩ := hB
      exact ⟨g, cs, e, k1, k2, k3, k4, AV.relL_cut hc _ _ (hb _ (List.mem_of_getElem? hi)) k5⟩
    | row ver e T l => exact hB
    | res R => exact hB
theorem owns_cut (hc : Cut h h') {g : Nat} (hg : owns h' ψ g) : owns h ψ g := by
  obtain ⟨j, h1, h2⟩ := hg
  exact ⟨j, hc.live h1, by rw [← hc.same h1]; exact h2⟩
theorem HRel.rise {p : Nat} {R : Res} (H : HRel C h S ψ w) (hp : h[p]? = some .dead) (hR : R.R w S) (hF : ∀ g, R.F g → ¬ C.N g ∧ ¬ S g ∧ g < w.heap.size ∧ ¬ owns h ψ g) : HRel C (h.set p (.res R)) S ψ w := by
  have hpl := (List.getElem?_eq_some_iff.1 hp).1
  have X : Ext w S h ψ w S (h.set p (.res R)) (ψset ψ p (ψ p)) := Ext.set (fun _ _ => rfl) hp (fun c' hc => by simp [ABlk.ver] at hc) fun h => by simp [ABlk.isBox] at h
  have e : ψset ψ p (ψ p) = ψ := funext fun j => by unfold ψset; split <;> simp_all
  rw [e] at X
  refine ⟨H.bel, H.nlt, H.lt, H.sub, H.new, fun i b hi => ?_, fun i j hij hi hj g h1 h2 => ?_⟩
  · by_cases hip : i = p
    · subst hip
      rw [List.getElem?_set_self hpl] at hi
      cases hi
      exact ⟨fun g hg => ⟨(hF g hg).1, (hF g hg).2.1, (hF g hg).2.2.1⟩, hR⟩
    · rw [List.getElem?_set_ne (Ne.symm hip)] at hi
      exact (H.blk i b hi).keep X fun g _ => ⟨rfl, fun h => h⟩
  · have key : ∀ j, j ≠ p → ABlk.live (h.set p (.res R))[j]? = true → ftp (h.set p (.res R))[j]? (ψ j) g → owns h ψ g := fun j hj h1 h2 => by
      rw [List.getElem?_set_ne (Ne.symm hj)] at h1 h2
      exact ⟨j, h1, h2⟩
    by_cases hip : i = p
    · subst hip
      rw [List.getElem?_set_self hpl] at h1
      exact (hF g h1).2.2.2 (key j (Ne.symm hij) hj h2)
    · by_cases hjp : j = p
      · subst hjp
        rw [List.getElem?_set_self hpl] at h2
        exact (hF g h2).2.2.2 (key i hip hi h1)
      · rw [List.getElem?_set_ne (Ne.symm hip)] at h1 hi
        rw [List.getElem?_set_ne (Ne.symm hjp)] at h2 hj
        exact H.dis i j hij hi hj g h1 h2
theorem mkD_rise {h : List ABlk} {p : Nat} {R : Res} (hp : h[p]? = some .dead) (hm : mkD h = []) : mkD (h.set p (.res R)) = R.mrk.map mark := by
  induction h generalizing p with
  | nil => simp at hp
  | cons c h ih =>
    simp only [mkD, List.append_eq_nil_iff] at hm
    cases p with
    | zero => simp [mkD, hm.1, ABlk.mrk]
    | succ p =>
      simp only [List.set_cons_succ, mkD]
      rw [ih (by simpa using hp) hm.1, hm.2, List.append_nil]
end

/-- the slots of a round -/
def putAll (t : List AV) (ps : List Tmp) (es : List AV) : List AV := (ps.zip es).foldl (fun t p => t.set p.1 p.2) t
theorem putAll_rel {w : World} {S : Nat → Prop} {h : List ABlk} {ψ : Nat → Value} : ∀ (ps : List Tmp) (es : List AV) (vs : List Value) (t : List AV) (tmps : Array Value), AV.relL w S h ψ es vs → AV.relL w S h ψ t tmps.toList →
    AV.relL w S h ψ (putAll t ps es) ((ps.zip vs).foldl (fun (t : Array Value) p => t.setIfInBounds p.1 p.2) tmps).toList
  | [], es, vs, t, tmps, _, ht => ht
  | p :: ps, [], vs, t, tmps, he, ht => by
    unfold AV.relL at he
    subst he
    exact ht
  | p :: ps, x :: es, vs, t, tmps, he, ht => by
    unfold AV.relL at he
    obtain ⟨v, vs', rfl, h1, h2⟩ := he
    exact putAll_rel ps es vs' (t.set p x) (tmps.setIfInBounds p v) h2 (by rw [Array.toList_setIfInBounds]; exact relL_set ht p h1)

/-- the memory of a round comes to that of the next one -/
structure Drops (h h' : List ABlk) : Prop where
  cut : Cut h h'
  bd : ∀ b ∈ h', boxBd h'.length b = true
/-- what a round must come to -/
def roundEnd (h' : List ABlk) : Exit → St → Prop := fun e s => e = .normal ∧ Drops s.h h'
def roundBody (P : Program) (body : Code) (h' : List ABlk) (s1 : St) : Prop := ∀ C' : Ctx, C'.rd.isSome = true → Awp P C' body (roundEnd h') s1

/-- between two rounds -/
structure Between (PN own0 S : Nat → Prop) (w : World) (rec_ : Loop) (hk : List ABlk) (W : World) : Prop where
  loop : W.heap[w.heap.size + 1]? = some (.loop rec_)
  dfr : W.heap[w.heap.size]? = some (.deferred (some []))
  kp : Kp PN w W
  st : ∃ Sk ψk, HRel ⟨W, Sk, fun _ => False, none⟩ hk Sk ψk W ∧ (∀ g, S g → Sk g) ∧ (∀ g, Sk g → S g ∨ w.heap.size + 2 ≤ g) ∧ ∀ g, owns hk ψk g → own0 g ∨ w.heap.size + 2 ≤ g

section
variable {P : Program}
theorem round_ok {PN own0 S : Nat → Prop} {w W : World} {t es : List AV} {hk hk1 : List ABlk} {ps : Array Tmp} {vs : List Value} {tmps : Array Value} {assign body : Code} {fn : FuncId} {rec_ : LoopState → Loop}
    (hst : ∀ x y, ({ rec_ x with state := y } : Loop) = rec_ y) (hrst : (rec_ .ready).state = .ready) (hpe : ∀ x, (rec_ x).pending = none)
    (hP0 : ∀ g, PN g → g < w.heap.size ∧ ¬ own0 g) (ho0 : ∀ g, own0 g → g < w.heap.size) (hS0 : ∀ g, S g → g < w.heap.size)
    (ht : AV.clL t = true) (hes : AV.clL es = true) (htr : AV.relL w S [] ψ0 t tmps.toList) (hSP : ∀ g, S g → PN g) (hev : AV.relL w S [] ψ0 es vs) (hm : mkD hk = [])
    (hB : Between PN own0 S w (rec_ .ready) hk W)
    (hA : ∀ C' : Ctx, C'.rd.isSome = true → Awp P C' assign (athen (roundBody P body hk1) (fun _ _ => False)) ⟨putAll t ps.toList es, hk⟩) :
    RoundIn Fence.wide 2 P (w.heap.size + 1) fn ((ps.toList.zip vs).foldl (fun t p => t.setIfInBounds p.1 p.2) tmps) assign body W fun e W' => e = .returned (.bool true) ∧ Between PN own0 S w (rec_ .ready) hk1 W' ∧ Kp PN W W' := by
  obtain ⟨hl, hD, hkp, Sk, ψk, H, hs1, hs2, hs3⟩ := hB
  have hlW : w.heap.size + 1 < W.heap.size := (Array.getElem?_eq_some_iff.1 hl).1
  have hkp' := hkp
  have hSk : ∀ k, S k → W.heap[k]? = w.heap[k]? := fun k hk => hkp.block k (hSP k hk)
  let N1 : Nat → Prop := fun g => g < W.heap.size ∧ ¬ owns hk ψk g
  have hPN1 : ∀ g, PN g → N1 g := fun g hg => ⟨Nat.lt_of_lt_of_le (hP0 g hg).1 hkp.size, fun ho => by
    rcases hs3 g ho with h1 | h1
    · exact (hP0 g hg).2 h1
    · have := (hP0 g hg).1; omega⟩
  have hlD : ∀ g, (g = w.heap.size ∨ g = w.heap.size + 1) → N1 g := fun g hg => ⟨by omega, fun ho => by
    rcases hs3 g ho with h1 | h1
    · have := ho0 g h1; omega
    · omega⟩
  have H1 := H.re (W' := W) (fun _ _ => rfl) (fun _ _ => rfl) N1 (fun _ h => h) (some (w.heap.size + 1))
  refine roundIn_of_wpIn trivial ?_
  have r1 : St.rel ⟨W, Sk, N1, some (w.heap.size + 1)⟩ ⟨putAll t ps.toList es, hk⟩ { tmps := (ps.toList.zip vs).foldl (fun t p => t.setIfInBounds p.1 p.2) tmps, defers := [] } W := by
    refine ⟨hm.symm, Sk, ψk, H1, putAll_rel _ _ _ _ _ ?_ ?_⟩
    · exact AV.relL_cl _ _ hes (AV.relL_ext (Ext.grow [] ψ0 hSk hs1) _ _ hev)
    · exact AV.relL_cl _ _ ht (AV.relL_ext (Ext.grow [] ψ0 hSk hs1) _ _ htr)
  refine wpIn_mono (fnc_n (hA ⟨W, Sk, N1, some (w.heap.size + 1)⟩ rfl _ _ r1)) ?_
  rintro e a1 Wa ⟨s1, q1, hd1, Sa, ψa, Ha, hla⟩
  cases e with
  | normal =>
    have hka := Ha.bel
    have hla1 : Wa.heap[w.heap.size + 1]? = some (.loop (rec_ .ready)) := (hka.block _ (hlD _ (.inr rfl))).trans hl
    have hDa : Wa.heap[w.heap.size]? = some (.deferred (some [])) := (hka.block _ (hlD _ (.inl rfl))).trans hD
    have hSa2 : ∀ g, Sa g → S g ∨ w.heap.size + 2 ≤ g := fun g hg => by
      rcases Ha.new g hg with h1 | h1
      · exact hs2 g h1
      · right; show w.heap.size + 2 ≤ g; have : W.heap.size ≤ g := h1; omega
    have hoa : ∀ g, owns s1.h ψa g → own0 g ∨ w.heap.size + 2 ≤ g := fun g hg => by
      by_cases hgW : g < W.heap.size
      · have h1 := (Ha.own_lt hg).1
        have : owns hk ψk g := Classical.not_not.1 fun h2 => h1 ⟨hgW, h2⟩
        exact hs3 g this
      · right; omega
    have hneS : ∀ g, Sa g → g ≠ w.heap.size + 1 := fun g hg => by
      rcases hSa2 g hg with h1 | h1
      · have := hS0 g h1; omega
      · omega
    have hneO : ∀ g, owns s1.h ψa g → g ≠ w.heap.size + 1 := fun g hg => by
      rcases hoa g hg with h1 | h1
      · have := ho0 g h1; omega
      · omega
    refine ⟨_, run_beginRound hla1 hrst, ?_⟩
    rw [hst]
    obtain ⟨W2, hW2⟩ : ∃ W2, W2 = Wa.putObj (w.heap.size + 1) (.loop (rec_ .busy)) := ⟨_, rfl⟩
    rw [← hW2]
    have hot : ∀ g, g ≠ w.heap.size + 1 → W2.heap[g]? = Wa.heap[g]? := fun g hg => by rw [hW2]; exact World.putObj_heap_other hg
    have hsz2 : W2.heap.size = Wa.heap.size := by rw [hW2]; simp
    let N2 : Nat → Prop := fun g => g < W2.heap.size ∧ ¬ owns s1.h ψa g
    have H2 := Ha.re (W' := W2) (fun k hk => hot k (hneS k hk)) (fun k hk => hot k (hneO k hk)) N2 (fun _ h => h) (some (w.heap.size + 1))
    have hla2 : W2.heap[w.heap.size + 1]? = some (.loop (rec_ .busy)) := by rw [hW2]; exact World.putObj_heap_same (Array.getElem?_eq_some_iff.1 hla1).1
    have hWa : W.heap.size ≤ Wa.heap.size := hka.size
    have hPN2 : ∀ g, PN g → N2 g := fun g hg => ⟨by have := (hP0 g hg).1; omega, fun ho => by
      rcases hoa g ho with h1 | h1
      · exact (hP0 g hg).2 h1
      · have := (hP0 g hg).1; omega⟩
    have hlD2 : ∀ g, (g = w.heap.size ∨ g = w.heap.size + 1) → N2 g := fun g hg => ⟨by omega, fun ho => by
      rcases hoa g ho with h1 | h1
      · have := ho0 g h1; omega
      · omega⟩
    have r2 : St.rel ⟨W2, Sa, N2, some (w.heap.size + 1)⟩ s1 a1 W2 := ⟨hd1, Sa, ψa, H2, AV.relL_ext (Ext.grow s1.h ψa (fun k hk => hot k (hneS k hk)) fun _ h => h) _ _ hla⟩
    refine wpIn_mono (fnc_n (q1 ⟨W2, Sa, N2, some (w.heap.size + 1)⟩ rfl _ _ r2)) ?_
    rintro e a3 W3 ⟨s2, ⟨rfl, hdr⟩, hd2, S3, ψ3, H3, hl3⟩
    have hk3 := H3.bel
    have hl31 : W3.heap[w.heap.size + 1]? = some (.loop (rec_ .busy)) := (hk3.block _ (hlD2 _ (.inr rfl))).trans hla2
    have hD3 : W3.heap[w.heap.size]? = some (.deferred (some [])) := (hk3.block _ (hlD2 _ (.inl rfl))).trans ((hot _ (by omega)).trans hDa)
    have H4 := H3.cut hdr.cut hdr.bd
    have hS3 : ∀ g, S3 g → S g ∨ w.heap.size + 2 ≤ g := fun g hg => by
      rcases H3.new g hg with h1 | h1
      · exact hSa2 g h1
      · right; have : W2.heap.size ≤ g := h1; omega
    have ho3 : ∀ g, owns hk1 ψ3 g → own0 g ∨ w.heap.size + 2 ≤ g := fun g hg => by
      by_cases hgW : g < W2.heap.size
      · have h1 := (H3.own_lt (owns_cut hdr.cut hg)).1
        have : owns s1.h ψa g := Classical.not_not.1 fun h2 => h1 ⟨hgW, h2⟩
        exact hoa g this
      · right; omega
    have hot4 : ∀ g, g ≠ w.heap.size + 1 → (W3.putObj (w.heap.size + 1) (.loop (rec_ .ready))).heap[g]? = W3.heap[g]? := fun g hg => World.putObj_heap_other hg
    have hr := run_endRound (P := P) none hl31
    have hrec : ({ rec_ .busy with state := .ready, pending := none } : Loop) = rec_ .ready := by rw [← hst .busy .ready, ← hpe .busy]
    rw [show (if (none : Option Code).isNone = true then LoopState.ready else LoopState.done) = .ready from rfl, hrec] at hr
    have hkW : Kp PN W (W3.putObj (w.heap.size + 1) (.loop (rec_ .ready))) := by
      refine ⟨?_, ?_, ?_, ?_, fun k hk => ?_⟩
      · show W3.os = W.os
        rw [hk3.os]; show W2.os = W.os; rw [hW2]; exact hka.os
      · show W3.tape = W.tape
        rw [hk3.tape]; show W2.tape = W.tape; rw [hW2]; exact hka.tape
      · show W3.output = W.output
        rw [hk3.output]; show W2.output = W.output; rw [hW2]; exact hka.output
      · have h1 : W2.heap.size ≤ W3.heap.size := hk3.size
        simp
        omega
      · have hne : k ≠ w.heap.size + 1 := by have := (hP0 k hk).1; omega
        rw [hot4 k hne, hk3.block k (hPN2 k hk)]
        show W2.heap[k]? = W.heap[k]?
        rw [hot k hne]
        exact hka.block k (hPN1 k hk)
    refine ⟨_, _, hr, rfl, ⟨World.putObj_heap_same (Array.getElem?_eq_some_iff.1 hl31).1, (hot4 _ (by omega)).trans hD3, hkp.trans hkW, S3, ψ3, ?_, fun g hg => H3.sub g (Ha.sub g (hs1 g hg)), hS3, ho3⟩, hkW⟩
    refine H4.re (fun k hk => hot4 k ?_) (fun k hk => hot4 k ?_) _ (fun _ h => h.elim) none
    · rcases hS3 k hk with h1 | h1
      · have := hS0 k h1; omega
      · omega
    · rcases ho3 k hk with h1 | h1
      · have := ho0 k h1; omega
      · omega
  | _ => exact q1.elim

theorem enters_call {gf : FuncId} (hE : Enters P gf = true) (args : Array Value) (w : World) : (callFunc gf args).run P w = .ok (.enter gf args) w := by
  unfold Enters at hE
  cases hf : P.funcs[gf]? with
  | none => rw [hf] at hE; cases hE
  | some fn =>
    rw [hf] at hE
    simp only [Bool.and_eq_true, Bool.not_eq_true'] at hE
    have h1 : ¬ fn.name = "runtime.NumGoroutine" := by simpa using hE.1
    have h2 : ¬ fn.body = none := fun e => by have := hE.2; rw [e] at this; cases this
    simp [callFunc, hf, h1, h2]
theorem Awp.rangeK {C : Ctx} {g : Operand} {ps : Array Tmp} {assign body : Code} {Q : Exit → St → Prop} {t : List AV} {h : List ABlk} {gf : FuncId} {lb : Array Value} {R : Res} {ds : List Nat} {N : Nat} {encs : Nat → List AV} (i im : Nat) (σ : Nat → List ABlk)
    (hrd : C.rd = none) (hE : Enters P gf = true) (hg : evA t g = .lit (.func (.func gf) #[] lb)) (hi : h[i]? = some (.res R)) (hmi : h[im]? = some (.res (marksR ds))) (hmk : mkD h = ds.map mark)
    (h0 : Drops h (σ 0)) (h0i : (σ 0)[i]? = some .dead) (hσm : ∀ k, (σ k)[im]? = some .dead) (hmσ : ∀ k, mkD (σ k) = []) (ht : AV.clL t = true) (hes : ∀ k, AV.clL (encs k) = true) (hps : ∀ k, (encs k).length = ps.size)
    (hit : ∀ w S, (∀ k, S k → k < w.heap.size) → (∀ k, R.F k → k < w.heap.size) → R.R w S → IterK P gf lb (fun k => S k ∨ R.F k) w (fun k vs => AV.relL w S [] ψ0 (encs k) vs) N)
    (hround : ∀ k, k < N → ∀ C' : Ctx, C'.rd.isSome = true → Awp P C' assign (athen (roundBody P body (σ (k + 1))) (fun _ _ => False)) ⟨putAll t ps.toList (encs k), σ k⟩)
    (hdone : ∀ D, Q .normal ⟨t, (σ N).set im (.res (marksR (D :: ds)))⟩) : Awp P C (.rangeFunc g ps assign body) Q ⟨t, h⟩ := fun a w ⟨hd, S, ψ, H, hl⟩ => by
  rw [hrd]
  show (Code.rangeFunc g ps assign body).wpIn Fence.wide 4 P _ a w
  have H0 := H.cut h0.cut h0.bd
  have hBi := H.blk i _ hi
  have hBm := H.blk im _ hmi
  have hgv := ev_rel hl g
  rw [hg] at hgv
  unfold AV.rel at hgv
  have hlit : AV.relL w S [] ψ0 t a.tmps.toList := AV.relL_cl _ _ ht hl
  obtain ⟨own0, hown0⟩ : ∃ o, o = owns (σ 0) ψ := ⟨_, rfl⟩
  obtain ⟨PN, hPN⟩ : ∃ p : Nat → Prop, p = fun g => g < w.heap.size ∧ ¬ own0 g := ⟨_, rfl⟩
  have ho0 : ∀ g, own0 g → g < w.heap.size := fun g hg => by rw [hown0] at hg; exact (H0.own_lt hg).2.1
  have hP0 : ∀ g, PN g → g < w.heap.size ∧ ¬ own0 g := fun g hg => by rw [hPN] at hg; exact hg
  have hdead : ∀ (j : Nat) (R' : Res), h[j]? = some (.res R') → (σ 0)[j]? = some .dead → ∀ g, R'.F g → ¬ own0 g := fun j R' hj hjd g hF ho => by
    rw [hown0] at ho
    obtain ⟨j', h1, h2⟩ := ho
    have hne : j' ≠ j := fun e => by subst e; rw [hjd] at h1; cases h1
    rw [h0.cut.same h1] at h2
    exact H.dis j' j hne (h0.cut.live h1) (by rw [hj]; rfl) g h2 (by rw [hj]; exact hF)
  have hSP : ∀ g, S g → PN g := fun g hg => by rw [hPN]; exact ⟨H.lt g hg, fun ho => by rw [hown0] at ho; exact (H0.own_lt ho).2.2 hg⟩
  have hFP : ∀ g, R.F g → PN g := fun g hg => by rw [hPN]; exact ⟨(hBi.1 g hg).2.2, hdead i R hi h0i g hg⟩
  have hdP : ∀ g, g ∈ ds → PN g := fun g hg => by rw [hPN]; exact ⟨(hBm.1 g hg).2.2, hdead im _ hmi (hσm 0) g hg⟩
  refine wpIn_rangeFunc fun fn _ => ?_
  obtain ⟨rec_, hrec⟩ : ∃ rec_ : LoopState → Loop, rec_ = fun st => { state := st, pending := none, fn, tmps := a.tmps, params := ps, assign, body, defers := w.heap.size } := ⟨_, rfl⟩
  have hst : ∀ x y, ({ rec_ x with state := y } : Loop) = rec_ y := fun x y => by rw [hrec]
  have hrst : (rec_ .ready).state = .ready := by rw [hrec]
  have hpe : ∀ x, (rec_ x).pending = none := fun x => by rw [hrec]
  obtain ⟨W1, hW1⟩ : ∃ W1, W1 = (w.alloc (.deferred (some []))).alloc (.loop (rec_ .ready)) := ⟨_, rfl⟩
  have hL1 : W1.heap[w.heap.size + 1]? = some (.loop (rec_ .ready)) := by
    rw [hW1]; have := heap_alloc_new (w.alloc (.deferred (some []))) (.loop (rec_ .ready)); rwa [World.size_alloc] at this
  have hD1 : W1.heap[w.heap.size]? = some (.deferred (some [])) := by
    rw [hW1]; exact (Below.heap_alloc _ _ _ (by simp)).trans (heap_alloc_new w _)
  have hb1 : Below w.heap.size w W1 := by rw [hW1]; exact ((Below.refl _ w).alloc (Nat.le_refl _) _).alloc (by simp) _
  have hJ0 : Between PN own0 S w (rec_ .ready) (σ 0) W1 := by
    refine ⟨hL1, hD1, Kp.of_below hb1 fun k hk => (hP0 k hk).1, S, ψ, ?_, fun _ h => h, fun _ h => .inl h, fun g hg => .inl (by rw [hown0]; exact hg)⟩
    exact H0.re (fun k hk => hb1.block k (H.lt k hk)) (fun k hk => hb1.block k (H0.own_lt hk).2.1) _ (fun _ h => h.elim) none
  refine ⟨w.heap.size + 1, [mark w.heap.size], W1, { target := .fn (.func gf) lb, args := #[.func (.yield (w.heap.size + 1)) #[] #[]] }, W1, gf, #[.func (.yield (w.heap.size + 1)) #[] #[]] ++ lb, W1, ?_, ?_, fun _ _ => trivial, ?_, fun _ => by omega, ?_⟩
  · rw [hW1, hrec]; exact run_enterLoop_outer _ _ _ _ _
  · simp only [resolve, hgv]
    simp [go_sem]
  · simp [invoke, go_sem, enters_call hE]
  · refine (hit w S H.lt (fun k hk => (hBi.1 k hk).2.2) hBi.2 (w.heap.size + 1) (fun k W => Between PN own0 S w (rec_ .ready) (σ k) W) W1 ⟨hb1.size, fun k hk => hb1.block k ?_⟩ ?_ hJ0).mono ?_
    · rcases hk with hk | hk
      · exact H.lt k hk
      · exact (hBi.1 k hk).2.2
    · intro k vs W hkN hev hJ
      have hvl : vs.length = ps.size := by rw [relL_len hev, hps]
      have hy := run_yield (P := P) (args := vs.toArray) hJ.loop (by rw [hrec]; simpa using hvl)
      have hR := round_ok (P := P) (fn := fn) (ps := ps) (tmps := a.tmps) (body := body) hst hrst hpe hP0 ho0 H.lt ht (hes k) hlit hSP hev (hmσ k) hJ (hround k hkN)
      have e1 : ((rec_ .ready).params.zip vs.toArray).foldl (fun tmps (t, a) => tmps.setIfInBounds t a) (rec_ .ready).tmps = (ps.toList.zip vs).foldl (fun t p => t.setIfInBounds p.1 p.2) a.tmps := by
        rw [hrec, ← Array.foldl_toList, Array.toList_zip]
      rw [e1] at hy
      rw [show (rec_ .ready).fn = fn by rw [hrec], show (rec_ .ready).assign = assign by rw [hrec], show (rec_ .ready).body = body by rw [hrec]] at hy
      refine ⟨fn, _, assign, body, hy, hR.mono ?_⟩
      rintro e W' ⟨rfl, hB, hK⟩
      refine ⟨rfl, hB, hK.size, fun g hg => hK.block g ?_⟩
      rcases hg with hg | hg
      · exact hSP g hg
      · exact hFP g hg
    · rintro e W' ⟨⟨v, rfl⟩, hJ⟩
      have hend := run_endLoop (P := P) hJ.loop (by rw [hrst]; simp)
      rw [hpe] at hend
      refine ⟨none, _, hend, ⟨t, (σ N).set im (.res (marksR (w.heap.size :: ds)))⟩, hdone _, ?_⟩
      obtain ⟨hlp, hdf, hkp, Sk, ψk, Hk, hs1, hs2, hs3⟩ := hJ
      suffices key : ∀ (W5 : World) (ob : Obj), W5 = W'.putObj (w.heap.size + 1) ob → St.rel C ⟨t, (σ N).set im (.res (marksR (w.heap.size :: ds)))⟩ { a with defers := [mark w.heap.size] ++ a.defers } W5 from key _ _ rfl
      intro W5 ob hW5
      have hot : ∀ g, g ≠ w.heap.size + 1 → W5.heap[g]? = W'.heap[g]? := fun g hg => by rw [hW5]; exact World.putObj_heap_other hg
      have hsz : W5.heap.size = W'.heap.size := by rw [hW5]; simp
      have hlW : w.heap.size + 1 < W'.heap.size := (Array.getElem?_eq_some_iff.1 hlp).1
      have hSne : ∀ g, Sk g → g ≠ w.heap.size + 1 := fun g hg => by
        rcases hs2 g hg with h1 | h1
        · have := H.lt g h1; omega
        · omega
      have hOne : ∀ g, owns (σ N) ψk g → g ≠ w.heap.size + 1 := fun g hg => by
        rcases hs3 g hg with h1 | h1
        · have := ho0 g h1; omega
        · omega
      have hPne : ∀ g, PN g → W5.heap[g]? = w.heap[g]? := fun g hg => (hot g (by have := (hP0 g hg).1; omega)).trans (hkp.block g hg)
      have hH5 := Hk.re (W' := W5) (fun k hk => hot k (hSne k hk)) (fun k hk => hot k (hOne k hk)) (fun _ => False) (fun _ h => h.elim) none
      have hCN : ∀ g, C.N g → PN g := fun g hg => by
        rw [hPN]
        refine ⟨Nat.lt_of_lt_of_le (H.nlt g hg) H.bel.size, fun ho => ?_⟩
        rw [hown0] at ho
        exact (H0.own_lt ho).1 hg
      have hkp5 : Kp C.N w W5 := ⟨by rw [hW5]; exact hkp.os, by rw [hW5]; exact hkp.tape, by rw [hW5]; exact hkp.output, by have := hkp.size; omega, fun k hk => hPne k (hCN k hk)⟩
      have hH6 : HRel C (σ N) Sk ψk W5 := hH5.to (H.bel.trans hkp5) H.nlt (fun k hk => hs1 k (H.sub k hk)) (fun k hk => by
        rcases hs2 k hk with h1 | h1
        · exact H.new k h1
        · right; have := H.bel.size; omega) fun g hg hn => by
          rcases hs3 g hg with h1 | h1
          · exact (hP0 g (hCN g hn)).2 h1
          · have := H.nlt g hn; have := H.bel.size; omega
      refine ⟨?_, Sk, ψk, hH6.rise (hσm N) ⟨List.nodup_cons.2 ⟨fun hm => by have := (hBm.1 _ hm).2.2; omega, hBm.2.1⟩, fun d hd => ?_⟩ fun g hg => ?_, ?_⟩
      · show [mark w.heap.size] ++ a.defers = mkD ((σ N).set im _)
        rw [mkD_rise (hσm N) (hmσ N), hd, hmk]
        rfl
      · rcases List.mem_cons.1 hd with rfl | hd
        · exact (hot _ (by omega)).trans hdf
        · exact (hPne d (hdP d hd)).trans (hBm.2.2 d hd)
      · rcases List.mem_cons.1 hg with rfl | hg
        · refine ⟨fun hn => by have := H.nlt _ hn; have := H.bel.size; omega, fun hs => ?_, by omega, fun ho => ?_⟩
          · rcases hs2 _ hs with h1 | h1
            · have := H.lt _ h1; omega
            · omega
          · rcases hs3 _ ho with h1 | h1
            · have := ho0 _ h1; omega
            · omega
        · have hlt := (hBm.1 g hg).2.2
          refine ⟨(hBm.1 g hg).1, fun hs => ?_, by omega, fun ho => ?_⟩
          · rcases hs2 _ hs with h1 | h1
            · exact (hBm.1 g hg).2.1 h1
            · omega
          · rcases hs3 _ ho with h1 | h1
            · exact (hP0 g (hdP g hg)).2 h1
            · omega
      · exact AV.relL_cl _ _ ht (AV.relL_ext (Ext.grow [] ψ0 (fun k hk => hPne k (hSP k hk)) hs1) _ _ hlit)
end
end Mu
end
section
/-
  A function that holds ranges over functions: its contract from its walk.
  Conditions: none; generic.
-/
namespace Mu
open Go Go.RowKit

section
variable {C : Ctx} {h : List ABlk} {S : Nat → Prop} {ψ : Nat → Value} {W : World}
theorem HRel.other (H : HRel C h S ψ W) {D : Nat} (o : Obj) (h1 : ¬ C.N D) (h2 : ¬ S D) (h3 : ¬ owns h ψ D) : HRel C h S ψ (W.putObj D o) := by
  have hot : ∀ g, g ≠ D → (W.putObj D o).heap[g]? = W.heap[g]? := fun g hg => World.putObj_heap_other hg
  have hS : ∀ k, S k → (W.putObj D o).heap[k]? = W.heap[k]? := fun k hk => hot k fun e => h2 (e ▸ hk)
  refine ⟨H.bel.trans ⟨rfl, rfl, rfl, by simp, fun k hk => hot k fun e => h1 (e ▸ hk)⟩, H.nlt, fun k hk => by simpa using H.lt k hk, H.sub, H.new, fun i b hi => ?_, H.dis⟩
  by_cases hl : ABlk.live (some b) = true
  · exact (H.blk i b hi).keep (Ext.grow h ψ hS fun _ h => h) fun g hg => ⟨hot g fun e => h3 ⟨i, by rw [hi]; exact hl, by rw [hi]; exact e ▸ hg⟩, fun h => h⟩
  · cases b <;> simp [ABlk.live] at hl
    trivial
end
theorem leaves_h {P : Program} {C : Ctx} {fn : Go.Func} {tmps : Array Value} {R : Ending → World → Prop} {v : Value} {x : AV} {n : Nat} (hres : ∀ W, (results fn tmps).run P W = .ok v W) :
    ∀ (ds : List Nat) (W : World) (h : List ABlk) (S : Nat → Prop) (ψ : Nat → Value), (∀ W S ψ, HRel C (h.set 0 .dead) S ψ W → AV.rel W S (h.set 0 .dead) ψ x v → R (.returned v) W) → h[0]? = some (.res (marksR ds)) → HRel C h S ψ W → AV.rel W S h ψ x v →
      LeavesInM Fence.wide n P fn tmps R (ds.map mark) .returning W
  | [], W, h, S, ψ, hfin, h0, H, hv => by
    have hc : Cut h (h.set 0 .dead) := ⟨by simp, fun i b hi => by
      by_cases hi0 : i = 0
      · subst hi0
        rw [List.getElem?_set_self (List.getElem?_eq_some_iff.1 h0).1] at hi
        cases hi
        exact .inl rfl
      · rw [List.getElem?_set_ne (Ne.symm hi0)] at hi
        exact .inr hi⟩
    exact ⟨v, hres W, hfin W S ψ (H.cute hc (by simp)) (AV.rel_cute hc (by simp) _ _ hv)⟩
  | D :: ds, W, h, S, ψ, hfin, h0, H, hv => by
    have hB := H.blk 0 _ h0
    have hlen := (List.getElem?_eq_some_iff.1 h0).1
    have hD := hB.1 D (by show D ∈ D :: ds; simp)
    refine ⟨by simp, .inl ⟨_, _, rfl, run_takeDeferred (hB.2.2 D (by simp)), ?_⟩⟩
    have X : Ext W S h ψ W S (h.set 0 (.res (marksR ds))) (ψset ψ 0 (ψ 0)) := Ext.set (fun _ _ => rfl) h0 (fun c' hc => by simp [ABlk.ver] at hc) fun h => by simp [ABlk.isBox] at h
    have hnd := List.nodup_cons.1 hB.2.1
    have H1 : HRel C (h.set 0 (.res (marksR ds))) S (ψset ψ 0 (ψ 0)) W := H.set (v' := ψ 0) h0 rfl ⟨rfl, rfl, rfl, Nat.le_refl _, fun _ _ _ => rfl⟩ X
      ⟨fun g hg => hB.1 g (List.mem_cons_of_mem _ hg), hnd.2, fun d hd => hB.2.2 d (List.mem_cons_of_mem _ hd)⟩ fun g hg => .inl (List.mem_cons_of_mem _ hg)
    have hno : ¬ owns (h.set 0 (.res (marksR ds))) (ψset ψ 0 (ψ 0)) D := fun ⟨j, h1, h2⟩ => by
      by_cases hj : j = 0
      · subst hj
        rw [List.getElem?_set_self hlen] at h2
        exact hnd.1 h2
      · rw [List.getElem?_set_ne (Ne.symm hj)] at h1 h2
        rw [ψset_ne hj] at h2
        exact H.dis j 0 hj h1 (by rw [h0]; rfl) D h2 (by rw [h0]; show D ∈ D :: ds; simp)
    have hSk : ∀ k, S k → (W.putObj D (.deferred none)).heap[k]? = W.heap[k]? := fun k hk => World.putObj_heap_other fun e => hD.2.1 (e ▸ hk)
    refine leaves_h hres ds _ _ S _ (fun W S ψ h1 h2 => ?_) (List.getElem?_set_self hlen) (H1.other _ hD.1 hD.2.1 hno) (AV.rel_ext (Ext.grow _ _ hSk fun _ h => h) _ _ (AV.rel_ext X _ _ hv))
    rw [List.set_set] at h1 h2
    exact hfin W S ψ h1 h2
def RetsM (t : Tmp) (r : AV) : Exit → St → Prop := fun e s => (e = .normal ∨ e = .ret) ∧ ∃ ds, s.h[0]? = some (.res (marksR ds)) ∧ mkD s.h = ds.map mark ∧ Fin (s.h.set 0 .dead) (evA s.t (.tmp t)) r
theorem Fn.of_awpM {P : Program} {f : FuncId} {fn : Go.Func} {c : Code} {args : List AV} {r : AV} {t : Tmp} {n : Nat} (hf : P.funcs[f]? = some fn) (hb : fn.body = some c) (hE : Enters P f = true) (hres : fn.results = #[.tmp t]) (hn : fn.ntmps = n)
    (h : ∀ C : Ctx, C.std → C.rd = none → Awp P C c (RetsM t r) ⟨args ++ List.replicate (n - args.length) (.lit undef), [.res (marksR [])]⟩) : Fn P f args r := by
  refine ⟨hE, fun w S vs hS hr => (callsIn_wide (n := 4)).1 (callsIn_of_wp_marks hf hb trivial ?_)⟩
  rw [hn]
  have hst : St.rel ⟨w, S, fun k => k < w.heap.size, none⟩ ⟨args ++ List.replicate (n - args.length) (.lit undef), [.res (marksR [])]⟩ { tmps := vs.toArray ++ Array.replicate (n - vs.toArray.size) undef, defers := [] } w := by
    obtain ⟨hd, S1, ψ, H, hl⟩ := start_rel (n := n) hS hr
    have X := Ext.push (w := w) (w' := w) (S := S1) (h := []) (ψ := ψ) (.res (marksR [])) undef fun _ _ => rfl
    exact ⟨rfl, S1, _, H.push (b := .res (marksR [])) (v := undef) (Below.refl _ _) (show BRel _ _ _ _ _ _ (.res (marksR [])) from ⟨fun g hg => (List.not_mem_nil hg).elim, show ([] : List Nat).Nodup ∧ ∀ d ∈ ([] : List Nat), w.heap[d]? = some (.deferred (some [])) from ⟨List.nodup_nil, fun d hd => (List.not_mem_nil hd).elim⟩⟩) (fun g hg => (List.not_mem_nil hg).elim), AV.relL_ext X _ _ hl⟩
  have hw := h ⟨w, S, fun k => k < w.heap.size, none⟩ (fun _ h => h) rfl _ w hst
  refine wpIn_mono hw ?_
  rintro e a' w' ⟨s, ⟨he, ds, h0, hm, hfin⟩, hd, S1, ψ, H, hl⟩
  have hv := ev_rel hl (.tmp t)
  rw [hm] at hd
  have key := leaves_h (P := P) (C := ⟨w, S, fun k => k < w.heap.size, none⟩) (fn := fn) (tmps := a'.tmps) (R := fun e w' => ∃ v, e = .returned v ∧ Good w S [] ψ0 r v w') (n := 4) (x := evA s.t (.tmp t)) (v := a'.eval (.tmp t)) (fun W => results_tmp hres _ _ _) ds w' s.h S1 ψ (fun W S ψ h1 h2 => ⟨_, rfl, good_final (s := ⟨s.t, s.h.set 0 .dead⟩) h1 hfin h2⟩) h0 H hv
  rcases he with rfl | rfl
  · show LeavesInM Fence.wide 4 P fn a'.tmps _ a'.defers .returning w'
    rw [hd]
    exact key
  · show LeavesInM Fence.wide 4 P fn a'.tmps _ a'.defers .returning w'
    rw [hd]
    exact key
end Mu
end
section
/-
  Own memory at known addresses: boxes and rows are opened and closed; cells are loaded and stored; rows of values are made.
  Conditions: none; generic.
-/
namespace Mu
open Go Go.RowKit Go.ChangeShapes Go.WideShapes

/-- cells at a known place -/
def boxR (g : Nat) (cells : List AV) : Res := ⟨[], fun k => k = g, fun w S => ∃ cs e, w.heap[g]? = some (.cells (List.toArray cs) e (0, 0)) ∧ AV.relL w S [] ψ0 cells cs,
  fun h hk hb hs => let ⟨cs, e, h1, h2⟩ := h; ⟨cs, e, (hk g rfl).trans h1, AV.relL_ext (Ext.grow [] ψ0 hb hs) _ _ h2⟩⟩
/-- a row of the call's own as a known value -/
def rowR (v : Value) (e : TypeId) {α : Type} (T : Ty α) (l : List α) : Res := ⟨[], fun g => blkOf v = some g, fun w S => ∃ cells, w.ownsRow 0 e T.size v l.length cells ∧ 0 < T.size ∧ ∀ i d, l[i]? = some d → T.RS w S ((cells.drop (i * T.size)).take T.size) d,
  fun h hk hb hs => let ⟨cells, h1, h0, h2⟩ := h; ⟨cells, ownsRow_same h1 fun g hg => hk g hg, h0, fun i d hd => T.keepS (h2 i d hd) hb hs⟩⟩

section
variable {C : Ctx} {h : List ABlk} {S : Nat → Prop} {ψ : Nat → Value} {w : World}
/-- another description of a block -/
theorem HRel.desc {i : Nat} {b b' : ABlk} {v' : Value} (H : HRel C h S ψ w) (hi : h[i]? = some b) (hlive : ABlk.live (some b) = true) (hn : ∀ j c, j ≠ i → h[j]? = some c → nrB i c = true)
    (hB : BRel C.N w S (h.set i b') (ψset ψ i v') v' b') (hF : ∀ g, ftp (some b') v' g → ftp (some b) (ψ i) g) : HRel C (h.set i b') S (ψset ψ i v') w := by
  have hil := (List.getElem?_eq_some_iff.1 hi).1
  refine ⟨H.bel, H.nlt, H.lt, H.sub, H.new, fun j c hc => ?_, fun j k hjk hj hk g hgj hgk => ?_⟩
  · by_cases hji : j = i
    · subst hji
      rw [List.getElem?_set_self hil] at hc
      cases hc
      rw [ψset_self]
      exact hB
    · rw [List.getElem?_set_ne (Ne.symm hji)] at hc
      rw [ψset_ne hji]
      have hBj := H.blk j c hc
      cases c with
      | dead => trivial
      | box cells =>
        obtain ⟨g, cs, e, k1, k2, k3, k4, k5⟩ := hBj
        exact ⟨g, cs, e, k1, k2, k3, k4, AV.relL_up (fun k hk => ψset_ne hk) _ _ (hn j _ hji hc) k5⟩
      | row ver e T l => exact hBj
      | res R => exact hBj
  · have hold : ∀ k, ABlk.live (h.set i b')[k]? = true → ftp (h.set i b')[k]? (ψset ψ i v' k) g → ABlk.live h[k]? = true ∧ ftp h[k]? (ψ k) g := fun k hk hgk => by
      by_cases hki : k = i
      · subst hki
        rw [List.getElem?_set_self hil, ψset_self] at hgk
        rw [hi]
        exact ⟨hlive, hF g hgk⟩
      · rw [List.getElem?_set_ne (Ne.symm hki)] at hk hgk
        rw [ψset_ne hki] at hgk
        exact ⟨hk, hgk⟩
    obtain ⟨a1, a2⟩ := hold j hj hgj
    obtain ⟨b1, b2⟩ := hold k hk hgk
    exact H.dis j k hjk a1 b1 g a2 b2
end

/-! ### opening and closing -/
/-- a row's value becomes known -/
inductive Opn (i ver : Nat) (v : Value) : List AV → List AV → Prop
  | nil : Opn i ver v [] []
  | any {x : AV} {t t' : List AV} (h : Opn i ver v t t') : Opn i ver v (x :: t) (.any :: t')
  | keep {x : AV} {t t' : List AV} (hx : AV.nr i x = true) (h : Opn i ver v t t') : Opn i ver v (x :: t) (x :: t')
  | own {t t' : List AV} (h : Opn i ver v t t') : Opn i ver v (.own i ver :: t) (.lit v :: t')
/-- a box's address becomes known -/
inductive OpnB (i g : Nat) : List AV → List AV → Prop
  | nil : OpnB i g [] []
  | any {x : AV} {t t' : List AV} (h : OpnB i g t t') : OpnB i g (x :: t) (.any :: t')
  | keep {x : AV} {t t' : List AV} (hx : AV.nr i x = true) (h : OpnB i g t t') : OpnB i g (x :: t) (x :: t')
  | ptr {off : Nat} {t t' : List AV} (h : OpnB i g t t') : OpnB i g (.ptr i off :: t) (.lit (.pointer (some ⟨g, off, none⟩)) :: t')
/-- a known value becomes a row of the call's own again -/
inductive Cls (i ver : Nat) (v : Value) : List AV → List AV → Prop
  | nil : Cls i ver v [] []
  | any {x : AV} {t t' : List AV} (h : Cls i ver v t t') : Cls i ver v (x :: t) (.any :: t')
  | keep {x : AV} {t t' : List AV} (hx : AV.nr i x = true) (h : Cls i ver v t t') : Cls i ver v (x :: t) (x :: t')
  | own {t t' : List AV} (h : Cls i ver v t t') : Cls i ver v (.lit v :: t) (.own i ver :: t')
def noRef (i : Nat) (h : List ABlk) : Bool := h.all fun b => nrB i b
theorem noRef_at {i : Nat} {h : List ABlk} (hn : noRef i h = true) : ∀ (j : Nat) (c : ABlk), j ≠ i → h[j]? = some c → nrB i c = true := fun _j c _ hc => List.all_eq_true.1 hn c (List.mem_of_getElem? hc)
theorem ψset_id (φ : Nat → Value) (k : Nat) : ψset φ k (φ k) = φ := funext fun q => by unfold ψset; split <;> simp_all
section
variable {w : World} {S : Nat → Prop} {h : List ABlk} {ψ : Nat → Value} {i ver g : Nat} {v : Value} {b : ABlk}
theorem Opn.rel {t t' : List AV} (ho : Opn i ver v t t') (hv : ∀ u, AV.rel w S h ψ (.own i ver) u → u = v) : ∀ {cs : List Value}, AV.relL w S h ψ t cs → AV.relL w S (h.set i b) ψ t' cs := by
  induction ho with
  | nil => intro cs H; unfold AV.relL at H ⊢; exact H
  | any _ ih =>
    intro cs H
    unfold AV.relL at H ⊢
    obtain ⟨u, vs, e, _, h2⟩ := H
    exact ⟨u, vs, e, by unfold AV.rel; trivial, ih h2⟩
  | keep hx _ ih =>
    intro cs H
    unfold AV.relL at H ⊢
    obtain ⟨u, vs, e, h1, h2⟩ := H
    exact ⟨u, vs, e, AV.rel_up (fun _ _ => rfl) _ _ hx h1, ih h2⟩
  | own _ ih =>
    intro cs H
    unfold AV.relL at H ⊢
    obtain ⟨u, vs, e, h1, h2⟩ := H
    exact ⟨u, vs, e, by rw [hv u h1]; unfold AV.rel; rfl, ih h2⟩
theorem OpnB.rel {t t' : List AV} (ho : OpnB i g t t') (hv : ∀ off u, AV.rel w S h ψ (.ptr i off) u → u = .pointer (some ⟨g, off, none⟩)) : ∀ {cs : List Value}, AV.relL w S h ψ t cs → AV.relL w S (h.set i b) ψ t' cs := by
  induction ho with
  | nil => intro cs H; unfold AV.relL at H ⊢; exact H
  | any _ ih =>
    intro cs H
    unfold AV.relL at H ⊢
    obtain ⟨u, vs, e, _, h2⟩ := H
    exact ⟨u, vs, e, by unfold AV.rel; trivial, ih h2⟩
  | keep hx _ ih =>
    intro cs H
    unfold AV.relL at H ⊢
    obtain ⟨u, vs, e, h1, h2⟩ := H
    exact ⟨u, vs, e, AV.rel_up (fun _ _ => rfl) _ _ hx h1, ih h2⟩
  | ptr _ ih =>
    intro cs H
    unfold AV.relL at H ⊢
    obtain ⟨u, vs, e, h1, h2⟩ := H
    exact ⟨u, vs, e, by rw [hv _ u h1]; unfold AV.rel; rfl, ih h2⟩
theorem Cls.rel {t t' : List AV} (ho : Cls i ver v t t') (hil : i < h.length) (hb : ABlk.ver (some b) = some ver) : ∀ {cs : List Value}, AV.relL w S h ψ t cs → AV.relL w S (h.set i b) (ψset ψ i v) t' cs := by
  induction ho with
  | nil => intro cs H; unfold AV.relL at H ⊢; exact H
  | any _ ih =>
    intro cs H
    unfold AV.relL at H ⊢
    obtain ⟨u, vs, e, _, h2⟩ := H
    exact ⟨u, vs, e, by unfold AV.rel; trivial, ih h2⟩
  | keep hx _ ih =>
    intro cs H
    unfold AV.relL at H ⊢
    obtain ⟨u, vs, e, h1, h2⟩ := H
    exact ⟨u, vs, e, AV.rel_up (fun _ hk => ψset_ne hk) _ _ hx h1, ih h2⟩
  | own _ ih =>
    intro cs H
    unfold AV.relL at H ⊢
    obtain ⟨u, vs, e, h1, h2⟩ := H
    refine ⟨u, vs, e, ?_, ih h2⟩
    unfold AV.rel at h1 ⊢
    subst h1
    refine ⟨by simpa using hil, fun c hc => ?_⟩
    rw [List.getElem?_set_self hil, hb] at hc
    cases hc
    exact ⟨Nat.le_refl _, fun _ => by rw [ψset_self]⟩
end
section
variable {P : Program} {C : Ctx} {t : List AV} {h : List ABlk} {c : Code} {Q : Exit → St → Prop}
theorem Awp.open_box (i : Nat) {cells : List AV} (hi : h[i]? = some (.box cells)) (hc : AV.clL cells = true) (hn : noRef i h = true) (t' : Nat → List AV) (ht : ∀ g, OpnB i g t (t' g))
    (hK : ∀ g, Awp P C c Q ⟨t' g, h.set i (.res (boxR g cells))⟩) : Awp P C c Q ⟨t, h⟩ := fun a w ⟨hd, S, ψ, H, hl⟩ => by
  obtain ⟨g, cs, e, e1, hN, hS, hg, hcs⟩ := H.blk i _ hi
  have H' := H.desc (b' := .res (boxR g cells)) (v' := ψ i) hi rfl (noRef_at hn) ⟨fun k hk => by
    have hk : k = g := hk
    subst hk
    exact ⟨hN, hS, (Array.getElem?_eq_some_iff.1 hg).1⟩, ⟨cs, _, hg, AV.relL_cl _ _ hc hcs⟩⟩ fun k hk => by
    have hk : k = g := hk
    subst hk
    rw [e1]
    rfl
  rw [ψset_id] at H'
  refine hK g a w ⟨by rw [hd]; exact (mkD_set (b' := .res (boxR g cells)) hi rfl).symm, S, ψ, H', (ht g).rel (fun off u hu => ?_) hl⟩
  unfold AV.rel at hu
  obtain ⟨g', h1, rfl⟩ := hu.2 (by rw [hi]; rfl)
  rw [e1] at h1
  cases h1
  rfl
theorem Awp.open_row (i : Nat) {ver : Nat} {e : TypeId} {α : Type} {T : Ty α} {l : List α} (hi : h[i]? = some (.row ver e T l)) (hn : noRef i h = true) (t' : Value → List AV) (ht : ∀ v, Opn i ver v t (t' v))
    (hK : ∀ v, Awp P C c Q ⟨t' v, h.set i (.res (rowR v e T l))⟩) : Awp P C c Q ⟨t, h⟩ := fun a w ⟨hd, S, ψ, H, hl⟩ => by
  have hB := H.blk i _ hi
  have hlt := hB.lt rfl
  obtain ⟨cells, h1, h0, h2, h3⟩ := id hB
  have H' := H.desc (b' := .res (rowR (ψ i) e T l)) (v' := ψ i) hi rfl (noRef_at hn) ⟨fun k hk => by
    obtain ⟨a1, a2, a3⟩ := hlt k hk
    exact ⟨a1, a3, a2⟩, ⟨cells, h1, h0, h2⟩⟩ fun k hk => hk
  rw [ψset_id] at H'
  refine hK (ψ i) a w ⟨by rw [hd]; exact (mkD_set (b' := .res (rowR (ψ i) e T l)) hi rfl).symm, S, ψ, H', (ht (ψ i)).rel (fun u hu => ?_) hl⟩
  unfold AV.rel at hu
  exact (hu.2 _ (by rw [hi]; rfl)).2 rfl
theorem St.le_close (i : Nat) {ver : Nat} {v : Value} {e : TypeId} {α : Type} {T : Ty α} {l : List α} {t' : List AV} (hi : h[i]? = some (.res (rowR v e T l))) (hn : noRef i h = true) (ht : Cls i ver v t t') :
    St.le C ⟨t, h⟩ ⟨t', h.set i (.row ver e T l)⟩ := fun a w ⟨hd, S, ψ, H, hl⟩ => by
  have hB := H.blk i _ hi
  obtain ⟨cells, h1, h0, h2⟩ := hB.2
  have H' := H.desc (b' := .row ver e T l) (v' := v) hi rfl (noRef_at hn) ⟨cells, h1, h0, h2, fun g hg => by
    obtain ⟨a1, a2, _⟩ := hB.1 g (ownBlock_blkOf hg)
    exact ⟨a1, a2⟩⟩ fun k hk => hk
  exact ⟨by rw [hd]; exact (mkD_set (b' := .row ver e T l) hi rfl).symm, S, _, H', ht.rel (List.getElem?_eq_some_iff.1 hi).1 rfl hl⟩
end

/-! ### cells at known places -/
section
variable {P : Program} {C : Ctx} {t : List AV} {h : List ABlk} {o : Oper} {K : St → Prop}
theorem Quiet.ldL {ty : TypeId} {x : Operand} {n i g off : Nat} {cells : List AV} {r : AV} [AG P ty false n] (ho : o.op = .load ty x) (hx : evA t x = .lit (.pointer (some ⟨g, off, none⟩))) (hi : h[i]? = some (.res (boxR g cells))) (hr : cells[off]? = some r) (hc : AV.cl r = true) : Quiet P C t h o r :=
  Quiet.ld_res ho hx hi hc fun w S ⟨cs, e, h1, h2⟩ => by
    obtain ⟨u, h3, h4⟩ := relL_get h2 hr
    exact ⟨u, by simp [World.cell?, h1, h3], h4⟩
theorem Quiet.ldAL {ty : TypeId} {x : Operand} {n i g off : Nat} {cells : List AV} [AG P ty true n] (ho : o.op = .load ty x) (hx : evA t x = .lit (.pointer (some ⟨g, off, none⟩))) (hi : h[i]? = some (.res (boxR g cells))) (hc : AV.clL ((cells.drop off).take n) = true) (hn : ((cells.drop off).take n).length = n) : Quiet P C t h o (.agg ((cells.drop off).take n)) :=
  Quiet.loadA ho AG.eq hx (CellsOf.res (R := boxR g cells) (rs := (cells.drop off).take n) hi hc fun w S ⟨cs, e, h1, h2⟩ j r hj => by
    rw [List.getElem?_take] at hj
    split at hj
    · rw [List.getElem?_drop] at hj
      obtain ⟨u, h3, h4⟩ := relL_get h2 hj
      exact ⟨u, by simp [World.cell?, h1, h3], h4⟩
    · cases hj) (by rw [List.take_take, Nat.min_self]) hn
theorem Quiet.faL {st : TypeId} {x : Operand} {j n b off : Nat} [FO P st j n] (ho : o.op = .fieldAddr st x j) (hx : evA t x = .lit (.pointer (some ⟨b, off, none⟩))) : Quiet P C t h o (.lit (.pointer (some ⟨b, off + n, none⟩))) :=
  Quiet.fieldAddr ho FO.eq hx fun C S ψ w v H hv => by
    unfold AV.rel at hv ⊢
    exact ⟨b, off, hv, rfl⟩
theorem Quiet.ixl0 {ty : TypeId} {x y : Operand} {ik : IntKind} {k b len c : Nat} [ES P ty 1] (ho : o.op = .indexAddr ty x y) (hx : evA t x = .lit (.slice (some ⟨b, 0, none⟩) len c)) (hy : evA t y = .lit (.int ik (k : Int))) (hk : k < len) :
    Quiet P C t h o (.lit (.pointer (some ⟨b, k, none⟩))) := by
  have := Quiet.ixl (P := P) (C := C) (h := h) (n := 1) ho hx hy hk
  rwa [Nat.zero_add, Nat.mul_one] at this
theorem AOp.stL {ty : TypeId} {x y : Operand} {i g off n : Nat} {cells new : List AV} [SZ P ty n] (ho : o.op = .store ty x y) (hx : evA t x = .lit (.pointer (some ⟨g, off, none⟩))) (hi : h[i]? = some (.res (boxR g cells))) (hp : Parts h (evA t y) new) (hc : AV.clL new = true) (hs : n = new.length) (hle : off + new.length ≤ cells.length)
    (hK : K ⟨putA t o.dst (.lit undef), h.set i (.res (boxR g (cells.take off ++ new ++ cells.drop (off + new.length))))⟩) : AOp P C o ⟨t, h⟩ K := by
  refine AOp.turn (ι := Unit) (Rs := fun _ => boxR g (cells.take off ++ new ++ cells.drop (off + new.length))) (val := fun _ => undef) hi (fun _ => rfl) (fun S ψ w ρ H hR hlt hρ => ?_) fun _ => hK
  have hx' := hρ x (by rw [ho]; simp [Op.operands])
  have hy' := hρ y (by rw [ho]; simp [Op.operands])
  rw [hx] at hx'
  unfold AV.rel at hx'
  obtain ⟨cs, e, hg, hcs⟩ := hR
  obtain ⟨hn, h1⟩ := hp C S ψ w _ H hy'
  have hnl := relL_len hn
  have hcl := relL_len hcs
  have hr := run_storeAt (P := P) (ty := ty) (v := ρ y) (off := off) (w := w) (by rw [SZ.eq (P := P) (ty := ty) (n := n), hnl, hs]) hg (by rw [hnl, List.size_toArray, hcl]; exact hle) h1
  rw [hnl] at hr
  have hgr := grown_setRow w g (cs.take off ++ (ρ y).cells.toList ++ cs.drop (off + new.length)).toArray
  have hblk : ∀ k, S k → (w.setRow g (cs.take off ++ (ρ y).cells.toList ++ cs.drop (off + new.length)).toArray).heap[k]? = w.heap[k]? := fun k hk => setRow_other _ _ _ _ fun e => ((H.blk i _ hi).1 k (show k = g from e)).2.1 hk
  simp only [execOp, ho, hx', Sem.run_bind, hr, Result.andThen_ok, Sem.run_pure, tUpon]
  refine ⟨⟨hgr.os, hgr.tape, hgr.output, hgr.size, fun k hk hn => hgr.block k hk fun e => hn (by injection e)⟩, (), rfl, ⟨_, e, setRow_heap w g _ _ e _ hg, ?_⟩, fun k hk => ?_⟩
  · have hE : Ext w S [] ψ0 (w.setRow g (cs.take off ++ (ρ y).cells.toList ++ cs.drop (off + new.length)).toArray) S [] ψ0 := Ext.grow [] ψ0 hblk fun _ h => h
    exact AV.relL_ext hE _ _ (relL_append (relL_append (relL_take hcs off) (AV.relL_cl _ _ hc hn)) (relL_drop hcs _))
  · have hk : k = g := hk
    subst hk
    have h5 : k < w.heap.size := (Array.getElem?_eq_some_iff.1 hg).1
    exact ⟨.inl rfl, Nat.lt_of_lt_of_le h5 hgr.size⟩
theorem AOp.mkL {ty : TypeId} {x y : Operand} {k k' : IntKind} {n : Nat} {e : TypeId} {z : Value} {bytes : Nat} (ho : o.op = .makeSlice ty x y) (hz : zeroOne P ty = some (e, z, bytes))
    (hx : evA t x = .lit (.int k (n : Int))) (hy : evA t y = .lit (.int k' (n : Int))) (hb : bytes * n ≤ 281474976710656) (hn : n ≤ maxLen)
    (hK : ∀ g, K ⟨putA t o.dst (.lit (.slice (some ⟨g, 0, none⟩) n n)), h ++ [.res (boxR g (List.replicate n (.lit z)))]⟩) : AOp P C o ⟨t, h⟩ K := by
  refine AOp.make_res (ι := Nat) (Rs := fun g => boxR g (List.replicate n (.lit z))) (val := fun g => .slice (some ⟨g, 0, none⟩) n n) (fun _ => rfl) (fun S ψ w ρ H hρ => ?_) hK
  have hx' := hρ x (by rw [ho]; simp [Op.operands])
  have hy' := hρ y (by rw [ho]; simp [Op.operands])
  rw [hx] at hx'
  rw [hy] at hy'
  unfold AV.rel at hx' hy'
  unfold zeroOne at hz
  split at hz <;> try (cases hz; done)
  rename_i e' h1
  obtain ⟨i, hi, h2⟩ := Option.bind_eq_some_iff.1 hz
  obtain ⟨z', hz', h3⟩ := Option.bind_eq_some_iff.1 h2
  split at h3 <;> try (cases h3; done)
  rename_i h4
  cases h3
  have hzc := cells_one h4.2
  have hrun := run_make_row' (P := P) ty e z i.bytes h1 (by rw [hi]; simp [hz', h4.1]) hzc k k' n hb (by unfold maxLen at hn; omega) w
  rw [made_rep1] at hrun
  have hbl := (Below.refl w.heap.size w).alloc (Nat.le_refl _) (.cells (List.replicate n z).toArray e)
  have he : (execOp ρ o).run P w = .ok (.value (.slice (some ⟨w.heap.size, 0, none⟩) n n)) (w.alloc (.cells (List.replicate n z).toArray e)) := by simp [execOp, ho, hx', hy', hrun]
  rw [he]
  refine ⟨⟨hbl.os, hbl.tape, hbl.output, hbl.size, fun k hk _ => hbl.block k hk⟩, w.heap.size, rfl, ⟨List.replicate n z, e, heap_alloc_new w _, ?_⟩, fun k hk => ?_⟩
  · refine relL_of (by simp) fun j x v hx hv => ?_
    rw [List.eq_of_mem_replicate (List.mem_of_getElem? hx), List.eq_of_mem_replicate (List.mem_of_getElem? hv)]
    unfold AV.rel
    rfl
  · have hk : k = w.heap.size := hk
    subst hk
    exact ⟨.inr (Nat.le_refl _), by simp⟩
end
end Mu
end
section
/-
  Parts of rows, over abstract states.
  Conditions: none; generic.
-/
namespace Mu
open Go Go.RowKit Go.ChangeShapes Go.WideShapes

/-- a bound that is given, or not -/
def Bnd (d : Nat) : Option Value → Nat → Prop
  | none, n => n = d
  | some v, n => ∃ k, v = .int k (n : Int)
section
variable {P : Program} {C : Ctx} {t : List AV} {h : List ABlk} {o : Oper}
theorem run_sl {ty : TypeId} {sz len cap l m : Nat} {a : Option Addr} {lo hi : Option Value} {w : World} (hs : elemSz P ty = some sz) (hl : Bnd 0 lo l) (hh : Bnd len hi m) (h1 : l ≤ m) (h2 : m ≤ cap) :
    (Instr.sliceAt ty (.slice a len cap) lo hi none).run P w = .ok (.slice (if cap = l then a else a.map (·.add (l * sz))) (m - l) (cap - l)) w := by
  unfold elemSz at hs
  split at hs <;> try (cases hs; done)
  rename_i e hu
  cases hi' : P.info? e with
  | none => rw [hi'] at hs; cases hs
  | some i =>
    rw [hi'] at hs
    simp only [Option.map_some, Option.some.injEq] at hs
    have he : P.elem ty = e := by simp [Program.elem, hu]
    have hu' : P.underlying ty = some (.slice (P.elem ty)) := by rw [he]; exact hu
    have hz : (Go.sizeOf (P.elem ty)).run P w = .ok sz w := by rw [he]; simp [Go.sizeOf, typeInfo, hi', hs]
    rw [run_sliceAt_slice (h := hu')]
    cases lo with
    | none =>
      have hl : l = 0 := hl
      subst hl
      cases hi with
      | none =>
        have hh : m = len := hh
        subst hh
        rw [run_slice_all (ht := hu'), hz]
        simp [sliced]
      | some v =>
        obtain ⟨k, rfl⟩ := hh
        rw [run_slice_h (ht := hu') (h0 := by omega) (h2 := by omega), hz]
        simp [sliced]
    | some u =>
      obtain ⟨ku, rfl⟩ := hl
      cases hi with
      | none =>
        have hh : m = len := hh
        subst hh
        rw [run_slice_l (ht := hu') (h0 := by omega) (h1 := by omega), hz]
        simp [sliced]
      | some v =>
        obtain ⟨k, rfl⟩ := hh
        rw [run_slice_lh (ht := hu') (h0 := by omega) (h1 := by omega) (h2 := by omega), hz]
        simp [sliced]
theorem slice_part {α : Type} {T : Ty α} {w : World} {S : Nat → Prop} {a : Option Addr} {n c l m : Nat} {ds : List α} (h : T.slice.RS w S [.slice a n c] ds) (h1 : l ≤ m) (h2 : m ≤ ds.length) :
    T.slice.RS w S [.slice (if c = l then a else a.map (·.add (l * T.size))) (m - l) (c - l)] ((ds.take m).drop l) := by
  obtain ⟨A, c', e, hle, ⟨hc, hn⟩, hi⟩ := h
  simp only [List.cons.injEq, Value.slice.injEq, and_true] at e
  obtain ⟨rfl, rfl, rfl⟩ := e
  have hlen : ((ds.take m).drop l).length = m - l := by simp; omega
  refine ⟨_, c - l, by rw [hlen], by rw [hlen]; omega, ⟨by omega, fun e => ?_⟩, fun i d hd => ?_⟩
  · split at e
    · rename_i hcl
      omega
    · cases a with
      | none => have := hn rfl; omega
      | some x => simp at e
  · rw [List.getElem?_drop, List.getElem?_take] at hd
    split at hd
    · rename_i hlt
      obtain ⟨b, off, rfl, hat⟩ := hi _ _ hd
      have hne : ¬ c = l := by omega
      refine ⟨b, off + l * T.size, by rw [if_neg hne]; simp [add_plain], ?_⟩
      rw [show off + l * T.size + i * T.size = off + (l + i) * T.size by rw [Nat.add_mul]; omega]
      exact hat
    · cases hd
/-- a bound among the slots -/
def BndA (t : List AV) (d : Nat) : Option Operand → Nat → Prop
  | none, n => n = d
  | some x, n => ∃ k, evA t x = .lit (.int k (n : Int))
theorem BndA.val {d n : Nat} {x : Option Operand} (hb : BndA t d x n) {w : World} {S : Nat → Prop} {ψ : Nat → Value} {ρ : Operand → Value} (hρ : ∀ y, x = some y → AV.rel w S h ψ (evA t y) (ρ y)) : Bnd d (x.map ρ) n := by
  cases x with
  | none => exact hb
  | some y =>
    obtain ⟨k, hk⟩ := hb
    have := hρ y rfl
    rw [hk] at this
    unfold AV.rel at this
    exact ⟨k, this⟩
theorem Quiet.slc {ty : TypeId} {x : Operand} {lo hi : Option Operand} {n l m : Nat} {α : Type} {T : Ty α} {ds : List α} [ES P ty n] (ho : o.op = .slice ty x lo hi none) (hx : evA t x = .bs T ds) (hs : T.size = n) (hl : BndA t 0 lo l) (hm : BndA t ds.length hi m) (h1 : l ≤ m) (h2 : m ≤ ds.length) :
    Quiet P C t h o (.bs T ((ds.take m).drop l)) :=
  Quiet.of_run fun S ψ w ρ H hρ => by
    have hx' := hρ x (by rw [ho]; simp [Op.operands])
    have hlo := hl.val (h := h) (w := w) (S := S) (ψ := ψ) (ρ := ρ) fun y hy => hρ y (by rw [ho, hy]; simp [Op.operands])
    have hhi := hm.val (h := h) (w := w) (S := S) (ψ := ψ) (ρ := ρ) fun y hy => hρ y (by rw [ho, hy]; simp [Op.operands])
    rw [hx] at hx'
    unfold AV.rel at hx'
    obtain ⟨A, c, e⟩ := slice_form hx'
    have hx2 := hx'
    rw [e] at hx2
    have hle : m ≤ c := by
      obtain ⟨A', c', e', h3, _⟩ := hx2
      simp only [List.cons.injEq, Value.slice.injEq, and_true] at e'
      omega
    have hr := run_sl (P := P) (w := w) (a := A) (cap := c) (ES.eq (P := P) (ty := ty) (n := n)) hlo hhi h1 hle
    refine ⟨_, by simp [execOp, ho, e, hr]; rfl, ?_⟩
    unfold AV.rel
    rw [← hs]
    exact slice_part hx2 h1 h2
/-- the first ones of a row of the call's own -/
theorem AOp.cutRow {ty : TypeId} {x : Operand} {hi' : Option Operand} {i ver m n : Nat} {e : TypeId} {α : Type} {T : Ty α} {l : List α} {K : St → Prop} [ES P ty n] (ho : o.op = .slice ty x none hi' none) (hx : evA t x = .own i ver) (hi : h[i]? = some (.row ver e T l)) (hs : T.size = n)
    (hm : BndA t l.length hi' m) (h2 : m ≤ l.length) (hK : K ⟨putA t o.dst (.own i (ver + 1)), h.set i (.row (ver + 1) e T (l.take m))⟩) : AOp P C o ⟨t, h⟩ K := by
  rintro Q' a w ⟨hd, S, ψ, H, hl⟩
  refine ⟨fun c e => (by rw [ho] at e; cases e), ?_⟩
  have hx' := ev_rel hl x
  have hhi := hm.val (h := h) (w := w) (S := S) (ψ := ψ) (ρ := a.eval) fun y hy => ev_rel hl y
  rw [hx] at hx'
  unfold AV.rel at hx'
  have hv := (hx'.2 _ (by rw [hi]; rfl)).2 rfl
  obtain ⟨cells, hown, h0, hR, hNS⟩ := H.blk i _ hi
  obtain ⟨v', hrun, hown', hob, hbk⟩ : ∃ v', (Instr.sliceAt ty (ψ i) none (hi'.map a.eval) none).run P w = .ok v' w ∧ w.ownsRow 0 e T.size v' m (cells.take (m * T.size)) ∧ (∀ g, v'.ownBlock = some g → (ψ i).ownBlock = some g) ∧ (∀ g, blkOf v' = some g → blkOf (ψ i) = some g) := by
    obtain ⟨hcl, hcase⟩ := hown
    rcases hcase with ⟨e1, e2⟩ | ⟨g, cap, cur, e1, e2, e3, e4, e5, e6, e7⟩
    · have hm0 : m = 0 := by omega
      subst hm0
      have hr := run_sl (P := P) (w := w) (a := none) (len := 0) (cap := 0) (l := 0) (m := 0) (lo := none) (hi := hi'.map a.eval) (ES.eq (P := P) (ty := ty) (n := n)) rfl (by rw [e2] at hhi; exact hhi) (Nat.le_refl _) (Nat.le_refl _)
      refine ⟨.slice none 0 0, ?_, ⟨by simp, .inl ⟨rfl, rfl⟩⟩, fun g hg => by simp [Value.ownBlock] at hg, fun g hg => by simp [blkOf] at hg⟩
      rw [e1]
      simpa using hr
    · have hr := run_sl (P := P) (w := w) (a := some ⟨g, 0, none⟩) (len := l.length) (cap := cap) (l := 0) (m := m) (lo := none) (hi := hi'.map a.eval) (ES.eq (P := P) (ty := ty) (n := n)) rfl hhi (Nat.zero_le _) (by omega)
      refine ⟨.slice (some ⟨g, 0, none⟩) m cap, ?_, ⟨by rw [List.length_take, hcl]; exact Nat.min_eq_left (Nat.mul_le_mul_right _ h2), .inr ⟨g, cap, cur, rfl, e2, e3, by omega, e5, e6, ?_⟩⟩, fun g' hg => by rw [e1]; exact hg, fun g' hg => by rw [e1]; exact hg⟩
      · rw [e1, hr]
        simp [add_plain]
      · rw [← e7, List.take_take, Nat.min_eq_left (Nat.mul_le_mul_right _ h2)]
  have X : Ext w S h ψ w S (h.set i (.row (ver + 1) e T (l.take m))) (ψset ψ i v') := Ext.set (fun _ _ => rfl) hi (fun c' hc => by
    simp only [ABlk.ver, Option.some.injEq] at hc
    exact ⟨ver, rfl, by omega, fun e => by omega⟩) fun h => by simp [ABlk.isBox] at h
  have hB : BRel C.N w S (h.set i (.row (ver + 1) e T (l.take m))) (ψset ψ i v') v' (.row (ver + 1) e T (l.take m)) := by
    refine ⟨cells.take (m * T.size), by rw [List.length_take, Nat.min_eq_left h2]; exact hown', h0, fun j d hj => ?_, fun g hg => hNS g (hob g hg)⟩
    rw [List.getElem?_take] at hj
    split at hj
    · rename_i hjm
      have := hR j d hj
      have hle : (j + 1) * T.size ≤ m * T.size := Nat.mul_le_mul_right _ (by omega)
      rw [Nat.add_mul, Nat.one_mul] at hle
      rw [List.drop_take, List.take_take, Nat.min_eq_left (by omega)]
      exact this
    · cases hj
  unfold Oper.wp
  simp only [execOp, ho, hv, Option.map_none, hrun, Sem.run_bind, Result.andThen_ok, Sem.run_pure, Oper.upon]
  refine ⟨_, hK, st_set (s := ⟨t, h⟩) hi hd hl (H.set hi rfl ⟨rfl, rfl, rfl, Nat.le_refl _, fun _ _ _ => rfl⟩ X hB fun g hg => .inl (hbk g hg)) X ?_⟩
  unfold AV.rel
  refine ⟨by simp [(List.getElem?_eq_some_iff.1 hi).1], fun c' hc' => ?_⟩
  rw [List.getElem?_set_self (List.getElem?_eq_some_iff.1 hi).1] at hc'
  simp only [ABlk.ver, Option.some.injEq] at hc'
  exact ⟨by omega, fun _ => by rw [ψset_self]⟩
/-- an empty row with room -/
theorem AOp.mk0 {ty : TypeId} {x y : Operand} {k k' : IntKind} {n m : Nat} {e : TypeId} {bytes : Nat} {α : Type} {T : Ty α} {K : St → Prop} [RT P ty e m bytes] [TyOf P e α T] (ho : o.op = .makeSlice ty x y) (hs : T.size = m) (h0 : 0 < T.size)
    (hx : evA t x = .lit (.int k 0)) (hy : evA t y = .lit (.int k' (n : Int))) (hb : bytes * n ≤ 281474976710656) (hn : n ≤ maxLen) (hK : K ⟨putA t o.dst (.own h.length 0), h ++ [.row 0 e T []]⟩) : AOp P C o ⟨t, h⟩ K := by
  rintro Q' a w ⟨hd, S, ψ, H, hl⟩
  refine ⟨fun c e => (by rw [ho] at e; cases e), ?_⟩
  have hx' := ev_rel hl x
  have hy' := ev_rel hl y
  rw [hx] at hx'
  rw [hy] at hy'
  unfold AV.rel at hx' hy'
  obtain ⟨h1, ti, z, h2, h3, h4, h5, h6⟩ := rowTy_spec (RT.eq (P := P) (ty := ty) (e := e) (n := m) (bytes := bytes))
  have hb' : (ti.bytes : Int) * (n : Int) ≤ 281474976710656 := by
    rw [h5]
    have h : ((bytes * n : Nat) : Int) ≤ 281474976710656 := by omega
    rwa [Int.natCast_mul] at h
  have hrun := run_make (P := P) w ty e ti z h1 h2 h3 k k' 0 n (by omega) (by omega) hb' (by unfold maxLen at hn; omega)
  simp only [Int.toNat_natCast, Int.toNat_zero, h4] at hrun
  unfold Oper.wp
  refine AOp.newRow (s := ⟨t, h⟩) (T := T) (l := []) (e := e) (cells := []) (n := 0) (cap := n) (w' := w.alloc (.cells (madeCells z.cells (n * m)) e)) hd H hl ?_ ((Below.refl _ _).alloc (Nat.le_refl _) _) ?_ h0 ?_ hK
  · simp [execOp, ho, hx', hy', hrun]
  · refine ⟨by simp, .inr ⟨_, n, _, rfl, Nat.zero_le _, heap_alloc_new w _, Nat.zero_le _, hn, by rw [hs]; simp [madeCells], by simp⟩⟩
  · intro j d hj
    simp at hj
/-- memory that is nowhere -/
theorem St.le_res0 {t : List AV} {h : List ABlk} {R : Res} (hR : ∀ w S, R.R w S) (hF : ∀ g, ¬ R.F g) (hm : R.mrk = []) : St.le C ⟨t, h⟩ ⟨t, h ++ [.res R]⟩ := fun a w ⟨hd, S, ψ, H, hl⟩ => by
  have X : Ext w S h ψ w S (h ++ [.res R]) (ψset ψ h.length undef) := Ext.push _ _ fun _ _ => rfl
  have hH := H.push (b := .res R) (v := undef) (Below.refl _ _) (show BRel _ _ _ _ _ _ (.res R) from ⟨fun g hg => (hF g hg).elim, hR w S⟩) fun g hg => (hF g hg).elim
  refine ⟨?_, S, _, hH, AV.relL_ext X _ _ hl⟩
  show a.defers = mkD (h ++ [.res R])
  rw [mkD_push]
  show a.defers = R.mrk.map mark ++ mkD h
  rw [hm]
  exact hd
end
end Mu
end
section
/-
  Steps of a walk whose small goals close by themselves.
  Conditions: none; generic.
-/
namespace Mu
open Go Go.RowKit

section
variable {P : Program} {C : Ctx} {t t' t'' : List AV} {h h' h'' : List ABlk} {o : Oper} {r : AV} {ops : Array Oper} {rest : List Oper} {K : St → Prop}
theorem sQ (hg : gA ops t o = some true := by rfl) (hq : Quiet P C t h o r := by (first
    | exact Quiet.move rfl (by (conv => lhs; whnf); try rfl)
    | exact Quiet.assign rfl (by (conv => lhs; whnf); try rfl)
    | exact Quiet.fa_ptr rfl rfl rfl
    | exact Quiet.fa_bp rfl rfl
    | exact Quiet.fa_rp rfl rfl rfl
    | exact Quiet.faL rfl rfl
    | exact Quiet.load_ptr rfl rfl rfl rfl
    | exact Quiet.load_bp rfl rfl rfl
    | exact Quiet.load_rp rfl rfl rfl (by assumption) rfl
    | exact Quiet.loadA_ptr rfl rfl rfl rfl
    | exact Quiet.loadA_bp rfl rfl rfl
    | exact Quiet.ix rfl rfl rfl rfl (by assumption)
    | exact Quiet.ixi rfl rfl rfl rfl (by first | decide | omega) (by assumption)
    | exact Quiet.ixo rfl rfl rfl rfl rfl (by first | assumption | omega)
    | exact Quiet.ixoi rfl rfl rfl rfl rfl (by first | decide | omega) (by first | assumption | omega)
    | exact Quiet.ixl0 rfl rfl rfl (by first | assumption | omega)
    | exact Quiet.ln rfl rfl
    | exact Quiet.lno rfl rfl rfl
    | exact Quiet.lnl rfl rfl
    | exact Quiet.add64 rfl rfl rfl (by omega)
    | exact Quiet.sub64 rfl rfl rfl (by omega)
    | exact Quiet.binb rfl rfl rfl rfl (by assumption)
    | exact Quiet.bin rfl rfl rfl rfl
    | exact Quiet.bnot rfl rfl
    | exact Quiet.pick rfl rfl (by (conv => lhs; whnf); try rfl)
    | exact Quiet.extract rfl rfl rfl
    | exact Quiet.lt1 rfl rfl rfl (by rfl) (by decide) (by first | exact Fit.bool | exact Fit.bs | exact Fit.int (by assumption))
    | exact Quiet.max2 rfl rfl rfl
    | exact Quiet.min2 rfl rfl rfl
    | exact Quiet.ldL (i := 1) rfl rfl rfl (by first | rfl | assumption) rfl
    | exact Quiet.ldL (i := 2) rfl rfl rfl (by first | rfl | assumption) rfl
    | exact Quiet.ldL (i := 3) rfl rfl rfl (by first | rfl | assumption) rfl
    | exact Quiet.ldL (i := 4) rfl rfl rfl (by first | rfl | assumption) rfl
    | exact Quiet.ldL (i := 5) rfl rfl rfl (by first | rfl | assumption) rfl
    | exact Quiet.ldL (i := 6) rfl rfl rfl (by first | rfl | assumption) rfl
    | exact Quiet.ldL (i := 7) rfl rfl rfl (by first | rfl | assumption) rfl
    | exact Quiet.ldL (i := 8) rfl rfl rfl (by first | rfl | assumption) rfl
    | exact Quiet.ldAL (i := 1) rfl rfl rfl rfl rfl
    | exact Quiet.ldAL (i := 2) rfl rfl rfl rfl rfl
    | exact Quiet.ldAL (i := 3) rfl rfl rfl rfl rfl
    | exact Quiet.ldAL (i := 4) rfl rfl rfl rfl rfl
    | exact Quiet.ldAL (i := 5) rfl rfl rfl rfl rfl
    | exact Quiet.ldAL (i := 6) rfl rfl rfl rfl rfl
    | exact Quiet.ldAL (i := 7) rfl rfl rfl rfl rfl
    | exact Quiet.ldAL (i := 8) rfl rfl rfl rfl rfl)) (ht : putA t o.dst r = t' := by ((try simp only [putA, List.set_cons_zero, List.set_cons_succ]); exact rfl)) (hk : aSeq P C ops K rest ⟨t', h⟩) : aSeq P C ops K (o :: rest) ⟨t, h⟩ := by
  subst ht
  exact aSeq_q hg hq hk
theorem sSkip (hg : gA ops t o = some false := by rfl) (ht : putA t o.dst (.lit undef) = t' := by ((try simp only [putA, List.set_cons_zero, List.set_cons_succ]); exact rfl)) (hk : aSeq P C ops K rest ⟨t', h⟩) : aSeq P C ops K (o :: rest) ⟨t, h⟩ := by
  subst ht
  exact aSeq_skip hg hk
theorem sOwn (hg : gA ops t o = some true := by rfl) (hq : ∀ K' : St → Prop, K' ⟨t'', h''⟩ → AOp P C o ⟨t, h⟩ K' := by (intro K' hK; (first
    | exact AOp.box rfl Parts0.agg hK
    | exact AOp.al rfl hK
    | exact AOp.stBox rfl rfl rfl (Parts.aggB rfl) rfl (Nat.le_of_ble_eq_true rfl) hK
    | exact AOp.stBox (new := [_]) rfl rfl rfl (Parts.one (One.lit rfl)) rfl (Nat.le_of_ble_eq_true rfl) hK
    | exact AOp.app rfl rfl rfl rfl rfl (by first | assumption | (simp [maxLen]; done) | (simp [maxLen]; omega)) (by first | assumption | (simp; done) | (simp; omega)) hK
    | exact AOp.stRow rfl rfl rfl (by assumption) (by first | exact Fit.bool | exact Fit.bs | exact Fit.int (by assumption)) rfl hK))) (ht : t'' = t' := by ((try simp only [putA, List.set_cons_zero, List.set_cons_succ]); exact rfl)) (hh : h'' = h' := by ((try simp only [List.nil_append, List.cons_append, List.set_cons_zero, List.set_cons_succ, List.length_nil, List.length_cons, Nat.reduceAdd]); exact rfl)) (hk : aSeq P C ops K rest ⟨t', h'⟩) : aSeq P C ops K (o :: rest) ⟨t, h⟩ := by
  subst ht hh
  exact aSeq_o hg (hq _ hk)
theorem sNt (ht : t = t' := by ((try simp only [putA, List.set_cons_zero, List.set_cons_succ]); exact rfl)) (hh : h = h' := by ((try simp only [List.nil_append, List.cons_append, List.set_cons_zero, List.set_cons_succ, List.length_nil, List.length_cons, Nat.reduceAdd]); exact rfl)) (hk : aSeq P C ops K rest ⟨t', h'⟩) : aSeq P C ops K rest ⟨t, h⟩ := by
  subst ht hh
  exact hk
theorem qQ {K : List AV → Prop} (hg : gA ops t o = some true := by rfl) (hq : Quiet P C t h o r := by (first
    | exact Quiet.move rfl (by (conv => lhs; whnf); try rfl)
    | exact Quiet.assign rfl (by (conv => lhs; whnf); try rfl)
    | exact Quiet.fa_ptr rfl rfl rfl
    | exact Quiet.fa_bp rfl rfl
    | exact Quiet.fa_rp rfl rfl rfl
    | exact Quiet.faL rfl rfl
    | exact Quiet.load_ptr rfl rfl rfl rfl
    | exact Quiet.load_bp rfl rfl rfl
    | exact Quiet.load_rp rfl rfl rfl (by assumption) rfl
    | exact Quiet.loadA_ptr rfl rfl rfl rfl
    | exact Quiet.loadA_bp rfl rfl rfl
    | exact Quiet.ix rfl rfl rfl rfl (by assumption)
    | exact Quiet.ixi rfl rfl rfl rfl (by first | decide | omega) (by assumption)
    | exact Quiet.ixo rfl rfl rfl rfl rfl (by first | assumption | omega)
    | exact Quiet.ixoi rfl rfl rfl rfl rfl (by first | decide | omega) (by first | assumption | omega)
    | exact Quiet.ixl0 rfl rfl rfl (by first | assumption | omega)
    | exact Quiet.ln rfl rfl
    | exact Quiet.lno rfl rfl rfl
    | exact Quiet.lnl rfl rfl
    | exact Quiet.add64 rfl rfl rfl (by omega)
    | exact Quiet.sub64 rfl rfl rfl (by omega)
    | exact Quiet.binb rfl rfl rfl rfl (by assumption)
    | exact Quiet.bin rfl rfl rfl rfl
    | exact Quiet.bnot rfl rfl
    | exact Quiet.pick rfl rfl (by (conv => lhs; whnf); try rfl)
    | exact Quiet.extract rfl rfl rfl
    | exact Quiet.lt1 rfl rfl rfl (by rfl) (by decide) (by first | exact Fit.bool | exact Fit.bs | exact Fit.int (by assumption))
    | exact Quiet.max2 rfl rfl rfl
    | exact Quiet.min2 rfl rfl rfl
    | exact Quiet.ldL (i := 1) rfl rfl rfl (by first | rfl | assumption) rfl
    | exact Quiet.ldL (i := 2) rfl rfl rfl (by first | rfl | assumption) rfl
    | exact Quiet.ldL (i := 3) rfl rfl rfl (by first | rfl | assumption) rfl
    | exact Quiet.ldL (i := 4) rfl rfl rfl (by first | rfl | assumption) rfl
    | exact Quiet.ldL (i := 5) rfl rfl rfl (by first | rfl | assumption) rfl
    | exact Quiet.ldL (i := 6) rfl rfl rfl (by first | rfl | assumption) rfl
    | exact Quiet.ldL (i := 7) rfl rfl rfl (by first | rfl | assumption) rfl
    | exact Quiet.ldL (i := 8) rfl rfl rfl (by first | rfl | assumption) rfl
    | exact Quiet.ldAL (i := 1) rfl rfl rfl rfl rfl
    | exact Quiet.ldAL (i := 2) rfl rfl rfl rfl rfl
    | exact Quiet.ldAL (i := 3) rfl rfl rfl rfl rfl
    | exact Quiet.ldAL (i := 4) rfl rfl rfl rfl rfl
    | exact Quiet.ldAL (i := 5) rfl rfl rfl rfl rfl
    | exact Quiet.ldAL (i := 6) rfl rfl rfl rfl rfl
    | exact Quiet.ldAL (i := 7) rfl rfl rfl rfl rfl
    | exact Quiet.ldAL (i := 8) rfl rfl rfl rfl rfl)) (ht : putA t o.dst r = t' := by ((try simp only [putA, List.set_cons_zero, List.set_cons_succ]); exact rfl)) (hk : aQ P C ops h K rest t') : aQ P C ops h K (o :: rest) t := by
  subst ht
  exact aQ_q hg hq hk
theorem qSkip {K : List AV → Prop} (hg : gA ops t o = some false := by rfl) (ht : putA t o.dst (.lit undef) = t' := by ((try simp only [putA, List.set_cons_zero, List.set_cons_succ]); exact rfl)) (hk : aQ P C ops h K rest t') : aQ P C ops h K (o :: rest) t := by
  subst ht
  exact aQ_skip hg hk
theorem oQ {K : St → Prop} (hq : Quiet P C t h o r := by (first
    | exact Quiet.move rfl (by (conv => lhs; whnf); try rfl)
    | exact Quiet.assign rfl (by (conv => lhs; whnf); try rfl)
    | exact Quiet.fa_ptr rfl rfl rfl
    | exact Quiet.fa_bp rfl rfl
    | exact Quiet.fa_rp rfl rfl rfl
    | exact Quiet.faL rfl rfl
    | exact Quiet.load_ptr rfl rfl rfl rfl
    | exact Quiet.load_bp rfl rfl rfl
    | exact Quiet.load_rp rfl rfl rfl (by assumption) rfl
    | exact Quiet.loadA_ptr rfl rfl rfl rfl
    | exact Quiet.loadA_bp rfl rfl rfl
    | exact Quiet.ix rfl rfl rfl rfl (by assumption)
    | exact Quiet.ixi rfl rfl rfl rfl (by first | decide | omega) (by assumption)
    | exact Quiet.ixo rfl rfl rfl rfl rfl (by first | assumption | omega)
    | exact Quiet.ixoi rfl rfl rfl rfl rfl (by first | decide | omega) (by first | assumption | omega)
    | exact Quiet.ixl0 rfl rfl rfl (by first | assumption | omega)
    | exact Quiet.ln rfl rfl
    | exact Quiet.lno rfl rfl rfl
    | exact Quiet.lnl rfl rfl
    | exact Quiet.add64 rfl rfl rfl (by omega)
    | exact Quiet.sub64 rfl rfl rfl (by omega)
    | exact Quiet.binb rfl rfl rfl rfl (by assumption)
    | exact Quiet.bin rfl rfl rfl rfl
    | exact Quiet.bnot rfl rfl
    | exact Quiet.pick rfl rfl (by (conv => lhs; whnf); try rfl)
    | exact Quiet.extract rfl rfl rfl
    | exact Quiet.lt1 rfl rfl rfl (by rfl) (by decide) (by first | exact Fit.bool | exact Fit.bs | exact Fit.int (by assumption))
    | exact Quiet.max2 rfl rfl rfl
    | exact Quiet.min2 rfl rfl rfl
    | exact Quiet.ldL (i := 1) rfl rfl rfl (by first | rfl | assumption) rfl
    | exact Quiet.ldL (i := 2) rfl rfl rfl (by first | rfl | assumption) rfl
    | exact Quiet.ldL (i := 3) rfl rfl rfl (by first | rfl | assumption) rfl
    | exact Quiet.ldL (i := 4) rfl rfl rfl (by first | rfl | assumption) rfl
    | exact Quiet.ldL (i := 5) rfl rfl rfl (by first | rfl | assumption) rfl
    | exact Quiet.ldL (i := 6) rfl rfl rfl (by first | rfl | assumption) rfl
    | exact Quiet.ldL (i := 7) rfl rfl rfl (by first | rfl | assumption) rfl
    | exact Quiet.ldL (i := 8) rfl rfl rfl (by first | rfl | assumption) rfl
    | exact Quiet.ldAL (i := 1) rfl rfl rfl rfl rfl
    | exact Quiet.ldAL (i := 2) rfl rfl rfl rfl rfl
    | exact Quiet.ldAL (i := 3) rfl rfl rfl rfl rfl
    | exact Quiet.ldAL (i := 4) rfl rfl rfl rfl rfl
    | exact Quiet.ldAL (i := 5) rfl rfl rfl rfl rfl
    | exact Quiet.ldAL (i := 6) rfl rfl rfl rfl rfl
    | exact Quiet.ldAL (i := 7) rfl rfl rfl rfl rfl
    | exact Quiet.ldAL (i := 8) rfl rfl rfl rfl rfl)) (ht : putA t o.dst r = t' := by ((try simp only [putA, List.set_cons_zero, List.set_cons_succ]); exact rfl)) (hk : K ⟨t', h⟩) : AOp P C o ⟨t, h⟩ K := by
  subst ht
  exact AOp.q hq hk
theorem oOwn {K : St → Prop} (hq : ∀ K' : St → Prop, K' ⟨t'', h''⟩ → AOp P C o ⟨t, h⟩ K' := by (intro K' hK; (first
    | exact AOp.box rfl Parts0.agg hK
    | exact AOp.al rfl hK
    | exact AOp.stBox rfl rfl rfl (Parts.aggB rfl) rfl (Nat.le_of_ble_eq_true rfl) hK
    | exact AOp.stBox (new := [_]) rfl rfl rfl (Parts.one (One.lit rfl)) rfl (Nat.le_of_ble_eq_true rfl) hK
    | exact AOp.app rfl rfl rfl rfl rfl (by first | assumption | (simp [maxLen]; done) | (simp [maxLen]; omega)) (by first | assumption | (simp; done) | (simp; omega)) hK
    | exact AOp.stRow rfl rfl rfl (by assumption) (by first | exact Fit.bool | exact Fit.bs | exact Fit.int (by assumption)) rfl hK))) (ht : t'' = t' := by ((try simp only [putA, List.set_cons_zero, List.set_cons_succ]); exact rfl)) (hh : h'' = h' := by ((try simp only [List.nil_append, List.cons_append, List.set_cons_zero, List.set_cons_succ, List.length_nil, List.length_cons, Nat.reduceAdd]); exact rfl)) (hk : K ⟨t', h'⟩) : AOp P C o ⟨t, h⟩ K := by
  subst ht hh
  exact hq _ hk
theorem nT {c : Code} {Q : Exit → St → Prop} (ht : t = t' := by ((try simp only [putA, List.set_cons_zero, List.set_cons_succ]); exact rfl)) (hh : h = h' := by ((try simp only [List.nil_append, List.cons_append, List.set_cons_zero, List.set_cons_succ, List.length_nil, List.length_cons, Nat.reduceAdd]); exact rfl)) (hk : Awp P C c Q ⟨t', h'⟩) : Awp P C c Q ⟨t, h⟩ := by
  subst ht hh
  exact hk
theorem le_T (hb : bdH h = true := by rfl) (hf : Fgt h.length t t' := by ((try simp only [putA, List.set_cons_zero, List.set_cons_succ]); repeat (first | exact Fgt.nil | refine Fgt.keep rfl ?_ | refine Fgt.any ?_))) : St.le C ⟨t, h⟩ ⟨t', h⟩ := St.le_t hb hf
theorem le_C (hc : Cut h h') (hb : bdH h' = true := by rfl) (hf : Fgt h'.length t t' := by ((try simp only [putA, List.set_cons_zero, List.set_cons_succ]); repeat (first | exact Fgt.nil | refine Fgt.keep rfl ?_ | refine Fgt.any ?_))) (hm : mkD h' = mkD h := by rfl) : St.le C ⟨t, h⟩ ⟨t', h'⟩ := St.le_c hc hb hf hm
theorem drawD {id : Nat} {l l1 l2 : List Oper} {Q : Exit → St → Prop} (n : Nat) (hm : P.follows .mixedOrders = true := by kernel_rfl) (hB : regB l.toArray n = true := by kernel_rfl) (h1 : l.take n = l1 := by (simp only [List.take_succ_cons, List.take_zero, List.drop_succ_cons, List.drop_zero, List.take_nil, List.drop_nil]; exact rfl)) (h2 : l.drop n = l2 := by (simp only [List.take_succ_cons, List.take_zero, List.drop_succ_cons, List.drop_zero, List.take_nil, List.drop_nil]; exact rfl))
    (hh : aQ P C l.toArray h (fun t => aSeq P C l.toArray (Q .normal) l2 ⟨t, h⟩) l1 t) : Awp P C (.region id l.toArray true) Q ⟨t, h⟩ := by
  subst h1 h2
  exact Awp.draw n hm hB hh
theorem tStep {g : Nat} {listed : Array Bool} {s : St} (rs : List Nat) (hh : tAll P C ops K g listed s rs) (hr : Region.ready .any ops listed = rs := by kernel_rfl) (hne : rs ≠ [] := by simp) : tAny P C .any ops K (g + 1) listed s := tAny_step rs hr hne hh
theorem tDone {listed : Array Bool} {s : St} (hh : K s) (hr : Region.ready .any ops listed = [] := by kernel_rfl) : tAny P C .any ops K 0 listed s := tAny_done hr hh
theorem tC {i g : Nat} {listed : Array Bool} {s : St} {rs : List Nat} (h1 : AOp P C o s (tAny P C .any ops K g (listed.setIfInBounds i true))) (h2 : tAll P C ops K g listed s rs) (ho : ops[i]? = some o := by (simp only [List.getElem?_toArray, List.getElem?_cons_succ, List.getElem?_cons_zero]; exact rfl)) (hg : gA ops s.t o = some true := by rfl) : tAll P C ops K g listed s (i :: rs) := tAll_cons ho hg h1 h2
theorem tNt {g : Nat} {listed : Array Bool} (ht : t = t' := by ((try simp only [putA, List.set_cons_zero, List.set_cons_succ]); exact rfl)) (hh : h = h' := by ((try simp only [List.nil_append, List.cons_append, List.set_cons_zero, List.set_cons_succ, List.length_nil, List.length_cons, Nat.reduceAdd]); exact rfl)) (hk : tAny P C .any ops K g listed ⟨t', h'⟩) : tAny P C .any ops K g listed ⟨t, h⟩ := by
  subst ht hh
  exact hk
end
end Mu
end
section
/-
  Rows written out that have no room behind them: what is appended to them makes a new row.
  Conditions: none; generic.
-/
namespace Mu
open Go Go.RowKit Go.ChangeShapes Go.WideShapes

section
variable {P : Program} {C : Ctx} {t : List AV} {h : List ABlk} {o : Oper}
end
end Mu
end
section
/-
  Operations whose guards are not decided: what they yield is told case by case.
  Conditions: none; generic.
-/
namespace Mu
open Go Go.RowKit

section
variable {P : Program} {C : Ctx} {t t' : List AV} {h : List ABlk} {o : Oper} {r : AV} {ops : Array Oper} {rest : List Oper} {K : St → Prop}
theorem gA_c {j : Nat} {want q c : Bool} (ho : o.guard = some (j, want)) (hd : ((ops[j]?).bind (·.dst)).bind (t[·]?) = some (cond q (.lit (.bool c)) (.lit undef))) : gA ops t o = some (q && (c == want)) := by
  unfold gA
  rw [ho]
  simp only
  rw [hd]
  cases q <;> rfl
theorem aY_g {g : Bool} (hg : gA ops t o = some g) (hq : g = true → Quiet P C t h o r) : aYields P C ops h o (cond g r (.lit undef)) t := by
  cases g with
  | true => exact .inl ⟨hg, hq rfl⟩
  | false => exact .inr ⟨hg, rfl⟩
theorem sG {g : Bool} (hg : gA ops t o = some g := by first | rfl | exact gA_c rfl rfl) (hq : g = true → Quiet P C t h o r := by (intro hg; (try simp only [Bool.and_eq_true, beq_iff_eq] at hg); (try simp only [hg, cond_true, Bool.true_and, beq_self_eq_true]); (first
    | exact Quiet.pickOr rfl rfl rfl rfl
    | exact Quiet.pickAnd rfl rfl rfl rfl
    | exact Quiet.pickOr' rfl rfl rfl rfl
    | exact Quiet.pickAnd' rfl rfl rfl rfl
    | exact Quiet.move rfl (by (conv => lhs; whnf); try rfl)
    | exact Quiet.assign rfl (by (conv => lhs; whnf); try rfl)
    | exact Quiet.fa_ptr rfl rfl rfl
    | exact Quiet.fa_bp rfl rfl
    | exact Quiet.fa_rp rfl rfl rfl
    | exact Quiet.faL rfl rfl
    | exact Quiet.load_ptr rfl rfl rfl rfl
    | exact Quiet.load_bp rfl rfl rfl
    | exact Quiet.load_rp rfl rfl rfl (by assumption) rfl
    | exact Quiet.loadA_ptr rfl rfl rfl rfl
    | exact Quiet.loadA_bp rfl rfl rfl
    | exact Quiet.ix rfl rfl rfl rfl (by assumption)
    | exact Quiet.ixi rfl rfl rfl rfl (by first | decide | omega) (by assumption)
    | exact Quiet.ixo rfl rfl rfl rfl rfl (by first | assumption | omega)
    | exact Quiet.ixoi rfl rfl rfl rfl rfl (by first | decide | omega) (by first | assumption | omega)
    | exact Quiet.ixl0 rfl rfl rfl (by first | assumption | omega)
    | exact Quiet.ln rfl rfl
    | exact Quiet.lno rfl rfl rfl
    | exact Quiet.lnl rfl rfl
    | exact Quiet.add64 rfl rfl rfl (by omega)
    | exact Quiet.sub64 rfl rfl rfl (by omega)
    | exact Quiet.binb rfl rfl rfl rfl (by assumption)
    | exact Quiet.bin rfl rfl rfl rfl
    | exact Quiet.bnot rfl rfl
    | exact Quiet.pick rfl rfl (by (conv => lhs; whnf); try rfl)
    | exact Quiet.extract rfl rfl rfl
    | exact Quiet.lt1 rfl rfl rfl (by rfl) (by decide) (by first | exact Fit.bool | exact Fit.bs | exact Fit.int (by assumption))
    | exact Quiet.max2 rfl rfl rfl
    | exact Quiet.min2 rfl rfl rfl
    | exact Quiet.ldL (i := 1) rfl rfl rfl (by first | rfl | assumption) rfl
    | exact Quiet.ldL (i := 2) rfl rfl rfl (by first | rfl | assumption) rfl
    | exact Quiet.ldL (i := 3) rfl rfl rfl (by first | rfl | assumption) rfl
    | exact Quiet.ldL (i := 4) rfl rfl rfl (by first | rfl | assumption) rfl
    | exact Quiet.ldL (i := 5) rfl rfl rfl (by first | rfl | assumption) rfl
    | exact Quiet.ldL (i := 6) rfl rfl rfl (by first | rfl | assumption) rfl
    | exact Quiet.ldL (i := 7) rfl rfl rfl (by first | rfl | assumption) rfl
    | exact Quiet.ldL (i := 8) rfl rfl rfl (by first | rfl | assumption) rfl
    | exact Quiet.ldAL (i := 1) rfl rfl rfl rfl rfl
    | exact Quiet.ldAL (i := 2) rfl rfl rfl rfl rfl
    | exact Quiet.ldAL (i := 3) rfl rfl rfl rfl rfl
    | exact Quiet.ldAL (i := 4) rfl rfl rfl rfl rfl
    | exact Quiet.ldAL (i := 5) rfl rfl rfl rfl rfl
    | exact Quiet.ldAL (i := 6) rfl rfl rfl rfl rfl
    | exact Quiet.ldAL (i := 7) rfl rfl rfl rfl rfl
    | exact Quiet.ldAL (i := 8) rfl rfl rfl rfl rfl))) (ht : putA t o.dst (cond g r (.lit undef)) = t' := by ((try simp only [putA, List.set_cons_zero, List.set_cons_succ]); exact rfl)) (hk : aSeq P C ops K rest ⟨t', h⟩) : aSeq P C ops K (o :: rest) ⟨t, h⟩ := by
  subst ht
  cases g with
  | true => exact aSeq_q hg (hq rfl) hk
  | false => exact aSeq_skip hg hk
theorem qG {K : List AV → Prop} {g : Bool} (hg : gA ops t o = some g := by first | rfl | exact gA_c rfl rfl) (hq : g = true → Quiet P C t h o r := by (intro hg; (try simp only [Bool.and_eq_true, beq_iff_eq] at hg); (try simp only [hg, cond_true, Bool.true_and, beq_self_eq_true]); (first
    | exact Quiet.pickOr rfl rfl rfl rfl
    | exact Quiet.pickAnd rfl rfl rfl rfl
    | exact Quiet.pickOr' rfl rfl rfl rfl
    | exact Quiet.pickAnd' rfl rfl rfl rfl
    | exact Quiet.move rfl (by (conv => lhs; whnf); try rfl)
    | exact Quiet.assign rfl (by (conv => lhs; whnf); try rfl)
    | exact Quiet.fa_ptr rfl rfl rfl
    | exact Quiet.fa_bp rfl rfl
    | exact Quiet.fa_rp rfl rfl rfl
    | exact Quiet.faL rfl rfl
    | exact Quiet.load_ptr rfl rfl rfl rfl
    | exact Quiet.load_bp rfl rfl rfl
    | exact Quiet.load_rp rfl rfl rfl (by assumption) rfl
    | exact Quiet.loadA_ptr rfl rfl rfl rfl
    | exact Quiet.loadA_bp rfl rfl rfl
    | exact Quiet.ix rfl rfl rfl rfl (by assumption)
    | exact Quiet.ixi rfl rfl rfl rfl (by first | decide | omega) (by assumption)
    | exact Quiet.ixo rfl rfl rfl rfl rfl (by first | assumption | omega)
    | exact Quiet.ixoi rfl rfl rfl rfl rfl (by first | decide | omega) (by first | assumption | omega)
    | exact Quiet.ixl0 rfl rfl rfl (by first | assumption | omega)
    | exact Quiet.ln rfl rfl
    | exact Quiet.lno rfl rfl rfl
    | exact Quiet.lnl rfl rfl
    | exact Quiet.add64 rfl rfl rfl (by omega)
    | exact Quiet.sub64 rfl rfl rfl (by omega)
    | exact Quiet.binb rfl rfl rfl rfl (by assumption)
    | exact Quiet.bin rfl rfl rfl rfl
    | exact Quiet.bnot rfl rfl
    | exact Quiet.pick rfl rfl (by (conv => lhs; whnf); try rfl)
    | exact Quiet.extract rfl rfl rfl
    | exact Quiet.lt1 rfl rfl rfl (by rfl) (by decide) (by first | exact Fit.bool | exact Fit.bs | exact Fit.int (by assumption))
    | exact Quiet.max2 rfl rfl rfl
    | exact Quiet.min2 rfl rfl rfl
    | exact Quiet.ldL (i := 1) rfl rfl rfl (by first | rfl | assumption) rfl
    | exact Quiet.ldL (i := 2) rfl rfl rfl (by first | rfl | assumption) rfl
    | exact Quiet.ldL (i := 3) rfl rfl rfl (by first | rfl | assumption) rfl
    | exact Quiet.ldL (i := 4) rfl rfl rfl (by first | rfl | assumption) rfl
    | exact Quiet.ldL (i := 5) rfl rfl rfl (by first | rfl | assumption) rfl
    | exact Quiet.ldL (i := 6) rfl rfl rfl (by first | rfl | assumption) rfl
    | exact Quiet.ldL (i := 7) rfl rfl rfl (by first | rfl | assumption) rfl
    | exact Quiet.ldL (i := 8) rfl rfl rfl (by first | rfl | assumption) rfl
    | exact Quiet.ldAL (i := 1) rfl rfl rfl rfl rfl
    | exact Quiet.ldAL (i := 2) rfl rfl rfl rfl rfl
    | exact Quiet.ldAL (i := 3) rfl rfl rfl rfl rfl
    | exact Quiet.ldAL (i := 4) rfl rfl rfl rfl rfl
    | exact Quiet.ldAL (i := 5) rfl rfl rfl rfl rfl
    | exact Quiet.ldAL (i := 6) rfl rfl rfl rfl rfl
    | exact Quiet.ldAL (i := 7) rfl rfl rfl rfl rfl
    | exact Quiet.ldAL (i := 8) rfl rfl rfl rfl rfl))) (ht : putA t o.dst (cond g r (.lit undef)) = t' := by ((try simp only [putA, List.set_cons_zero, List.set_cons_succ]); exact rfl)) (hk : aQ P C ops h K rest t') : aQ P C ops h K (o :: rest) t := by
  subst ht
  exact ⟨_, aY_g hg hq, hk⟩
theorem Quiet.pickOr {c a b : Operand} {q e : Bool} (ho : o.op = .pick c a b) (hc : evA t c = .lit (.bool q)) (ha : evA t a = .lit (.bool true)) (hb : evA t b = cond (q == false) (.lit (.bool e)) (.lit undef)) : Quiet P C t h o (.lit (.bool (q || e))) := by
  refine Quiet.pick ho hc ?_
  cases q
  · exact hb
  · exact ha
theorem Quiet.pickAnd {c a b : Operand} {q e : Bool} (ho : o.op = .pick c a b) (hc : evA t c = .lit (.bool q)) (ha : evA t a = cond (q == true) (.lit (.bool e)) (.lit undef)) (hb : evA t b = .lit (.bool false)) : Quiet P C t h o (.lit (.bool (q && e))) := by
  refine Quiet.pick ho hc ?_
  cases q
  · exact hb
  · exact ha
end
end Mu
end
section
/-
  Texts: length, a byte, the rest of one, whether two are the same.
  Conditions: none; generic.
-/
namespace Mu
open Go Go.RowKit Go.Proofs

section
variable {P : Program} {C : Ctx} {o : Oper} {t : List AV} {h : List ABlk}
end
end Mu
end
section
/-
  Bytes: texts as rows of bytes and back.
  Conditions: none; generic.
-/
namespace Mu
open Go Go.RowKit Go.ChangeShapes Go.WideShapes Go.Proofs

section
variable {P : Program} {C : Ctx} {o : Oper} {t : List AV} {h : List ABlk}
end
end Mu
end
section
/-
  Contracts that presuppose something of the world that no call changes (a table that is laid).
  Conditions: none; generic.
-/
namespace Mu
open Go Go.RowKit Go.Proofs

end Mu
end
section
/-
  Calls whose result is a fresh row, kept as one's own; functions that return such a row, or take a row and hand it back.
  Conditions: none; generic.
-/
namespace Mu
open Go Go.RowKit Go.Proofs

section
variable {P : Program} {C : Ctx} {t : List AV} {h : List ABlk} {o : Oper}
end
end Mu
end
section
/-
  Function values: made, lent to functions, called.
  Conditions: none; generic.
-/
namespace Mu
open Go Go.RowKit Go.Proofs

section
variable {P : Program} {C : Ctx} {o : Oper} {t : List AV} {h : List ABlk}
/-! ### what is the call's own, lent -/
end
end Mu
end
section
/-
  Whole regions in one step: what a region does is found by the facts that lie at hand.
  Conditions: none; generic.
-/
namespace Mu
open Go Go.RowKit Go.Proofs

section
variable {P : Program} {C : Ctx}
theorem AOp.weak {o : Oper} {s : St} {K K' : St → Prop} (hk : ∀ s, K s → K' s) (h : AOp P C o s K) : AOp P C o s K' := fun Q' a w H =>
  let ⟨h1, h2⟩ := h Q' a w H
  ⟨h1, Oper.wp_mono (fun _ _ ⟨s', k1, k2⟩ => ⟨s', hk _ k1, k2⟩) h2⟩
theorem aSeq_weak {ops : Array Oper} {K K' : St → Prop} (hk : ∀ s, K s → K' s) : ∀ {l : List Oper} {s : St}, aSeq P C ops K l s → aSeq P C ops K' l s
  | [], s, h => hk s h
  | o :: rest, s, h => by
    obtain ⟨b, hg, ht, hf⟩ := h
    exact ⟨b, hg, fun e => (ht e).weak fun s h => aSeq_weak hk h, fun e => aSeq_weak hk (hf e)⟩
theorem aQ_weak {ops : Array Oper} {h : List ABlk} {K K' : List AV → Prop} (hk : ∀ s, K s → K' s) : ∀ {l : List Oper} {t : List AV}, aQ P C ops h K l t → aQ P C ops h K' l t
  | [], s, h => hk s h
  | o :: rest, t, h => by
    obtain ⟨r, h1, h2⟩ := h
    exact ⟨r, h1, aQ_weak hk h2⟩
theorem Quiet.callA {t : List AV} {h : List ABlk} {o : Oper} {f : FuncId} {args : Array Operand} {tys : Array TypeId} {xs : List AV} {r : AV}
    (ho : o.op = .call { callee := .value (.func f), args := args, argTypes := tys }) (hx : args.toList.map (evA t) = xs) (hF : Fn P f xs r) (hc : AV.clL xs = true) (hr : AV.cl r = true) : Quiet P C t h o r := Quiet.call ho hF hx hc hr
theorem Quiet.pickOrB {t : List AV} {h : List ABlk} {o : Oper} {c a b : Operand} {q e : Bool} (ho : o.op = .pick c a b) (hc : evA t c = .lit (.bool q)) (ha : evA t a = .lit (.bool true)) (hb : evA t b = cond (!q) (.lit (.bool e)) (.lit undef)) : Quiet P C t h o (.lit (.bool (q || e))) :=
  Quiet.pickOr ho hc ha (by rw [hb]; cases q <;> rfl)
theorem Quiet.pickAndB {t : List AV} {h : List ABlk} {o : Oper} {c a b : Operand} {q e : Bool} (ho : o.op = .pick c a b) (hc : evA t c = .lit (.bool q)) (ha : evA t a = cond q (.lit (.bool e)) (.lit undef)) (hb : evA t b = .lit (.bool false)) : Quiet P C t h o (.lit (.bool (q && e))) :=
  Quiet.pickAnd ho hc (by rw [ha]; cases q <;> rfl) hb
theorem wEnd {ops : Array Oper} {s s' : St} (e : s = s') : aSeq P C ops (fun x => x = s') [] s := e
theorem qEnd {ops : Array Oper} {h : List ABlk} {t t' : List AV} (e : t = t') : aQ P C ops h (fun x => x = t') [] t := e

section
variable {t t' t'' : List AV} {h h' h'' : List ABlk} {o : Oper} {r : AV} {ops : Array Oper} {rest : List Oper} {K : St → Prop}
theorem sA (hg : gA ops t o = some true := by rfl) (hq : Quiet P C t h o r := by (first
    | exact Quiet.callA rfl rfl (by assumption) rfl rfl
    | exact Quiet.callTA rfl rfl (by assumption) (by assumption) (by assumption) (by assumption) rfl rfl
    | exact Quiet.bin rfl rfl rfl (by assumption)
    | exact Quiet.pickOr rfl rfl rfl rfl
    | exact Quiet.pickAnd rfl rfl rfl rfl
    | exact Quiet.pickOrB rfl rfl rfl rfl
    | exact Quiet.pickAndB rfl rfl rfl rfl
    | exact Quiet.pickOr' rfl rfl rfl rfl
    | exact Quiet.pickAnd' rfl rfl rfl rfl
    | exact Quiet.move rfl (by (conv => lhs; whnf); try rfl)
    | exact Quiet.assign rfl (by (conv => lhs; whnf); try rfl)
    | exact Quiet.fa_ptr rfl rfl rfl
    | exact Quiet.fa_bp rfl rfl
    | exact Quiet.fa_rp rfl rfl rfl
    | exact Quiet.faL rfl rfl
    | exact Quiet.load_ptr rfl rfl rfl rfl
    | exact Quiet.load_bp rfl rfl rfl
    | exact Quiet.load_rp rfl rfl rfl (by assumption) rfl
    | exact Quiet.loadA_ptr rfl rfl rfl rfl
    | exact Quiet.loadA_bp rfl rfl rfl
    | exact Quiet.ix rfl rfl rfl rfl (by assumption)
    | exact Quiet.ixi rfl rfl rfl rfl (by first | decide | omega) (by assumption)
    | exact Quiet.ixo rfl rfl rfl rfl rfl (by first | assumption | omega)
    | exact Quiet.ixoi rfl rfl rfl rfl rfl (by first | decide | omega) (by first | assumption | omega)
    | exact Quiet.ixl0 rfl rfl rfl (by first | assumption | omega)
    | exact Quiet.ln rfl rfl
    | exact Quiet.lno rfl rfl rfl
    | exact Quiet.lnl rfl rfl
    | exact Quiet.add64 rfl rfl rfl (by omega)
    | exact Quiet.sub64 rfl rfl rfl (by omega)
    | exact Quiet.binb rfl rfl rfl rfl (by assumption)
    | exact Quiet.bin rfl rfl rfl rfl
    | exact Quiet.bnot rfl rfl
    | exact Quiet.pick rfl rfl (by (conv => lhs; whnf); try rfl)
    | exact Quiet.extract rfl rfl rfl
    | exact Quiet.lt1 rfl rfl rfl (by rfl) (by decide) (by first | exact Fit.bool | exact Fit.bs | exact Fit.int (by assumption))
    | exact Quiet.max2 rfl rfl rfl
    | exact Quiet.min2 rfl rfl rfl
    | exact Quiet.ldL (i := 0) rfl rfl rfl (by first | rfl | assumption) rfl
    | exact Quiet.ldL (i := 1) rfl rfl rfl (by first | rfl | assumption) rfl
    | exact Quiet.ldL (i := 2) rfl rfl rfl (by first | rfl | assumption) rfl
    | exact Quiet.ldL (i := 3) rfl rfl rfl (by first | rfl | assumption) rfl
    | exact Quiet.ldL (i := 4) rfl rfl rfl (by first | rfl | assumption) rfl
    | exact Quiet.ldL (i := 5) rfl rfl rfl (by first | rfl | assumption) rfl
    | exact Quiet.ldL (i := 6) rfl rfl rfl (by first | rfl | assumption) rfl
    | exact Quiet.ldL (i := 7) rfl rfl rfl (by first | rfl | assumption) rfl
    | exact Quiet.ldL (i := 8) rfl rfl rfl (by first | rfl | assumption) rfl
    | exact Quiet.ldAL (i := 1) rfl rfl rfl rfl rfl
    | exact Quiet.ldAL (i := 2) rfl rfl rfl rfl rfl
    | exact Quiet.ldAL (i := 3) rfl rfl rfl rfl rfl
    | exact Quiet.ldAL (i := 4) rfl rfl rfl rfl rfl
    | exact Quiet.ldAL (i := 5) rfl rfl rfl rfl rfl
    | exact Quiet.ldAL (i := 6) rfl rfl rfl rfl rfl
    | exact Quiet.ldAL (i := 7) rfl rfl rfl rfl rfl
    | exact Quiet.ldAL (i := 8) rfl rfl rfl rfl rfl
    | exact Quiet.eqb rfl rfl rfl (by assumption)
    | exact Quiet.eqb rfl rfl rfl rfl
    | exact Quiet.neb rfl rfl rfl (by assumption)
    | exact Quiet.neb rfl rfl rfl rfl
    | exact Quiet.eqSs rfl rfl rfl
    | exact Quiet.eqS rfl rfl rfl
    | exact Quiet.neS rfl rfl rfl
    | exact Quiet.lnS rfl rfl
    | exact Quiet.ixS rfl rfl rfl (by assumption)
    | exact Quiet.cat rfl rfl rfl (by first | assumption | omega)
    | exact Quiet.cut rfl rfl rfl rfl (by first | assumption | omega) (by first | assumption | omega)
    | exact Quiet.cutS rfl rfl rfl (by first | assumption | omega)
    | exact Quiet.shl rfl rfl rfl (by decide) (by assumption)
    | exact Quiet.shl rfl rfl rfl (by decide) rfl
    | exact Quiet.shr rfl rfl rfl (by decide) (by assumption)
    | exact Quiet.shr rfl rfl rfl (by decide) rfl
    | exact Quiet.bit rfl rfl rfl rfl (by assumption)
    | exact Quiet.bit rfl rfl rfl rfl rfl
    | exact Quiet.mkFn rfl
    | exact Quiet.callV rfl rfl rfl (by assumption) rfl (by first | rfl | assumption) rfl
    | exact Quiet.cv rfl rfl (by assumption)
    | exact Quiet.cv rfl rfl rfl
    | exact Quiet.b2s rfl rfl
    | exact Quiet.s2b rfl rfl (by first | assumption | omega))) (ht : putA t o.dst r = t' := by ((try simp only [putA, List.set_cons_zero, List.set_cons_succ]); exact rfl)) (hk : aSeq P C ops K rest ⟨t', h⟩) : aSeq P C ops K (o :: rest) ⟨t, h⟩ := by
  subst ht
  exact aSeq_q hg hq hk
theorem qA {K : List AV → Prop} (hg : gA ops t o = some true := by rfl) (hq : Quiet P C t h o r := by (first
    | exact Quiet.callA rfl rfl (by assumption) rfl rfl
    | exact Quiet.callTA rfl rfl (by assumption) (by assumption) (by assumption) (by assumption) rfl rfl
    | exact Quiet.bin rfl rfl rfl (by assumption)
    | exact Quiet.pickOr rfl rfl rfl rfl
    | exact Quiet.pickAnd rfl rfl rfl rfl
    | exact Quiet.pickOrB rfl rfl rfl rfl
    | exact Quiet.pickAndB rfl rfl rfl rfl
    | exact Quiet.pickOr' rfl rfl rfl rfl
    | exact Quiet.pickAnd' rfl rfl rfl rfl
    | exact Quiet.move rfl (by (conv => lhs; whnf); try rfl)
    | exact Quiet.assign rfl (by (conv => lhs; whnf); try rfl)
    | exact Quiet.fa_ptr rfl rfl rfl
    | exact Quiet.fa_bp rfl rfl
    | exact Quiet.fa_rp rfl rfl rfl
    | exact Quiet.faL rfl rfl
    | exact Quiet.load_ptr rfl rfl rfl rfl
    | exact Quiet.load_bp rfl rfl rfl
    | exact Quiet.load_rp rfl rfl rfl (by assumption) rfl
    | exact Quiet.loadA_ptr rfl rfl rfl rfl
    | exact Quiet.loadA_bp rfl rfl rfl
    | exact Quiet.ix rfl rfl rfl rfl (by assumption)
    | exact Quiet.ixi rfl rfl rfl rfl (by first | decide | omega) (by assumption)
    | exact Quiet.ixo rfl rfl rfl rfl rfl (by first | assumption | omega)
    | exact Quiet.ixoi rfl rfl rfl rfl rfl (by first | decide | omega) (by first | assumption | omega)
    | exact Quiet.ixl0 rfl rfl rfl (by first | assumption | omega)
    | exact Quiet.ln rfl rfl
    | exact Quiet.lno rfl rfl rfl
    | exact Quiet.lnl rfl rfl
    | exact Quiet.add64 rfl rfl rfl (by omega)
    | exact Quiet.sub64 rfl rfl rfl (by omega)
    | exact Quiet.binb rfl rfl rfl rfl (by assumption)
    | exact Quiet.bin rfl rfl rfl rfl
    | exact Quiet.bnot rfl rfl
    | exact Quiet.pick rfl rfl (by (conv => lhs; whnf); try rfl)
    | exact Quiet.extract rfl rfl rfl
    | exact Quiet.lt1 rfl rfl rfl (by rfl) (by decide) (by first | exact Fit.bool | exact Fit.bs | exact Fit.int (by assumption))
    | exact Quiet.max2 rfl rfl rfl
    | exact Quiet.min2 rfl rfl rfl
    | exact Quiet.ldL (i := 0) rfl rfl rfl (by first | rfl | assumption) rfl
    | exact Quiet.ldL (i := 1) rfl rfl rfl (by first | rfl | assumption) rfl
    | exact Quiet.ldL (i := 2) rfl rfl rfl (by first | rfl | assumption) rfl
    | exact Quiet.ldL (i := 3) rfl rfl rfl (by first | rfl | assumption) rfl
    | exact Quiet.ldL (i := 4) rfl rfl rfl (by first | rfl | assumption) rfl
    | exact Quiet.ldL (i := 5) rfl rfl rfl (by first | rfl | assumption) rfl
    | exact Quiet.ldL (i := 6) rfl rfl rfl (by first | rfl | assumption) rfl
    | exact Quiet.ldL (i := 7) rfl rfl rfl (by first | rfl | assumption) rfl
    | exact Quiet.ldL (i := 8) rfl rfl rfl (by first | rfl | assumption) rfl
    | exact Quiet.ldAL (i := 1) rfl rfl rfl rfl rfl
    | exact Quiet.ldAL (i := 2) rfl rfl rfl rfl rfl
    | exact Quiet.ldAL (i := 3) rfl rfl rfl rfl rfl
    | exact Quiet.ldAL (i := 4) rfl rfl rfl rfl rfl
    | exact Quiet.ldAL (i := 5) rfl rfl rfl rfl rfl
    | exact Quiet.ldAL (i := 6) rfl rfl rfl rfl rfl
    | exact Quiet.ldAL (i := 7) rfl rfl rfl rfl rfl
    | exact Quiet.ldAL (i := 8) rfl rfl rfl rfl rfl
    | exact Quiet.eqb rfl rfl rfl (by assumption)
    | exact Quiet.eqb rfl rfl rfl rfl
    | exact Quiet.neb rfl rfl rfl (by assumption)
    | exact Quiet.neb rfl rfl rfl rfl
    | exact Quiet.eqSs rfl rfl rfl
    | exact Quiet.eqS rfl rfl rfl
    | exact Quiet.neS rfl rfl rfl
    | exact Quiet.lnS rfl rfl
    | exact Quiet.ixS rfl rfl rfl (by assumption)
    | exact Quiet.cat rfl rfl rfl (by first | assumption | omega)
    | exact Quiet.cut rfl rfl rfl rfl (by first | assumption | omega) (by first | assumption | omega)
    | exact Quiet.cutS rfl rfl rfl (by first | assumption | omega)
    | exact Quiet.shl rfl rfl rfl (by decide) (by assumption)
    | exact Quiet.shl rfl rfl rfl (by decide) rfl
    | exact Quiet.shr rfl rfl rfl (by decide) (by assumption)
    | exact Quiet.shr rfl rfl rfl (by decide) rfl
    | exact Quiet.bit rfl rfl rfl rfl (by assumption)
    | exact Quiet.bit rfl rfl rfl rfl rfl
    | exact Quiet.mkFn rfl
    | exact Quiet.callV rfl rfl rfl (by assumption) rfl (by first | rfl | assumption) rfl
    | exact Quiet.cv rfl rfl (by assumption)
    | exact Quiet.cv rfl rfl rfl
    | exact Quiet.b2s rfl rfl
    | exact Quiet.s2b rfl rfl (by first | assumption | omega))) (ht : putA t o.dst r = t' := by ((try simp only [putA, List.set_cons_zero, List.set_cons_succ]); exact rfl)) (hk : aQ P C ops h K rest t') : aQ P C ops h K (o :: rest) t := by
  subst ht
  exact aQ_q hg hq hk
end
section
variable {id : Nat} {l l1 l2 : List Oper} {y : Code} {Q : Exit → St → Prop} {t t' t'' : List AV} {h h' : List ABlk}
theorem wR (hx : aSeq P C l.toArray (fun s => s = ⟨t', h'⟩) l ⟨t, h⟩ := by ((repeat (first | refine sA (hk := ?_) | refine sSkip (hk := ?_) | refine sAG (hk := ?_) | refine sOwn (hk := ?_))); exact wEnd rfl)) (hk : Awp P C y Q ⟨t', h'⟩) : Awp P C (.seq (.region id l.toArray false) y) Q ⟨t, h⟩ :=
  Awp.seq fun _ hK => Awp.region (aSeq_weak (fun s e => by subst e; exact hK _ hk) hx)
theorem wRE (hx : aSeq P C l.toArray (fun s => s = ⟨t', h'⟩) l ⟨t, h⟩ := by ((repeat (first | refine sA (hk := ?_) | refine sSkip (hk := ?_) | refine sAG (hk := ?_) | refine sOwn (hk := ?_))); exact wEnd rfl)) (hk : Q .normal ⟨t', h'⟩) : Awp P C (.region id l.toArray false) Q ⟨t, h⟩ :=
  Awp.region (aSeq_weak (fun s e => by subst e; exact hk) hx)
theorem wDE (n : Nat) (hm : P.follows .mixedOrders = true := by kernel_rfl) (hB : regB l.toArray n = true := by kernel_rfl) (h1 : l.take n = l1 := by (simp only [List.take_succ_cons, List.take_zero, List.drop_succ_cons, List.drop_zero, List.take_nil, List.drop_nil]; exact rfl)) (h2 : l.drop n = l2 := by (simp only [List.take_succ_cons, List.take_zero, List.drop_succ_cons, List.drop_zero, List.take_nil, List.drop_nil]; exact rfl))
    (hq : aQ P C l.toArray h (fun x => x = t'') l1 t := by ((repeat (first | refine qA (hk := ?_) | refine qSkip (hk := ?_) | refine qAG (hk := ?_))); exact qEnd rfl))
    (hx : aSeq P C l.toArray (fun s => s = ⟨t', h'⟩) l2 ⟨t'', h⟩ := by ((repeat (first | refine sA (hk := ?_) | refine sSkip (hk := ?_) | refine sAG (hk := ?_) | refine sOwn (hk := ?_))); exact wEnd rfl)) (hk : Q .normal ⟨t', h'⟩) : Awp P C (.region id l.toArray true) Q ⟨t, h⟩ := by
  subst h1 h2
  exact Awp.draw n hm hB (aQ_weak (fun t e => by subst e; exact aSeq_weak (fun s e => by subst e; exact hk) hx) hq)
theorem wD (n : Nat) (hm : P.follows .mixedOrders = true := by kernel_rfl) (hB : regB l.toArray n = true := by kernel_rfl) (h1 : l.take n = l1 := by (simp only [List.take_succ_cons, List.take_zero, List.drop_succ_cons, List.drop_zero, List.take_nil, List.drop_nil]; exact rfl)) (h2 : l.drop n = l2 := by (simp only [List.take_succ_cons, List.take_zero, List.drop_succ_cons, List.drop_zero, List.take_nil, List.drop_nil]; exact rfl))
    (hq : aQ P C l.toArray h (fun x => x = t'') l1 t := by ((repeat (first | refine qA (hk := ?_) | refine qSkip (hk := ?_) | refine qAG (hk := ?_))); exact qEnd rfl))
    (hx : aSeq P C l.toArray (fun s => s = ⟨t', h'⟩) l2 ⟨t'', h⟩ := by ((repeat (first | refine sA (hk := ?_) | refine sSkip (hk := ?_) | refine sAG (hk := ?_) | refine sOwn (hk := ?_))); exact wEnd rfl)) (hk : Awp P C y Q ⟨t', h'⟩) : Awp P C (.seq (.region id l.toArray true) y) Q ⟨t, h⟩ :=
  Awp.seq fun _ hK => wDE n hm hB h1 h2 hq hx (hK _ hk)
end
theorem le_TA {t t' : List AV} {h : List ABlk} (hb : bdH h = true := by rfl) (hf : Fgt h.length t t' := by ((try simp only [putA, List.set_cons_zero, List.set_cons_succ]); repeat (first | exact Fgt.nil | refine Fgt.keep rfl ?_ | refine Fgt.any ?_ | refine Fgt.keep (by first | assumption | exact bd_of_cl _ _ (by assumption)) ?_))) : St.le C ⟨t, h⟩ ⟨t', h⟩ := St.le_t hb hf
end
end Mu
end
section
/-
  '[]byte("..")': a literal that is marked; what is appended to it makes a new row. A loop's first round apart.
  Conditions: none; generic.
-/
namespace Mu
open Go Go.RowKit Go.ChangeShapes Go.WideShapes Go.Proofs

section
variable {P : Program} {C : Ctx} {t : List AV} {h : List ABlk} {o : Oper} {K : St → Prop}
end
end Mu
end
section
/-
  'append(nil, make([]T, n)...)', capacities and parts of a nil row; an append to a nil row that is only read from then on.
  Conditions: none; generic.
-/
namespace Mu
open Go Go.RowKit Go.ChangeShapes Go.WideShapes Go.Proofs

section
variable {P : Program} {C : Ctx} {t : List AV} {h : List ABlk} {o : Oper} {K : St → Prop}
end
end Mu
end
section
/-
  A contract of a function with two results: an aggregate that it names, and a value.
  Conditions: none; generic.
-/
namespace Mu
open Go Go.RowKit Go.Proofs

section
variable {P : Program}
end
end Mu
end
section
/-
  Rows that fields of a variable hold: a nil field as an empty row of the call's own; such a row is stored; structs with parts left out.
  Conditions: none; generic.
-/
namespace Mu
open Go Go.RowKit Go.ChangeShapes Go.WideShapes Go.Proofs

theorem Quiet.bldP {P : Program} {C : Ctx} {t : List AV} {h : List ABlk} {o : Oper} {ty : TypeId} {parts : Array (Nat × Operand)} {zs : List Value} {pl : List (Nat × Nat)} {rs : List AV} [ZC P ty zs] (ho : o.op = .build ty parts) (hpl : places? P ty = some pl)
    (hr : putCells pl (zs.map .lit) (parts.toList.map fun p => (p.1, evA t p.2)) = some rs) (h1 : (parts.toList.all fun p => litBs (evA t p.2)) = true) : Quiet P C t h o (.agg rs) :=
  Quiet.build ho ZC.eq hpl hr fun p hp => One.litBs (List.all_eq_true.1 h1 p hp)
end Mu
end
