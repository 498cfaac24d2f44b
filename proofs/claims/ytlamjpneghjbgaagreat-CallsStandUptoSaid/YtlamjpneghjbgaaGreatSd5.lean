/-
  Own texts laid together, part 5: MuNew, MuBndP, MuRunP, MuCallsA, MuCallsB, MuGraphOf, MuBits, MuHas, MuRefCalls, MuReach, MuReachTop, MuReaches, MuRefReach, MuRefDepth, MuDepth, MuDepthTop, MuStandP, MuGreat, MuExample, MuDepthAny, MuLeaf, MuLeaf2, MuHead1, MuHead, MuStandL, MuPin, MuStackR, MuStandW, MuOpen, MuRowN.
  Conditions: as each part says.
-/
import Derived.Test.YtlamjpneghjbgaaGreatSd4
import Derived.BigQuiet
import Derived.WalkSpells
import Derived.Deep.RegionLaw
import Derived.Deep.RegionHeld3
import Derived.Laws.AppendOwnNone
import Derived.BigRegion
import Derived.Maps.OwnSet
import Derived.StillTailTactics
import Derived.Test.YtlamjpneghjbgaaGreatRows
import Derived.Carry
import Derived.OpenShut
import Derived.ProofKit
set_option linter.unusedSimpArgs false
set_option linter.unusedVariables false
section
/-
  flat.New: a model is made.
  Conditions: what the parts answer is known; rows that memory has room for.
-/
namespace Mu
open Go Go.RowKit Go.Proofs

abbrev NewO (p : Prog) (nb : ByteArray → Bool) (gr : Func → Int) (iv : Func → Ins → Bool) (ch : List Int) : Type := { e : Int // e ≠ 0 } ⊕ { m : MdA // m.Nrm ∧ m.abs = startM p ch ∧ Stat p nb gr iv }
section
variable {p : Prog} {nb : ByteArray → Bool} {gr : Func → Int} {iv : Func → Ins → Bool} {ch : List Int}
def newR (p : Prog) : NewO p nb gr iv ch → Res
  | .inl _ => .emp
  | .inr m => modR p m.1
def newV : NewO p nb gr iv ch → AV
  | .inl e => .tup [.lit (.pointer none), .lit (.int .i64 e.1)]
  | .inr m => .tup [.lit (ptV m.1.g 0), .lit (.int .i64 0)]
/-- the loop over threads -/
structure NewI (p : Prog) (ch hl : List Int) (k : Nat) (m : MdA) : Prop where
  le : k ≤ p.threads.length
  heap : m.heap = hl
  out : m.out = []
  ov : m.oc = m.ov
  ch : m.ch = ch
  at_ : m.at_ = 0
  kind : m.kind = 0
  v : m.v = 0
  tc : m.tc = m.tv
  ths : m.ths.map (fun t => t.l.map FrA.fr) = (p.threads.take k).map fun z => [newFr p z.toNat []]
  th : ∀ t ∈ m.ths, t.cv = t.fv ∧ ∃ fg c, t.fv = slV fg t.l.length c
  tg : 0 < k → ∃ tg c, m.tv = slV tg m.ths.length c
theorem NewI.len {hl : List Int} {k : Nat} {m : MdA} (h : NewI p ch hl k m) : m.ths.length = k := by
  have := congrArg List.length h.ths
  rw [List.length_map, List.length_map, List.length_take] at this
  have := h.le
  omega
theorem NewI.step {hl : List Int} {k : Nat} {m : MdA} {z : Int} {t2 : ThA} {v' : Value} {tg c : Nat} (h : NewI p ch hl k m) (hz : p.threads[k]? = some z) (e : t2.l.map FrA.fr = [newFr p z.toNat []]) (h1 : t2.cv = t2.fv ∧ ∃ fg c, t2.fv = slV fg t2.l.length c) (hv : v' = slV tg (m.ths ++ [t2]).length c) : NewI p ch hl (k + 1) { m with tv := v', tc := v', ths := m.ths ++ [t2] } := by
  have hk := (List.getElem?_eq_some_iff.1 hz).1
  refine ⟨hk, h.heap, h.out, h.ov, h.ch, h.at_, h.kind, h.v, rfl, ?_, fun t ht => ?_, fun _ => ⟨tg, c, hv⟩⟩
  · show (m.ths ++ [t2]).map _ = _
    rw [List.map_append, h.ths, List.take_add_one, hz, List.map_append]
    show _ ++ [t2.l.map FrA.fr] = _
    rw [e]
    rfl
  · have ht : t ∈ m.ths ++ [t2] := ht
    rcases List.mem_append.1 ht with ht | ht
    · exact h.th t ht
    · rw [List.mem_singleton.1 ht]
      exact h1
theorem NewI.nrm {hl : List Int} {k : Nat} {m : MdA} (h : NewI p ch hl k m) (hk : 0 < k) : m.Nrm := ⟨h.ov, h.tc, h.tg hk, h.th⟩
theorem NewI.abs {hl : List Int} {k : Nat} {m : MdA} (h : NewI p ch hl k m) (hk : k = p.threads.length) (hh : hl = List.replicate p.heap.toNat 0) : m.abs = startM p ch := by
  unfold MdA.abs startM
  rw [h.ths, h.heap, h.out, h.ch, h.at_, h.kind, h.v, hh, hk, List.take_length]
theorem new_thr (hS : Stat p nb gr iv) {z : Int} (hz : z ∈ p.threads) : ∃ n : Nat, 0 ≤ z ∧ z.toNat < p.funcs.length ∧ (funA p z.toNat).regs = (n : Int) ∧ n ≤ 65536 := by
  have ht := hS.top
  unfold topB at ht
  simp only [Bool.and_eq_true, Bool.not_eq_true', Bool.or_eq_false_iff, decide_eq_false_iff_not] at ht
  obtain ⟨_, h2⟩ := ht
  have h3 := List.any_eq_false.1 h2 z hz
  unfold topT at h3
  simp only [Bool.or_eq_true, Bool.not_eq_true', not_or, Bool.not_eq_false, bne_iff_ne, ne_eq, Decidable.not_not] at h3
  have h4 := hasB_iff h3.1
  have hlt : z.toNat < p.funcs.length := by omega
  have h := hS.heads z.toNat hlt
  unfold hdOk headB at h
  rw [show ixD p.funcs ((z.toNat : Nat) : Int) = funA p z.toNat from rfl] at h
  simp only [Bool.and_eq_true, decide_eq_true_eq, beq_iff_eq] at h
  obtain ⟨⟨⟨⟨⟨_, h1⟩, _⟩, h5⟩, h6⟩, _⟩ := h
  unfold maxI at h5
  refine ⟨(funA p z.toNat).regs.toNat, h4.1, hlt, ?_, by omega⟩
  split at h5 <;> omega
theorem newR_mrk (q : NewO p nb gr iv ch) : (newR p q).mrk = [] := by cases q <;> rfl
set_option maxHeartbeats 1000000 in
set_option maxRecDepth 100000 in
theorem new_fn (hI : ChkIn p nb gr iv) (hok : ∀ f ∈ p.funcs, okFunc f ∧ f.blocks.length ≤ 1073741824 ∧ ∀ b ∈ f.blocks, b.ins.length ≤ 1073741824 ∧ ∀ x ∈ b.ins, x.args.length ≤ 1073741824) (hch : ch.length ≤ 1073741824) : FnTurnS Tryz.prog 10 .emp [.agg (encProg p), .bs (Ty.int .u32) ch] (newR p : NewO p nb gr iv ch → Res) newV := by
  refine FnTurnS.of_awp2C Tryz.func10 rfl (by kernel_rfl) rfl Tryz.ntmps10 rfl fun C hCt => ?_
  have hC := Ctx.std_of hCt
  simp only [List.length_cons, List.length_nil, Nat.reduceAdd, Nat.reduceSub, List.replicate_succ, List.replicate_zero, List.cons_append, List.nil_append]
  refine wS (sB (sT (sT (wN ?_))))
  refine Awp.seq fun K2 h2 => ?_
  refine wS (sT ?_)
  refine aSeq_t rfl (AOp.callN rfl (check_fn hI) (fun _ => rfl) rfl rfl (fun _ => rfl) fun q => ?_)
  refine sNt (hk := ?_)
  dsimp only [chkR]
  refine sT (sT (sT (sA0 ?_)))
  refine sW (sT (wN ?_))
  obtain ⟨⟨⟨q1, q2⟩, e⟩, he⟩ := q
  have he : (e = 0 ∧ Stat p nb gr iv) ∨ e = 140 := he
  refine wS (sT (sT (wN ?_)))
  refine Awp.cond rfl (fun hb5 => ?_) (fun hb5 => ?_)
  · refine wR (hk := ?_)
    have hne : e ≠ 0 := by simpa using hb5
    exact Awp.ret ⟨.inr rfl, .inl ⟨e, hne⟩, rfl, rfl, rfl, rfl⟩
  · have he0 : e = 0 := by simpa using hb5
    have hSt : Stat p nb gr iv := by
      rcases he with h | h
      · exact h.2
      · omega
    obtain ⟨hN, hhN⟩ : ∃ hN : Nat, p.heap = (hN : Int) := ⟨p.heap.toNat, by
      have := hSt.top
      unfold topB at this
      simp only [Bool.and_eq_true, Bool.not_eq_true', Bool.or_eq_false_iff, decide_eq_false_iff_not] at this
      omega⟩
    have hN2 : hN ≤ 1024 := by
      have := hSt.top
      unfold topB at this
      simp only [Bool.and_eq_true, Bool.not_eq_true', Bool.or_eq_false_iff, decide_eq_false_iff_not] at this
      omega
    refine Awp.skip ?_
    refine h2 _ ?_
    refine nT (hk := ?_)
    refine Awp.via ⟨(.any :: .bs (Ty.int .u32) ch :: .ptr 1 0 :: A40 (A9 [])), [.res .emp, .box (encProg p)]⟩ (le_C (hc := .cons (.cons (.nil _)))) ?_
    refine dH 0 [5] [] (uT uN) fun K8 hK8 => vN ?_
    refine tJoin (setAll [5, 0, 1, 2, 3, 4, 6] (Array.replicate 10 false)) 3 (fun hg : Nat => ⟨(.any :: .bs (Ty.int .u32) ch :: .ptr 1 0 :: A10 (A6 (.agg (encProg p) :: .agg (encProg p) :: .ptr 1 0 :: .lit (.int .i64 p.heap) :: .lit (slV hg hN hN) :: .bs (Ty.int .u32) ch :: .bs (Ty.int .u32) ch :: A20 (A6 [])))), [.res .emp, .box (encProg p), .res (rowR (slV hg hN hN) 38 tW (List.replicate hN 0))]⟩) (fun hg => ?_) (fun hB => ?_)
    rotate_left
    · refine tStep [0, 2] (tC (oT ?_) (tC (oT ?_) tAll_nil))
      · refine tStep [1, 2] (tC (oH (Quiet.call1 rfl rfl (copied_fn hI.thr hI.fl hok) rfl rfl) ?_) (tC (oT ?_) tAll_nil))
        · refine tStep [2, 6] (tC (oT ?_) (tC (oH (Quiet.call1 rfl rfl (cloneF_word hch) rfl rfl) ?_) tAll_nil))
          · refine tStep [3, 6] (tC (oT ?_) (tC (oH (Quiet.call1 rfl rfl (cloneF_word hch) rfl rfl) ?_) tAll_nil))
            · refine tStep [4, 6] (tC ?_ (tC (oH (Quiet.call1 rfl rfl (cloneF_word hch) rfl rfl) ?_) tAll_nil))
              · refine AOp.mkW (T := tW) (0 : Int) (n := hN) (e := 38) (z := .int .u32 0) (bytes := 4) rfl (by kernel_rfl) rfl (fun w S => ⟨rfl, by decide⟩) (by show AV.lit (.int .i64 p.heap) = _; rw [hhN]) (by show AV.lit (.int .i64 p.heap) = _; rw [hhN]) (by omega) (by unfold maxLen; omega) fun hg => ?_
                refine tNt (hk := ?_)
                refine tH 6 (Quiet.call1 rfl rfl (cloneF_word hch) rfl rfl) ?_
                exact tE (hB hg)
              · refine tA 4 ?_
                refine AOp.mkW (T := tW) (0 : Int) (n := hN) (e := 38) (z := .int .u32 0) (bytes := 4) rfl (by kernel_rfl) rfl (fun w S => ⟨rfl, by decide⟩) (by show AV.lit (.int .i64 p.heap) = _; rw [hhN]) (by show AV.lit (.int .i64 p.heap) = _; rw [hhN]) (by omega) (by unfold maxLen; omega) fun hg => ?_
                refine tNt (hk := ?_)
                exact tE (hB hg)
            · refine tT 3 ?_
              refine tA 4 ?_
              refine AOp.mkW (T := tW) (0 : Int) (n := hN) (e := 38) (z := .int .u32 0) (bytes := 4) rfl (by kernel_rfl) rfl (fun w S => ⟨rfl, by decide⟩) (by show AV.lit (.int .i64 p.heap) = _; rw [hhN]) (by show AV.lit (.int .i64 p.heap) = _; rw [hhN]) (by omega) (by unfold maxLen; omega) fun hg => ?_
              refine tNt (hk := ?_)
              exact tE (hB hg)
          · refine tT 2 ?_
            refine tT 3 ?_
            refine tA 4 ?_
            refine AOp.mkW (T := tW) (0 : Int) (n := hN) (e := 38) (z := .int .u32 0) (bytes := 4) rfl (by kernel_rfl) rfl (fun w S => ⟨rfl, by decide⟩) (by show AV.lit (.int .i64 p.heap) = _; rw [hhN]) (by show AV.lit (.int .i64 p.heap) = _; rw [hhN]) (by omega) (by unfold maxLen; omega) fun hg => ?_
            refine tNt (hk := ?_)
            exact tE (hB hg)
        · refine tStep [1, 3] (tC (oH (Quiet.call1 rfl rfl (copied_fn hI.thr hI.fl hok) rfl rfl) ?_) (tC (oT ?_) tAll_nil))
          · refine tStep [3, 6] (tC (oT ?_) (tC (oH (Quiet.call1 rfl rfl (cloneF_word hch) rfl rfl) ?_) tAll_nil))
            · refine tStep [4, 6] (tC ?_ (tC (oH (Quiet.call1 rfl rfl (cloneF_word hch) rfl rfl) ?_) tAll_nil))
              · refine AOp.mkW (T := tW) (0 : Int) (n := hN) (e := 38) (z := .int .u32 0) (bytes := 4) rfl (by kernel_rfl) rfl (fun w S => ⟨rfl, by decide⟩) (by show AV.lit (.int .i64 p.heap) = _; rw [hhN]) (by show AV.lit (.int .i64 p.heap) = _; rw [hhN]) (by omega) (by unfold maxLen; omega) fun hg => ?_
                refine tNt (hk := ?_)
                refine tH 6 (Quiet.call1 rfl rfl (cloneF_word hch) rfl rfl) ?_
                exact tE (hB hg)
              · refine tA 4 ?_
                refine AOp.mkW (T := tW) (0 : Int) (n := hN) (e := 38) (z := .int .u32 0) (bytes := 4) rfl (by kernel_rfl) rfl (fun w S => ⟨rfl, by decide⟩) (by show AV.lit (.int .i64 p.heap) = _; rw [hhN]) (by show AV.lit (.int .i64 p.heap) = _; rw [hhN]) (by omega) (by unfold maxLen; omega) fun hg => ?_
                refine tNt (hk := ?_)
                exact tE (hB hg)
            · refine tT 3 ?_
              refine tA 4 ?_
              refine AOp.mkW (T := tW) (0 : Int) (n := hN) (e := 38) (z := .int .u32 0) (bytes := 4) rfl (by kernel_rfl) rfl (fun w S => ⟨rfl, by decide⟩) (by show AV.lit (.int .i64 p.heap) = _; rw [hhN]) (by show AV.lit (.int .i64 p.heap) = _; rw [hhN]) (by omega) (by unfold maxLen; omega) fun hg => ?_
              refine tNt (hk := ?_)
              exact tE (hB hg)
          · refine tStep [1, 4] (tC (oH (Quiet.call1 rfl rfl (copied_fn hI.thr hI.fl hok) rfl rfl) ?_) (tC ?_ tAll_nil))
            · refine tStep [4, 6] (tC ?_ (tC (oH (Quiet.call1 rfl rfl (cloneF_word hch) rfl rfl) ?_) tAll_nil))
              · refine AOp.mkW (T := tW) (0 : Int) (n := hN) (e := 38) (z := .int .u32 0) (bytes := 4) rfl (by kernel_rfl) rfl (fun w S => ⟨rfl, by decide⟩) (by show AV.lit (.int .i64 p.heap) = _; rw [hhN]) (by show AV.lit (.int .i64 p.heap) = _; rw [hhN]) (by omega) (by unfold maxLen; omega) fun hg => ?_
                refine tNt (hk := ?_)
                refine tH 6 (Quiet.call1 rfl rfl (cloneF_word hch) rfl rfl) ?_
                exact tE (hB hg)
              · refine tA 4 ?_
                refine AOp.mkW (T := tW) (0 : Int) (n := hN) (e := 38) (z := .int .u32 0) (bytes := 4) rfl (by kernel_rfl) rfl (fun w S => ⟨rfl, by decide⟩) (by show AV.lit (.int .i64 p.heap) = _; rw [hhN]) (by show AV.lit (.int .i64 p.heap) = _; rw [hhN]) (by omega) (by unfold maxLen; omega) fun hg => ?_
                refine tNt (hk := ?_)
                exact tE (hB hg)
            · refine AOp.mkW (T := tW) (0 : Int) (n := hN) (e := 38) (z := .int .u32 0) (bytes := 4) rfl (by kernel_rfl) rfl (fun w S => ⟨rfl, by decide⟩) (by show AV.lit (.int .i64 p.heap) = _; rw [hhN]) (by show AV.lit (.int .i64 p.heap) = _; rw [hhN]) (by omega) (by unfold maxLen; omega) fun hg => ?_
              refine tNt (hk := ?_)
              refine tH 1 (Quiet.call1 rfl rfl (copied_fn hI.thr hI.fl hok) rfl rfl) ?_
              refine tH 6 (Quiet.call1 rfl rfl (cloneF_word hch) rfl rfl) ?_
              exact tE (hB hg)
      · refine tStep [0, 3] (tC (oT ?_) (tC (oT ?_) tAll_nil))
        · refine tStep [1, 3] (tC (oH (Quiet.call1 rfl rfl (copied_fn hI.thr hI.fl hok) rfl rfl) ?_) (tC (oT ?_) tAll_nil))
          · refine tStep [3, 6] (tC (oT ?_) (tC (oH (Quiet.call1 rfl rfl (cloneF_word hch) rfl rfl) ?_) tAll_nil))
            · refine tStep [4, 6] (tC ?_ (tC (oH (Quiet.call1 rfl rfl (cloneF_word hch) rfl rfl) ?_) tAll_nil))
              · refine AOp.mkW (T := tW) (0 : Int) (n := hN) (e := 38) (z := .int .u32 0) (bytes := 4) rfl (by kernel_rfl) rfl (fun w S => ⟨rfl, by decide⟩) (by show AV.lit (.int .i64 p.heap) = _; rw [hhN]) (by show AV.lit (.int .i64 p.heap) = _; rw [hhN]) (by omega) (by unfold maxLen; omega) fun hg => ?_
                refine tNt (hk := ?_)
                refine tH 6 (Quiet.call1 rfl rfl (cloneF_word hch) rfl rfl) ?_
                exact tE (hB hg)
              · refine tA 4 ?_
                refine AOp.mkW (T := tW) (0 : Int) (n := hN) (e := 38) (z := .int .u32 0) (bytes := 4) rfl (by kernel_rfl) rfl (fun w S => ⟨rfl, by decide⟩) (by show AV.lit (.int .i64 p.heap) = _; rw [hhN]) (by show AV.lit (.int .i64 p.heap) = _; rw [hhN]) (by omega) (by unfold maxLen; omega) fun hg => ?_
                refine tNt (hk := ?_)
                exact tE (hB hg)
            · refine tT 3 ?_
              refine tA 4 ?_
              refine AOp.mkW (T := tW) (0 : Int) (n := hN) (e := 38) (z := .int .u32 0) (bytes := 4) rfl (by kernel_rfl) rfl (fun w S => ⟨rfl, by decide⟩) (by show AV.lit (.int .i64 p.heap) = _; rw [hhN]) (by show AV.lit (.int .i64 p.heap) = _; rw [hhN]) (by omega) (by unfold maxLen; omega) fun hg => ?_
              refine tNt (hk := ?_)
              exact tE (hB hg)
          · refine tStep [1, 4] (tC (oH (Quiet.call1 rfl rfl (copied_fn hI.thr hI.fl hok) rfl rfl) ?_) (tC ?_ tAll_nil))
            · refine tStep [4, 6] (tC ?_ (tC (oH (Quiet.call1 rfl rfl (cloneF_word hch) rfl rfl) ?_) tAll_nil))
              · refine AOp.mkW (T := tW) (0 : Int) (n := hN) (e := 38) (z := .int .u32 0) (bytes := 4) rfl (by kernel_rfl) rfl (fun w S => ⟨rfl, by decide⟩) (by show AV.lit (.int .i64 p.heap) = _; rw [hhN]) (by show AV.lit (.int .i64 p.heap) = _; rw [hhN]) (by omega) (by unfold maxLen; omega) fun hg => ?_
                refine tNt (hk := ?_)
                refine tH 6 (Quiet.call1 rfl rfl (cloneF_word hch) rfl rfl) ?_
                exact tE (hB hg)
              · refine tA 4 ?_
                refine AOp.mkW (T := tW) (0 : Int) (n := hN) (e := 38) (z := .int .u32 0) (bytes := 4) rfl (by kernel_rfl) rfl (fun w S => ⟨rfl, by decide⟩) (by show AV.lit (.int .i64 p.heap) = _; rw [hhN]) (by show AV.lit (.int .i64 p.heap) = _; rw [hhN]) (by omega) (by unfold maxLen; omega) fun hg => ?_
                refine tNt (hk := ?_)
                exact tE (hB hg)
            · refine AOp.mkW (T := tW) (0 : Int) (n := hN) (e := 38) (z := .int .u32 0) (bytes := 4) rfl (by kernel_rfl) rfl (fun w S => ⟨rfl, by decide⟩) (by show AV.lit (.int .i64 p.heap) = _; rw [hhN]) (by show AV.lit (.int .i64 p.heap) = _; rw [hhN]) (by omega) (by unfold maxLen; omega) fun hg => ?_
              refine tNt (hk := ?_)
              refine tH 1 (Quiet.call1 rfl rfl (copied_fn hI.thr hI.fl hok) rfl rfl) ?_
              refine tH 6 (Quiet.call1 rfl rfl (cloneF_word hch) rfl rfl) ?_
              exact tE (hB hg)
        · refine tStep [0, 4] (tC (oT ?_) (tC ?_ tAll_nil))
          · refine tStep [1, 4] (tC (oH (Quiet.call1 rfl rfl (copied_fn hI.thr hI.fl hok) rfl rfl) ?_) (tC ?_ tAll_nil))
            · refine tStep [4, 6] (tC ?_ (tC (oH (Quiet.call1 rfl rfl (cloneF_word hch) rfl rfl) ?_) tAll_nil))
              · refine AOp.mkW (T := tW) (0 : Int) (n := hN) (e := 38) (z := .int .u32 0) (bytes := 4) rfl (by kernel_rfl) rfl (fun w S => ⟨rfl, by decide⟩) (by show AV.lit (.int .i64 p.heap) = _; rw [hhN]) (by show AV.lit (.int .i64 p.heap) = _; rw [hhN]) (by omega) (by unfold maxLen; omega) fun hg => ?_
                refine tNt (hk := ?_)
                refine tH 6 (Quiet.call1 rfl rfl (cloneF_word hch) rfl rfl) ?_
                exact tE (hB hg)
              · refine tA 4 ?_
                refine AOp.mkW (T := tW) (0 : Int) (n := hN) (e := 38) (z := .int .u32 0) (bytes := 4) rfl (by kernel_rfl) rfl (fun w S => ⟨rfl, by decide⟩) (by show AV.lit (.int .i64 p.heap) = _; rw [hhN]) (by show AV.lit (.int .i64 p.heap) = _; rw [hhN]) (by omega) (by unfold maxLen; omega) fun hg => ?_
                refine tNt (hk := ?_)
                exact tE (hB hg)
            · refine AOp.mkW (T := tW) (0 : Int) (n := hN) (e := 38) (z := .int .u32 0) (bytes := 4) rfl (by kernel_rfl) rfl (fun w S => ⟨rfl, by decide⟩) (by show AV.lit (.int .i64 p.heap) = _; rw [hhN]) (by show AV.lit (.int .i64 p.heap) = _; rw [hhN]) (by omega) (by unfold maxLen; omega) fun hg => ?_
              refine tNt (hk := ?_)
              refine tH 1 (Quiet.call1 rfl rfl (copied_fn hI.thr hI.fl hok) rfl rfl) ?_
              refine tH 6 (Quiet.call1 rfl rfl (cloneF_word hch) rfl rfl) ?_
              exact tE (hB hg)
          · refine AOp.mkW (T := tW) (0 : Int) (n := hN) (e := 38) (z := .int .u32 0) (bytes := 4) rfl (by kernel_rfl) rfl (fun w S => ⟨rfl, by decide⟩) (by show AV.lit (.int .i64 p.heap) = _; rw [hhN]) (by show AV.lit (.int .i64 p.heap) = _; rw [hhN]) (by omega) (by unfold maxLen; omega) fun hg => ?_
            refine tNt (hk := ?_)
            refine tT 0 ?_
            refine tH 1 (Quiet.call1 rfl rfl (copied_fn hI.thr hI.fl hok) rfl rfl) ?_
            refine tH 6 (Quiet.call1 rfl rfl (cloneF_word hch) rfl rfl) ?_
            exact tE (hB hg)
    refine tH 7 (Quiet.bldMod zcModel rfl plModel rfl rfl rfl (One.lit rfl) One.bs) ?_
    refine tA 8 ?_
    refine AOp.boxI 3 rfl rfl Parts0.agg ?_
    refine tNt (hk := ?_)
    refine tT 9 ?_
    refine tDone (hK8 _ ?_)
    obtain ⟨hl, hl1, hl2⟩ : ∃ l : List Int, l.length = hN ∧ l = List.replicate hN 0 := ⟨_, List.length_replicate, rfl⟩
    refine Awp.via ⟨(A2 (.ptr 1 0 :: A5 (.ptr 3 0 :: A40 (A3 [])))), [.res .emp, .box (encProg p), .res (rowR (slV hg hN hN) 38 tW (List.replicate hN 0)), .box [.lit (.int .i64 p.heap), .bs tInt p.threads, .bs tFunc p.funcs, .lit (slV hg hN hN), .lit (.slice none 0 0), .lit (.slice none 0 0), .lit (.int .i64 0), .bs (Ty.int .u32) ch, .lit (.int .u8 0), .lit (.int .u32 0)]]⟩ (le_C (hc := .cons (.cons (.cons (.cons (.nil _)))))) ?_
    rw [← hl2, ← hl1]
    refine Awp.open_box 3 rfl rfl rfl (fun g => (A2 (.ptr 1 0 :: A5 (.lit (ptV g 0) :: A40 (A3 []))))) (fun g => (by (repeat (first | exact OpnB.nil | refine OpnB.ptr ?_ | refine OpnB.any ?_ | refine OpnB.keep rfl ?_)))) fun g => ?_
    refine nT (hk := ?_)
    refine Awp.via _ (St.le_nilL 38 tW (by decide)) ?_
    refine nT (hk := ?_)
    refine Awp.via _ (St.le_nilL 97 (tCl 0) (by decide)) ?_
    refine nT (hk := ?_)
    refine Awp.via _ (St.le_one 3 rfl) ?_
    refine nT (hk := ?_)
    refine Awp.via _ (St.le_push 3 2 (by decide) rfl rfl) ?_
    refine nT (hk := ?_)
    refine Awp.via _ (St.le_push 3 4 (by decide) rfl rfl) ?_
    refine nT (hk := ?_)
    refine Awp.via _ (St.le_push 3 5 (by decide) rfl rfl) ?_
    refine nT (hk := ?_)
    obtain ⟨m0, hm0⟩ : ∃ m0 : MdA, m0 = ⟨g, hg, .slice none 0 0, .slice none 0 0, .slice none 0 0, .slice none 0 0, hl, [], ch, [], 0, 0, 0⟩ := ⟨_, rfl⟩
    refine Awp.via ⟨(A2 (.ptr 1 0 :: A5 (.lit (ptV g 0) :: A40 (A3 [])))), [.res .emp, .box (encProg p), .dead, .res (modR p m0)]⟩ (by rw [hm0]; exact St.le_c (.cons (.cons (.cons (.cons (.nil _))))) rfl (by (try simp only [putA, List.set_cons_zero, List.set_cons_succ]); repeat (first | exact Fgt.nil | refine Fgt.keep rfl ?_ | refine Fgt.any ?_))) ?_
    refine Awp.seq fun K9 h9 => ?_
    refine wS (sT (sT (sT (sT (wN ?_)))))
    refine Awp.block ?_
    have htop := hSt.top
    unfold topB at htop
    simp only [Bool.and_eq_true, Bool.not_eq_true', Bool.or_eq_false_iff, decide_eq_false_iff_not, List.any_eq_false] at htop
    have hpos : 0 < p.threads.length := by omega
    have hnl : p.threads.length ≤ 4 := by omega
    refine Awp.loopF (fun b : Nat × MdA => ⟨(A2 (.ptr 1 0 :: A5 (.lit (ptV b.2.g 0) :: A20 (.bs tInt p.threads :: .lit (.int .i64 (p.threads.length : Int)) :: .lit (.int .i64 (b.1 : Int)) :: A20 [])))), [.res .emp, .box (encProg p), .dead, .res (modR p b.2)]⟩) (fun b => NewI p ch hl b.1 b.2) (fun b => p.threads.length - b.1) (0, m0) (by rw [hm0]; exact ⟨Nat.zero_le _, rfl, rfl, rfl, rfl, rfl, rfl, rfl, rfl, rfl, fun t ht => (by cases ht), fun h => absurd h (Nat.lt_irrefl _)⟩) (by rw [hm0]; exact le_C (hc := .cons (.cons (.cons (.cons (.nil _)))))) ?_
    rintro ⟨k, m⟩ hI2
    have hI2 : NewI p ch hl k m := hI2
    have hk := hI2.le
    refine wS (sT (wN ?_))
    refine Awp.seq fun K13 h13 => ?_
    refine Awp.cond rfl (fun hb14 => ?_) (fun hb14 => ?_)
    · have hlt : k < p.threads.length := by
        have := of_decide_eq_true hb14
        omega
      obtain ⟨z, hz⟩ : ∃ z, p.threads[k]? = some z := ⟨_, List.getElem?_eq_getElem hlt⟩
      have hzm := List.mem_of_getElem? hz
      have hzI : ixD p.threads (k : Int) = z := by
        show p.threads.getD ((k : Int).toNat) 0 = z
        rw [Int.toNat_natCast, List.getD_eq_getElem?_getD, hz]
        rfl
      obtain ⟨n, hzn, hzl, hzr, hzr2⟩ := new_thr hSt hzm
      obtain ⟨q2, hq2⟩ : ∃ q2 : Nat → FrA, q2 = fun rg => ⟨newFr p z.toNat [], rg⟩ := ⟨_, rfl⟩
      have hrl : (newFr p z.toNat []).regs = [] ++ (List.replicate n (0 : Int)).drop 0 := by
        unfold newFr
        rw [hzr, Int.toNat_natCast]
        simp
      have hrn : (newFr p z.toNat []).regs.length = n := by
        rw [hrl]
        simp
      have hrR : ∀ rg, rowR (slV rg n n) 38 tW ([] ++ (List.replicate n (0 : Int)).drop 0) = rgR (q2 rg) := fun rg => by
        rw [hq2]
        unfold rgR rowL
        rw [hrn, hrl]
      have hfc : ∀ rg, frC (q2 rg) = (frmV z.toNat n rg).map .v := fun rg => by
        rw [hq2]
        unfold frC
        rw [hrn]
        rfl
      have hfo := (frameOf_fn p m z.toNat n [] hzl hzr hzr2 (Nat.zero_le _)).nil3
      rw [show ((z.toNat : Nat) : Int) = z by omega, show frmR p m n [] = fun rg => .all [modR p m, rgR (q2 rg)] from funext fun rg => by unfold frmR; rw [← hrR]; rfl] at hfo
      refine Awp.skip ?_
      refine h13 _ ?_
      refine nT (hk := ?_)
      refine Awp.seq fun K15 h15 => ?_
      refine Awp.block ?_
      refine wS (sX (inBn hlt) ?_)
      rw [hzI]
      refine sT (sT (wN ?_))
      refine dHE 0 [0, 1, 2, 3, 5, 6] [] (uT (uT (uT (uT (uT (uT uN)))))) (vN ?_)
      refine tJoin (setAll [0, 1, 2, 3, 5, 6, 4, 7, 8, 9, 10, 11] (Array.replicate 16 false)) 4 (fun b : Nat × Nat × Nat => ⟨(A2 (.ptr 1 0 :: A5 (.lit (ptV m.g 0) :: .any :: .lit (.int .i64 z) :: A10 (A8 (.bs tInt p.threads :: .lit (.int .i64 (p.threads.length : Int)) :: .lit (.int .i64 (k : Int)) :: .lit (.bool (decide ((k : Int) < (p.threads.length : Int)))) :: .bp tInt z 0 :: .lit (.int .i64 z) :: .lit (ptV m.g 0) :: .lit (ptV m.g 0) :: .lit (ptV m.g 0) :: .lit (ptV m.g 5) :: .lit m.tc :: .lit (ptV m.g 0) :: .lit (.int .i64 z) :: .agg ((frmV z.toNat n b.1).map .lit) :: .lit (slV b.2.1 1 1) :: .agg [.lit (slV b.2.1 1 1)] :: .agg [.lit (slV b.2.1 1 1)] :: .lit (slV b.2.2 1 1) :: A5 []))))), [.res .emp, .box (encProg p), .dead, .res (modR p m), .res (rgR (q2 b.1)), .res (rowR (slV b.2.1 1 1) 91 (tCl 3) [frC (q2 b.1)]), .res (rowR (slV b.2.2 1 1) 97 (tCl 0) [[.v (slV b.2.1 1 1)]])]⟩) (fun b => ?_) (fun hB => ?_)
      rotate_left

      · have hone : ∀ rg, ∀ v ∈ frmV z.toNat n rg, v.oneCell' = true := fun rg v hv => by
          simp only [frmV, List.mem_cons, List.not_mem_nil, or_false] at hv
          rcases hv with rfl | rfl | rfl | rfl <;> rfl
        refine tStep [4, 7] (tC (oT ?_) (tC ?_ tAll_nil))
        · refine tA 7 ?_
          refine AOp.callS2 (i := 3) rfl rfl hfo rfl (fun _ => rfl) (fun _ => rfl) rfl rfl (fun _ => rfl) fun rg => ?_
          refine tNt (hk := ?_)
          refine tA 8 ?_
          refine AOp.lit1 (cells := (frmV z.toNat n rg).map .lit) (T := tCl 3) (d := frC (q2 rg)) rfl rfl rfl rfl rfl (by decide) (fun w S cs h => by rw [hfc]; exact rs_lits rfl (hone rg) h) (by decide) fun fg => ?_
          refine tNt (hk := ?_)
          refine tH 9 (Quiet.bldA1 zcStack rfl plStack (.inl ⟨rfl, rfl⟩)) ?_
          refine tH 10 (Quiet.bldA1 zcThread rfl plThread (.inr rfl)) ?_
          refine tA 11 ?_
          refine AOp.lit1 (cells := [.lit (slV fg 1 1)]) (T := tCl 0) (d := [.v (slV fg 1 1)]) rfl rfl rfl rfl rfl (by decide) (fun w S cs h => rs_lits (l := [slV fg 1 1]) rfl (fun v hv => by rw [List.mem_singleton.1 hv]; rfl) h) (by decide) fun tg => ?_
          refine tNt (hk := ?_)
          exact tE (hB (rg, fg, tg))
        · refine AOp.callS2 (i := 3) rfl rfl hfo rfl (fun _ => rfl) (fun _ => rfl) rfl rfl (fun _ => rfl) fun rg => ?_
          refine tNt (hk := ?_)
          refine tStep [4, 8] (tC (oT ?_) (tC ?_ tAll_nil))
          · refine tA 8 ?_
            refine AOp.lit1 (cells := (frmV z.toNat n rg).map .lit) (T := tCl 3) (d := frC (q2 rg)) rfl rfl rfl rfl rfl (by decide) (fun w S cs h => by rw [hfc]; exact rs_lits rfl (hone rg) h) (by decide) fun fg => ?_
            refine tNt (hk := ?_)
            refine tH 9 (Quiet.bldA1 zcStack rfl plStack (.inl ⟨rfl, rfl⟩)) ?_
            refine tH 10 (Quiet.bldA1 zcThread rfl plThread (.inr rfl)) ?_
            refine tA 11 ?_
            refine AOp.lit1 (cells := [.lit (slV fg 1 1)]) (T := tCl 0) (d := [.v (slV fg 1 1)]) rfl rfl rfl rfl rfl (by decide) (fun w S cs h => rs_lits (l := [slV fg 1 1]) rfl (fun v hv => by rw [List.mem_singleton.1 hv]; rfl) h) (by decide) fun tg => ?_
            refine tNt (hk := ?_)
            exact tE (hB (rg, fg, tg))
          · refine AOp.lit1 (cells := (frmV z.toNat n rg).map .lit) (T := tCl 3) (d := frC (q2 rg)) rfl rfl rfl rfl rfl (by decide) (fun w S cs h => by rw [hfc]; exact rs_lits rfl (hone rg) h) (by decide) fun fg => ?_
            refine tNt (hk := ?_)
            refine tStep [4, 9] (tC (oT ?_) (tC (oH (Quiet.bldA1 zcStack rfl plStack (.inl ⟨rfl, rfl⟩)) ?_) tAll_nil))
            · refine tH 9 (Quiet.bldA1 zcStack rfl plStack (.inl ⟨rfl, rfl⟩)) ?_
              refine tH 10 (Quiet.bldA1 zcThread rfl plThread (.inr rfl)) ?_
              refine tA 11 ?_
              refine AOp.lit1 (cells := [.lit (slV fg 1 1)]) (T := tCl 0) (d := [.v (slV fg 1 1)]) rfl rfl rfl rfl rfl (by decide) (fun w S cs h => rs_lits (l := [slV fg 1 1]) rfl (fun v hv => by rw [List.mem_singleton.1 hv]; rfl) h) (by decide) fun tg => ?_
              refine tNt (hk := ?_)
              exact tE (hB (rg, fg, tg))
            · refine tStep [4, 10] (tC (oT ?_) (tC (oH (Quiet.bldA1 zcThread rfl plThread (.inr rfl)) ?_) tAll_nil))
              · refine tH 10 (Quiet.bldA1 zcThread rfl plThread (.inr rfl)) ?_
                refine tA 11 ?_
                refine AOp.lit1 (cells := [.lit (slV fg 1 1)]) (T := tCl 0) (d := [.v (slV fg 1 1)]) rfl rfl rfl rfl rfl (by decide) (fun w S cs h => rs_lits (l := [slV fg 1 1]) rfl (fun v hv => by rw [List.mem_singleton.1 hv]; rfl) h) (by decide) fun tg => ?_
                refine tNt (hk := ?_)
                exact tE (hB (rg, fg, tg))
              · refine tStep [4, 11] (tC (oT ?_) (tC ?_ tAll_nil))
                · refine tA 11 ?_
                  refine AOp.lit1 (cells := [.lit (slV fg 1 1)]) (T := tCl 0) (d := [.v (slV fg 1 1)]) rfl rfl rfl rfl rfl (by decide) (fun w S cs h => rs_lits (l := [slV fg 1 1]) rfl (fun v hv => by rw [List.mem_singleton.1 hv]; rfl) h) (by decide) fun tg => ?_
                  refine tNt (hk := ?_)
                  exact tE (hB (rg, fg, tg))
                · refine AOp.lit1 (cells := [.lit (slV fg 1 1)]) (T := tCl 0) (d := [.v (slV fg 1 1)]) rfl rfl rfl rfl rfl (by decide) (fun w S cs h => rs_lits (l := [slV fg 1 1]) rfl (fun v hv => by rw [List.mem_singleton.1 hv]; rfl) h) (by decide) fun tg => ?_
                  refine tNt (hk := ?_)
                  refine tT 4 ?_
                  exact tE (hB (rg, fg, tg))
      obtain ⟨rg, fg, tg⟩ := b
      obtain ⟨t2, ht2⟩ : ∃ t2 : ThA, t2 = ⟨slV fg 1 1, slV fg 1 1, [q2 rg]⟩ := ⟨_, rfl⟩
      refine tA 12 ?_
      refine AOp.le (St.le_fzRV hC 6 46 rfl rfl) ?_
      refine AOp.le (St.le_twoJ 5 4 (by decide) rfl rfl) ?_
      refine AOp.pushTh (i := 3) (j := 5) t2 (by decide) rfl (by kernel_rfl) (by show AV.lit m.tc = AV.lit m.tv; rw [hI2.tc]) (by rw [ht2]; rfl) rfl (by rw [ht2]; rfl) (by have := hI2.len; unfold rowB maxLen; simp; omega) fun v' => ?_
      refine tNt (hk := tT 13 (tT 14 ?_))
      have hlen1 := hI2.len
      refine tA 15 ?_
      refine AOp.tsAt 3 rfl (by simp) fun tg2 c2 hv2 => ?_
      have hv2 : v' = slV tg2 (m.ths ++ [t2]).length c2 := hv2
      refine AOp.stMB (p := p) (m := { m with tv := v', ths := m.ths ++ [t2] }) (i := 3) (new := [.lit v']) { m with tv := v', tc := v', ths := m.ths ++ [t2] } rfl rfl rfl (fun _ => Parts.one (One.lit (by rw [hv2]; rfl))) rfl rfl (Nat.le_of_ble_eq_true rfl) rfl ?_
      refine tNt (hk := ?_)
      refine tDone ?_
      refine h15 _ ?_
      refine nT (hk := ?_)
      refine wSE (sT (sT (wN ?_)))
      refine athen_n ⟨(k + 1, { m with tv := v', tc := v', ths := m.ths ++ [t2] }), hI2.step hz (by rw [ht2, hq2]; rfl) (by rw [ht2]; exact ⟨rfl, fg, 1, rfl⟩) hv2, by show p.threads.length - (k + 1) < p.threads.length - k; omega, ?_⟩
      rw [wrap_k (by omega)]
      exact St.le_c (.cons (.cons (.cons (.cons (.nil _))))) rfl (by (try simp only [putA, List.set_cons_zero, List.set_cons_succ]); repeat (first | exact Fgt.nil | refine Fgt.keep rfl ?_ | refine Fgt.any ?_))
    · have hkn : k = p.threads.length := by
        have := of_decide_eq_false hb14
        omega
      refine Awp.exit ?_
      refine h9 _ ?_
      refine nT (hk := ?_)
      refine wS (sT (sT (sT (wN ?_))))
      refine Awp.via _ (St.le_move 0 3 (by decide) rfl rfl) ?_
      refine nT (hk := ?_)
      exact Awp.ret ⟨.inr rfl, .inr ⟨m, hI2.nrm (by rw [hkn]; exact hpos), hI2.abs hkn (by rw [hl2, hhN]; rfl), hSt⟩, rfl, rfl, rfl, rfl⟩
end
end Mu
end
section
/-
  A model does not grow faster than its steps.
  Conditions: none.
-/
namespace Mu
open Go Go.RowKit Go.Proofs

structure BndM (H T k : Nat) (s : Mdl) : Prop where
  heap : s.heap.length ≤ H
  ths : s.ths.length = T
  out : s.out.length ≤ k
  frs : ∀ l ∈ s.ths, l.length ≤ k + 1
  ch : ∀ c ∈ s.ch, wfI .u32 c
section
variable {H T k : Nat} {s : Mdl} {p : Prog} {dw : Int → Int → Int → Option Int}
theorem BndM.up (h : BndM H T k s) : BndM H T (k + 1) s := ⟨h.heap, h.ths, Nat.le_succ_of_le h.out, fun l hl => Nat.le_succ_of_le (h.frs l hl), h.ch⟩
theorem BndM.put (h : BndM H T k s) {l : List Fr} (hl : l.length ≤ k + 2) : BndM H T (k + 1) (putT s l) := ⟨h.heap, by show (List.set _ _ _).length = _; rw [List.length_set]; exact h.ths, Nat.le_succ_of_le h.out, fun l' hl' => by
  rcases List.mem_or_eq_of_mem_set hl' with hl' | rfl
  · exact Nat.le_succ_of_le (h.frs l' hl')
  · exact hl, h.ch⟩
theorem BndM.thA (h : BndM H T k s) : (thA s).length ≤ k + 1 := by
  unfold Mu.thA
  rw [List.getD_eq_getElem?_getD]
  cases hx : s.ths[s.at_]? with
  | none => exact Nat.zero_le _
  | some l => exact h.frs l (List.mem_of_getElem? hx)
theorem BndM.setT (h : BndM H T k s) (r : Fr) : BndM H T (k + 1) (setTop s r) := h.put (by rw [List.length_append, List.length_dropLast]; have := h.thA; simp; omega)
theorem BndM.choose (h : BndM H T k s) : BndM H T k (chooseM s) := ⟨h.heap, h.ths, h.out, h.frs, fun c hc => h.ch c (List.mem_of_mem_tail hc)⟩
theorem BndM.fault (h : BndM H T k s) (v : Int) : BndM H T (k + 1) (faultM s v) := ⟨h.heap, h.ths, Nat.le_succ_of_le h.out, fun l hl => Nat.le_succ_of_le (h.frs l hl), h.ch⟩
theorem BndM.one (h : BndM H T k s) : BndM H T (k + 1) (oneM dw p s) := by
  have ht := h.thA
  obtain ⟨r, hr⟩ : ∃ r, r = topF s := ⟨_, rfl⟩
  obtain ⟨x, hx⟩ : ∃ x, x = insA p r := ⟨_, rfl⟩
  unfold oneM
  rw [← hr, ← hx]
  unfold stepM
  by_cases e0 : x.op = 0
  · rw [if_pos e0]
    exact h.setT _
  rw [if_neg e0]
  by_cases e1 : x.op = 1
  · rw [if_pos e1]
    cases dw x.n (regA r x.a) (regA r x.b) with
    | some w => exact h.setT _
    | none => exact h.fault _
  rw [if_neg e1]
  by_cases e2 : x.op = 2
  · rw [if_pos e2]
    exact h.setT _
  rw [if_neg e2]
  by_cases e3 : x.op = 3
  · rw [if_pos e3]
    by_cases hi : (regA r x.a).toNat < s.heap.length
    · rw [if_pos hi]; exact h.setT _
    · rw [if_neg hi]; exact h.fault _
  rw [if_neg e3]
  by_cases e4 : x.op = 4
  · rw [if_pos e4]
    by_cases hi : (regA r x.a).toNat < s.heap.length
    · rw [if_pos hi]
      have h1 := h.setT (nextF r r.regs)
      exact ⟨by show (List.set _ _ _).length ≤ H; rw [List.length_set]; exact h.heap, h1.ths, h1.out, h1.frs, h1.ch⟩
    · rw [if_neg hi]; exact h.fault _
  rw [if_neg e4]
  by_cases e5 : x.op = 5
  · rw [if_pos e5]
    exact h.put (by rw [List.length_append]; simp; omega)
  rw [if_neg e5]
  by_cases e6 : x.op = 6
  · rw [if_pos e6]
    have h1 := h.setT (nextF r r.regs)
    exact ⟨h1.heap, h1.ths, by show (s.out ++ [_]).length ≤ k + 1; rw [List.length_append]; have := h.out; simp; omega, h1.frs, h1.ch⟩
  rw [if_neg e6]
  by_cases e7 : x.op = 7
  · rw [if_pos e7]
    exact (h.setT _).choose
  rw [if_neg e7]
  by_cases e8 : x.op = 8
  · rw [if_pos e8]
    exact h.setT _
  rw [if_neg e8]
  by_cases e9 : x.op = 9
  · rw [if_pos e9]
    exact h.setT _
  rw [if_neg e9]
  cases (Mu.thA s).dropLast.getLast? with
  | some up => exact h.put (by rw [List.length_append, List.length_dropLast, List.length_dropLast]; simp; omega)
  | none =>
    by_cases h0 : s.at_ = 0
    · show BndM H T (k + 1) (if s.at_ = 0 then _ else _)
      rw [if_pos h0]
      have h1 := h.put (l := []) (Nat.zero_le _)
      exact ⟨h1.heap, h1.ths, h1.out, h1.frs, h1.ch⟩
    · show BndM H T (k + 1) (if s.at_ = 0 then _ else _)
      rw [if_neg h0]
      exact (h.put (l := []) (Nat.zero_le _)).choose
theorem start_bnd {ch : List Int} (hc : ∀ c ∈ ch, wfI .u32 c) : BndM p.heap.toNat p.threads.length 0 (startM p ch) := ⟨by show (List.replicate _ _).length ≤ _; rw [List.length_replicate]; exact Nat.le_refl _, List.length_map _, Nat.le_refl _, fun l hl => by
  obtain ⟨z, _, rfl⟩ := List.mem_map.1 hl
  exact Nat.le_refl _, hc⟩
end
end Mu
end
section
/-
  A step of a model that is known: it runs, or stands.
  Conditions: the program may be; at most 1000 steps.
-/
namespace Mu
open Go Go.RowKit Go.Proofs

structure RunM (p : Prog) (k : Nat) (m : MdA) : Prop where
  nrm : m.Nrm
  ok : MOk p m.abs
  bnd : BndM p.heap.toNat p.threads.length k m.abs
section
variable {p : Prog} {k : Nat} {m : MdA}
theorem RunM.big (h : RunM p k m) (hk : k ≤ 1000) (hH : p.heap ≤ 1024) (hT : p.threads.length ≤ 2097152) : MBig m := by
  have hb := h.bnd
  have hths : m.abs.ths.length = m.ths.length := List.length_map _
  refine ⟨by rw [← hths, hb.ths]; omega, fun t ht => ?_, Nat.le_trans hb.out (by omega), Nat.le_trans hb.heap (by omega), hb.ch⟩
  have := hb.frs (t.l.map FrA.fr) (List.mem_map.2 ⟨t, ht, rfl⟩)
  rw [List.length_map] at this
  omega
/-- what a step leaves -/
abbrev StepO (p : Prog) (k : Nat) (m : MdA) : Type := { q : MdA × Bool // q.1.g = m.g ∧ RunM p (k + 1) q.1 ∧ (q.2 = false → m.kind ≠ 0) }
theorem step_fn (hP : PBig dwF p) (h : RunM p k m) (hk : k ≤ 1000) (hH : p.heap ≤ 1024) (hT : p.threads.length ≤ 2097152) : FnTurnS Tryz.prog 13 (modR p m) [.lit (ptV m.g 0)] (fun q : StepO p k m => modR p q.1.1) (fun q => .lit (.bool q.1.2)) := by
  by_cases h0 : m.kind = 0
  · refine FnTurnS.reidx (fun q : OutT m (oneM dwF p m.abs) => (⟨(q.1, true), q.2.2.1, ⟨q.2.1, ?_, ?_⟩, fun e => by cases e⟩ : StepO p k m)) (fun _ => rfl) (fun _ => rfl) (step_run hP h.ok h0 h.nrm (h.big hk hH hT))
    · rw [q.2.2.2]
      exact h.ok.one hP.ok h0
    · rw [q.2.2.2]
      exact h.bnd.one
  · have hn : 0 < m.ths.length := by
      have e : m.abs.ths.length = m.ths.length := List.length_map _
      have := h.bnd.ths
      have hp := List.length_pos_iff.2 hP.ok.threads.1
      omega
    exact FnTurnS.reidx (fun _ : Unit => (⟨(m, false), rfl, ⟨h.nrm, h.ok, h.bnd.up⟩, fun _ => h0⟩ : StepO p k m)) (fun _ => rfl) (fun _ => rfl) (step_idle h0 h.nrm hn)
end
end Mu
end
section
/-
  calls.Calls, walked: of a function that there is: the calls of its blocks' instructions, sorted, compacted.
  Conditions: at most 2^21 such calls.
-/
namespace Mu
open Go Go.RowKit Go.Proofs

/-- the world in which the loops run: the program's own copy first -/
def W0 (w : World) (p : Prog) (A A' : Option Addr) (c c' : Nat) : World := w.alloc (.cells #[.int .i64 p.heap, .slice A' p.threads.length c', .slice A p.funcs.length c] 25)

theorem W0_cell (w : World) (p : Prog) (A A' : Option Addr) (c c' : Nat) : (W0 w p A A' c c').cell? ⟨w.heap.size, 2, none⟩ = some (.slice A p.funcs.length c) := by
  exact cell_of_row _ _ 2 _ _ _ (heap_alloc_new w _)
theorem W0_below (w : World) (p : Prog) (A A' : Option Addr) (c c' : Nat) : Below w.heap.size w (W0 w p A A' c c') := (Below.refl _ _).alloc (Nat.le_refl _) _
theorem W0_lt {w wr : World} {p : Prog} {A A' : Option Addr} {c c' : Nat} (h : Below (w.heap.size + 1) (W0 w p A A' c c') wr) : w.heap.size < wr.heap.size := by
  have h1 : (W0 w p A A' c c').heap.size = w.heap.size + 1 := by simp [W0]
  have := h.size
  omega

theorem rel_skip {w : World} {base n j : Nat} {v : Value} {r : List Int} {l : List Ins} {y : Ins} (hs : rawIns n (l.take (j + 1)) = rawIns n (l.take j) ++ if isCall n y then [y.f] else []) (hc : isCall n y = false)
    (h : OwnI w base v (r ++ rawIns n (l.take j))) : Hid (OwnI w base v (r ++ rawIns n (l.take (j + 1)))) := by
  rw [hs, hc]
  show OwnI w base v _
  simpa using h

set_option maxRecDepth 100000 in
set_option maxHeartbeats 1000000 in
theorem calls_in (p : Prog) (f : Int) (fn : Func) (w : World) (A A' : Option Addr) (c c' : Nat) (hf : 0 ≤ f) (hfn : p.funcs[f.toNat]? = some fn) (hlen : p.funcs.length ≤ 2097152)
    (hR : tFunc.slice.R w w.heap.size [.slice A p.funcs.length c] p.funcs) (hbl : fn.blocks.length ≤ 2097152) (hil : ∀ b ∈ fn.blocks, b.ins.length ≤ 2097152) (hraw : (raw p.funcs.length fn.blocks).length ≤ 2097152) :
    Calls Tryz.prog 37 #[.agg #[.int .i64 p.heap, .slice A' p.threads.length c', .slice A p.funcs.length c], .int .i64 f] w fun e w' =>
      ∃ v, e = .returned v ∧ OwnI w' w.heap.size v (Lib.compact ((raw p.funcs.length fn.blocks).mergeSort fun x y => decide (x ≤ y))) ∧ Below w.heap.size w w' := by
  have hfl : f.toNat < p.funcs.length := (List.getElem?_eq_some_iff.1 hfn).1
  have hx : decide (f < 0) = false := by simp; omega
  have hy : decide ((p.funcs.length : Int) ≤ f) = false := by simp; omega
  have hy' : f < (p.funcs.length : Int) := by omega
  obtain ⟨b, o, Ab, cb, rfl, hb, _, _, _, hcb, _, _, _, hBR⟩ := func_at hR hfn
  obtain ⟨i0, hi, hz0, hz1, hz2⟩ := info_parts int_info
  have HR := Lib.hid hR
  have HF := Lib.hid hfn
  have HI := Lib.hid hi
  have HBR := Lib.hid hBR
  have HIL := Lib.hid hil
  have HRAW := Lib.hid hraw
  clear hR hfn hBR hil hraw
  go_enter Tryz.func37, Tryz.ntmps37
  go_wp2
  go_loopw [5, 26] (fun out i wr => ∃ k : Nat, k ≤ fn.blocks.length ∧ i = .int .i64 k ∧ Hid (OwnI wr (w.heap.size + 1) out (raw p.funcs.length (fn.blocks.take k))) ∧ Below (w.heap.size + 1) (W0 w p (some ⟨b, o, none⟩) A' c c') wr) (fun _ i _ => fn.blocks.length - (RowKit.intOf i).toNat)
  case atStart => exact ⟨0, Nat.zero_le _, rfl, OwnI.nil _ _, Below.refl _ _⟩
  case round =>
    obtain ⟨k, hk, rfl, hown, hbe⟩ := hrel
    by_cases hlt : k < fn.blocks.length
    · obtain ⟨x, hxk⟩ : ∃ x, fn.blocks[k]? = some x := ⟨_, List.getElem?_eq_getElem hlt⟩
      obtain ⟨bb, bo, Ai, ci, rfl, hbb, hc0, hc1, hnm, hIR⟩ := block_at (HBR.out) hxk
      have hw0 : ∀ q, q < w.heap.size → wr.heap[q]? = w.heap[q]? := fun q hq => (hbe.block q (by omega)).trans ((W0_below w p _ A' c c').block q hq)
      have hc0' := (World.cell?_of_block (w := w) (w' := wr) (a := ⟨bb, bo + k * 2, none⟩) (hw0 bb hbb)).trans hc0
      have hc1' := (World.cell?_of_block (w := w) (w' := wr) (a := ⟨bb, bo + k * 2 + 1, none⟩) (hw0 bb hbb)).trans hc1
      have hil' : x.ins.length ≤ 2097152 := HIL.out x (List.mem_of_getElem? hxk)
      have HXK := Lib.hid hxk
      have HIR := Lib.hid hIR
      have HBE := Lib.hid hbe
      clear hxk hIR hc0 hc1 hw0 hnm hbe
      go_wp2
      obtain ⟨wo, rfl⟩ : ∃ wo : World, wo = wr := ⟨_, rfl⟩
      go_loopw [5, 33] (fun out i ws => ∃ j : Nat, j ≤ x.ins.length ∧ i = .int .i64 j ∧ Hid (OwnI ws (w.heap.size + 1) out (raw p.funcs.length (fn.blocks.take k) ++ rawIns p.funcs.length (x.ins.take j))) ∧ Below (w.heap.size + 1) (W0 w p (some ⟨b, o, none⟩) A' c c') ws) (fun _ i _ => x.ins.length - (RowKit.intOf i).toNat)
      case atStart => exact ⟨0, Nat.zero_le _, rfl, by simpa [rawIns, Hid] using hown.out.alloc _, HBE.out.alloc (by have := HBE.out.size; simpa [W0] using this) _⟩
      case round =>
        obtain ⟨j, hj, rfl, hown2, hbe2⟩ := hrel
        by_cases hlt2 : j < x.ins.length
        · obtain ⟨y, hyk⟩ : ∃ y, x.ins[j]? = some y := ⟨_, List.getElem?_eq_getElem hlt2⟩
          obtain ⟨ib, io, Aa, ca, rfl, hib, hat⟩ := ins_at (HIR.out) hyk
          have hw0 : ∀ q, q < w.heap.size → wr.heap[q]? = w.heap[q]? := fun q hq => (hbe2.block q (by omega)).trans ((W0_below w p _ A' c c').block q hq)
          have tr : ∀ {d : Nat} {v : Value}, w.cell? ⟨ib, d, none⟩ = some v → wr.cell? ⟨ib, d, none⟩ = some v := fun h => (World.cell?_of_block (w := w) (w' := wr) (a := ⟨ib, _, none⟩) (hw0 ib hib)).trans h
          have e0 := tr hat.c0
          have e1 := tr hat.c1
          have e2 := tr hat.c2
          have e3 := tr hat.c3
          have e4 := tr hat.c4
          have e5 := tr hat.c5
          have e6 := tr hat.c6
          have e7 := tr hat.c7
          have e8 := tr hat.c8
          have hbox : wr.cell? ⟨w.heap.size, 2, none⟩ = some (.slice (some ⟨b, o, none⟩) p.funcs.length c) := (hbe2.cell (p := ⟨w.heap.size, 2, none⟩) (by show w.heap.size < _; omega)).trans (W0_cell w p _ A' c c')
          have hsz := hbe2.size
          have hsz2 : w.heap.size < wr.heap.size := W0_lt hbe2
          have hrs := rawIns_step (n := p.funcs.length) hyk
          have hle : (raw p.funcs.length (fn.blocks.take k) ++ rawIns p.funcs.length (x.ins.take (j + 1))).length ≤ 2097152 := by
            have h1 := rawIns_take_le (n := p.funcs.length) (k := j + 1) (l := x.ins)
            have h2 := raw_take_le (n := p.funcs.length) (k := k + 1) (bs := fn.blocks)
            rw [raw_step HXK.out] at h2
            have h3 := HRAW.out
            simp only [List.length_append] at h2 ⊢
            omega
          have HRS := Lib.hid hrs
          have HYK := Lib.hid hyk
          have HLE := Lib.hid hle
          have HBE2 := Lib.hid hbe2
          clear hrs hyk hat hw0 tr hbe2 hle hsz
          by_cases h5 : y.op = 5
          · by_cases h0 : 0 ≤ y.f
            · by_cases hn : y.f < p.funcs.length
              · have d5 : (y.op == 5) = true := by simp [h5]
                have d0 : decide (0 ≤ y.f) = true := by simp [h0]
                have dn : decide (y.f < (p.funcs.length : Int)) = true := by simp [hn]
                have hc : Hid (isCall p.funcs.length y = true) := by simp [Hid, isCall, h5, h0, hn]
                clear h5
                go_wp2_with (at_builtin; refine wpList_append_own _ rfl _ _ 22 rfl (w.heap.size + 1) 3 i0 (.int .i64 0) 1 8 Tryz.underlying22 hi hz0 hz1 hz2 rfl (by decide) _ _ _ rfl ((hown2.out.alloc _).alloc _) ⟨wr.heap.size + 1, 0, none⟩ 1 1 [.int .i64 y.f] rfl rfl ?c1 ?c2 ?c3 ?c4 ?c5 ?_)
                case c1 =>
                  intro q u hq
                  match q, hq with
                  | 0, hq => simp at hq; subst hq; simp [Addr.add]
                case c2 => intro u hu; simp at hu; subst hu; rfl
                case c3 => have := HLE.out; rw [HRS.out, hc.out] at this; simp at this ⊢; unfold maxLen; omega
                case c4 => have := HLE.out; rw [HRS.out, hc.out] at this; simp at this ⊢; omega
                case c5 => simp; omega
                intro v' w1 hown' hgrow _
                have hnew : Hid (OwnI w1 (w.heap.size + 1) v' (raw p.funcs.length (fn.blocks.take k) ++ rawIns p.funcs.length (x.ins.take (j + 1)))) := by
                  rw [HRS.out, hc.out, ← List.append_assoc]
                  exact .of hown' (by simp; omega) (by simp)
                have hbe3 : Hid (Below (w.heap.size + 1) (W0 w p (some ⟨b, o, none⟩) A' c c') w1) :=
                  ((HBE2.out.alloc (by omega) _).alloc (by simp; omega) _).grown hgrow (by simp; omega) (fun q hq => (hown2.out.lt q hq).1)
                clear hown' hgrow hown2 HBE2
                go_wp2
                go_roundw
                case rel => exact ⟨j + 1, by omega, by go_num, hnew, hbe3.out⟩
                case measure => simp [RowKit.intOf]; omega
              · have d5 : (y.op == 5) = true := by simp [h5]
                have d0 : decide (0 ≤ y.f) = true := by simp [h0]
                have dn : decide (y.f < (p.funcs.length : Int)) = false := by simp; omega
                have hc : Hid (isCall p.funcs.length y = false) := by simp [Hid, isCall, h5, h0]; omega
                clear h5
                go_wp2_with fail
                go_roundw
                case rel => exact ⟨j + 1, by omega, by go_num, rel_skip HRS.out hc.out ((hown2.out.alloc _)), HBE2.out.alloc (by omega) _⟩
                case measure => simp [RowKit.intOf]; omega
            · have d5 : (y.op == 5) = true := by simp [h5]
              have d0 : decide (0 ≤ y.f) = false := by simp; omega
              have hc : Hid (isCall p.funcs.length y = false) := by simp [Hid, isCall, h5, h0]
              clear h5
              go_wp2_with fail
              go_roundw
              case rel => exact ⟨j + 1, by omega, by go_num, rel_skip HRS.out hc.out ((hown2.out.alloc _)), HBE2.out.alloc (by omega) _⟩
              case measure => simp [RowKit.intOf]; omega
          · have d5 : (y.op == 5) = false := by simp [h5]
            have hc : Hid (isCall p.funcs.length y = false) := by simp [Hid, isCall, h5]
            clear h5
            go_wp2_with fail
            go_roundw
            case rel => exact ⟨j + 1, by omega, by go_num, rel_skip HRS.out hc.out ((hown2.out.alloc _)), HBE2.out.alloc (by omega) _⟩
            case measure => simp [RowKit.intOf]; omega
        · obtain rfl : j = x.ins.length := by omega
          have hnew : Hid (OwnI wr (w.heap.size + 1) u5 (raw p.funcs.length (fn.blocks.take (k + 1)))) := by
            have h := hown2.out
            rw [List.take_length] at h
            rw [raw_step HXK.out]
            exact h
          have HBE2 := Lib.hid hbe2
          clear hbe2 hown2
          go_wp2
          go_roundw
          case rel => exact ⟨k + 1, by omega, by go_num, hnew, HBE2.out⟩
          case measure => simp [RowKit.intOf]; omega
    · obtain rfl : k = fn.blocks.length := by omega
      have hnew : Hid (OwnI wr (w.heap.size + 1) u5 (raw p.funcs.length fn.blocks)) := by
        have h := hown.out
        rw [List.take_length] at h
        exact h
      have HBE := Lib.hid hbe
      clear hbe hown
      go_wp2_with fail
      refine (sort_own hnew.out (by have := HRAW.out; omega)).mono ?_
      rintro e w1 ⟨rfl, ho1, hg1⟩
      have HO1 := Lib.hid ho1
      have HG1 := Lib.hid hg1
      clear ho1 hg1
      go_wp2_with fail
      refine (compact_own HO1.out (by have := HRAW.out; rw [List.length_mergeSort]; omega)).mono ?_
      rintro e w2 ⟨v', rfl, ho2, hg2, _⟩
      have HO2 := Lib.hid ho2
      have HG2 := Lib.hid hg2
      clear ho2 hg2
      go_wp2_with fail
      go_ret
      have hs0 := W0_lt HBE.out
      have hb1 := hnew.out.grown HBE.out (by omega) HG1.out
      have hb2 := HO1.out.grown hb1 (by have := hb1.size; have := W0_lt hb1; omega) HG2.out
      exact ⟨_, rfl, HO2.out.base (by omega), (W0_below w p _ A' c c').trans (hb2.mono (by omega))⟩
end Mu
end
section
/-
  calls.Calls: at any number.
  Conditions: the program's bulk is at most 2^21.
-/
namespace Mu
open Go Go.RowKit Go.Proofs

theorem callsC_wf {p : Prog} {f : Int} (hsm : tProg.bulk p ≤ 2097152) : ∀ x ∈ callsC p f, wfI .i64 x := by
  intro x hx
  unfold callsC at hx
  split at hx
  · obtain ⟨k, hk, rfl⟩ := List.mem_map.1 hx
    have h1 := succ_lt _ _ _ hk
    have h2 := prog_funcs_le p
    simp [wfI, Lit.wf, IntKind.min, IntKind.max, IntKind.signed, IntKind.bits]
    omega
  · cases hx
set_option maxRecDepth 100000 in
set_option maxHeartbeats 1000000 in
theorem calls_any (p : Prog) (f : Int) (w : World) (cs : List Value) (hR : tProg.R w w.heap.size cs p) (hsm : tProg.bulk p ≤ 2097152) :
    Calls Tryz.prog 37 #[.agg cs.toArray, .int .i64 f] w fun e w' => ∃ v, e = .returned v ∧ OwnI w' w.heap.size v (callsC p f) ∧ Below w.heap.size w w' := by
  obtain ⟨A, c, A', c', rfl, _, _, hF⟩ := tProg_R.1 hR
  have hpl := prog_funcs_le p
  by_cases hin : 0 ≤ f ∧ f < p.funcs.length
  · obtain ⟨fn, hfn⟩ : ∃ fn, p.funcs[f.toNat]? = some fn := ⟨_, List.getElem?_eq_getElem (by omega)⟩
    have hm := List.mem_of_getElem? hfn
    have hfb := prog_func_le hm
    have hbl := func_blocks_le fn
    rw [callsC, if_pos hin, ← calls_eq hfn]
    exact calls_in p f fn w A A' c c' hin.1 hfn (by omega) hF (by omega) (fun b hb => by have h1 := block_ins_le b; have h2 := func_block_le hb; omega) (by have := raw_le p.funcs.length fn; omega)
  · rw [callsC, if_neg hin]
    have hb : Hid (Below w.heap.size w (w.alloc (.cells [.int .i64 p.heap, .slice A' p.threads.length c', .slice A p.funcs.length c].toArray 25))) := (Below.refl _ _).alloc (Nat.le_refl _) _
    clear hR hF
    by_cases h0 : f < 0
    · have d0 : decide (f < 0) = true := decide_eq_true h0
      go_enter Tryz.func37, Tryz.ntmps37
      go_wp2_with fail
      go_ret
      exact ⟨_, rfl, OwnI.nil _ _, hb.out⟩
    · have d0 : decide (f < 0) = false := decide_eq_false h0
      have d1 : decide ((p.funcs.length : Int) ≤ f) = true := decide_eq_true (by omega)
      go_enter Tryz.func37, Tryz.ntmps37
      go_wp2_with fail
      go_ret
      exact ⟨_, rfl, OwnI.nil _ _, hb.out⟩
end Mu
end
section
/-
  calls.graphOf, walked: the table of what each function calls.
  Conditions: the program's bulk is at most 2^21.
-/
namespace Mu
open Go Go.RowKit Go.Proofs

def tab (p : Prog) (k : Nat) : List (List Int) := (List.range k).map fun (i : Nat) => callsC p (i : Int)
theorem tab_succ (p : Prog) (k : Nat) : tab p (k + 1) = tab p k ++ [callsC p k] := by
  unfold tab
  rw [List.range_succ, List.map_append]
  rfl
theorem tab_length (p : Prog) (k : Nat) : (tab p k).length = k := by simp [tab]

/-- the graph in the making: its struct at B + 2, its map at B + 1, the program's copy at B -/
structure GInv (B : Nat) (cs : List Value) (wr : World) (v : Value) (ls : List (List Int)) : Prop where
  box : wr.heap[B]? = some (.cells cs.toArray 25 (0, 0))
  map : wr.heap[B + 1]? = some (.map #[] 0)
  st : wr.heap[B + 1 + 1]? = some (.cells #[v, .map (some (B + 1))] 154 (0, 0))
  own : OwnS wr (B + 1 + 1 + 1) v ls
  lt : B + 1 + 1 < wr.heap.size

theorem graph_start (w : World) (cs : List Value) : GInv w.heap.size cs (((w.alloc (.cells cs.toArray 25)).alloc (.map #[] 0)).alloc (.cells #[.slice none 0 0, .map (some (w.heap.size + 1))] 154)) (.slice none 0 0) [] := by
  have e1 : (w.alloc (.cells cs.toArray 25)).heap.size = w.heap.size + 1 := by simp
  have e2 : ((w.alloc (.cells cs.toArray 25)).alloc (.map #[] 0)).heap.size = w.heap.size + 1 + 1 := by simp
  refine ⟨?_, ?_, ?_, OwnS.nil _ _, by simp⟩
  · rw [Below.heap_alloc _ _ _ (by omega), Below.heap_alloc _ _ _ (by omega)]
    exact heap_alloc_new w _
  · rw [Below.heap_alloc _ _ _ (by omega), ← e1]
    exact heap_alloc_new _ _
  · rw [← e2]
    exact heap_alloc_new _ _
theorem graph_below (w : World) (o1 o2 o3 : Obj) : Below w.heap.size w (((w.alloc o1).alloc o2).alloc o3) :=
  (((Below.refl _ _).alloc (Nat.le_refl _) _).alloc (by simp) _).alloc (by simp; omega) _
theorem undrew {B : Nat} {w w' : World} (h : Below B w.drew w') : Below B w w' := ⟨h.os, h.tape, h.output, h.size, h.block⟩
theorem graph_own {w w1 : World} {base n : Nat} {e : TypeId} {v : Value} {xs : List Value} (h : w.ownsRow base e 1 v n xs) (hb : Below w.heap.size w w1) (o : Obj) : (w1.alloc o).ownsRow base e 1 v n xs :=
  (ownsRow_keep h (fun g hg => hb.block g (h.lt g hg).2)).alloc _
theorem news_one (w : World) (u : Value) (t : TypeId) : ∀ j x, [u][j]? = some x → (w.alloc (.cells #[u] t)).cell? ((⟨w.heap.size, 0, none⟩ : Addr).add j) = some x := by
  intro j x hx
  match j, hx with
  | 0, hx =>
    simp at hx
    subst hx
    exact cell_of_row _ _ 0 _ _ _ (heap_alloc_new w _)
theorem own_one {w : World} {base n size : Nat} {e : TypeId} {v : Value} {xs : List Value} (h : w.ownsRow base e size v n xs) : v.oneCell' = true := by
  rcases h.2 with ⟨rfl, _⟩ | ⟨g, cap, cur, rfl, _⟩ <;> rfl
theorem one_cell {w : World} {base : Nat} {v : Value} {l : List Int} (h : OwnI w base v l) : ∀ u ∈ [v], u.oneCell' = true := by
  intro u hu
  simp at hu
  subst hu
  exact own_one h
theorem graph_cell {B : Nat} {cs : List Value} {w w1 w2 : World} {v : Value} {ls : List (List Int)} {o : Obj} (h : GInv B cs w v ls) (hb : Below w.heap.size w w1) (hg : (w1.alloc o).grownBy w2 v.ownBlock) :
    w2.cell? ⟨B + 1 + 1, 0, none⟩ = some v ∧ w2.frozen? ⟨B + 1 + 1, 0, none⟩ = false := by
  have hl := h.lt
  have hsz := hb.size
  have e : w2.heap[B + 1 + 1]? = some (.cells #[v, .map (some (B + 1))] 154 (0, 0)) := by
    rw [hg.block _ (by simp; omega) (fun e => by have := (h.own.lt _ e.symm).1; omega), Below.heap_alloc _ _ _ (by omega), hb.block _ hl]
    exact h.st
  exact ⟨cell_of_row _ _ 0 _ _ _ e, by simp [World.frozen?, e]⟩
theorem graph_step {B g cap : Nat} {cs : List Value} {w w1 w2 : World} {v u : Value} {ls : List (List Int)} {l : List Int} {o : Obj} {cells : List Value} (h : GInv B cs w v ls)
    (ho : w.ownsRow (B + 1 + 1 + 1) 22 1 v ls.length cells) (hin : ∀ (i : Nat) (l : List Int), ls[i]? = some l → ∃ u, cells[i]? = some u ∧ tInt.slice.RS w (fun b => B + 1 + 1 + 1 ≤ b ∧ b < w.heap.size ∧ v.ownBlock ≠ some b) [u] l)
    (hb : Below w.heap.size w w1) (hu : OwnI w1 w.heap.size u l) (hw : ∀ x ∈ l, wfI .i64 x)
    (ho2 : w2.ownsRow (B + 1 + 1 + 1) 22 1 (.slice (some ⟨g, 0, none⟩) (ls.length + 1) cap) (ls.length + 1) (cells ++ [u])) (hgr : (w1.alloc o).grownBy w2 v.ownBlock) (hg : v.ownBlock = some g ∨ g = w1.heap.size + 1) :
    GInv B cs (w2.setCell ⟨B + 1 + 1, 0, none⟩ (.slice (some ⟨g, 0, none⟩) (ls.length + 1) cap)) (.slice (some ⟨g, 0, none⟩) (ls.length + 1) cap) (ls ++ [l]) := by
  have hl := h.lt
  have hsz := hb.size
  have hgs := hgr.size
  have hold : ∀ k, k ≤ B + 1 + 1 → w2.heap[k]? = w.heap[k]? := fun k hk => by
    rw [hgr.block _ (by simp; omega) (fun e => by have := (h.own.lt _ e.symm).1; omega), Below.heap_alloc _ _ _ (by omega), hb.block _ (by omega)]
  have hs2 : (w1.alloc o).heap.size = w1.heap.size + 1 := by simp
  refine ⟨?_, ?_, ?_, ?_, by simp [World.setCell]; omega⟩
  · rw [Below.heap_setCell _ _ _ _ (by simp; omega), hold _ (by omega)]
    exact h.box
  · rw [Below.heap_setCell _ _ _ _ (by simp), hold _ (by omega)]
    exact h.map
  · have e := (hold (B + 1 + 1) (Nat.le_refl _)).trans h.st
    simp [World.setCell, Array.getElem?_modify, e]
  · have hb' : Below w.heap.size w (w1.alloc o) := hb.alloc hsz o
    exact (OwnS.snoc ho hin hb' (hu.alloc o) hw (by omega) ho2 rfl hgr (hg.imp id (fun e => by omega))).setCell (by show B + 1 + 1 < _; omega) _

set_option maxRecDepth 100000 in
set_option maxHeartbeats 2000000 in
theorem graphOf_any (p : Prog) (w : World) (cs : List Value) (hR : tProg.R w w.heap.size cs p) (hsm : tProg.bulk p ≤ 2097152) :
    Calls Tryz.prog 43 #[.agg cs.toArray] w fun e w' => ∃ v, e = .returned (.pointer (some ⟨w.heap.size + 1 + 1, 0, none⟩)) ∧ GInv w.heap.size cs w' v (tab p p.funcs.length) ∧ Below w.heap.size w w' := by
  obtain ⟨A, c, A', c', rfl, _, _, hF⟩ := tProg_R.1 hR
  have hpl := prog_funcs_le p
  obtain ⟨i0, hi, hz0, hz1, hz2⟩ := info_parts slc_info
  have HR := Lib.hid hR
  clear hR hF
  have hmm := @run_makeMap Tryz.prog
  go_enter Tryz.func43, Tryz.ntmps43
  go_wp2_with fail
  go_loopw [11] (fun i wr => ∃ k : Nat, k ≤ p.funcs.length ∧ i = .int .i64 k ∧ Below w.heap.size w wr ∧ Hid (∃ v, GInv w.heap.size [.int .i64 p.heap, .slice A' p.threads.length c', .slice A p.funcs.length c] wr v (tab p k))) (fun i _ => p.funcs.length - (RowKit.intOf i).toNat)
  case atStart => exact ⟨0, Nat.zero_le _, rfl, graph_below w _ _ _, _, graph_start w _⟩
  case round =>
    obtain ⟨k, hk, rfl, hbw, hG⟩ := hrel
    obtain ⟨v, hG⟩ := hG.out
    have hbx := hG.box
    have hst := hG.st
    have hb0 : wr.cell? ⟨w.heap.size, 0, none⟩ = some (.int .i64 p.heap) := cell_of_row _ _ 0 _ _ _ hbx
    have hb1 : wr.cell? ⟨w.heap.size, 1, none⟩ = some (.slice A' p.threads.length c') := cell_of_row _ _ 1 _ _ _ hbx
    have hb2 : wr.cell? ⟨w.heap.size, 2, none⟩ = some (.slice A p.funcs.length c) := cell_of_row _ _ 2 _ _ _ hbx
    have hs0 : wr.cell? ⟨w.heap.size + 1 + 1, 0, none⟩ = some v := cell_of_row _ _ 0 _ _ _ hst
    have hlt0 := hG.lt
    obtain ⟨cells, ho, hin⟩ := hG.own
    have hRw : Hid (tProg.R wr wr.heap.size [.int .i64 p.heap, .slice A' p.threads.length c', .slice A p.funcs.length c] p) := Ty.below HR.out hbw hbw.size
    have HG := Lib.hid hG
    have HBW := Lib.hid hbw
    have HO := Lib.hid ho
    have HIN := Lib.hid hin
    clear hG hbw ho hin hbx hst
    by_cases hlt : k < p.funcs.length
    · have hkl := tab_length p k
      have HKL := Lib.hid hkl
      clear hkl
      go_wp2_with fail
      have hRd : Hid (tProg.R wr.drew wr.drew.heap.size [.int .i64 p.heap, .slice A' p.threads.length c', .slice A p.funcs.length c] p) := Ty.keep hRw.out (fun _ _ => rfl) (Nat.le_refl _)
      go_region_law (first
        | (refine step_append_lies _ (by rfl) (.tmp 18) (.tmp 22) 78 (by rfl) (w.heap.size + 1 + 1 + 1) 22 i0 (.slice none 0 0) 1 24 Tryz.underlying78 hi hz0 hz1 hz2 rfl (by decide) v (tab p k).length cells (by simp [Act.eval]) (graph_own HO.out HB1.out _) ⟨w1.heap.size, 0, none⟩ 1 1 [.slice Au (callsC p k).length cu] (by simp [Act.eval]) rfl (news_one _ _ _) (one_cell HU.out) (by decide) (by have := HKL.out; unfold maxLen; omega) (by have := HKL.out; omega) (by have := HB1.out.size; simp; omega) (w1.heap.size + 1) (by simp) ?_; intro g cap w2 ho2 hgr hg hgl; obtain ⟨hs2, hf2⟩ := graph_cell HG.out HB1.out hgr; have HO2 := Lib.hid ho2; have HGR := Lib.hid hgr; have HGG := Lib.hid hg; clear ho2 hgr hg)
        | (go_simp; go_at_call 37; refine (calls_any p (k : Int) wr.drew _ hRd.out hsm).mono ?_; rintro e w1 ⟨u, rfl, hu, hb1'⟩; obtain ⟨Au, cu, rfl⟩ := own_form hu; have HB1 := Lib.hid (show Below wr.heap.size wr w1 from undrew hb1'); have HU := Lib.hid (show OwnI w1 wr.heap.size (.slice Au (callsC p k).length cu) _ from hu); have hs1 := (HB1.out.cell (p := ⟨w.heap.size + 1 + 1, 0, none⟩) (by show w.heap.size + 1 + 1 < _; omega)).trans hs0; have hw1 : w.heap.size + 1 + 1 < w1.heap.size := Nat.lt_of_lt_of_le hlt0 HB1.out.size; clear hb1' hu))
      all_goals
        have hnew : Hid (GInv w.heap.size [.int .i64 p.heap, .slice A' p.threads.length c', .slice A p.funcs.length c] (w2.setCell ⟨w.heap.size + 1 + 1, 0, none⟩ (.slice (some ⟨g, 0, none⟩) ((tab p k).length + 1) cap)) (.slice (some ⟨g, 0, none⟩) ((tab p k).length + 1) cap) (tab p (k + 1))) := by
          rw [tab_succ]
          exact graph_step HG.out HO.out HIN.out HB1.out HU.out (callsC_wf hsm) HO2.out HGR.out HGG.out
        have hbn : Hid (Below w.heap.size w (w2.setCell ⟨w.heap.size + 1 + 1, 0, none⟩ (.slice (some ⟨g, 0, none⟩) ((tab p k).length + 1) cap))) :=
          (((HBW.out.trans (HB1.out.mono HBW.out.size)).alloc (by have := HBW.out.size; have := HB1.out.size; omega) _).grown HGR.out (by have := HBW.out.size; have := HB1.out.size; simp; omega) (fun q hq => by have := (HO.out.lt q hq).1; omega)).setCell (by simp; omega) _
        clear HGR HGG HO2 HG HBW HO HIN HB1 HU hs1 hs2 hf2 hb0 hb1 hb2 hs0
        go_wp2
        go_roundw
        case rel => exact ⟨k + 1, by omega, by go_num, hbn.out, _, hnew.out⟩
        case measure => simp [RowKit.intOf]; omega
    · obtain rfl : k = p.funcs.length := by omega
      go_wp2_with fail
      go_ret
      exact ⟨v, rfl, HG.out, HBW.out⟩
end Mu
end
section
/-
  The set of functions as bits: newBits, has, put, walked.
  Conditions: numbers from 0 up to the set's size; at most 2^21 of them.
-/
namespace Mu
open Go Go.RowKit Go.Proofs

/-- a set of numbers below m * 64, in a row of the call's own -/
def OwnB (w : World) (base : Nat) (v : Value) (m : Nat) (S : Nat → Bool) : Prop := w.ownsRow base 210 64 v m ((List.range (m * 64)).map fun k => Value.bool (S k))

theorem word_info : (Tryz.prog.info? 210).map (fun i => (i.zero, i.size, i.bytes)) = some (some (.agg (List.replicate 64 (Value.bool false)).toArray), 64, 64) := by kernel_rfl

theorem OwnB.cell {w : World} {base m k g cap : Nat} {S : Nat → Bool} (ho : OwnB w base (.slice (some ⟨g, 0, none⟩) m cap) m S) (hk : k < m * 64) : w.cell? ⟨g, k / 64 * 64 + k % 64, none⟩ = some (.bool (S k)) := by
  rw [show k / 64 * 64 + k % 64 = k from by omega]
  have := World.ownsRow.cellAt ho k hk
  rw [this]
  simp [hk]
theorem OwnB.put {w : World} {base m k g cap : Nat} {S : Nat → Bool} (ho : OwnB w base (.slice (some ⟨g, 0, none⟩) m cap) m S) (hk : k < m * 64) :
    OwnB (w.setCell ⟨g, k / 64 * 64 + k % 64, none⟩ (.bool true)) base (.slice (some ⟨g, 0, none⟩) m cap) m (put S k) := by
  rw [show k / 64 * 64 + k % 64 = k from by omega]
  have := World.ownsRow.stored ho k (.bool true)
  unfold OwnB
  have e : ((List.range (m * 64)).map fun j => Value.bool (S j)).set k (.bool true) = (List.range (m * 64)).map fun j => Value.bool (Mu.put S k j) := by
    apply List.ext_getElem?
    intro j
    rw [List.getElem?_set]
    by_cases hj : j < m * 64
    · by_cases he : k = j
      · subst he
        simp [hj, Mu.put]
      · simp [hj, he, Mu.put, Ne.symm he]
    · simp [hj]
      omega
  rw [← e]
  exact this.1
theorem OwnB.keep {w w' : World} {base m : Nat} {v : Value} {S : Nat → Bool} (h : OwnB w base v m S) (hk : ∀ g, v.ownBlock = some g → w'.heap[g]? = w.heap[g]?) : OwnB w' base v m S := ownsRow_keep h hk

set_option maxRecDepth 100000 in
set_option maxHeartbeats 1000000 in
theorem bits_has (w : World) (base m k g cap : Nat) (S : Nat → Bool) (ho : OwnB w base (.slice (some ⟨g, 0, none⟩) m cap) m S) (hk : k < m * 64) (hm : m ≤ 65536) :
    Calls Tryz.prog 101 #[.slice (some ⟨g, 0, none⟩) m cap, .int .i64 k] w fun e w' => e = .returned (.bool (S k)) ∧ w = w' := by
  have hc := ho.cell hk
  have h1 : k / 64 < m := by omega
  have h2 : k % 64 < 64 := by omega
  clear ho
  go_enter Tryz.func101, Tryz.ntmps101
  go_wp2_with fail
  go_ret
  exact ⟨rfl, rfl⟩

set_option maxRecDepth 100000 in
set_option maxHeartbeats 1000000 in
theorem bits_put (w : World) (base m k g cap : Nat) (S : Nat → Bool) (ho : OwnB w base (.slice (some ⟨g, 0, none⟩) m cap) m S) (hk : k < m * 64) (hm : m ≤ 65536) :
    Calls Tryz.prog 100 #[.slice (some ⟨g, 0, none⟩) m cap, .int .i64 k] w fun e w' => e = .returned (.bool (!S k)) ∧ w.setCell ⟨g, k / 64 * 64 + k % 64, none⟩ (.bool true) = w' := by
  have hc := ho.cell hk
  have hfz : w.frozen? ⟨g, k / 64 * 64 + k % 64, none⟩ = false := World.ownsRow.frozenAt ho _
  have h1 : k / 64 < m := by omega
  have h2 : k % 64 < 64 := by omega
  have HO := Lib.hid ho
  clear ho
  go_enter Tryz.func100, Tryz.ntmps100
  go_wp2_with fail
  refine (bits_has _ base m k g cap S HO.out hk hm).mono ?_
  rintro e w' ⟨rfl, rfl⟩
  go_wp2_with fail
  go_ret
  exact ⟨rfl, rfl⟩

theorem made_all (q m : Nat) (hq : 0 < q) (x : Value) : (madeCells (List.replicate q x).toArray (m * q)).toList = (List.range (m * q)).map fun _ => x := by
  apply List.ext_getElem?
  intro j
  by_cases hj : j < m * q
  · have h1 : j % q < q := Nat.mod_lt _ hq
    simp [madeCells, hj, getElem!_pos, h1]
  · simp [madeCells, hj]
theorem made_false (m : Nat) : (madeCells (List.replicate 64 (Value.bool false)).toArray (m * 64)).toList = (List.range (m * 64)).map fun _ => Value.bool false := made_all 64 m (by decide) _

set_option maxRecDepth 100000 in
set_option maxHeartbeats 1000000 in
theorem bits_new (w : World) (n : Nat) (hn : n ≤ 2097152) :
    Calls Tryz.prog 99 #[.int .i64 n] w fun e w' => e = .returned (.slice (some ⟨w.heap.size, 0, none⟩) (n / 64 + 1) (n / 64 + 1)) ∧ OwnB w' w.heap.size (.slice (some ⟨w.heap.size, 0, none⟩) (n / 64 + 1) (n / 64 + 1)) (n / 64 + 1) (fun _ => false) ∧ w.grownBy w' none := by
  obtain ⟨i0, hi, hz0, hz1, hz2⟩ := info_parts word_info
  go_enter Tryz.func99, Tryz.ntmps99
  go_wp2_with (at_make; refine wpList_make_full _ rfl _ _ 156 rfl w.heap.size 210 i0 (.agg (List.replicate 64 (Value.bool false)).toArray) 64 Tryz.underlying156 hi hz0 hz1 .i64 .i64 ((n : Int) / 64 + 1) ((n : Int) / 64 + 1) (n / 64 + 1) rfl rfl (by omega) (by omega) (by rw [hz2]; omega) (by unfold maxLen; omega) (Nat.le_refl _) ?_; intro w1 ho hg)
  have HO := Lib.hid ho
  have HG := Lib.hid hg
  clear ho hg
  go_wp2_with fail
  go_ret
  refine ⟨rfl, ?_, HG.out⟩
  have := HO.out
  unfold OwnB
  rw [← made_false]
  exact this
end Mu
end
section
/-
  muntinref20.has, walked: does a function call another one?
  Conditions: the program's bulk is at most 2^21.
-/
namespace Mu
open Go Go.RowKit Go.Proofs

end Mu
end
section
/-
  muntinref20.Calls, walked.
  Conditions: the program's bulk is at most 2^21.
-/
namespace Mu
open Go Go.RowKit Go.Proofs

theorem range_filter_step (P : Nat → Bool) (k : Nat) : ofN ((List.range (k + 1)).filter P) = ofN ((List.range k).filter P) ++ if P k then [(k : Int)] else [] := by
  unfold ofN
  rw [List.range_succ, List.filter_append, List.map_append]
  by_cases h : P k <;> simp [h]
theorem range_filter_len (P : Nat → Bool) (k : Nat) : (ofN ((List.range k).filter P)).length ≤ k := by
  unfold ofN
  rw [List.length_map]
  exact Nat.le_trans (List.length_filter_le _ _) (by simp)

end Mu
end
section
/-
  The graph's reach, walked.
  Conditions: the program's bulk is at most 2^21; a function that there is.
-/
namespace Mu
open Go Go.RowKit Go.Proofs

/-- the graph as it is read: its struct at gb, the table of calls -/
structure GRead (gb : Nat) (A : Option Addr) (c : Nat) (w : World) (p : Prog) : Prop where
  st : w.cell? ⟨gb, 0, none⟩ = some (.slice A p.funcs.length c)
  lt : gb < w.heap.size
  tab : tInt.slice.slice.R w w.heap.size [.slice A p.funcs.length c] (tab p p.funcs.length)

theorem GRead.keep {gb c : Nat} {A : Option Addr} {w w' : World} {p : Prog} (h : GRead gb A c w p) (hb : Below w.heap.size w w') : GRead gb A c w' p :=
  ⟨(hb.cell (p := ⟨gb, 0, none⟩) h.lt).trans h.st, Nat.lt_of_lt_of_le h.lt hb.size, Ty.below h.tab hb hb.size⟩

theorem tab_get {p : Prog} {k : Nat} (hk : k < p.funcs.length) : (tab p p.funcs.length)[k]? = some (ofN (succ p k)) := by
  simp only [tab, List.getElem?_map, List.getElem?_range hk, Option.map_some, Option.some.injEq]
  rw [callsC, if_pos ⟨by omega, by omega⟩]
  simp

theorem ofN_get {l : List Nat} {i : Nat} {z : Nat} (h : l[i]? = some z) : (ofN l)[i]? = some (z : Int) := by
  simp [ofN, h]
theorem ofN_append (l m : List Nat) : ofN (l ++ m) = ofN l ++ ofN m := by simp [ofN]
theorem ofN_length (l : List Nat) : (ofN l).length = l.length := by simp [ofN]

/-- what the worklist's loop keeps -/
structure RInv (p : Prog) (f gs : Nat) (w wr : World) (v : Value) (wl : List Nat) (i : Nat) (S : Nat → Bool) : Prop where
  bfs : Bfs (succ p) p.funcs.length f wl i S
  wait : OwnI wr w.heap.size v (ofN wl)
  bits : OwnB wr w.heap.size (.slice (some ⟨gs, 0, none⟩) (p.funcs.length / 64 + 1) (p.funcs.length / 64 + 1)) (p.funcs.length / 64 + 1) S
  below : Below w.heap.size w wr

theorem own_ne_bits {w : World} {base base' m : Nat} {v v' : Value} {l : List Int} {S : Nat → Bool} (h : OwnI w base v l) (h' : OwnB w base' v' m S) : ∀ g, v'.ownBlock = some g → v.ownBlock ≠ some g := by
  intro g hg hv
  rcases h.2 with ⟨rfl, _⟩ | ⟨g1, cap, cur, rfl, _, hh, _⟩
  · cases hv
  · rcases h'.2 with ⟨rfl, _⟩ | ⟨g2, cap', cur', rfl, _, hh', _⟩
    · cases hg
    · cases hv
      cases hg
      rw [hh] at hh'
      injection hh' with hh'
      injection hh' with _ ht
      cases ht
theorem OwnB.base {w : World} {base base' m : Nat} {v : Value} {S : Nat → Bool} (h : OwnB w base v m S) (hb : base' ≤ base) : OwnB w base' v m S := by
  obtain ⟨h1, h2⟩ := h
  refine ⟨h1, ?_⟩
  rcases h2 with h2 | ⟨g, cap, cur, hv, hg, r⟩
  · exact .inl h2
  · exact .inr ⟨g, cap, cur, hv, by omega, r⟩

/-- a bit is put: what turns -/
theorem bits_put' (w : World) (base m k g cap : Nat) (S : Nat → Bool) (ho : OwnB w base (.slice (some ⟨g, 0, none⟩) m cap) m S) (hk : k < m * 64) (hm : m ≤ 65536) :
    Calls Tryz.prog 100 #[.slice (some ⟨g, 0, none⟩) m cap, .int .i64 k] w fun e w' => e = .returned (.bool (!S k)) ∧ OwnB w' base (.slice (some ⟨g, 0, none⟩) m cap) m (Mu.put S k) ∧ w.grownBy w' (some g) := by
  refine (bits_put w base m k g cap S ho hk hm).mono fun e w' ⟨he, hw⟩ => ?_
  subst hw
  exact ⟨he, ho.put hk, (World.ownsRow.stored ho _ _).2⟩

theorem put_same {S : Nat → Bool} {k : Nat} (h : S k = true) : Mu.put S k = S := by
  funext j
  unfold Mu.put
  split
  · rename_i e; rw [e, h]
  · rfl

/-- the loop's start -/
theorem RInv.start {p : Prog} {f : Nat} {w w1 w2 : World} {v : Value} (ho : OwnI w1 w.heap.size v (ofN (succ p f))) (hb : Below w.heap.size w w1)
    (ho2 : OwnB w2 w1.heap.size (.slice (some ⟨w1.heap.size, 0, none⟩) (p.funcs.length / 64 + 1) (p.funcs.length / 64 + 1)) (p.funcs.length / 64 + 1) (fun _ => false)) (hg : w1.grownBy w2 none) :
    RInv p f w1.heap.size w w2 v (succ p f) 0 (fun _ => false) :=
  ⟨Bfs.init _ _, ownsRow_keep ho (fun g hg' => hg.block g (ho.lt g hg').2 (by simp)), ho2.base hb.size, hb.grown hg hb.size (fun _ h => by cases h)⟩

/-- the bit was there -/
theorem RInv.old {p : Prog} {f gs i k : Nat} {w wr w3 : World} {v : Value} {wl : List Nat} {S : Nat → Bool} (h : RInv p f gs w wr v wl i S) (hk : wl[i]? = some k) (hS : S k = true)
    (ho3 : OwnB w3 w.heap.size (.slice (some ⟨gs, 0, none⟩) (p.funcs.length / 64 + 1) (p.funcs.length / 64 + 1)) (p.funcs.length / 64 + 1) (Mu.put S k)) (hg : wr.grownBy w3 (some gs)) :
    RInv p f gs w w3 v wl (i + 1) S := by
  rw [put_same hS] at ho3
  refine ⟨h.bfs.old hk hS, ownsRow_keep h.wait (fun g hg' => hg.block g (h.wait.lt g hg').2 (fun e => own_ne_bits h.wait h.bits gs rfl (hg'.trans e))), ho3, h.below.grown hg h.below.size (fun q hq => ?_)⟩
  cases hq
  exact (World.ownsRow.lt h.bits gs rfl).1

theorem RInv.mid {p : Prog} {f gs i : Nat} {w wr w3 : World} {v : Value} {wl : List Nat} {S : Nat → Bool} (h : RInv p f gs w wr v wl i S)
    (hg : wr.grownBy w3 (some gs)) : OwnI w3 w.heap.size v (ofN wl) ∧ Below w.heap.size w w3 := by
  refine ⟨ownsRow_keep h.wait (fun g hg' => hg.block g (h.wait.lt g hg').2 (fun e => own_ne_bits h.wait h.bits gs rfl (hg'.trans e))), h.below.grown hg h.below.size (fun q hq => ?_)⟩
  cases hq
  exact (World.ownsRow.lt h.bits gs rfl).1

/-- the bit was not there: the row is appended -/
theorem RInv.new {p : Prog} {f gs i k n : Nat} {w wr w3 w4 : World} {v v' : Value} {wl : List Nat} {S : Nat → Bool} {cells : List Value} (h : RInv p f gs w wr v wl i S) (hk : wl[i]? = some k) (hS : S k = false)
    (ho3 : OwnB w3 w.heap.size (.slice (some ⟨gs, 0, none⟩) (p.funcs.length / 64 + 1) (p.funcs.length / 64 + 1)) (p.funcs.length / 64 + 1) (Mu.put S k)) (hg : wr.grownBy w3 (some gs))
    (ho4 : w4.ownsRow w.heap.size 3 1 v' n cells) (hn : n = (ofN (wl ++ succ p k)).length) (hc : cells = (ofN (wl ++ succ p k)).map (Value.int .i64)) (hg4 : w3.grownBy w4 v.ownBlock) :
    RInv p f gs w w4 v' (wl ++ succ p k) (i + 1) (Mu.put S k) := by
  obtain ⟨hw3, hb3⟩ := h.mid hg
  refine ⟨h.bfs.new (succ_lt p) hk hS, .of ho4 hn hc, ho3.keep (fun g hg' => hg4.block g (World.ownsRow.lt ho3 g hg').2 (fun e => own_ne_bits hw3 ho3 g hg' e.symm)), hb3.grown hg4 hb3.size (fun q hq => (hw3.lt q hq).1)⟩

def reachB (p : Prog) (f : Nat) : Nat → Bool := rounds_ (succ p) p.funcs.length f p.funcs.length
def reachC (p : Prog) (f : Nat) : List Int := ofN ((List.range p.funcs.length).filter (reachB p f))

set_option maxRecDepth 100000 in
set_option maxHeartbeats 2000000 in
theorem reach_any (p : Prog) (f gb c : Nat) (A : Option Addr) (w : World) (hf : f < p.funcs.length) (hG : GRead gb A c w p) (hsm : tProg.bulk p ≤ 2097152) :
    Calls Tryz.prog 44 #[.pointer (some ⟨gb, 0, none⟩), .int .i64 f] w fun e w' => ∃ v, e = .returned v ∧ OwnI w' w.heap.size v (reachC p f) ∧ Below w.heap.size w w' := by
  have hpl := prog_funcs_le p
  obtain ⟨tb, to_, Ar, cr, rfl, htb, hrow, hrowR⟩ := slices_at hG.tab (tab_get hf)
  have hst := hG.st
  have hgl := hG.lt
  have hsl := succ_length p f
  obtain ⟨i0, hi, hz0, hz1, hz2⟩ := info_parts int_info
  have HG := Lib.hid hG
  have HRR := Lib.hid hrowR
  clear hG hrowR
  have hRd : Hid (tInt.slice.R w.drew w.drew.heap.size [.slice Ar (ofN (succ p f)).length cr] (ofN (succ p f))) := Ty.keep (B := w.heap.size) HRR.out (fun _ _ => rfl) (Nat.le_refl _)
  have HC1 := Lib.hid (clone_any (w := w.drew) hRd.out (by rw [ofN_length]; omega))
  go_enter Tryz.func44, Tryz.ntmps44
  go_wp2_with fail
  go_region_held3 (fun w' => w'.cell? ⟨gb, 0, none⟩ = some (.slice (some ⟨tb, to_, none⟩) p.funcs.length c) ∧ w'.cell? ⟨tb, to_ + f, none⟩ = some (.slice Ar (ofN (succ p f)).length cr))
    (first | go_keep)
    (first
      | (go_at_call 99; refine (bits_new _ p.funcs.length (by omega)).mono ?_; rintro e w2 ⟨rfl, ho2, hg2⟩; have j1 := (hg2.cell (a := ⟨gb, 0, none⟩) k1 (by simp)); have j2 := (hg2.cell (a := ⟨tb, to_ + f, none⟩) k2 (by simp)); have HO2 := Lib.hid ho2; have HG2 := Lib.hid hg2; clear ho2 hg2)
      | (go_at_call 95; refine HC1.out.mono ?_; rintro e w1 ⟨v1, rfl, ho1, hb1⟩; have HO1 := Lib.hid ho1; have k1 := (hb1.cell (p := ⟨gb, 0, none⟩) hgl).trans hst; have k2 := (hb1.cell (p := ⟨tb, to_ + f, none⟩) htb).trans hrow; have HB1 := Lib.hid hb1; clear ho1 hb1))
  have hstart := Lib.hid (RInv.start (show OwnI w1 w.heap.size v1 _ from HO1.out) (undrew HB1.out) HO2.out HG2.out)
  clear HO1 HB1 HO2 HG2 k1 k2 j1 j2
  generalize w1.heap.size = gs at *
  clear w1 hst hrow
  go_wp2_with fail
  go_loopw [5, 7] (fun v i wr => ∃ q : Nat, i = .int .i64 q ∧ Hid (∃ wl S, RInv p f gs w wr v wl q S)) (fun v i _ => (succ p f).length + restOf (succ p) (fun _ => false) p.funcs.length - (RowKit.intOf i).toNat)
  case atStart => exact ⟨0, rfl, _, _, hstart.out⟩
  case round =>
    obtain ⟨q, rfl, hI⟩ := hrel
    obtain ⟨wl, S, hI⟩ := hI.out
    have HI := Lib.hid hI
    have hwl : wl.length ≤ 4398046511104 * 2 := by
      have := hI.bfs.length_le (m := p.funcs.length) (succ_length p)
      have h2 : (p.funcs.length + 1) * p.funcs.length ≤ 2097153 * 2097152 := Nat.mul_le_mul (by omega) (by omega)
      omega
    have hqm : wl.length ≤ (succ p f).length + restOf (succ p) (fun _ => false) p.funcs.length := by
      have := hI.bfs.size
      omega
    have hql := hI.bfs.le
    obtain ⟨Aw, cw, rfl⟩ := own_form hI.wait
    have hol := ofN_length wl
    have HOL := Lib.hid hol
    clear hI hstart hol
    by_cases hlt : q < wl.length
    · obtain ⟨k, hk⟩ : ∃ k, wl[q]? = some k := ⟨_, List.getElem?_eq_getElem hlt⟩
      have hkn : k < p.funcs.length := (HI.out.bfs.sound k (List.mem_of_getElem? hk)).lt (succ_lt p)
      obtain ⟨gw, cw', ew, hgw1, hgw2⟩ := own_form' HI.out.wait (by rw [HOL.out]; omega)
      cases ew
      have hcell := own_cell HI.out.wait (ofN_get hk)
      have hlen : q < (ofN wl).length := by rw [HOL.out]; exact hlt
      have HK := Lib.hid hk
      clear hk
      by_cases hS : S k = true
      · have HS := Lib.hid hS
        clear hS
        go_wp2_with fail
        refine (bits_put' _ w.heap.size (p.funcs.length / 64 + 1) k gs (p.funcs.length / 64 + 1) S HI.out.bits (by omega) (by omega)).mono ?_
        rintro e w3 ⟨rfl, ho3, hg3⟩
        rw [HS.out]
        have hnew := Lib.hid (HI.out.old HK.out HS.out ho3 hg3)
        clear ho3 hg3 HI hcell
        go_wp2_with fail
        go_roundw
        case rel => exact ⟨q + 1, by go_num, _, _, hnew.out⟩
        case measure => simp [RowKit.intOf]; omega
      · have hS' : S k = false := by simpa using hS
        have HS := Lib.hid hS'
        clear hS hS'
        go_wp2_with fail
        refine (bits_put' _ w.heap.size (p.funcs.length / 64 + 1) k gs (p.funcs.length / 64 + 1) S HI.out.bits (by omega) (by omega)).mono ?_
        rintro e w3 ⟨rfl, ho3, hg3⟩
        rw [HS.out]
        obtain ⟨hw3, hb3⟩ := HI.out.mid hg3
        obtain ⟨tb', to', Ak, ck, e', htk, hrow, hrowR⟩ := slices_at HG.out.tab (tab_get hkn)
        cases e'
        have hst3 := (hb3.cell (p := ⟨gb, 0, none⟩) hgl).trans HG.out.st
        have hrow3 := (hb3.cell (p := ⟨tb, to_ + k, none⟩) htk).trans hrow
        have hrR3 := Lib.hid (Ty.below (B := w.heap.size) hrowR hb3 hb3.size)
        have hnl : (wl ++ succ p k).length ≤ 4398048608256 := by
          have h1 := (HI.out.bfs.new (succ_lt p) HK.out HS.out).length_le (m := p.funcs.length) (succ_length p)
          have h2 : (p.funcs.length + 1) * p.funcs.length ≤ 2097153 * 2097152 := Nat.mul_le_mul (by omega) (by omega)
          omega
        have HO3 := Lib.hid ho3
        have HG3 := Lib.hid hg3
        have HW3 := Lib.hid hw3
        have HB3 := Lib.hid hb3
        have HNL := Lib.hid hnl
        clear ho3 hg3 hw3 hb3 hrow hrowR hcell hnl
        rcases Ak with _ | ad
        · obtain ⟨hnil, hz, hcz⟩ := slice_nil_at hrR3.out
          have hsk : succ p k = [] := by
            have := congrArg List.length hnil
            rw [ofN_length] at this
            exact List.eq_nil_of_length_eq_zero (by simpa using this)
          have hnew := Lib.hid (HI.out.new HK.out HS.out HO3.out HG3.out (w4 := w3) HW3.out (by rw [hsk, List.append_nil]) (by rw [hsk, List.append_nil]) (World.grownBy.refl _ _))
          rw [hz, hcz] at hrow3
          clear hnil hz hcz hsk HI
          go_wp2_with (at_builtin; refine wpList_append_own_none rfl (.tmp 38) (.tmp 45) 22 rfl w.heap.size 3 i0 1 Tryz.underlying22 hi _ _ _ rfl HW3.out rfl ?_)
          go_roundw
          case rel => exact ⟨q + 1, by go_num, _, _, hnew.out⟩
          case measure => simp [RowKit.intOf]; omega
        · have hnews : Hid (∀ (j : Nat) (u : Value), ((ofN (succ p k)).map (Value.int .i64))[j]? = some u → w3.cell? (ad.add j) = some u) := by
            intro j u hu
            simp only [List.getElem?_map, Option.map_eq_some_iff] at hu
            obtain ⟨z, hz, rfl⟩ := hu
            obtain ⟨b5, o5, e5, _, hc5, _⟩ := int_at hrR3.out hz
            cases e5
            rw [Go.WideShapes.add_plain]
            exact hc5
          go_wp2_with (at_builtin; refine wpList_append_own _ rfl (.tmp 38) (.tmp 45) 22 rfl w.heap.size 3 i0 (.int .i64 0) 1 8 Tryz.underlying22 hi hz0 hz1 hz2 rfl (by decide) _ _ _ rfl HW3.out ad (ofN (succ p k)).length ck ((ofN (succ p k)).map (Value.int .i64)) rfl (by simp) hnews.out (ints_oneCell _ _) ?c3 ?c4 HB3.out.size ?_)
          case c3 => have := HNL.out; rw [List.length_append] at this; rw [ofN_length, ofN_length]; unfold maxLen; omega
          case c4 => have := HNL.out; rw [List.length_append] at this; rw [ofN_length, ofN_length]; omega
          intro v' w4 ho4 hg4 _
          have hnew := Lib.hid (HI.out.new HK.out HS.out HO3.out HG3.out ho4 (by rw [ofN_append, List.length_append]) (by rw [ofN_append, List.map_append]) hg4)
          clear ho4 hg4 HI HO3 HG3 HW3 hnews hst3 hrow3
          go_wp2
          go_roundw
          case rel => exact ⟨q + 1, by go_num, _, _, hnew.out⟩
          case measure => simp [RowKit.intOf]; omega
    · have hge : (ofN wl).length ≤ q := by rw [HOL.out]; omega
      have hdq : decide (q < (ofN wl).length) = false := decide_eq_false (by omega)
      have hfin : Hid (∀ k, S k = reachB p f k) := fun k => by
        have h1 := HI.out.bfs.end_ (by omega) k
        have h2 := rounds_end (succ_lt p) hf k
        rw [Bool.eq_iff_iff, h1, ← h2]
        rfl
      have hst2 := (HI.out.below.cell (p := ⟨gb, 0, none⟩) hgl).trans HG.out.st
      have hb2 := Lib.hid HI.out.bits
      have hbw2 := Lib.hid HI.out.below
      clear HI hqm hql hwl
      go_wp2_with fail
      obtain ⟨wo, rfl⟩ : ∃ wo : World, wo = wr := ⟨_, rfl⟩
      clear hst2
      go_loopw [9, 52] (fun out i wr => ∃ r : Nat, r ≤ p.funcs.length ∧ i = .int .i64 r ∧ Hid (OwnI wr w.heap.size out (ofN ((List.range r).filter S))) ∧ Hid (OwnB wr w.heap.size (.slice (some ⟨gs, 0, none⟩) (p.funcs.length / 64 + 1) (p.funcs.length / 64 + 1)) (p.funcs.length / 64 + 1) S) ∧ Below w.heap.size w wr) (fun _ i _ => p.funcs.length - (RowKit.intOf i).toNat)
      case atStart => exact ⟨0, Nat.zero_le _, rfl, OwnI.nil _ _, hb2, hbw2.out⟩
      case round =>
        obtain ⟨r, hr, rfl, hown, hbits, hbe⟩ := hrel
        have hst := range_filter_step S r
        have hln := range_filter_len S (r + 1)
        have hsz := hbe.size
        have HBE := Lib.hid hbe
        have HST := Lib.hid hst
        have HLN := Lib.hid hln
        clear hbe hst hln hb2 hbw2
        by_cases hlt2 : r < p.funcs.length
        · by_cases hS : S r = true
          · have HS := Lib.hid hS
            clear hS
            go_wp2_with fail
            refine (bits_has _ w.heap.size (p.funcs.length / 64 + 1) r gs (p.funcs.length / 64 + 1) S hbits.out (by omega) (by omega)).mono ?_
            rintro e w3 ⟨rfl, rfl⟩
            rw [HS.out]
            go_wp2_with (at_builtin; refine wpList_append_own _ rfl _ _ 22 rfl w.heap.size 3 i0 (.int .i64 0) 1 8 Tryz.underlying22 hi hz0 hz1 hz2 rfl (by decide) _ _ _ rfl (hown.out.alloc _) ⟨wr.heap.size, 0, none⟩ 1 1 [.int .i64 r] rfl rfl ?c1 ?c2 ?c3 ?c4 ?c5 ?_)
            case c1 =>
              intro q u hq
              match q, hq with
              | 0, hq => simp at hq; subst hq; simp [Addr.add]
            case c2 => intro u hu; simp at hu; subst hu; rfl
            case c3 => have := HLN.out; rw [HST.out, HS.out] at this; simp at this ⊢; unfold maxLen; omega
            case c4 => have := HLN.out; rw [HST.out, HS.out] at this; simp at this ⊢; omega
            case c5 => simp; omega
            intro v' w2 hown' hgrow _
            have hnew : Hid (OwnI w2 w.heap.size v' (ofN ((List.range (r + 1)).filter S))) := by
              rw [HST.out, HS.out]
              exact .of hown' (by simp) (by simp)
            have hbits2 : Hid (OwnB w2 w.heap.size (.slice (some ⟨gs, 0, none⟩) (p.funcs.length / 64 + 1) (p.funcs.length / 64 + 1)) (p.funcs.length / 64 + 1) S) :=
              OwnB.keep (hbits.out.keep (fun g hg => Below.heap_alloc _ _ _ (World.ownsRow.lt hbits.out g hg).2)) (fun g hg => hgrow.block g (by have := (World.ownsRow.lt hbits.out g hg).2; simp; omega) (fun e => own_ne_bits hown.out hbits.out g hg e.symm))
            have hbe3 : Hid (Below w.heap.size w w2) := (HBE.out.alloc hsz _).grown hgrow (by simp; omega) (fun q hq => (hown.out.lt q hq).1)
            clear hown' hgrow hown HBE hbits
            go_wp2
            go_roundw
            case rel => exact ⟨r + 1, by omega, by go_num, hnew, hbits2, hbe3.out⟩
            case measure => simp [RowKit.intOf]; omega
          · have hS' : S r = false := by simpa using hS
            have HS := Lib.hid hS'
            clear hS hS'
            go_wp2_with fail
            refine (bits_has _ w.heap.size (p.funcs.length / 64 + 1) r gs (p.funcs.length / 64 + 1) S hbits.out (by omega) (by omega)).mono ?_
            rintro e w3 ⟨rfl, rfl⟩
            rw [HS.out]
            have hnew : Hid (OwnI wr w.heap.size u9 (ofN ((List.range (r + 1)).filter S))) := by
              rw [HST.out, HS.out]
              show OwnI _ _ _ _
              simpa using hown.out
            go_wp2_with fail
            go_roundw
            case rel => exact ⟨r + 1, by omega, by go_num, hnew, hbits, HBE.out⟩
            case measure => simp [RowKit.intOf]; omega
        · obtain rfl : r = p.funcs.length := by omega
          go_wp2_with fail
          go_ret
          have hfe : (List.range p.funcs.length).filter S = (List.range p.funcs.length).filter (reachB p f) := List.filter_congr (fun x _ => hfin.out x)
          exact ⟨_, rfl, by rw [reachC, ← hfe]; exact hown.out, HBE.out⟩
end Mu
end
section
/-
  calls.Reach, walked.
  Conditions: the program's bulk is at most 2^21.
-/
namespace Mu
open Go Go.RowKit Go.Proofs

def reachAll (p : Prog) (f : Int) : List Int := if 0 ≤ f ∧ f < p.funcs.length then reachC p f.toNat else []

/-- the graph as graphOf hands it back -/
structure GOut (base gb mb : Nat) (A : Option Addr) (c : Nat) (w : World) (p : Prog) : Prop where
  read : GRead gb A c w p
  tabS : tInt.slice.slice.RS w (fun k => mb < k ∧ k ≠ gb ∧ k < w.heap.size) [.slice A p.funcs.length c] (tab p p.funcs.length)
  mapc : w.cell? ⟨gb, 1, none⟩ = some (.map (some mb))
  mapo : w.heap[mb]? = some (.map #[] 0)
  lo : base ≤ mb
  lt : mb < gb

theorem GInv.out {B : Nat} {cs : List Value} {w : World} {v : Value} {p : Prog} (h : GInv B cs w v (tab p p.funcs.length)) :
    ∃ A c, GOut B (B + 1 + 1) (B + 1) A c w p := by
  have hr := h.own.read
  obtain ⟨A, c, rfl⟩ := slice_form hr
  rw [tab_length] at hr
  refine ⟨A, c, ⟨?_, h.lt, Ty.toR hr (fun k hk => hk.2)⟩, Ty.keepS _ hr (fun _ _ => rfl) (fun k hk => ⟨by omega, by omega, hk.2⟩), cell_of_row _ _ 1 _ _ _ h.st, h.map, by omega, by omega⟩
  have := cell_of_row _ _ 0 _ _ _ h.st
  rw [this, tab_length]
  rfl

theorem graphOf_out (p : Prog) (w : World) (cs : List Value) (hR : tProg.R w w.heap.size cs p) (hsm : tProg.bulk p ≤ 2097152) :
    Calls Tryz.prog 43 #[.agg cs.toArray] w fun e w' => ∃ gb mb A c, e = .returned (.pointer (some ⟨gb, 0, none⟩)) ∧ GOut w.heap.size gb mb A c w' p ∧ Below w.heap.size w w' := by
  refine (graphOf_any p w cs hR hsm).mono ?_
  rintro e w' ⟨v, rfl, hG, hb⟩
  obtain ⟨A, c, ho⟩ := hG.out
  exact ⟨_, _, A, c, rfl, ho, hb⟩

set_option maxRecDepth 100000 in
set_option maxHeartbeats 2000000 in
theorem Reach_any (p : Prog) (f : Int) (w : World) (cs : List Value) (hR : tProg.R w w.heap.size cs p) (hsm : tProg.bulk p ≤ 2097152) :
    Calls Tryz.prog 38 #[.agg cs.toArray, .int .i64 f] w fun e w' => ∃ v, e = .returned v ∧ OwnI w' w.heap.size v (reachAll p f) ∧ Below w.heap.size w w' := by
  obtain ⟨A, c, A', c', rfl, _, _, hF⟩ := tProg_R.1 hR
  have hpl := prog_funcs_le p
  have hb : Hid (Below w.heap.size w (w.alloc (.cells [.int .i64 p.heap, .slice A' p.threads.length c', .slice A p.funcs.length c].toArray 25))) := (Below.refl _ _).alloc (Nat.le_refl _) _
  by_cases hin : 0 ≤ f ∧ f < p.funcs.length
  · obtain ⟨k, rfl⟩ := Int.eq_ofNat_of_zero_le hin.1
    have hk : k < p.funcs.length := by omega
    rw [reachAll, if_pos hin]
    have d0 : decide ((k : Int) < 0) = false := decide_eq_false (by omega)
    have d1 : decide ((p.funcs.length : Int) ≤ (k : Int)) = false := decide_eq_false (by omega)
    have d2 : decide (p.funcs.length ≤ k) = false := decide_eq_false (by omega)
    have HR := Lib.hid (Ty.below hR hb.out hb.out.size)
    clear hR hF hin
    go_enter Tryz.func38, Tryz.ntmps38
    go_wp2_with fail
    refine (graphOf_out p _ _ HR.out hsm).mono ?_
    rintro e w1 ⟨gb, mb, Ag, cg, rfl, hG, hb1⟩
    have HGR := Lib.hid hG.read
    have HB1 := Lib.hid hb1
    clear hG hb1
    go_wp2_with fail
    refine (reach_any p k _ cg Ag _ hk HGR.out hsm).mono ?_
    rintro e w2 ⟨v2, rfl, ho, hb2⟩
    have HO := Lib.hid ho
    have HB2 := Lib.hid hb2
    clear ho hb2
    go_wp2_with fail
    go_ret
    have hbb := hb.out.trans (HB1.out.mono hb.out.size)
    exact ⟨_, rfl, HO.out.base hbb.size, hbb.trans (HB2.out.mono hbb.size)⟩
  · rw [reachAll, if_neg hin]
    clear hR hF
    by_cases h0 : f < 0
    · have d0 : decide (f < 0) = true := decide_eq_true h0
      go_enter Tryz.func38, Tryz.ntmps38
      go_wp2_with fail
      go_ret
      exact ⟨_, rfl, OwnI.nil _ _, hb.out⟩
    · have d0 : decide (f < 0) = false := decide_eq_false h0
      have d1 : decide ((p.funcs.length : Int) ≤ f) = true := decide_eq_true (by omega)
      go_enter Tryz.func38, Tryz.ntmps38
      go_wp2_with fail
      go_ret
      exact ⟨_, rfl, OwnI.nil _ _, hb.out⟩
end Mu
end
section
/-
  muntinref20.reaches, walked.
  Conditions: the program's bulk is at most 2^21; a function that there is.
-/
namespace Mu
open Go Go.RowKit Go.Proofs

end Mu
end
section
/-
  muntinref20.Reach and turns, walked.
  Conditions: the program's bulk is at most 2^21.
-/
namespace Mu
open Go Go.RowKit Go.Proofs

def turnsAt (p : Prog) (f k : Nat) : Bool := (reachB p f k || k == f) && reachB p k k
def turnsB (p : Prog) (f : Nat) : Bool := (List.range p.funcs.length).any (turnsAt p f)

end Mu
end
section
/-
  muntinref20.Depth, walked.
  Conditions: the program's bulk is at most 2^21.
-/
namespace Mu
open Go Go.RowKit Go.Proofs

def depthC (p : Prog) (f : Int) : Int := if 0 ≤ f ∧ f < p.funcs.length ∧ turnsB p f.toNat = false then (relaxR (succ p) p.funcs.length p.funcs.length f.toNat : Nat) else -1

end Mu
end
section
/-
  The graph's depth, walked: the longest way, told by a map of what is known.
  Conditions: from the function no circle is reached; the program's bulk is at most 2^21.
-/
namespace Mu
open Go Go.RowKit Go.Proofs Go.Maps

/-- block b is a map from ints to ints, of at most n entries -/
structure MI (w : World) (b n : Nat) (M : Int → Option Int) (D : DataW Unit) : Prop where
  own : w.ownsMap Tryz.prog 3 (plainElem Tryz.prog 3) b n D
  is : IsMap D
  has : ∀ k, Maps.has D (.int .i64 k) = (M k).isSome
  at_ : ∀ k v, M k = some v → ∀ z, D.atKey (.int .i64 k) z = .lit (.int .i64 v)

theorem MI.empty {w : World} {b : Nat} (h : w.heap[b]? = some (.map #[] 0)) : MI w b 0 (fun _ => none) (.map []) := by
  have hb : b < w.heap.size := (Array.getElem?_eq_some_iff.1 h).1
  refine ⟨?_, isMap_empty, fun _ => rfl, fun _ _ h => by cases h⟩
  obtain ⟨es, cl, e, r⟩ := World.ownsMap_made (H := Unit) w Tryz.prog 3 (plainElem Tryz.prog 3)
  have e2 : (w.alloc (.map #[] 0)).heap[w.heap.size]? = some (.map #[] 0) := heap_alloc_new w _
  rw [e2] at e
  injection e with e
  injection e with e3 e4
  subst e3 e4
  exact ⟨#[], 0, h, r⟩

theorem int_law : Keyed Tryz.prog 3 := int_keyed Tryz.underlying3
theorem int_zero (w : World) : (zeroValue 3).run Tryz.prog w = .ok (.int .i64 0) w := by kernel_rfl
theorem int_key {a : Int} (h : wfI .i64 a) : keyOf Tryz.prog 3 (.int .i64 a) = some (.int .i64 a) := keyOf_int_mk Tryz.underlying3 h

theorem MI.put {w w' : World} {b n : Nat} {M : Int → Option Int} {D : DataW Unit} (h : MI w b n M D) {k v : Int} (hk : wfI .i64 k) (ho : w'.ownsMap Tryz.prog 3 (plainElem Tryz.prog 3) b (n + 1) (D.put (.int .i64 k) (.lit (.int .i64 v)))) :
    MI w' b (n + 1) (fun j => if j = k then some v else M j) (D.put (.int .i64 k) (.lit (.int .i64 v))) := by
  have hkl : WideAt.IsKeyLit (.int .i64 k) := int_law.key (int_key hk)
  refine ⟨ho, h.is.put _ _, fun j => ?_, fun j u hj z => ?_⟩
  · by_cases e : j = k
    · subst e
      simp [has_put_same h.is hkl]
    · rw [has_put_other (by simpa using e), h.has]
      simp [e]
  · by_cases e : j = k
    · subst e
      simp at hj
      subst hj
      exact atKey_put_same h.is hkl _ _
    · simp only [e, if_false] at hj
      rw [atKey_put_other (by simpa using e)]
      exact h.at_ j u hj z

/-- what is known is right -/
structure Known (p : Prog) (w : World) (mb : Nat) (M : Int → Option Int) (D : DataW Unit) : Prop where
  ex : ∃ n, n ≤ cnt p.funcs.length (fun k => (M k).isSome) ∧ MI w mb n M D
  sound : ∀ k v, M k = some v → ∃ j : Nat, k = j ∧ j < p.funcs.length ∧ v = (lngN (succ p) p.funcs.length j : Nat)

/-- the graph, as a depth reads it -/
structure GD (gb mb : Nat) (A : Option Addr) (c : Nat) (w : World) (p : Prog) : Prop where
  st : w.cell? ⟨gb, 0, none⟩ = some (.slice A p.funcs.length c)
  mp : w.cell? ⟨gb, 1, none⟩ = some (.map (some mb))
  ne : gb ≠ mb
  lt : gb < w.heap.size
  tab : tInt.slice.slice.RS w (fun k => k ≠ mb ∧ k < w.heap.size) [.slice A p.funcs.length c] (tab p p.funcs.length)

theorem GD.grown {gb mb c : Nat} {A : Option Addr} {w w' : World} {p : Prog} (h : GD gb mb A c w p) (hg : w.grownBy w' (some mb)) : GD gb mb A c w' p :=
  ⟨hg.cell (a := ⟨gb, 0, none⟩) h.st (by simpa using h.ne), hg.cell (a := ⟨gb, 1, none⟩) h.mp (by simpa using h.ne), h.ne, Nat.lt_of_lt_of_le h.lt hg.size,
    Ty.keepS _ h.tab (fun k hk => hg.block k hk.2 (by simpa using hk.1)) (fun k hk => ⟨hk.1, Nat.lt_of_lt_of_le hk.2 hg.size⟩)⟩


/-- what a depth leaves -/
def DPost (p : Prog) (f mb : Nat) (w : World) (M : Int → Option Int) (e : Ending) (w' : World) : Prop :=
  ∃ M' D', e = .returned (.int .i64 (lngN (succ p) p.funcs.length f : Nat)) ∧ Known p w' mb M' D' ∧ w.grownBy w' (some mb) ∧
    (∀ q : Nat, M' q ≠ none → M q ≠ none ∨ q = f ∨ Rch (succ p) f q)

theorem max_step {l : List Nat} {j k : Nat} (h : l[j]? = some k) (F : Nat → Nat) : maxL ((l.take (j + 1)).map F) = max (maxL ((l.take j).map F)) (F k) := by
  rw [List.take_add_one, h, Option.toList_some, List.map_append, maxL_append]
  simp [maxL_cons, maxL_nil]

open Classical in
set_option maxRecDepth 100000 in
set_option maxHeartbeats 2000000 in
theorem depth_any (p : Prog) (gb mb c : Nat) (A : Option Addr) (hsm : tProg.bulk p ≤ 2097152) (m : Nat) :
    ∀ (f : Nat) (w : World) (M : Int → Option Int) (D : DataW Unit), f < p.funcs.length → Acyc (succ p) f → cnt p.funcs.length (fun j => decide (Rch (succ p) f j)) < m → GD gb mb A c w p → Known p w mb M D →
    Calls Tryz.prog 46 #[.pointer (some ⟨gb, 0, none⟩), .int .i64 f] w (DPost p f mb w M) := by
  induction m with
  | zero => intro f w M D _ _ h; omega
  | succ m ih =>
    intro f w M D hf ha hcnt hG hK
    have hpl := prog_funcs_le p
    have hst := hG.st
    have hmp := hG.mp
    have hgl := hG.lt
    obtain ⟨n0, hn0, hMI⟩ := hK.ex
    have hown := Lib.hid hMI.own
    have hkey : keyOf Tryz.prog 3 (.int .i64 f) = some (.int .i64 f) := int_key (by simp [wfI, Lit.wf, IntKind.min, IntKind.max, IntKind.signed, IntKind.bits]; omega)
    have HKEY := Lib.hid hkey
    have HIH := Lib.hid ih
    have HA := Lib.hid ha
    have HG := Lib.hid hG
    have HK := Lib.hid hK
    have HC := Lib.hid hcnt
    have hhas := hMI.has f
    have hat := hMI.at_ f
    clear ih ha hG hK hcnt hMI hn0 hkey
    rcases hM : M f with _ | v
    · rw [hM] at hhas
      have hno : Maps.has D (.int .i64 f) = false := hhas
      have HM := Lib.hid hM
      clear hat hhas hM
      obtain ⟨tb, to_, Af, cf, eA, htbS, hrow, hrowR⟩ := slices_at HG.out.tab (tab_get hf)
      cases eA
      have HRF := Lib.hid hrowR
      have hol := ofN_length (succ p f)
      have HOL := Lib.hid hol
      have hsl := succ_length p f
      have HTB := Lib.hid htbS
      clear hrowR hol htbS
      go_enter Tryz.func46, Tryz.ntmps46
      go_wp2_with (at_lookup; refine wpList_lookup_own_ok_int _ rfl _ _ 152 rfl 3 3 .i64 int_law Tryz.underlying152 Tryz.underlying3 (int_zero _) mb n0 D rfl hown.out _ _ rfl HKEY.out ?_; intro c hc hwc; clear hc hwc)
      clear hst hmp hrow
      go_loopw [7, 29] (fun nv i wr => ∃ j : Nat, j ≤ (succ p f).length ∧ i = .int .i64 j ∧ nv = .int .i64 (maxL (((succ p f).take j).map fun k => lngN (succ p) p.funcs.length k + 1) : Nat) ∧ w.grownBy wr (some mb) ∧ Hid (∃ M' D', Known p wr mb M' D' ∧ ∀ q : Nat, M' q ≠ none → M q ≠ none ∨ Rch (succ p) f q)) (fun _ i _ => (succ p f).length - (RowKit.intOf i).toNat)
      case atStart => exact ⟨0, Nat.zero_le _, rfl, rfl, World.grownBy.refl _ _, M, D, HK.out, fun q hq => .inl hq⟩
      case round =>
        obtain ⟨j, hj, rfl, rfl, hgr, hkn⟩ := hrel
        obtain ⟨M', D', hkn, hfr⟩ := hkn.out
        have HGR := Lib.hid hgr
        have HKN := Lib.hid hkn
        have HFR := Lib.hid hfr
        clear hgr hkn hfr hno
        have HGW := Lib.hid (HG.out.grown HGR.out)
        by_cases hlt : j < (succ p f).length
        · obtain ⟨k, hk⟩ : ∃ k, (succ p f)[j]? = some k := ⟨_, List.getElem?_eq_getElem hlt⟩
          have hmem := List.mem_of_getElem? hk
          have hkn' := succ_lt p f k hmem
          have hrw : tInt.slice.RS wr (fun k => k ≠ mb ∧ k < wr.heap.size) [.slice Af (ofN (succ p f)).length cf] (ofN (succ p f)) :=
            Ty.keepS _ HRF.out (fun k hk => HGR.out.block k hk.2 (by simpa using hk.1)) (fun k hk => ⟨hk.1, Nat.lt_of_lt_of_le hk.2 HGR.out.size⟩)
          obtain ⟨b1, o1, e1, hb1, hc1, _⟩ := int_at hrw (ofN_get hk)
          cases e1
          have hlen : j < (ofN (succ p f)).length := by rw [HOL.out]; exact hlt
          have hmx := max_step hk (fun k => lngN (succ p) p.funcs.length k + 1)
          have hlk : lngN (succ p) p.funcs.length k ≤ p.funcs.length := lngN_le (succ_lt p) (HA.out.step hmem)
          have hmxle : maxL (((succ p f).take j).map fun k => lngN (succ p) p.funcs.length k + 1) ≤ p.funcs.length + 1 := maxL_le (by
            intro x hx
            obtain ⟨q, hq, rfl⟩ := List.mem_map.1 hx
            have hqm : q ∈ succ p f := List.mem_of_mem_take hq
            have := lngN_le (succ_lt p) (HA.out.step hqm)
            omega)
          have hcl := reach_card_lt (n := p.funcs.length) (succ_lt p) HA.out hmem
          have HCL := Lib.hid hcl
          have HMX := Lib.hid hmx
          have HMEM := Lib.hid hmem
          have HIHk := Lib.hid (HIH.out k wr M' D' hkn' (HA.out.step hmem) (by have := HC.out; omega) HGW.out HKN.out)
          clear hk hmem hrw hmx hcl hb1
          go_wp2_with fail
          refine HIHk.out.mono ?_
          rintro e w2 ⟨M2, D2, rfl, hk2, hg2, hf2⟩
          have HK2 := Lib.hid hk2
          have HG2 := Lib.hid hg2
          have HF2 := Lib.hid hf2
          clear hk2 hg2 hf2 hc1
          go_wp2_with fail
          go_roundw
          case rel =>
            refine ⟨j + 1, by omega, by go_num, ?_, grown_trans HGR.out HG2.out, M2, D2, HK2.out, fun q hq => ?_⟩
            · rw [HMX.out]
              exact congrArg (Value.int .i64) (by rw [List.map_take]; omega)
            · rcases HF2.out q hq with h | h | h
              · exact HFR.out q h
              · exact .inr (h ▸ Rch.one HMEM.out)
              · exact .inr (.head HMEM.out h)
          case measure => simp [RowKit.intOf]; omega
        · obtain rfl : j = (succ p f).length := by omega
          have hge : (ofN (succ p f)).length ≤ (succ p f).length := by rw [HOL.out]; omega
          have hmp2 := HGW.out.mp
          obtain ⟨n1, hn1, hMI⟩ := HKN.out.ex
          have hcn := cnt_le p.funcs.length (fun k => (M' k).isSome)
          have HMI := Lib.hid hMI
          have hval : maxL (((succ p f).take (succ p f).length).map fun k => lngN (succ p) p.funcs.length k + 1) = lngN (succ p) p.funcs.length f := by
            rw [List.take_length, ← lngN_eq (succ_lt p) HA.out]
          have HVAL := Lib.hid hval
          have hlf := lngN_le (succ_lt p) HA.out
          have hwv : wfI .i64 (maxL (((succ p f).take (succ p f).length).map fun k => lngN (succ p) p.funcs.length k + 1) : Nat) := by
            rw [hval]
            simp [wfI, Lit.wf, IntKind.min, IntKind.max, IntKind.signed, IntKind.bits]; omega
          have HWV := Lib.hid hwv
          have hfn : Hid (M' f = none) := by
            show _ = _
            rcases hh : M' f with _ | v
            · rfl
            · rcases HFR.out f (by rw [hh]; simp) with h | h
              · exact absurd HM.out h
              · exact absurd h (HA.out f (.inl rfl))
          have HN1 := Lib.hid hn1
          clear hMI hval hwv hn1 hlf
          go_wp2_with (at_mapUpdate; refine wpList_mapUpdate_own _ rfl _ _ _ 152 rfl 3 3 int_law Tryz.underlying152 _ mb n1 D' rfl HMI.out.own (by have := HN1.out; unfold maxLen; omega) _ _ _ rfl rfl HKEY.out _ [] (plainElem_int Tryz.underlying3 HWV.out) ?_; intro w3 hown3 hg3)
          have HO3 := Lib.hid hown3
          have HG3 := Lib.hid hg3
          clear hown3 hg3 hmp2
          go_wp2_with fail
          go_ret
          have hput := HMI.out.put (k := (f : Int)) (v := (maxL (((succ p f).take (succ p f).length).map fun k => lngN (succ p) p.funcs.length k + 1) : Nat)) (by simp [wfI, Lit.wf, IntKind.min, IntKind.max, IntKind.signed, IntKind.bits]; omega) HO3.out
          refine ⟨_, _, ret_int (by rw [← lngN_eq (succ_lt p) HA.out]), ⟨⟨n1 + 1, ?_, hput⟩, ?_⟩, grown_trans HGR.out HG3.out, ?_⟩
          · have h1 := HN1.out
            have h2 := cnt_lt (n := p.funcs.length) (S := fun k => (M' k).isSome) (T := fun k => ((fun j => if j = (f : Int) then some ((maxL (((succ p f).take (succ p f).length).map fun k => lngN (succ p) p.funcs.length k + 1) : Nat) : Int) else M' j) (k : Int)).isSome) (fun k _ hk => by
              show (if (k : Int) = (f : Int) then some _ else M' k).isSome = true
              split
              · rfl
              · exact hk) hf (by simp [hfn.out]) (by simp)
            exact Nat.lt_of_le_of_lt h1 h2
          · intro k v hkv
            by_cases e : k = (f : Int)
            · simp only [e, if_true, Option.some.injEq] at hkv
              exact ⟨f, e, hf, by rw [← hkv, HVAL.out]⟩
            · simp only [e, if_false] at hkv
              exact HKN.out.sound k v hkv
          · intro q hq
            by_cases e : (q : Int) = (f : Int)
            · exact .inr (.inl (by omega))
            · simp only [e, if_false] at hq
              rcases HFR.out q hq with h | h
              · exact .inl h
              · exact .inr (.inr h)
    · rw [hM] at hhas
      have hyes : Maps.has D (.int .i64 f) = true := hhas
      have hv : v = (lngN (succ p) p.funcs.length f : Nat) := by
        obtain ⟨j, e, _, hv⟩ := HK.out.sound f v hM
        have : f = j := by omega
        subst this
        exact hv
      have HAT := Lib.hid (hat v hM)
      have HV := Lib.hid hv
      clear hat hhas hM hv
      go_enter Tryz.func46, Tryz.ntmps46
      go_wp2_with (at_lookup; refine wpList_lookup_own_ok_int _ rfl _ _ 152 rfl 3 3 .i64 int_law Tryz.underlying152 Tryz.underlying3 (int_zero _) mb n0 D rfl hown.out _ _ rfl HKEY.out ?_; intro c hc hwc; rw [HAT.out] at hc; cases hc; clear hwc)
      go_ret
      exact ⟨M, D, ret_int HV.out, HK.out, World.grownBy.refl _ _, fun q hq => .inl hq⟩
end Mu
end
section
/-
  calls.Depth, walked.
  Conditions: the program's bulk is at most 2^21.
-/
namespace Mu
open Go Go.RowKit Go.Proofs Go.Maps

theorem GOut.gd {base gb mb c : Nat} {A : Option Addr} {w : World} {p : Prog} (h : GOut base gb mb A c w p) : GD gb mb A c w p :=
  ⟨h.read.st, h.mapc, Nat.ne_of_gt h.lt, h.read.lt, Ty.keepS _ h.tabS (fun _ _ => rfl) (fun _ hk => ⟨Nat.ne_of_gt hk.1, hk.2.2⟩)⟩
theorem GOut.known {base gb mb c : Nat} {A : Option Addr} {w : World} {p : Prog} (h : GOut base gb mb A c w p) : Known p w mb (fun _ => none) (.map []) :=
  ⟨⟨0, Nat.zero_le _, MI.empty h.mapo⟩, fun _ _ h => by cases h⟩
theorem GOut.keep {base gb mb c : Nat} {A : Option Addr} {w w' : World} {p : Prog} (h : GOut base gb mb A c w p) (hb : Below w.heap.size w w') : GOut base gb mb A c w' p :=
  ⟨h.read.keep hb, Ty.keepS _ h.tabS (fun k hk => hb.block k hk.2.2) (fun _ hk => ⟨hk.1, hk.2.1, Nat.lt_of_lt_of_le hk.2.2 hb.size⟩), (hb.cell (p := ⟨gb, 1, none⟩) h.read.lt).trans h.mapc, (hb.block mb (Nat.lt_trans h.lt h.read.lt)).trans h.mapo, h.lo, h.lt⟩

/-- turns: a circle is reached -/
theorem turnsB_iff {p : Prog} {f : Nat} (hf : f < p.funcs.length) : turnsB p f = false ↔ Acyc (succ p) f := by
  have hr : ∀ k, k < p.funcs.length → ∀ j, reachB p k j = true ↔ Rch (succ p) k j := fun k hk j => rounds_end (succ_lt p) hk j
  unfold turnsB
  rw [List.any_eq_false]
  constructor
  · intro h k hk hkk
    have hkn : k < p.funcs.length := hkk.lt (succ_lt p)
    have := h k (by simpa using hkn)
    unfold turnsAt at this
    apply this
    rw [Bool.and_eq_true, Bool.or_eq_true]
    refine ⟨?_, (hr k hkn k).2 hkk⟩
    rcases hk with rfl | hk
    · right; simp
    · left; exact (hr f hf k).2 hk
  · intro h k hk
    have hkn : k < p.funcs.length := by simpa using hk
    unfold turnsAt
    intro hc
    rw [Bool.and_eq_true, Bool.or_eq_true] at hc
    refine h k ?_ ((hr k hkn k).1 hc.2)
    rcases hc.1 with h1 | h1
    · right; exact (hr f hf k).1 h1
    · left; simpa using h1

def selfAt (p : Prog) (k : Int) : Bool := (reachC p k.toNat).contains k

theorem mem_reachC {p : Prog} {f k : Nat} (hf : f < p.funcs.length) : (k : Int) ∈ reachC p f ↔ Rch (succ p) f k := by
  unfold reachC ofN
  rw [List.mem_map]
  constructor
  · rintro ⟨j, hj, e⟩
    have : j = k := Int.ofNat.inj e
    subst this
    exact (rounds_end (succ_lt p) hf j).1 (List.mem_filter.1 hj).2
  · intro h
    exact ⟨k, List.mem_filter.2 ⟨by simpa using h.lt (succ_lt p), (rounds_end (succ_lt p) hf k).2 h⟩, rfl⟩
theorem selfAt_iff {p : Prog} {k : Nat} (hk : k < p.funcs.length) : selfAt p k = true ↔ Rch (succ p) k k := by
  unfold selfAt
  rw [List.contains_iff_mem]
  exact mem_reachC hk
theorem reachC_lt {p : Prog} {f : Nat} {z : Int} (h : z ∈ reachC p f) : ∃ k : Nat, z = k ∧ k < p.funcs.length := by
  unfold reachC ofN at h
  obtain ⟨k, hk, rfl⟩ := List.mem_map.1 h
  exact ⟨k, rfl, by simpa using (List.mem_filter.1 hk).1⟩
theorem reachC_len (p : Prog) (f : Nat) : (reachC p f).length ≤ p.funcs.length := range_filter_len _ _
theorem reachC_wf {p : Prog} {f : Nat} (hsm : tProg.bulk p ≤ 2097152) : ∀ x ∈ reachC p f, wfI .i64 x := by
  intro x hx
  obtain ⟨k, rfl, hk⟩ := reachC_lt hx
  have := prog_funcs_le p
  simp [wfI, Lit.wf, IntKind.min, IntKind.max, IntKind.signed, IntKind.bits]
  omega

/-- slices.Contains on a row that is read -/
theorem contains_any {v : Value} {xs : List Int} {x : Int} {w : World} {S : Nat → Prop} (h : tInt.slice.RS w S [v] xs) (hn : xs.length ≤ 2147483648) :
    Calls Tryz.prog 45 #[v, .int .i64 x] w fun e w' => e = .returned (.bool (xs.contains x)) ∧ w = w' := by
  obtain ⟨A, c, rfl⟩ := slice_form h
  by_cases hz : xs = []
  · subst hz
    refine (Tryz.slices_Contains_int_empty _ _ _ _).mono fun e w' ⟨he, hw⟩ => ⟨he, hw.symm⟩
  · have hpos : 0 < xs.length := List.length_pos_iff.2 hz
    obtain ⟨b, o, e, _⟩ := int_at h (List.getElem?_eq_getElem hpos)
    cases e
    refine (Tryz.slices_Contains_int b o xs.length c xs x w (Nat.le_refl _) (by omega) (fun j hj => ?_)).mono fun e w' ⟨he, hw⟩ => ?_
    · obtain ⟨b', o', e', _, hc, _⟩ := int_at h (List.getElem?_eq_getElem hj)
      cases e'
      rw [hc]
      simp [List.getD, hj]
    · rw [List.take_length] at he
      exact ⟨he, hw.symm⟩

theorem anyD_step {P : Int → Bool} {l : List Int} {j : Nat} {z : Int} (hz : l[j]? = some z) (h : (l.take j).any P = false) (hp : P z = false) : Hid ((l.take (j + 1)).any P = false) := by
  show _ = _
  rw [List.take_add_one, hz, List.any_append, h]
  simp [hp]

def depthC' (p : Prog) (f : Int) : Int := if 0 ≤ f ∧ f < p.funcs.length ∧ turnsB p f.toNat = false then (lngN (succ p) p.funcs.length f.toNat : Nat) else -1

theorem self_row {p : Prog} {f : Nat} (hf : f < p.funcs.length) : (reachC p f ++ [(f : Int)]).any (selfAt p) = turnsB p f := by
  rcases ht : turnsB p f with _ | _
  · rw [turnsB_iff hf] at ht
    rw [List.any_eq_false]
    intro z hz
    rcases List.mem_append.1 hz with h | h
    · obtain ⟨k, rfl, hk⟩ := reachC_lt h
      rw [selfAt_iff hk]
      exact ht k (.inr ((mem_reachC hf).1 h))
    · simp at h
      subst h
      rw [selfAt_iff hf]
      exact ht f (.inl rfl)
  · rw [List.any_eq_true]
    have h1 : ¬ Acyc (succ p) f := fun h => by rw [(turnsB_iff hf).2 h] at ht; cases ht
    have h2 : ∃ k, (k = f ∨ Rch (succ p) f k) ∧ Rch (succ p) k k := by
      apply Classical.byContradiction
      intro hn
      exact h1 fun k hk hkk => hn ⟨k, hk, hkk⟩
    obtain ⟨k, hk, hkk⟩ := h2
    have hkn := hkk.lt (succ_lt p)
    refine ⟨(k : Int), ?_, (selfAt_iff hkn).2 hkk⟩
    rcases hk with rfl | hk
    · simp
    · exact List.mem_append.2 (.inl ((mem_reachC hf).2 hk))

set_option maxRecDepth 100000 in
set_option maxHeartbeats 2000000 in
theorem Depth_in (p : Prog) (f : Nat) (w : World) (cs : List Value) (hf : f < p.funcs.length) (hR : tProg.R w w.heap.size cs p) (hsm : tProg.bulk p ≤ 2097152) :
    Calls Tryz.prog 11 #[.agg cs.toArray, .int .i64 f] w fun e w' => e = .returned (.int .i64 (depthC' p f)) ∧ Below w.heap.size w w' := by
  obtain ⟨A, c, A', c', rfl, _, _, hF⟩ := tProg_R.1 hR
  have hpl := prog_funcs_le p
  obtain ⟨i0, hi, hz0, hz1, hz2⟩ := info_parts int_info
  have hb : Hid (Below w.heap.size w (w.alloc (.cells [.int .i64 p.heap, .slice A' p.threads.length c', .slice A p.funcs.length c].toArray 25))) := (Below.refl _ _).alloc (Nat.le_refl _) _
  have d0 : decide ((f : Int) < 0) = false := decide_eq_false (by omega)
  have d1 : decide ((p.funcs.length : Int) ≤ (f : Int)) = false := decide_eq_false (by omega)
  have d2 : decide (p.funcs.length ≤ f) = false := decide_eq_false (by omega)
  have HR := Lib.hid (Ty.below hR hb.out hb.out.size)
  clear hR hF
  go_enter Tryz.func11, Tryz.ntmps11
  go_wp2_with fail
  refine (graphOf_out p _ _ HR.out hsm).mono ?_
  rintro e w1 ⟨gb, mb, Ag, cg, rfl, hG, hb1⟩
  have HG := Lib.hid hG
  have HB1 := Lib.hid (hb.out.trans (hb1.mono hb.out.size))
  clear hG hb1
  go_wp2_with fail
  refine (reach_any p f gb cg Ag _ hf HG.out.read hsm).mono ?_
  rintro e w2 ⟨v2, rfl, ho2, hb2⟩
  have HG2 := Lib.hid (HG.out.keep hb2)
  have HB12 := Lib.hid hb2
  have HB2 := Lib.hid (HB1.out.trans (hb2.mono HB1.out.size))
  have hs12 := hb2.size
  have hgl := HG.out.read.lt
  have hml := HG.out.lt
  have HO2 := Lib.hid ho2
  have hrl := reachC_len p f
  have HRL := Lib.hid hrl
  clear hb2 ho2 hrl
  go_wp2_with (at_builtin; refine wpList_append_own _ rfl _ _ 22 rfl w1.heap.size 3 i0 (.int .i64 0) 1 8 Tryz.underlying22 hi hz0 hz1 hz2 rfl (by decide) _ _ _ rfl (HO2.out.alloc _) ⟨w2.heap.size, 0, none⟩ 1 1 [.int .i64 f] rfl rfl ?c1 ?c2 ?c3 ?c4 ?c5 ?_)
  case c1 =>
    intro q u hq
    match q, hq with
    | 0, hq => simp at hq; subst hq; simp [Addr.add]
  case c2 => intro u hu; simp at hu; subst hu; rfl
  case c3 => have := HRL.out; unfold maxLen; omega
  case c4 => have := HRL.out; omega
  case c5 => simp; omega
  intro v3 w3 ho3 hg3 _
  have HO3 := Lib.hid (show OwnI w3 w1.heap.size v3 (reachC p f ++ [(f : Int)]) from .of ho3 (by simp) (by simp))
  have HB3 := Lib.hid (show Below w1.heap.size w1 w3 from (HB12.out.alloc hs12 _).grown hg3 (by simp; omega) (fun q hq => (HO2.out.lt q hq).1))
  clear ho3 hg3 HO2 HB2 HG2 HB12 hs12
  obtain ⟨g3, c3, rfl, _, _⟩ := own_form' HO3.out (by simp)
  have hll : (reachC p f ++ [(f : Int)]).length ≤ p.funcs.length + 1 := by have := HRL.out; simp; omega
  have hmem : ∀ z ∈ reachC p f ++ [(f : Int)], ∃ k : Nat, z = k ∧ k < p.funcs.length := by
    intro z hz
    rcases List.mem_append.1 hz with h | h
    · exact reachC_lt h
    · simp at h
      exact ⟨f, h, hf⟩
  have HMEM := Lib.hid hmem
  have HROW := Lib.hid (self_row hf)
  obtain ⟨l, hl⟩ : ∃ l, l = reachC p f ++ [(f : Int)] := ⟨_, rfl⟩
  rw [← hl] at HO3 HMEM HROW hll ⊢
  clear hmem hl
  go_wp2_with fail
  go_loopw [28] (fun i wr => ∃ j : Nat, j ≤ l.length ∧ i = .int .i64 j ∧ Hid ((l.take j).any (selfAt p) = false) ∧ Hid (OwnI wr w1.heap.size (.slice (some ⟨g3, 0, none⟩) l.length c3) l) ∧ Below w1.heap.size w1 wr) (fun i _ => l.length - (RowKit.intOf i).toNat)
  case atStart => exact ⟨0, Nat.zero_le _, rfl, rfl, HO3, HB3.out⟩
  case round =>
    obtain ⟨j, hj, rfl, hno, hO, hbe⟩ := hrel
    have HBE := Lib.hid hbe
    have hbsz := hbe.size
    clear hbe HO3 HB3
    have HGr := Lib.hid (HG.out.keep HBE.out)
    by_cases hlt : j < l.length
    · obtain ⟨z, hz⟩ : ∃ z, l[j]? = some z := ⟨_, List.getElem?_eq_getElem hlt⟩
      obtain ⟨k, rfl, hk⟩ := HMEM.out z (List.mem_of_getElem? hz)
      have hcz := own_cell hO.out hz
      have HZ := Lib.hid hz
      clear hz
      go_wp2_with fail
      refine (reach_any p k gb cg Ag _ hk HGr.out.read hsm).mono ?_
      rintro e w4 ⟨v4, rfl, ho4, hb4⟩
      have HR4 := Lib.hid (OwnI.read ho4 (reachC_wf hsm))
      have hO4 := Lib.hid (hO.out.kept hb4)
      have HB4 := Lib.hid (HBE.out.trans (hb4.mono hbsz))
      have hrk := reachC_len p k
      have HRK := Lib.hid hrk
      clear ho4 hb4 hcz hrk
      go_wp2_with fail
      refine (contains_any HR4.out (by have := HRK.out; omega)).mono ?_
      rintro e w5 ⟨rfl, rfl⟩
      have hsf : Hid ((reachC p k).contains (k : Int) = selfAt p k) := by
        show _ = _
        unfold selfAt
        rw [show ((k : Int)).toNat = k from by omega]
      by_cases hS : selfAt p (k : Int) = true
      · rw [hsf.out, hS]
        have ht : turnsB p f = true := by
          rw [← HROW.out, List.any_eq_true]
          exact ⟨(k : Int), List.mem_of_getElem? HZ.out, hS⟩
        have HT := Lib.hid ht
        clear hS ht
        go_wp2_with fail
        go_ret
        exact ⟨ret_int (by rw [depthC', if_neg (by rw [show ((f : Int)).toNat = f from by omega, HT.out]; simp)]), HB1.out.trans (HB4.out.mono HB1.out.size)⟩
      · have hS' : selfAt p (k : Int) = false := by simpa using hS
        rw [hsf.out, hS']
        have hnew := anyD_step HZ.out hno.out hS'
        clear hS hS'
        go_wp2_with fail
        go_roundw
        case rel => exact ⟨j + 1, by omega, by go_num, hnew, hO4, HB4.out⟩
        case measure => simp [RowKit.intOf]; omega
    · obtain rfl : j = l.length := by omega
      have ht : turnsB p f = false := by
        have := hno.out
        rw [List.take_length, HROW.out] at this
        exact this
      have HT := Lib.hid ht
      clear ht
      go_wp2_with fail
      refine (depth_any p gb mb cg Ag hsm (p.funcs.length + 1) f _ _ _ hf ((turnsB_iff hf).1 HT.out) (by classical have := cnt_le p.funcs.length (fun j => decide (Rch (succ p) f j)); omega) HGr.out.gd HGr.out.known).mono ?_
      rintro e w4 ⟨M', D', rfl, hkn, hg4, _⟩
      have HG4 := Lib.hid hg4
      clear hkn hg4
      go_wp2_with fail
      go_ret
      refine ⟨ret_int (by rw [depthC', if_pos ⟨by omega, by omega, by rw [show ((f : Int)).toNat = f from by omega]; exact HT.out⟩]; simp), ?_⟩
      have hlo := HG.out.lo
      have hbs := hb.out.size
      exact (HB1.out.trans (HBE.out.mono HB1.out.size)).grown HG4.out (by have := HB1.out.size; omega) (fun q hq => by cases hq; omega)
end Mu
end
section
/-
  A thread of the flat model has never more frames than the depth of its function, and one: plain.
  Conditions: none.
-/
namespace Mu
open Go

theorem call_succ {p : Prog} (hp : ProgOk p) {r : Fr} (hr : FrOk p r) (h5 : (insA p r).op = 5) : (insA p r).f.toNat ∈ succ p r.f := by
  obtain ⟨_, hx, _⟩ := blk_ok hp hr
  obtain ⟨c1, c2, _⟩ := hx.call h5
  have e : p.funcs[r.f]? = some (funA p r.f) := by
    unfold funA
    rw [List.getD_eq_getElem?_getD, List.getElem?_eq_getElem hr.f]
    rfl
  unfold succ
  rw [e]
  refine List.mem_filter.2 ⟨List.mem_range.2 c2, ?_⟩
  have hb : (funA p r.f).blocks.getD r.b default ∈ (funA p r.f).blocks := by
    rw [List.getD_eq_getElem?_getD, List.getElem?_eq_getElem hr.b]
    exact List.getElem_mem hr.b
  have hi : insA p r ∈ blkA p r := by
    unfold insA
    rw [List.getD_eq_getElem?_getD, List.getElem?_eq_getElem hr.i]
    exact List.getElem_mem hr.i
  unfold hasCall
  refine List.any_eq_true.2 ⟨_, hb, ?_⟩
  unfold hasIns
  refine List.any_eq_true.2 ⟨_, hi, ?_⟩
  have : (insA p r).f = (((insA p r).f.toNat : Nat) : Int) := by omega
  simp [h5, ← this]
theorem chain_len {p : Prog} (hp : ProgOk p) : ∀ (l : List Fr) (r : Fr), (∀ q ∈ r :: l, FrOk p q) → Chain p (r :: l) → Acyc (succ p) r.f → l.length ≤ lngN (succ p) p.funcs.length r.f
  | [], _, _, _, _ => Nat.zero_le _
  | u :: m, r, hf, hc, ha => by
    have hs := call_succ hp (hf r (by simp)) hc.1.1
    have e : (insA p r).f.toNat = u.f := by have := hc.1.2; omega
    rw [e] at hs
    have h1 := chain_len hp m u (fun q hq => hf q (by simp [List.mem_cons.1 hq])) hc.2 (ha.step hs)
    rw [lngN_eq (succ_lt p) ha, List.length_cons]
    have := le_maxL (List.mem_map.2 ⟨u.f, hs, rfl⟩ : lngN (succ p) p.funcs.length u.f + 1 ∈ (succ p r.f).map fun k => lngN (succ p) p.funcs.length k + 1)
    omega
theorem MOk.stand {p : Prog} (hp : ProgOk p) {s : Mdl} (h : MOk p s) {t : Nat} {f : Int} (ht : p.threads[t]? = some f) (hd : 0 ≤ depthC' p f) : ((s.ths.getD t []).length : Int) ≤ depthC' p f + 1 := by
  cases e : s.ths[t]? with
  | none =>
    rw [List.getD_eq_getElem?_getD, e]
    show ((0 : Nat) : Int) ≤ _
    omega
  | some l =>
    rw [List.getD_eq_getElem?_getD, e]
    show (l.length : Int) ≤ _
    obtain ⟨h1, h2, h3⟩ := h.frs t l e
    cases l with
    | nil =>
      show ((0 : Nat) : Int) ≤ _
      omega
    | cons r l =>
      have e2 := h3 r rfl
      rw [ht] at e2
      obtain rfl := Option.some.inj e2
      unfold depthC' at hd ⊢
      by_cases hc : 0 ≤ (r.f : Int) ∧ (r.f : Int) < p.funcs.length ∧ turnsB p (r.f : Int).toNat = false
      · rw [if_pos hc]
        have ha := (turnsB_iff (h1 r (by simp)).f).1 hc.2.2
        have := chain_len hp l r h1 h2 ha
        rw [List.length_cons, Int.toNat_natCast]
        omega
      · rw [if_neg hc] at hd
        omega
end Mu
end
section
/-
  muntinref14.Great, walked: it returns a bool; memory is as it was.
  Conditions: the program's bulk is at most 2^21.
-/
namespace Mu
open Go Go.RowKit Go.Proofs

/-- some bool comes back -/
def SomeBool (w : World) (e : Ending) (w' : World) : Prop := ∃ b, e = .returned (.bool b) ∧ Below w.heap.size w w'
/-- a slot holds some int -/
def IsInt (v : Value) : Prop := ∃ n : Int, v = .int .i64 n
theorem IsInt.mk (n : Int) : IsInt (.int .i64 n) := ⟨n, rfl⟩

set_option maxRecDepth 100000 in
set_option maxHeartbeats 4000000 in
theorem great_any (p : Prog) (w : World) (cs : List Value) (hR : tProg.R w w.heap.size cs p) (_ : tProg.bulk p ≤ 2097152) :
    Calls Tryz.prog 8 #[.agg cs.toArray] w (SomeBool w) := by
  obtain ⟨A, c, A', c', rfl, _, _, hF⟩ := tProg_R.1 hR
  have hpl := prog_funcs_le p
  have HF := Lib.hid hF
  have hb : Hid (Below (w.heap.size + 1) (w.alloc (.cells [.int .i64 p.heap, .slice A' p.threads.length c', .slice A p.funcs.length c].toArray 25)) (w.alloc (.cells [.int .i64 p.heap, .slice A' p.threads.length c', .slice A p.funcs.length c].toArray 25))) := Below.refl _ _
  have hbx := (boxed hb.out).2.1 2 _ rfl
  have hfar := (boxed hb.out).1
  have hfin := Lib.hid (boxed hb.out).2.2.2
  clear hR hF
  go_enter Tryz.func8, Tryz.ntmps8
  go_wp2
  go_loop [3, 4] (fun nv i => IsInt nv ∧ ∃ q : Nat, q ≤ p.funcs.length ∧ i = .int .i64 q) (fun _ i => p.funcs.length - (RowKit.intOf i).toNat)
  case atStart => exact ⟨IsInt.mk _, 0, Nat.zero_le _, rfl⟩
  case round =>
    obtain ⟨⟨nz, rfl⟩, q, hq, rfl⟩ := hrel
    by_cases hlt : q < p.funcs.length
    · by_cases h70 : q < 70
      · obtain ⟨fn, hfn⟩ : ∃ fn, p.funcs[q]? = some fn := ⟨_, List.getElem?_eq_getElem hlt⟩
        obtain ⟨b, o, Ab, cb, rfl, hbl, c0, c1, c2, c3, _, _, hwr, hBR⟩ := func_at HF.out hfn
        have hfb := prog_func_le (List.mem_of_getElem? hfn)
        have hbl' := func_blocks_le fn
        have HBR := Lib.hid hBR
        clear hfn hBR
        go_wp2_with fail
        all_goals try (go_ret; exact ⟨_, rfl, hfin.out⟩)
        go_loop [3, 5] (fun nv i => IsInt nv ∧ ∃ k : Nat, k ≤ fn.blocks.length ∧ i = .int .i64 k) (fun _ i => fn.blocks.length - (RowKit.intOf i).toNat)
        case atStart => exact ⟨IsInt.mk _, 0, Nat.zero_le _, rfl⟩
        case round =>
          obtain ⟨⟨nz2, rfl⟩, k, hk, rfl⟩ := hrel
          by_cases hlt2 : k < fn.blocks.length
          · by_cases h300 : k < 300
            · obtain ⟨x, hx⟩ : ∃ x, fn.blocks[k]? = some x := ⟨_, List.getElem?_eq_getElem hlt2⟩
              obtain ⟨bb, bo, Ai, ci, rfl, hbb, e0, e1, hnm, hIR⟩ := block_at HBR.out hx
              have hil := block_ins_le x
              have hxb := func_block_le (List.mem_of_getElem? hx)
              have HIR := Lib.hid hIR
              clear hx hIR
              go_wp2_with fail
              all_goals try (go_ret; exact ⟨_, rfl, hfin.out⟩)
              go_loop [3, 6] (fun nv i => IsInt nv ∧ ∃ j : Nat, j ≤ x.ins.length ∧ i = .int .i64 j) (fun _ i => x.ins.length - (RowKit.intOf i).toNat)
              case atStart => exact ⟨IsInt.mk _, 0, Nat.zero_le _, rfl⟩
              case round =>
                obtain ⟨⟨nz3, rfl⟩, j, hj, rfl⟩ := hrel
                by_cases hlt3 : j < x.ins.length
                · by_cases h300' : j < 300
                  · obtain ⟨y, hy⟩ : ∃ y, x.ins[j]? = some y := ⟨_, List.getElem?_eq_getElem hlt3⟩
                    obtain ⟨ib, io, Aa, ca, rfl, hib, _, _, _, _, _, _, c6, _, _, _⟩ := ins_at (HIR.out) hy
                    clear hy
                    go_wp2_with fail
                    go_round
                    case rel => exact ⟨IsInt.mk _, j + 1, by omega, by go_num⟩
                    case measure => simp [RowKit.intOf]; omega
                  · go_wp2_with fail
                    go_round
                    case rel => exact ⟨IsInt.mk _, k + 1, by omega, by go_num⟩
                    case measure => simp [RowKit.intOf]; omega
                · obtain rfl : j = x.ins.length := by omega
                  go_wp2_with fail
                  go_round
                  case rel => exact ⟨IsInt.mk _, k + 1, by omega, by go_num⟩
                  case measure => simp [RowKit.intOf]; omega
            · go_wp2_with fail
              all_goals try (go_ret; exact ⟨_, rfl, hfin.out⟩)
              all_goals
                go_round
                case rel => exact ⟨IsInt.mk _, q + 1, by omega, by go_num⟩
                case measure => simp [RowKit.intOf]; omega
          · obtain rfl : k = fn.blocks.length := by omega
            go_wp2_with fail
            all_goals try (go_ret; exact ⟨_, rfl, hfin.out⟩)
            all_goals
              go_round
              case rel => exact ⟨IsInt.mk _, q + 1, by omega, by go_num⟩
              case measure => simp [RowKit.intOf]; omega
      · go_wp2_with fail
        all_goals try (go_ret; exact ⟨_, rfl, hfin.out⟩)
    · go_wp2_with fail
      all_goals try (go_ret; exact ⟨_, rfl, hfin.out⟩)
end Mu
end
section
/-
  The document's program, made: what its making leaves.
  Conditions: none.
-/
namespace Mu
open Go Go.RowKit Go.Proofs

theorem block_slice {α : Type} {T : Ty α} {w : World} {g n : Nat} {t : TypeId} {cs : List Value} {ds : List α} {S : Nat → Prop} (h : w.heap[g]? = some (.cells cs.toArray t (0, 0))) (hn : n = ds.length) (hl : cs.length = n * T.size) (hm : n ≤ maxLen)
    (hc : ∀ i d, ds[i]? = some d → T.RS w S ((cs.drop (i * T.size)).take T.size) d) (hS : S g) : T.slice.RS w S [.slice (some ⟨g, 0, none⟩) n n] ds := by
  subst hn
  refine own_slice (base := 0) (e := t) (cells := cs) ⟨hl, .inr ⟨g, ds.length, cs.toArray, rfl, Nat.zero_le _, h, Nat.le_refl _, hm, by simpa using hl, ?_⟩⟩ hc (fun g' hg => ?_)
  · rw [← hl]; simp
  · cases hg
    exact hS

theorem wf0 : wfI .i64 0 := (by decide : (Lit.int .i64 0).wf = true)
theorem wf0u : wfI .u32 0 := (by decide : (Lit.int .u32 0).wf = true)
theorem sz0 : (⟨#[]⟩ : ByteArray).size ≤ maxLen := by decide
theorem four_max : 4 ≤ maxLen := by decide
def emptyIns (op f : Int) : Ins := ⟨op, 0, 0, 0, 0, f, [], 0, 0⟩
def insVals (op f : Int) : List Value := [.int .u8 op, .int .i64 0, .int .i64 0, .int .i64 0, .int .u32 0, .int .i64 f, .slice none 0 0, .int .i64 0, .int .i64 0]
theorem ins_lit {w : World} {S : Nat → Prop} {op f : Int} (h1 : wfI .u8 op) (h2 : wfI .i64 f) : tIns.RS w S (insVals op f) (emptyIns op f) :=
  tIns_R.2 ⟨none, 0, ⟨rfl, h1, wf0, wf0, wf0, wf0u, h2, wf0, wf0, Ty.slice_nilS _ _ _⟩⟩

def fun0 (l : List Ins) : Func := ⟨⟨#[]⟩, 0, 0, [⟨⟨#[]⟩, l⟩]⟩

set_option maxRecDepth 100000 in
set_option maxHeartbeats 1000000 in
theorem func0_any (l : List Ins) (v : Value) (w : World) (B : Nat) (hB : B ≤ w.heap.size) (hR : tIns.slice.RS w (fun k => B ≤ k ∧ k < w.heap.size) [v] l) :
    Calls Tryz.prog 85 #[v] w fun e w' => ∃ g, e = .returned (.agg #[.string ⟨#[]⟩, .int .i64 0, .int .i64 0, .slice (some ⟨g, 0, none⟩) 1 1]) ∧ tFunc.RS w' (fun k => B ≤ k ∧ k < w'.heap.size) [.string ⟨#[]⟩, .int .i64 0, .int .i64 0, .slice (some ⟨g, 0, none⟩) 1 1] (fun0 l) ∧ Below w.heap.size w w' := by
  obtain ⟨A, c, rfl⟩ := slice_form hR
  have HR := Lib.hid hR
  clear hR
  go_enter Tryz.func85, Tryz.ntmps85
  go_wp2_with fail
  have hb : Below w.heap.size w ((w.alloc (.cells #[.string ⟨#[]⟩, .int .i64 0, .int .i64 0, .slice (some ⟨w.heap.size + 1, 0, none⟩) 1 1] 45)).alloc (.cells [.string ⟨#[]⟩, .slice A l.length c].toArray 48)) :=
    ((Below.refl _ _).alloc (Nat.le_refl _) _).alloc (by simp) _
  refine bodyPost_ret (v := .agg #[.string ⟨#[]⟩, .int .i64 0, .int .i64 0, .slice (some ⟨w.heap.size + 1, 0, none⟩) 1 1]) (by simp [results, Tryz.results85, go_sem]) rfl ⟨w.heap.size + 1, rfl, ?_, hb⟩
  refine tFunc_R.2 ⟨_, _, rfl, sz0, wf0, wf0, ?_⟩
  have e1 : (w.alloc (.cells #[.string ⟨#[]⟩, .int .i64 0, .int .i64 0, .slice (some ⟨w.heap.size + 1, 0, none⟩) 1 1] 45)).heap.size = w.heap.size + 1 := by simp
  have hh := heap_alloc_new (w.alloc (.cells #[.string ⟨#[]⟩, .int .i64 0, .int .i64 0, .slice (some ⟨w.heap.size + 1, 0, none⟩) 1 1] 45)) (.cells [.string ⟨#[]⟩, .slice A l.length c].toArray 48)
  rw [e1] at hh
  refine block_slice hh rfl rfl one_max (fun i d hd => ?_) (by simp; omega)
  match i, hd with
  | 0, hd =>
    simp [fun0] at hd
    subst hd
    exact tBlock_R.2 ⟨A, c, rfl, sz0, Ty.keepS _ HR.out (fun k hk => hb.block k hk.2) (fun k hk => ⟨hk.1, Nat.lt_of_lt_of_le hk.2 hb.size⟩)⟩

theorem flat_drop {α β : Type} (f : α → List β) (k : Nat) (hf : ∀ x, (f x).length = k) : ∀ (l : List α) (i : Nat) (x : α), l[i]? = some x → ((l.flatMap f).drop (i * k)).take k = f x := by
  intro l
  induction l with
  | nil => intro i x h; simp at h
  | cons y l ih =>
    intro i x h
    cases i with
    | zero =>
      simp at h
      subst h
      rw [Nat.zero_mul, List.drop_zero, List.flatMap_cons, ← hf y, List.take_left' rfl]
    | succ i =>
      rw [List.flatMap_cons, Nat.succ_mul, Nat.add_comm, ← List.drop_drop, List.drop_left' (hf y)]
      exact ih i x (by simpa using h)
theorem flat_len {α β : Type} (f : α → List β) (k : Nat) (hf : ∀ x, (f x).length = k) (l : List α) : (l.flatMap f).length = l.length * k := by
  induction l with
  | nil => simp
  | cons y l ih => rw [List.flatMap_cons, List.length_append, hf, ih, List.length_cons, Nat.succ_mul]; omega

theorem ins_block {w : World} {g B : Nat} {t : TypeId} (l : List (Int × Int)) (h : w.heap[g]? = some (.cells (l.flatMap fun x => insVals x.1 x.2).toArray t (0, 0))) (hw : ∀ x ∈ l, wfI .u8 x.1 ∧ wfI .i64 x.2) (hl : l.length ≤ 100) (hg : B ≤ g) :
    tIns.slice.RS w (fun k => B ≤ k ∧ k < w.heap.size) [.slice (some ⟨g, 0, none⟩) l.length l.length] (l.map fun x => emptyIns x.1 x.2) := by
  refine block_slice h (by simp) (flat_len _ 9 (fun _ => rfl) l) (by unfold maxLen; omega) (fun i d hd => ?_) ⟨hg, (Array.getElem?_eq_some_iff.1 h).1⟩
  rw [List.getElem?_map, Option.map_eq_some_iff] at hd
  obtain ⟨x, hx, rfl⟩ := hd
  rw [tIns_size, flat_drop _ 9 (fun _ => rfl) l i x hx]
  obtain ⟨h1, h2⟩ := hw x (List.mem_of_getElem? hx)
  exact ins_lit h1 h2
theorem wfl {l : List (Int × Int)} (h : (l.all fun x => (Lit.int .u8 x.1).wf && (Lit.int .i64 x.2).wf) = true) : ∀ x ∈ l, wfI .u8 x.1 ∧ wfI .i64 x.2 := by
  intro x hx
  have := List.all_eq_true.1 h x hx
  rwa [Bool.and_eq_true] at this

theorem boxed_fz {w wr : World} {cs : List Value} {T : TypeId} (h : Below (w.heap.size + 1) (w.alloc (.cells cs.toArray T)) wr) (j : Nat) : wr.frozen? ⟨w.heap.size, j, none⟩ = false := by
  rw [h.frozen (p := ⟨w.heap.size, j, none⟩) (by show w.heap.size < _; omega)]
  have e := heap_alloc_new w (.cells cs.toArray T)
  simp only [World.frozen?, e]
  simp
/-- a box, and a row of instructions behind it; then a call -/
theorem ex_step {W w1 : World} {o : Obj} (h : Below (W.alloc o).heap.size (W.alloc o) w1) : Below W.heap.size W w1 := ((Below.refl _ _).alloc (Nat.le_refl _) _).trans (h.mono (by simp))
def fvals (g : Nat) : List Value := [.string ⟨#[]⟩, .int .i64 0, .int .i64 0, .slice (some ⟨g, 0, none⟩) 1 1]

/-- the world in which the program has been made -/
def exWorld (w w4 : World) (a b : List Value) : World :=
  ((((w4.setCell ⟨w.heap.size, 0, none⟩ (.int .i64 0)).setCell ⟨w.heap.size, 1, none⟩ (.slice none 0 0)).setCell ⟨w.heap.size, 2, none⟩ (.slice (some ⟨w4.heap.size + 1, 0, none⟩) 4 4)).alloc (.cells a.toArray 45)).alloc (.cells b.toArray 45)
theorem ex_final (w w4 : World) (a b : List Value) (hb : Below w.heap.size w w4) (hl : w.heap.size < w4.heap.size) :
    Below w.heap.size w (exWorld w w4 a b) ∧ (∀ k, w.heap.size + 1 ≤ k → k < w4.heap.size → (exWorld w w4 a b).heap[k]? = w4.heap[k]?) ∧ (exWorld w w4 a b).heap[w4.heap.size + 1]? = some (.cells b.toArray 45 (0, 0)) := by
  have hX : Below w.heap.size w (((w4.setCell ⟨w.heap.size, 0, none⟩ (.int .i64 0)).setCell ⟨w.heap.size, 1, none⟩ (.slice none 0 0)).setCell ⟨w.heap.size, 2, none⟩ (.slice (some ⟨w4.heap.size + 1, 0, none⟩) 4 4)) :=
    ((hb.setCell (Nat.le_refl _) _).setCell (Nat.le_refl _) _).setCell (Nat.le_refl _) _
  have hs : (((w4.setCell ⟨w.heap.size, 0, none⟩ (.int .i64 0)).setCell ⟨w.heap.size, 1, none⟩ (.slice none 0 0)).setCell ⟨w.heap.size, 2, none⟩ (.slice (some ⟨w4.heap.size + 1, 0, none⟩) 4 4)).heap.size = w4.heap.size := by simp [World.setCell]
  refine ⟨(hX.alloc (by omega) _).alloc (by simp; omega) _, fun k h1 h2 => ?_, ?_⟩
  · unfold exWorld
    rw [Below.heap_alloc _ _ _ (by simp; omega), Below.heap_alloc _ _ _ (by omega), Below.heap_setCell _ _ _ _ (by show k ≠ w.heap.size; omega), Below.heap_setCell _ _ _ _ (by show k ≠ w.heap.size; omega), Below.heap_setCell _ _ _ _ (by show k ≠ w.heap.size; omega)]
  · unfold exWorld
    generalize hX' : (((w4.setCell ⟨w.heap.size, 0, none⟩ (.int .i64 0)).setCell ⟨w.heap.size, 1, none⟩ (.slice none 0 0)).setCell ⟨w.heap.size, 2, none⟩ (.slice (some ⟨w4.heap.size + 1, 0, none⟩) 4 4)) = X at *
    have e1 : (X.alloc (.cells a.toArray 45)).heap.size = w4.heap.size + 1 := by simp [hs]
    rw [← e1]
    exact heap_alloc_new _ _
def ex1 : Func := fun0 [emptyIns 5 2, emptyIns 5 1, emptyIns 5 2]
def ex2 : Func := fun0 [emptyIns 5 2]
def ex3 : Func := fun0 [emptyIns 7 0]
def ex4 : Func := fun0 [emptyIns 5 3, emptyIns 5 0]
def exProg : Prog := ⟨0, [], [ex1, ex2, ex3, ex4]⟩

set_option maxRecDepth 100000 in
set_option maxHeartbeats 2000000 in
theorem example_any (w : World) :
    Calls Tryz.prog 34 #[] w fun e w' => ∃ cs, e = .returned (.agg cs.toArray) ∧ tProg.R w' w'.heap.size cs exProg ∧ Below w.heap.size w w' := by
  go_enter Tryz.func34, Tryz.ntmps34
  go_wp2_with fail
  have hh1 : ((w.alloc (.cells #[.int .i64 0, .slice none 0 0, .slice none 0 0] 25)).alloc (.cells ([((5 : Int), (2 : Int)), (5, 1), (5, 2)].flatMap fun x => insVals x.1 x.2).toArray 40)).heap[w.heap.size + 1]? = some (.cells ([((5 : Int), (2 : Int)), (5, 1), (5, 2)].flatMap fun x => insVals x.1 x.2).toArray 40) := by
    have := heap_alloc_new (w.alloc (.cells #[.int .i64 0, .slice none 0 0, .slice none 0 0] 25)) (.cells ([((5 : Int), (2 : Int)), (5, 1), (5, 2)].flatMap fun x => insVals x.1 x.2).toArray 40)
    rwa [show (w.alloc (.cells #[.int .i64 0, .slice none 0 0, .slice none 0 0] 25)).heap.size = w.heap.size + 1 from by simp] at this
  refine (func0_any [emptyIns 5 2, emptyIns 5 1, emptyIns 5 2] _ _ (w.heap.size + 1) (by simp) (ins_block [(5, 2), (5, 1), (5, 2)] hh1 (wfl (by decide)) (by decide) (by omega))).mono ?_
  rintro e w1 ⟨g1, rfl, hR1, hb1⟩
  have HB1 := Lib.hid (ex_step hb1)
  have lw1 : w.heap.size + 1 ≤ w1.heap.size := by have := hb1.size; simp at this; omega
  have HR1 := Lib.hid hR1
  clear hb1 hR1 hh1
  go_wp2_with fail
  have hh2 : ((w1.alloc (.cells (fvals g1).toArray 45)).alloc (.cells ([((5 : Int), (2 : Int))].flatMap fun x => insVals x.1 x.2).toArray 40)).heap[w1.heap.size + 1]? = some (.cells ([((5 : Int), (2 : Int))].flatMap fun x => insVals x.1 x.2).toArray 40) := by
    have := heap_alloc_new (w1.alloc (.cells (fvals g1).toArray 45)) (.cells ([((5 : Int), (2 : Int))].flatMap fun x => insVals x.1 x.2).toArray 40)
    rwa [show (w1.alloc (.cells (fvals g1).toArray 45)).heap.size = w1.heap.size + 1 from by simp] at this
  refine (func0_any [emptyIns 5 2] _ _ (w.heap.size + 1) (by have := lw1; simp; omega) (ins_block [(5, 2)] hh2 (wfl (by decide)) (by decide) (by have := lw1; omega))).mono ?_
  rintro e w2 ⟨g2, rfl, hR2, hb2⟩
  have HB2 := Lib.hid (ex_step hb2)
  have lw2 : w.heap.size + 1 ≤ w2.heap.size := by have := hb2.size; simp at this; omega
  have HR2 := Lib.hid hR2
  clear hb2 hR2 hh2
  go_wp2_with fail
  have hh3 : ((w2.alloc (.cells (fvals g2).toArray 45)).alloc (.cells ([((7 : Int), (0 : Int))].flatMap fun x => insVals x.1 x.2).toArray 40)).heap[w2.heap.size + 1]? = some (.cells ([((7 : Int), (0 : Int))].flatMap fun x => insVals x.1 x.2).toArray 40) := by
    have := heap_alloc_new (w2.alloc (.cells (fvals g2).toArray 45)) (.cells ([((7 : Int), (0 : Int))].flatMap fun x => insVals x.1 x.2).toArray 40)
    rwa [show (w2.alloc (.cells (fvals g2).toArray 45)).heap.size = w2.heap.size + 1 from by simp] at this
  refine (func0_any [emptyIns 7 0] _ _ (w.heap.size + 1) (by have := lw2; simp; omega) (ins_block [(7, 0)] hh3 (wfl (by decide)) (by decide) (by have := lw2; omega))).mono ?_
  rintro e w3 ⟨g3, rfl, hR3, hb3⟩
  have HB3 := Lib.hid (ex_step hb3)
  have lw3 : w.heap.size + 1 ≤ w3.heap.size := by have := hb3.size; simp at this; omega
  have HR3 := Lib.hid hR3
  clear hb3 hR3 hh3
  go_wp2_with fail
  have hh4 : ((w3.alloc (.cells (fvals g3).toArray 45)).alloc (.cells ([((5 : Int), (3 : Int)), (5, 0)].flatMap fun x => insVals x.1 x.2).toArray 40)).heap[w3.heap.size + 1]? = some (.cells ([((5 : Int), (3 : Int)), (5, 0)].flatMap fun x => insVals x.1 x.2).toArray 40) := by
    have := heap_alloc_new (w3.alloc (.cells (fvals g3).toArray 45)) (.cells ([((5 : Int), (3 : Int)), (5, 0)].flatMap fun x => insVals x.1 x.2).toArray 40)
    rwa [show (w3.alloc (.cells (fvals g3).toArray 45)).heap.size = w3.heap.size + 1 from by simp] at this
  refine (func0_any [emptyIns 5 3, emptyIns 5 0] _ _ (w.heap.size + 1) (by have := lw3; simp; omega) (ins_block [(5, 3), (5, 0)] hh4 (wfl (by decide)) (by decide) (by have := lw3; omega))).mono ?_
  rintro e w4 ⟨g4, rfl, hR4, hb4⟩
  have HB4 := Lib.hid (ex_step hb4)
  have HR4 := Lib.hid hR4
  clear hb4 hR4 hh4
  have s1 : ∀ (W : World) (o : Obj), (W.alloc o).heap.size = W.heap.size + 1 := fun W o => by simp
  have B3 : Below (w3.heap.size + 1) (w3.alloc (.cells (fvals g3).toArray 45)) w4 := by have := HB4.out; rwa [s1] at this
  have B2 : Below (w2.heap.size + 1) (w2.alloc (.cells (fvals g2).toArray 45)) w4 := by
    have h := HB3.out
    rw [s1] at h
    exact h.trans ((boxed B3).2.2.2.mono (by have := h.size; rw [s1] at this; omega))
  have B1 : Below (w1.heap.size + 1) (w1.alloc (.cells (fvals g1).toArray 45)) w4 := by
    have h := HB2.out
    rw [s1] at h
    exact h.trans ((boxed B2).2.2.2.mono (by have := h.size; rw [s1] at this; omega))
  have B0 : Below (w.heap.size + 1) (w.alloc (.cells [.int .i64 0, .slice none 0 0, .slice none 0 0].toArray 25)) w4 := by
    have h := HB1.out
    rw [s1] at h
    exact h.trans ((boxed B1).2.2.2.mono (by have := h.size; rw [s1] at this; omega))
  obtain ⟨_, q1, l1, c1⟩ := boxed B1
  obtain ⟨_, q2, l2, c2⟩ := boxed B2
  obtain ⟨_, q3, l3, c3⟩ := boxed B3
  obtain ⟨_, q0, l0, c0⟩ := boxed B0
  have a10 := q1 0 _ rfl
  have a11 := q1 1 _ rfl
  have a12 := q1 2 _ rfl
  have a13 := q1 3 _ rfl
  have a20 := q2 0 _ rfl
  have a21 := q2 1 _ rfl
  have a22 := q2 2 _ rfl
  have a23 := q2 3 _ rfl
  have a30 := q3 0 _ rfl
  have a31 := q3 1 _ rfl
  have a32 := q3 2 _ rfl
  have a33 := q3 3 _ rfl
  have a00 := q0 0 _ rfl
  have a01 := q0 1 _ rfl
  have a02 := q0 2 _ rfl
  have f00 := boxed_fz B0 0
  have f01 := boxed_fz B0 1
  have f02 := boxed_fz B0 2
  have HC := Lib.hid (And.intro c0 (And.intro c1 (And.intro c2 c3)))
  clear q1 q2 q3 q0 B0 B1 B2 B3 c1 c2 c3 s1
  have HK0 := Lib.hid (ex_final w w4 (fvals g4) (fvals g1 ++ fvals g2 ++ fvals g3 ++ fvals g4) c0 l0)
  have hlt4 := l0
  go_wp2_with fail
  refine bodyPost_ret (v := .agg #[.int .i64 0, .slice none 0 0, .slice (some ⟨w4.heap.size + 1, 0, none⟩) 4 4]) (by simp [results, Tryz.results34, go_sem, a00, a01, a02, hlt4]) rfl ⟨[.int .i64 0, .slice none 0 0, .slice (some ⟨w4.heap.size + 1, 0, none⟩) 4 4], rfl, ?_, HK0.out.1⟩
  obtain ⟨k1, k2, k3⟩ := HK0.out
  refine tProg_R.2 ⟨_, _, _, _, rfl, wf0, Ty.slice_nilS _ _ _, ?_⟩
  refine block_slice k3 rfl rfl four_max (fun i d hd => ?_) (Array.getElem?_eq_some_iff.1 k3).1
  obtain ⟨_, c1, c2, c3⟩ := HC.out
  have hkk : ∀ k, w.heap.size + 1 ≤ k ∧ k < w4.heap.size → _ := fun k hk => k2 k hk.1 hk.2
  have hfs := (Array.getElem?_eq_some_iff.1 k3).1
  match i, hd with
  | 0, hd => cases hd; exact Ty.keepS _ HR1.out (fun k hk => (hkk k ⟨hk.1, by have := c1.size; omega⟩).trans (c1.block k hk.2)) (fun k hk => Nat.lt_trans (Nat.lt_of_lt_of_le hk.2 c1.size) (Nat.lt_of_succ_lt hfs))
  | 1, hd => cases hd; exact Ty.keepS _ HR2.out (fun k hk => (hkk k ⟨hk.1, by have := c2.size; omega⟩).trans (c2.block k hk.2)) (fun k hk => Nat.lt_trans (Nat.lt_of_lt_of_le hk.2 c2.size) (Nat.lt_of_succ_lt hfs))
  | 2, hd => cases hd; exact Ty.keepS _ HR3.out (fun k hk => (hkk k ⟨hk.1, by have := c3.size; omega⟩).trans (c3.block k hk.2)) (fun k hk => Nat.lt_trans (Nat.lt_of_lt_of_le hk.2 c3.size) (Nat.lt_of_succ_lt hfs))
  | 3, hd => cases hd; exact Ty.keepS _ HR4.out (fun k hk => hkk k hk) (fun k hk => Nat.lt_trans hk.2 (Nat.lt_of_succ_lt hfs))
end Mu
end
section
/-
  The depths, at any number: the program's and the document's are one.
  Conditions: the program's bulk is at most 2^21.
-/
namespace Mu
open Go Go.RowKit Go.Proofs Go.Maps

theorem depth_eq (p : Prog) (f : Int) : depthC' p f = depthC p f := by
  unfold depthC depthC'
  by_cases h : 0 ≤ f ∧ f < p.funcs.length ∧ turnsB p f.toNat = false
  · rw [if_pos h, if_pos h, relaxR_end (succ_lt p) (by omega) ((turnsB_iff (by omega)).1 h.2.2)]
  · rw [if_neg h, if_neg h]

set_option maxRecDepth 100000 in
set_option maxHeartbeats 2000000 in
theorem Depth_any (p : Prog) (f : Int) (w : World) (cs : List Value) (hR : tProg.R w w.heap.size cs p) (hsm : tProg.bulk p ≤ 2097152) :
    Calls Tryz.prog 11 #[.agg cs.toArray, .int .i64 f] w fun e w' => e = .returned (.int .i64 (depthC p f)) ∧ Below w.heap.size w w' := by
  rw [← depth_eq]
  by_cases hin : 0 ≤ f ∧ f < p.funcs.length
  · obtain ⟨k, rfl⟩ := Int.eq_ofNat_of_zero_le hin.1
    exact Depth_in p k w cs (by omega) hR hsm
  · rw [depthC', if_neg (fun h => hin ⟨h.1, h.2.1⟩)]
    obtain ⟨A, c, A', c', rfl, _, _, hF⟩ := tProg_R.1 hR
    have hpl := prog_funcs_le p
    have hb : Hid (Below w.heap.size w (w.alloc (.cells [.int .i64 p.heap, .slice A' p.threads.length c', .slice A p.funcs.length c].toArray 25))) := (Below.refl _ _).alloc (Nat.le_refl _) _
    clear hR hF
    by_cases h0 : f < 0
    · have d0 : decide (f < 0) = true := decide_eq_true h0
      go_enter Tryz.func11, Tryz.ntmps11
      go_wp2_with fail
      go_ret
      exact ⟨rfl, hb.out⟩
    · have d0 : decide (f < 0) = false := decide_eq_false h0
      have d1 : decide ((p.funcs.length : Int) ≤ f) = true := decide_eq_true (by omega)
      go_enter Tryz.func11, Tryz.ntmps11
      go_wp2_with fail
      go_ret
      exact ⟨rfl, hb.out⟩

end Mu
end
section
/-
  calls.Leaf and muntinref20.Leaf, walked.
  Conditions: the function's bulk is at most 2^21.
-/
namespace Mu
open Go Go.RowKit Go.Proofs

def loud (x : Ins) : Bool := x.op == 5 || x.op == 7
def loudIns (l : List Ins) : Bool := l.any loud
def leaf (bs : List Block) : Bool := !(bs.any fun b => loudIns b.ins)

theorem loud_skip {l : List Ins} {j : Nat} {y : Ins} (hy : l[j]? = some y) (h : loudIns (l.take j) = false) (hn : loud y = false) : Hid (loudIns (l.take (j + 1)) = false) := by
  show loudIns _ = _
  unfold loudIns at h ⊢
  rw [List.take_add_one, hy, List.any_append, h]
  simp [hn]
theorem loud_yes {l : List Ins} {j : Nat} {y : Ins} (hy : l[j]? = some y) (hn : loud y = true) : loudIns l = true := by
  unfold loudIns
  rw [List.any_eq_true]
  exact ⟨y, List.mem_of_getElem? hy, hn⟩
theorem leaf_next {bs : List Block} {q : Nat} {x : Block} (hx : bs[q]? = some x) (h : leaf (bs.take q) = true) (hn : loudIns x.ins = false) : Hid (leaf (bs.take (q + 1)) = true) := by
  show leaf _ = _
  unfold leaf at h ⊢
  rw [List.take_add_one, hx, List.any_append]
  simp only [Bool.not_eq_true'] at h ⊢
  rw [h]
  simp [hn]
theorem leaf_no {bs : List Block} {q : Nat} {x : Block} (hx : bs[q]? = some x) (hn : loudIns x.ins = true) : leaf bs = false := by
  unfold leaf
  simp only [Bool.not_eq_false', List.any_eq_true]
  exact ⟨x, List.mem_of_getElem? hx, hn⟩

/-! ### the program's own -/
set_option maxRecDepth 100000 in
set_option maxHeartbeats 1000000 in
theorem leaf_test (y : Ins) (w : World) (cs : List Value) (hR : tIns.R w w.heap.size cs y) :
    Calls Tryz.prog 87 #[.agg cs.toArray] w fun e w' => e = .returned (.bool (loud y)) ∧ Below w.heap.size w w' := by
  obtain ⟨A, c, hI⟩ := tIns_R.1 hR
  obtain rfl := hI.cs
  clear hR hI
  have hB : Hid (Below w.heap.size w (w.alloc (.cells [.int .u8 y.op, .int .i64 y.d, .int .i64 y.a, .int .i64 y.b, .int .u32 y.n, .int .i64 y.f, .slice A y.args.length c, .int .i64 y.l1, .int .i64 y.l2].toArray 40))) := (Below.refl _ _).alloc (Nat.le_refl _) _
  by_cases h5 : y.op = 5
  · have d5 : (y.op == 5) = true := by simp [h5]
    have HL : Hid (loud y = true) := by simp [Hid, loud, h5]
    clear h5
    go_enter Tryz.func87, Tryz.ntmps87
    go_wp2
    go_ret
    exact ⟨ret_bool HL.out.symm, hB.out⟩
  · have d5 : (y.op == 5) = false := by simp [h5]
    by_cases h7 : y.op = 7
    · have d7 : (y.op == 7) = true := by simp [h7]
      have HL : Hid (loud y = true) := by simp [Hid, loud, h7]
      clear h5 h7
      go_enter Tryz.func87, Tryz.ntmps87
      go_wp2
      go_ret
      exact ⟨ret_bool HL.out.symm, hB.out⟩
    · have d7 : (y.op == 7) = false := by simp [h7]
      have HL : Hid (loud y = false) := by simp [Hid, loud, h5, h7]
      clear h5 h7
      go_enter Tryz.func87, Tryz.ntmps87
      go_wp2
      go_ret
      exact ⟨ret_bool HL.out.symm, hB.out⟩

/-- where the search ends -/
def IdxPost (w : World) (b : Bool) (e : Ending) (w' : World) : Prop := ∃ z : Int, e = .returned (.int .i64 z) ∧ decide (0 ≤ z) = b ∧ Below w.heap.size w w'

set_option maxRecDepth 100000 in
set_option maxHeartbeats 1000000 in
theorem leaf_index (l : List Ins) (va : Value) (w : World) (hR : tIns.slice.R w w.heap.size [va] l) (hl : l.length ≤ 2097152) :
    Calls Tryz.prog 146 #[va, .func (.func 87) #[] #[]] w (IdxPost w (loudIns l)) := by
  obtain ⟨A, c, rfl⟩ := slice_form hR
  have HR := Lib.hid hR
  clear hR
  go_enter Tryz.func146, Tryz.ntmps146
  go_wp2_with fail
  go_loopw [8] (fun i wr => ∃ j : Nat, j ≤ l.length ∧ i = .int .i64 j ∧ Hid (loudIns (l.take j) = false) ∧ Below w.heap.size w wr) (fun i _ => l.length - (RowKit.intOf i).toNat)
  case atStart => exact ⟨0, Nat.zero_le _, rfl, rfl, Below.refl _ _⟩
  case round =>
    obtain ⟨j, hj, rfl, hno, hbe⟩ := hrel
    have hfar := far hbe
    have HBE := Lib.hid hbe
    clear hbe
    by_cases hlt : j < l.length
    · obtain ⟨y, hy⟩ : ∃ y, l[j]? = some y := ⟨_, List.getElem?_eq_getElem hlt⟩
      obtain ⟨ib, io, Aa, ca, rfl, hib, e0, e1, e2, e3, e4, e5, e6, e7, e8, hraw⟩ := ins_at (HR.out) hy
      have hRw : tIns.R wr wr.heap.size [.int .u8 y.op, .int .i64 y.d, .int .i64 y.a, .int .i64 y.b, .int .u32 y.n, .int .i64 y.f, .slice Aa y.args.length ca, .int .i64 y.l1, .int .i64 y.l2] y :=
        Ty.below (tIns_R.2 ⟨_, _, hraw⟩) HBE.out HBE.out.size
      have HY := Lib.hid hy
      have HRW := Lib.hid hRw
      clear hy hraw hRw
      by_cases hL : loud y = true
      · have HL := Lib.hid hL
        clear hL
        go_wp2_with fail
        refine (leaf_test y _ _ HRW.out).mono ?_
        rintro e w1 ⟨rfl, hb1⟩
        rw [HL.out]
        have HB1 := Lib.hid hb1
        clear hb1
        go_wp2_with fail
        go_ret
        exact ⟨_, rfl, by rw [loud_yes HY.out HL.out]; simp, HBE.out.trans (HB1.out.mono HBE.out.size)⟩
      · have hL' : loud y = false := by simpa using hL
        have HL := Lib.hid hL'
        clear hL hL'
        go_wp2_with fail
        refine (leaf_test y _ _ HRW.out).mono ?_
        rintro e w1 ⟨rfl, hb1⟩
        rw [HL.out]
        have HB1 := Lib.hid hb1
        clear hb1
        go_wp2_with fail
        go_roundw
        case rel => exact ⟨j + 1, by omega, by go_num, loud_skip HY.out hno.out HL.out, HBE.out.trans (HB1.out.mono HBE.out.size)⟩
        case measure => simp [RowKit.intOf]; omega
    · obtain rfl : j = l.length := by omega
      go_wp2_with fail
      go_ret
      have hno' := hno.out
      rw [List.take_length] at hno'
      exact ⟨_, rfl, by rw [hno']; simp, HBE.out⟩
end Mu
end
section
/-
  calls.Leaf, walked.
  Conditions: the function's bulk is at most 2^21.
-/
namespace Mu
open Go Go.RowKit Go.Proofs

set_option maxRecDepth 100000 in
set_option maxHeartbeats 1000000 in
theorem leaf_any_ins (l : List Ins) (va : Value) (w : World) (hR : tIns.slice.R w w.heap.size [va] l) (hl : l.length ≤ 2097152) :
    Calls Tryz.prog 86 #[va, .func (.func 87) #[] #[]] w fun e w' => e = .returned (.bool (loudIns l)) ∧ Below w.heap.size w w' := by
  have HR := Lib.hid hR
  clear hR
  go_enter Tryz.func86, Tryz.ntmps86
  go_wp2_with fail
  refine (leaf_index l va _ HR.out hl).mono ?_
  rintro e w1 ⟨z, rfl, hz, hb1⟩
  have HZ := Lib.hid hz
  have HB1 := Lib.hid hb1
  clear hz hb1
  go_wp2_with fail
  go_ret
  exact ⟨ret_bool HZ.out, HB1.out⟩

set_option maxRecDepth 100000 in
set_option maxHeartbeats 1000000 in
theorem leaf_any (fn : Func) (w : World) (cs : List Value) (hR : tFunc.R w w.heap.size cs fn) (hsm : tFunc.bulk fn ≤ 2097152) :
    Calls Tryz.prog 35 #[.agg cs.toArray] w fun e w' => e = .returned (.bool (leaf fn.blocks)) ∧ Below w.heap.size w w' := by
  obtain ⟨A, c, rfl, _, _, _, hBR⟩ := tFunc_R.1 hR
  have hbl := func_blocks_le fn
  have HBR := Lib.hid hBR
  clear hR hBR
  go_enter Tryz.func35, Tryz.ntmps35
  go_wp2_with fail
  go_loopw [8] (fun i wr => ∃ q : Nat, q ≤ fn.blocks.length ∧ i = .int .i64 q ∧ Hid (leaf (fn.blocks.take q) = true) ∧ Below w.heap.size w wr) (fun i _ => fn.blocks.length - (RowKit.intOf i).toNat)
  case atStart => exact ⟨0, Nat.zero_le _, rfl, rfl, (Below.refl _ _).alloc (Nat.le_refl _) _⟩
  case round =>
    obtain ⟨q, hq, rfl, hno, hbe⟩ := hrel
    have hfar := far hbe
    have HBE := Lib.hid hbe
    clear hbe
    by_cases hlt : q < fn.blocks.length
    · obtain ⟨x, hx⟩ : ∃ x, fn.blocks[q]? = some x := ⟨_, List.getElem?_eq_getElem hlt⟩
      obtain ⟨bb, bo, Ai, ci, rfl, hbb, hc0, hc1, _, hIR⟩ := block_at HBR.out hx
      have hil := block_ins_le x
      have hxb := func_block_le (List.mem_of_getElem? hx)
      have HX := Lib.hid hx
      have HIR := Lib.hid hIR
      clear hx hIR
      have hal : ∀ o, Hid (Below w.heap.size w (wr.alloc o)) := fun o => HBE.out.alloc HBE.out.size o
      by_cases hL : loudIns x.ins = true
      · have HL := Lib.hid hL
        have HAL := Lib.hid hal
        clear hL hal
        go_wp2_with fail
        refine (leaf_any_ins x.ins _ _ (Ty.below HIR.out (HAL.out _).out (HAL.out _).out.size) (by omega)).mono ?_
        rintro e w1 ⟨rfl, hb1⟩
        rw [HL.out]
        have HB1 := Lib.hid hb1
        clear hb1
        go_wp2_with fail
        go_ret
        exact ⟨ret_bool (leaf_no HX.out HL.out).symm, (HAL.out _).out.trans (HB1.out.mono (HAL.out _).out.size)⟩
      · have hL' : loudIns x.ins = false := by simpa using hL
        have HL := Lib.hid hL'
        have HAL := Lib.hid hal
        clear hL hL' hal
        go_wp2_with fail
        refine (leaf_any_ins x.ins _ _ (Ty.below HIR.out (HAL.out _).out (HAL.out _).out.size) (by omega)).mono ?_
        rintro e w1 ⟨rfl, hb1⟩
        rw [HL.out]
        have HB1 := Lib.hid hb1
        clear hb1
        go_wp2_with fail
        go_roundw
        case rel => exact ⟨q + 1, by omega, by go_num, leaf_next HX.out hno.out HL.out, (HAL.out _).out.trans (HB1.out.mono (HAL.out _).out.size)⟩
        case measure => simp [RowKit.intOf]; omega
    · obtain rfl : q = fn.blocks.length := by omega
      go_wp2_with fail
      go_ret
      have hno' := hno.out
      rw [List.take_length] at hno'
      exact ⟨ret_bool hno'.symm, HBE.out⟩
end Mu
end
section
/-
  The document's program: what the answers on it are; a box, and what stays readable behind it.
  Conditions: none.
-/
namespace Mu
open Go Go.RowKit Go.Proofs

theorem ex_bulk : tProg.bulk exProg ≤ 2097152 := by decide
theorem ex_callsC0 : callsC exProg 0 = [1, 2] := by decide
theorem ex_callsC9 : callsC exProg 9 = [] := by decide
theorem ex_reach0 : reachAll exProg 0 = [1, 2] := by decide
theorem ex_reach3 : reachAll exProg 3 = [0, 1, 2, 3] := by decide
theorem ex_depth0 : depthC exProg 0 = 2 := by decide
theorem ex_depth1 : depthC exProg 1 = 1 := by decide
theorem ex_depth2 : depthC exProg 2 = 0 := by decide
theorem ex_depth3 : depthC exProg 3 = -1 := by decide
def exD (q : Nat) : Int := if q = 0 then 2 else if q = 1 then 1 else if q = 2 then 0 else -1
theorem ex_depth (q : Nat) (hq : q < 4) : depthC exProg q = exD q := by
  match q, hq with
  | 0, _ => exact ex_depth0
  | 1, _ => exact ex_depth1
  | 2, _ => exact ex_depth2
  | 3, _ => exact ex_depth3
theorem ex_form {w : World} {B : Nat} {cs : List Value} (h : tProg.R w B cs exProg) :
    ∃ A' c' b o c, cs = [.int .i64 0, .slice A' 0 c', .slice (some ⟨b, o, none⟩) 4 c] ∧ b < B ∧ ∀ q, q < 4 → ∃ fn Aq cq, tFunc.bulk fn ≤ 2097152 ∧ leaf fn.blocks = false ∧
      w.cell? ⟨b, o + q * 4, none⟩ = some (.string fn.name) ∧ w.cell? ⟨b, o + q * 4 + 1, none⟩ = some (.int .i64 fn.args) ∧ w.cell? ⟨b, o + q * 4 + 2, none⟩ = some (.int .i64 fn.regs) ∧ w.cell? ⟨b, o + q * 4 + 3, none⟩ = some (.slice Aq fn.blocks.length cq) ∧
      tFunc.R w B [.string fn.name, .int .i64 fn.args, .int .i64 fn.regs, .slice Aq fn.blocks.length cq] fn := by
  obtain ⟨A, c, A', c', rfl, _, _, hF⟩ := tProg_R.1 h
  obtain ⟨b, o, _, _, rfl, hb, _⟩ := func_at (k := 0) hF rfl
  refine ⟨A', c', b, o, c, rfl, hb, fun q hq => ?_⟩
  have hg : ∃ fn, exProg.funcs[q]? = some fn ∧ tFunc.bulk fn ≤ 2097152 ∧ leaf fn.blocks = false := by
    match q, hq with
    | 0, _ => exact ⟨_, rfl, by decide, by decide⟩
    | 1, _ => exact ⟨_, rfl, by decide, by decide⟩
    | 2, _ => exact ⟨_, rfl, by decide, by decide⟩
    | 3, _ => exact ⟨_, rfl, by decide, by decide⟩
  obtain ⟨fn, hfn, h1, h2⟩ := hg
  obtain ⟨b', o', Aq, cq, e, _, k0, k1, k2, k3, n1, n2, n3, n4⟩ := func_at hF hfn
  cases e
  exact ⟨fn, Aq, cq, h1, h2, k0, k1, k2, k3, tFunc_R.2 ⟨_, _, rfl, n1, n2, n3, n4⟩⟩
end Mu
end
section
/-
  muntinlaw20.head, walked: it is true.
  Conditions: none.
-/
namespace Mu
open Go Go.RowKit Go.Proofs

theorem exD_at : ∀ q, q < 4 → ([.int .i64 2, .int .i64 1, .int .i64 0, .int .i64 (-1)] : List Value)[q]? = some (.int .i64 (exD q)) := by
  intro q hq
  match q, hq with
  | 0, _ => rfl
  | 1, _ => rfl
  | 2, _ => rfl
  | 3, _ => rfl

theorem lit_slice {w : World} {g : Nat} {t : TypeId} {l : List Int} (h : w.heap[g]? = some (.cells (l.map (Value.int .i64)).toArray t (0, 0))) (hm : l.length ≤ maxLen) (hw : ∀ x ∈ l, wfI .i64 x) :
    tInt.slice.R w w.heap.size [.slice (some ⟨g, 0, none⟩) l.length l.length] l := by
  refine block_slice (T := tInt) h rfl (by simp [tInt_size]) hm (fun i d hd => ?_) (Array.getElem?_eq_some_iff.1 h).1
  have hi : i < l.length := (List.getElem?_eq_some_iff.1 hd).1
  have : l[i] = d := by
    rw [List.getElem?_eq_getElem hi] at hd
    injection hd
  refine ⟨?_, hw d (List.mem_of_getElem? hd)⟩
  show ((l.map (Value.int .i64)).drop (i * 1)).take 1 = _
  rw [Nat.mul_one, List.drop_eq_getElem_cons (by simpa using hi)]
  simp [this]

theorem wfs {l : List Int} (h : (l.all fun x => (Lit.int .i64 x).wf) = true) : ∀ x ∈ l, wfI .i64 x := fun x hx => List.all_eq_true.1 h x hx
theorem same_lit {w1 : World} {v1 : Value} {xs : List Int} {t : TypeId} (l : List Int) (H : tInt.slice.R w1 w1.heap.size [v1] xs) (hw : ∀ x ∈ l, wfI .i64 x) (hm : l.length ≤ maxLen) (hx : xs.length ≤ 2097152) :
    Calls Tryz.prog 36 #[v1, .slice (some ⟨w1.heap.size, 0, none⟩) l.length l.length] (w1.alloc (.cells (l.map (Value.int .i64)).toArray t)) fun e w' => e = .returned (.bool (decide (xs = l))) ∧ Below w1.heap.size w1 w' := by
  have hb : Below w1.heap.size w1 (w1.alloc (.cells (l.map (Value.int .i64)).toArray t)) := (Below.refl _ _).alloc (Nat.le_refl _) _
  exact (ref_same xs l _ _ _ (Ty.below H hb hb.size) (lit_slice (heap_alloc_new _ _) hm hw) hx).mono fun e w' h => ⟨h.1, hb.trans (h.2.mono hb.size)⟩

set_option maxRecDepth 100000 in
set_option maxHeartbeats 2000000 in
theorem head_any (w : World) :
    Calls Tryz.prog 9 #[] w fun e w' => e = .returned (.bool true) ∧ Below w.heap.size w w' := by
  go_enter Tryz.func9, Tryz.ntmps9
  go_wp2_with fail
  refine (example_any _).mono ?_
  rintro e w0 ⟨cs, rfl, hR, hb0⟩
  obtain ⟨A', c', b, o, c, rfl, hbl, hfs⟩ := ex_form hR
  have HR := Lib.hid hR
  have HB0 := Lib.hid hb0
  have HF := Lib.hid hfs
  clear hR hb0 hfs
  obtain ⟨cs, hcs⟩ : ∃ cs : List Value, cs = [.int .i64 0, .slice A' 0 c', .slice (some ⟨b, o, none⟩) 4 c] := ⟨_, rfl⟩
  have q0 : ∀ w', Bx w0 cs 25 w' → w'.cell? ⟨w0.heap.size, 0, none⟩ = some (.int .i64 0) := fun w' h => h.cell (by rw [hcs]; rfl)
  have q1 : ∀ w', Bx w0 cs 25 w' → w'.cell? ⟨w0.heap.size, 1, none⟩ = some (.slice A' 0 c') := fun w' h => h.cell (by rw [hcs]; rfl)
  have q2 : ∀ w', Bx w0 cs 25 w' → w'.cell? ⟨w0.heap.size, 2, none⟩ = some (.slice (some ⟨b, o, none⟩) 4 c) := fun w' h => h.cell (by rw [hcs]; rfl)
  have hstart : Hid (Bx w0 cs 25 (w0.alloc (.cells [.int .i64 0, .slice A' 0 c', .slice (some ⟨b, o, none⟩) 4 c].toArray 25))) := by rw [← hcs]; exact Bx.refl
  have HCS := Lib.hid hcs
  clear hcs
  go_wp2_with fail
  go_loopw [2] (fun i wr => ∃ q : Nat, q ≤ 4 ∧ i = .int .i64 q ∧ Bx w0 cs 25 wr) (fun i _ => 4 - (RowKit.intOf i).toNat)
  case atStart => exact ⟨0, Nat.zero_le _, rfl, hstart.out⟩
  case round =>
    obtain ⟨q, hq, rfl, hx⟩ := hrel
    clear hstart
    by_cases hlt : q < 4
    · obtain ⟨fn, Aq, cq, h1, h2, k0, k1, k2, k3, hfn⟩ := HF.out q hlt
      have r0 : ∀ w', Bx w0 cs 25 w' → w'.cell? ⟨b, o + q * 4, none⟩ = some (.string fn.name) := fun w' h => (h.far hbl).trans k0
      have r1 : ∀ w', Bx w0 cs 25 w' → w'.cell? ⟨b, o + q * 4 + 1, none⟩ = some (.int .i64 fn.args) := fun w' h => (h.far hbl).trans k1
      have r2 : ∀ w', Bx w0 cs 25 w' → w'.cell? ⟨b, o + q * 4 + 2, none⟩ = some (.int .i64 fn.regs) := fun w' h => (h.far hbl).trans k2
      have r3 : ∀ w', Bx w0 cs 25 w' → w'.cell? ⟨b, o + q * 4 + 3, none⟩ = some (.slice Aq fn.blocks.length cq) := fun w' h => (h.far hbl).trans k3
      have i0 : (0 : Int) ≤ (q : Int) := by omega
      have i1 : (q : Int) < 4 := by omega
      have HFN := Lib.hid hfn
      have HLF := Lib.hid h2
      have HD := Lib.hid (ex_depth q hlt)
      have hget : ∀ h, ([.int .i64 2, .int .i64 1, .int .i64 0, .int .i64 (-1)] : List Value)[q]'h = .int .i64 (exD q) := fun h => Option.some.inj ((List.getElem?_eq_getElem h).symm.trans (exD_at q hlt))
      have hgetD : ∀ d, ([.int .i64 2, .int .i64 1, .int .i64 0, .int .i64 (-1)] : List Value).getD q d = .int .i64 (exD q) := fun d => by rw [List.getD_eq_getElem?_getD, exD_at q hlt]; rfl
      clear hfn h2 k0 k1 k2 k3
      go_wp2_with fail
      have HL : Hid (∀ w', Bx w0 cs 25 w' → Calls Tryz.prog 35 #[.agg [.string fn.name, .int .i64 fn.args, .int .i64 fn.regs, .slice Aq fn.blocks.length cq].toArray] w' fun e w'' => e = .returned (.bool false) ∧ Bx w0 cs 25 w'') :=
        fun w' h => (leaf_any fn w' [.string fn.name, .int .i64 fn.args, .int .i64 fn.regs, .slice Aq fn.blocks.length cq] (h.R HFN.out) h1).mono fun e w1 hp => ⟨by rw [hp.1, HLF.out], h.call hp.2⟩
      have HDC : Hid (∀ w', Bx w0 cs 25 w' → Calls Tryz.prog 11 #[.agg [.int .i64 0, .slice A' 0 c', .slice (some ⟨b, o, none⟩) 4 c].toArray, .int .i64 q] w' fun e w'' => e = .returned (.int .i64 (exD q)) ∧ Bx w0 cs 25 w'' ∧ w'.heap.size ≤ w''.heap.size ∧ ∀ a : Addr, a.block < w'.heap.size → w''.cell? a = w'.cell? a) :=
        fun w' h => (Depth_any exProg q w' _ (h.R HR.out) ex_bulk).mono fun e w1 hp => ⟨by rw [hp.1, HD.out], h.call hp.2, hp.2.size, far hp.2⟩
      have hxd := hx.drew
      have hal : ∀ W o, Bx w0 cs 25 W → Bx w0 cs 25 (W.alloc o) := fun _ o h => h.alloc o
      go_region_law (first
        | (go_simp; go_at_call 35; refine (HL.out _ (by first | assumption | exact hal _ _ (by assumption))).mono ?_; rintro e w1 ⟨rfl, hx1⟩)
        | (go_simp; go_at_call 11; refine (HDC.out _ (by first | assumption | exact hal _ _ (by assumption))).mono ?_; rintro e w2 ⟨rfl, hx2, hs2, hf2⟩))
      all_goals
        clear HL HDC HD HLF HFN r0 r1 r2 r3 hget hgetD
        go_wp2_with fail
        go_roundw
        case rel => exact ⟨q + 1, by omega, by go_num, by first | assumption | exact hal _ _ (by assumption)⟩
        case measure => simp [RowKit.intOf]; omega
    · obtain rfl : q = 4 := by omega
      clear HF
      go_wp2_with fail
      refine (calls_any exProg 0 _ _ (hx.R HR.out) ex_bulk).mono ?_
      rintro e w1 ⟨v1, rfl, ho1, hb1⟩
      rw [ex_callsC0] at ho1
      have H1 := Lib.hid (OwnI.read ho1 (wfs (by decide)))
      have hx1 := hx.call hb1
      clear ho1 hb1 hx
      go_wp2_with fail
      refine (same_lit [1, 2] H1.out (wfs (by decide)) (by decide) (by decide)).mono ?_
      rintro e w2 ⟨rfl, hb2⟩
      have hx2 := hx1.call hb2
      clear hx1 hb2 H1
      go_wp2_with fail
      refine (Reach_any exProg 0 _ _ (hx2.R HR.out) ex_bulk).mono ?_
      rintro e w3 ⟨v3, rfl, ho3, hb3⟩
      rw [ex_reach0] at ho3
      have H3 := Lib.hid (OwnI.read ho3 (wfs (by decide)))
      have hx3 := hx2.call hb3
      clear ho3 hb3 hx2
      go_wp2_with fail
      refine (same_lit [1, 2] H3.out (wfs (by decide)) (by decide) (by decide)).mono ?_
      rintro e w4 ⟨rfl, hb4⟩
      have hx4 := hx3.call hb4
      clear hx3 hb4 H3
      go_wp2_with fail
      refine (Reach_any exProg 3 _ _ (hx4.R HR.out) ex_bulk).mono ?_
      rintro e w5 ⟨v5, rfl, ho5, hb5⟩
      rw [ex_reach3] at ho5
      have H5 := Lib.hid (OwnI.read ho5 (wfs (by decide)))
      have hx5 := hx4.call hb5
      clear ho5 hb5 hx4
      go_wp2_with fail
      refine (same_lit [0, 1, 2, 3] H5.out (wfs (by decide)) (by decide) (by decide)).mono ?_
      rintro e w6 ⟨rfl, hb6⟩
      have hx6 := hx5.call hb6
      clear hx5 hb6 H5
      go_wp2_with fail
      refine (calls_any exProg 9 _ _ (hx6.R HR.out) ex_bulk).mono ?_
      rintro e w7 ⟨v7, rfl, ho7, hb7⟩
      rw [ex_callsC9] at ho7
      obtain ⟨A7, c7, rfl⟩ := own_form ho7
      have hx7 := hx6.call hb7
      clear ho7 hb7 hx6
      go_wp2_with fail
      refine (leaf_any ⟨⟨#[]⟩, 0, 0, []⟩ _ [.string ⟨#[]⟩, .int .i64 0, .int .i64 0, .slice none 0 0] (tFunc_R.2 ⟨none, 0, rfl, sz0, wf0, wf0, Ty.slice_nil _ _ _⟩) (by decide)).mono ?_
      rintro e w8 ⟨rfl, hb8⟩
      have hx8 := hx7.call hb8
      clear hb8 hx7
      go_wp2_with fail
      go_ret
      exact ⟨rfl, HB0.out.trans (hx8.below.mono HB0.out.size)⟩
end Mu
end
section
/-
  muntinlaw20.CallsStand: its parts: depths, Great, the known answers.
  Conditions: none.
-/
namespace Mu
open Go Go.RowKit Go.Proofs

theorem depthS_fn {p : Prog} (hh : wfI .i64 p.heap) (hb : tProg.bulk p ≤ 2097152) {f : Nat} (hf : f < p.funcs.length) : Fn Tryz.prog 11 [.agg (encProg p), .lit (.int .i64 (f : Int))] (.lit (.int .i64 (depthC' p f))) :=
  Fn.of_lit (by kernel_rfl) fun w vs hr => by
    unfold AV.relL at hr
    obtain ⟨v, us, rfl, h1, h2⟩ := hr
    unfold AV.relL at h2
    obtain ⟨u, us2, rfl, h3, h4⟩ := h2
    unfold AV.relL at h4
    unfold AV.rel at h1 h3
    subst h3 h4
    obtain ⟨cs, rfl, hc⟩ := h1
    exact Depth_in p f w cs hf (put_prog (h := []) hh hc) hb
theorem head20_fn : Fn Tryz.prog 9 [] (.lit (.bool true)) :=
  Fn.of_lit (by kernel_rfl) fun w vs hr => by
    unfold AV.relL at hr
    subst hr
    exact head_any w
theorem greatS_fn {p : Prog} (hh : wfI .i64 p.heap) (hb : tProg.bulk p ≤ 2097152) : FnTurnS Tryz.prog 8 .emp [.agg (encProg p)] (fun _ : Bool => .emp) (fun b => .lit (.bool b)) :=
  ⟨by kernel_rfl, fun w S vs hS _ _ hr => by
    have hr := AV.relL_ext (Ext.grow [] ψ0 (fun _ _ => rfl) fun k hk => (hS k hk).1) _ _ hr
    unfold AV.relL at hr
    obtain ⟨v, us, rfl, h1, h2⟩ := hr
    unfold AV.relL at h2
    subst h2
    unfold AV.rel at h1
    obtain ⟨cs, rfl, hc⟩ := h1
    refine (great_any p w cs (put_prog (h := []) hh hc) hb).mono ?_
    rintro e w' ⟨b, rfl, hbl⟩
    exact ⟨_, rfl, ⟨hbl.os, hbl.tape, hbl.output, hbl.size, fun k hk _ => hbl.block k hk⟩, b, S, fun _ h => h, fun _ h => .inl h, fun k hk => Nat.lt_of_lt_of_le (hS k hk).1 hbl.size, by unfold AV.rel; rfl, trivial, fun k hk => hk.elim⟩⟩
end Mu
end
section
/-
  Functions that read memory of one's own.
  Conditions: none; generic.
-/
namespace Mu
open Go Go.RowKit

/-- a call that reads such memory -/
def FnRS (P : Program) (f : FuncId) (R : Res) (args : List AV) (r : AV) : Prop :=
  Enters P f = true ∧ ∀ (w : World) (S : Nat → Prop) (vs : List Value), (∀ k, S k → k < w.heap.size ∧ ¬ R.F k) → (∀ g, R.F g → g < w.heap.size) → R.R w S → AV.relL w S [] ψ0 args vs →
    Calls P f vs.toArray w fun e w' => ∃ v, e = .returned v ∧ Good w S [] ψ0 r v w'
theorem FnRS.of {P : Program} {f : FuncId} {R : Res} {args : List AV} {r : AV} (hE : Enters P f = true) (h : ∀ w0, FnTurnS P f (R.pin w0) args (fun _ : Unit => R.pin w0) (fun _ => r)) : FnRS P f R args r :=
  ⟨hE, fun w S vs hS hF hR hr => ((h w).2 w S vs hS hF ⟨hR, fun _ _ => rfl⟩ hr).mono fun e w' ⟨v, he, hT⟩ => by
    obtain ⟨_, S', k1, k2, k3, k4, k5, _⟩ := hT.some
    refine ⟨v, he, ⟨hT.gr.os, hT.gr.tape, hT.gr.output, hT.gr.size, fun k hk => ?_⟩, S', k1, k2, k3, k4⟩
    by_cases hf : R.F k
    · exact k5.2 k hf
    · exact hT.gr.block k hk hf⟩
theorem Quiet.callRS {P : Program} {C : Ctx} {t : List AV} {h : List ABlk} {o : Oper} {f : FuncId} {args : Array Operand} {tys : Array TypeId} {xs : List AV} {r : AV} {i : Nat} {R : Res} (hi : h[i]? = some (.res R))
    (ho : o.op = .call { callee := .value (.func f), args := args, argTypes := tys }) (hF : FnRS P f R xs r) (hx : args.toList.map (evA t) = xs) (hc : AV.clL xs = true) (hr : AV.cl r = true) : Quiet P C t h o r := by
  intro S ψ w ρ H hρ
  have h1 : ρ (.func f) = .func (.func f) #[] #[] := by
    have := hρ (.func f) (by rw [ho]; exact Array.mem_append.2 (.inl (by simp)))
    simpa [evA, AV.rel] using this
  rw [run_call ho hF.1 ρ w h1]
  refine ⟨rfl, ?_⟩
  have h2 : AV.relL w S h ψ xs (args.toList.map ρ) := by
    rw [← hx]
    exact relL_map fun x hx' => hρ x (by rw [ho]; exact Array.mem_append.2 (.inr (Array.mem_toList_iff.1 hx')))
  have hB := H.blk i _ hi
  have h3 := hF.2 w S (args.toList.map ρ) (fun k hk => ⟨H.lt k hk, fun hf => (hB.1 k hf).2.1 hk⟩) (fun g hg => (hB.1 g hg).2.2) hB.2 (AV.relL_cl _ _ hc h2)
  rw [show (args.map ρ) = (args.toList.map ρ).toArray from (by rw [← Array.toList_map])]
  refine h3.mono ?_
  rintro e w' ⟨v, he, hb, S', k1, k2, k3, k4⟩
  exact ⟨v, he, hb, S', k1, k2, k3, AV.rel_cl _ _ hr k4⟩
end Mu
end
section
/-
  The flat model: Stack reads.
  Conditions: the model is known.
-/
namespace Mu
open Go Go.RowKit Go.Proofs

/-- the functions of a thread's frames -/
def ThA.fs (t : ThA) : List Int := t.l.map fun q => (q.fr.f : Int)
theorem Quiet.ldFr {P : Program} {C : Ctx} {t : List AV} {h : List ABlk} {o : Oper} {ty : TypeId} {x : Operand} {R : Res} {p : Prog} {m : MdA} {ti fg k i c : Nat} {t0 : ThA} {q : FrA} (ho : o.op = .load ty x) (ha : aggT P ty = some (true, 4)) (hx : evA t x = .lit (ptV fg (k * 4))) (hi : h[i]? = some (.res R)) (hR : ∀ w S, R.R w S → (modR p m).R w S) (ht : m.ths[ti]? = some t0) (hv : t0.fv = slV fg t0.l.length c) (hq : t0.l[k]? = some q) : Quiet P C t h o (.agg (frA q)) :=
  Quiet.loadA (cells := frA q) ho ha hx (CellsOf.res hi rfl fun w S H j r hr => rowV_at (T := tCl 3) (enc := fun l => l.map Cl.av) (d := frC q) hv (mod_frs (hR w S H) ht) (by rw [List.getElem?_map, hq]; rfl) hr) rfl rfl
set_option maxRecDepth 100000 in
theorem stackP_fn {w0 : World} {p : Prog} {m : MdA} {ti : Nat} {t0 : ThA} (hN : m.Nrm) (ht : m.ths[ti]? = some t0) (hlen : m.ths.length ≤ 1073741824) (hl : t0.l.length ≤ 1073741824) (hfs : ∀ q ∈ t0.l, q.fr.f ≤ 1073741824) : FnTurnS Tryz.prog 12 ((modR p m).pin w0) [.lit (ptV m.g 0), .lit (.int .i64 (ti : Int))] (fun _ : Unit => (modR p m).pin w0) (fun _ => .bs tInt t0.fs) := by
  obtain ⟨tg, tc, htv⟩ := hN.tg
  have htc : m.tc = slV tg m.ths.length tc := hN.tv.trans htv
  haveI hTV : TV m tg := ⟨tc, htv⟩
  haveI hTI : TI m ti t0 := ⟨ht⟩
  obtain ⟨hcv, fg, fc, hfv⟩ := hN.th t0 (List.mem_of_getElem? ht)
  have htl := (List.getElem?_eq_some_iff.1 ht).1
  refine FnTurnS.of_awpT Tryz.func12 rfl (by kernel_rfl) rfl Tryz.ntmps12 rfl fun C hC => ?_
  simp only [List.length_cons, List.length_nil, Nat.reduceAdd, Nat.reduceSub, List.replicate_succ, List.replicate_zero, List.cons_append, List.nil_append]
  refine wR (hk := ?_)
  refine Awp.seq fun K2 h2 => ?_
  refine wS (sT (sT (sT ?_)))
  refine sTg (sTg ?_)
  rw [show decide ((ti : Int) < 0) = false from decide_eq_false (by omega)]
  refine sH (Quiet.pick rfl rfl rfl) (sT ?_)
  refine sTg (sTg (sTg (sTg (sTg ?_))))
  rw [htc]
  refine sTg (sTg ?_)
  rw [show decide ((ti : Int) ≥ (m.ths.length : Int)) = false from decide_eq_false (by omega)]
  refine sH (Quiet.pick rfl rfl rfl) (wN ?_)
  refine Awp.cond rfl (fun hb4 => ?_) (fun hb4 => ?_)
  · cases hb4
  · refine Awp.skip ?_
    refine h2 _ ?_
    refine nT (hk := ?_)
    refine wR (hk := ?_)
    refine Awp.via _ (St.le_nil 5 3 tInt rfl (by decide)) ?_
    refine nT (hk := ?_)
    refine Awp.seq fun K8 h8 => ?_
    refine wS (sT (sT (sT (sT ?_))))
    rw [htc]
    refine sT ?_
    refine sH (Quiet.ixl0 rfl rfl rfl htl) (sT (sT (sT ?_)))
    rw [hcv, hfv]
    refine sT (sT (wN ?_))
    refine Awp.block ?_
    refine Awp.loopF (fun b : Nat × Nat => ⟨(A5 (.own 1 b.2 :: A20 (A5 (.lit (slV fg t0.l.length fc) :: .lit (.int .i64 (t0.l.length : Int)) :: .lit (.int .i64 (b.1 : Int)) :: A10 [])))), [.res ((modR p m).pin w0), .row b.2 3 tInt (t0.fs.take b.1)]⟩) (fun b => b.1 ≤ t0.l.length) (fun b => t0.l.length - b.1) (0, 0) (Nat.zero_le _) (St.le_t rfl (by (try simp only [putA, List.set_cons_zero, List.set_cons_succ]); repeat (first | exact Fgt.nil | refine Fgt.keep rfl ?_ | refine Fgt.any ?_))) ?_
    rintro ⟨k, ver⟩ hk
    have hk : k ≤ t0.l.length := hk
    refine wS (sT (wN ?_))
    refine Awp.seq fun K12 h12 => ?_
    refine Awp.cond rfl (fun hb13 => ?_) (fun hb13 => ?_)
    · have hlt : k < t0.l.length := by
        have := of_decide_eq_true hb13
        omega
      obtain ⟨q, hq⟩ : ∃ q, t0.l[k]? = some q := ⟨_, List.getElem?_eq_getElem hlt⟩
      refine Awp.skip ?_
      refine h12 _ ?_
      refine nT (hk := ?_)
      refine Awp.seq fun K14 h14 => ?_
      refine Awp.block ?_
      refine wS (sH (Quiet.ixFr rfl rfl rfl rfl hlt) ?_)
      refine sH (Quiet.ldFr (i := 0) rfl (by kernel_rfl) rfl rfl (fun _ _ h => h.1) ht hfv hq) (sA0 ?_)
      refine sW (wN ?_)
      refine wSE (sT (sT (sT ?_)))
      refine sH (Quiet.lt1 (T := tInt) (d := (q.fr.f : Int)) rfl rfl rfl rfl (by decide) (Fit.int (wf_nat (hfs q (List.mem_of_getElem? hq))))) ?_
      refine sP (row1 (n := (t0.fs.take k).length) (Nat.le_trans (List.length_take_le _ _) (Nat.le_trans hk hl))) (sT (wN ?_))
      refine h14 _ ?_
      refine nT (hk := ?_)
      refine wSE (sT (sT (wN ?_)))
      have e3 : t0.fs.take (k + 1) = t0.fs.take k ++ [(q.fr.f : Int)] := by
        unfold ThA.fs
        rw [List.take_add_one, List.getElem?_map, hq]
        rfl
      refine athen_n ⟨(k + 1, ver + 1), hlt, by show t0.l.length - (k + 1) < t0.l.length - k; omega, ?_⟩
      rw [wrap_k (by omega)]
      show St.le _ _ ⟨_, [_, .row (ver + 1) 3 tInt (t0.fs.take (k + 1))]⟩
      rw [e3]
      exact St.le_c (.cons (.cons (.nil _))) rfl (by (try simp only [putA, List.set_cons_zero, List.set_cons_succ]); repeat (first | exact Fgt.nil | refine Fgt.keep rfl ?_ | refine Fgt.any ?_))
    · have hkn : t0.fs.take k = t0.fs := by
        have := of_decide_eq_false hb13
        exact List.take_of_length_le (by unfold ThA.fs; rw [List.length_map]; omega)
      rw [hkn]
      refine Awp.exit ?_
      refine h8 _ ?_
      refine nT (hk := ?_)
      refine Awp.via _ (St.le_fzT hC 0 1 5 (by decide) rfl (fun _ h => h) rfl rfl) ?_
      refine nT (hk := ?_)
      refine wS (sT (sT (wN ?_)))
      exact Awp.ret ⟨.inr rfl, (), rfl, rfl, rfl, rfl⟩
theorem stack_fn {p : Prog} {m : MdA} {ti : Nat} {t0 : ThA} (hN : m.Nrm) (ht : m.ths[ti]? = some t0) (hlen : m.ths.length ≤ 1073741824) (hl : t0.l.length ≤ 1073741824) (hfs : ∀ q ∈ t0.l, q.fr.f ≤ 1073741824) : FnRS Tryz.prog 12 (modR p m) [.lit (ptV m.g 0), .lit (.int .i64 (ti : Int))] (.bs tInt t0.fs) := FnRS.of (by kernel_rfl) fun _ => stackP_fn hN ht hlen hl hfs
end Mu
end
section
/-
  muntinlaw20.CallsStand answers true.
  Conditions: what comes in is not too long.
-/
namespace Mu
open Go Go.RowKit Go.Proofs

theorem depth_bd {p : Prog} {z : Int} (h : p.funcs.length ≤ 2097152) : -1 ≤ depthC' p z ∧ depthC' p z ≤ 2097152 := by
  unfold depthC'
  split
  · next hc =>
    have ha := (turnsB_iff (by omega)).1 hc.2.2
    have := lngN_le (succ_lt p) ha
    omega
  · omega
theorem wf_depth {p : Prog} {z : Int} (h : p.funcs.length ≤ 2097152) : wfI .i64 (depthC' p z) := by
  have := depth_bd (z := z) h
  simp [wfI, Lit.wf, IntKind.min, IntKind.max, IntKind.signed, IntKind.bits]
  omega
def deepL (p : Prog) : List Int := p.threads.map (depthC' p)
set_option maxHeartbeats 1000000 in
set_option maxRecDepth 100000 in
theorem stand20_fn {p : Prog} {ch : List Int} (hh : wfI .i64 p.heap) (hb : tProg.bulk p ≤ 2097152) (ho : ∀ f ∈ p.funcs, okFunc f) (hcl : ch.length ≤ 1073741824) (hcw : ∀ c ∈ ch, wfI .u32 c) : Fn Tryz.prog 3 [.agg (encProg p), .bs (Ty.int .u32) ch] (.lit (.bool true)) := by
  have hsz := progSz hb hh ho
  have hI := chkIn hsz
  have hok : ∀ f ∈ p.funcs, okFunc f ∧ f.blocks.length ≤ 1073741824 ∧ ∀ b ∈ f.blocks, b.ins.length ≤ 1073741824 ∧ ∀ x ∈ b.ins, x.args.length ≤ 1073741824 := fun f hf => ⟨ho f hf, Nat.le_trans (hsz.bl f hf) (by decide), fun b hb => ⟨Nat.le_trans (hsz.il f hf b hb) (by decide), fun x hx => Nat.le_trans (hsz.al f hf b hb x hx) (by decide)⟩⟩
  have hn := new_fn (ch := ch) hI hok hcl
  have hg := greatS_fn hh hb
  refine Fn.of_awp Tryz.func3 rfl (by kernel_rfl) rfl Tryz.ntmps3 fun C hC => ?_
  simp only [List.length_cons, List.length_nil, Nat.reduceAdd, Nat.reduceSub, List.replicate_succ, List.replicate_zero, List.cons_append, List.nil_append]
  refine wS (sB (sT (wN ?_)))
  refine Awp.seq fun K2 h2 => ?_
  refine wS (sT ?_)
  refine aSeq_t rfl (AOp.callN rfl hg (fun _ => rfl) rfl rfl (fun _ => rfl) fun gb => ?_)
  refine sNt (hk := sT ?_)
  refine sGf rfl ?_
  refine sGf rfl ?_
  refine sGf rfl ?_
  refine sGf rfl (sT (sT ?_))
  refine sGf rfl ?_
  refine sGf rfl ?_
  refine sGf rfl (sT (wN ?_))
  refine Awp.cond rfl (fun hb4 => ?_) (fun hb4 => ?_)
  · refine wS (sC head20_fn (sT (wN ?_)))
    exact Awp.ret ⟨.inr rfl, Fin.cl rfl⟩
  · refine Awp.skip ?_
    refine h2 _ ?_
    refine nT (hk := ?_)
    refine wS (sT (sT ?_))
    refine aSeq_t rfl (AOp.callN rfl hn newR_mrk rfl rfl (fun q => by cases q <;> rfl) fun q => ?_)
    refine sNt (hk := ?_)
    rcases q with ⟨e, he⟩ | ⟨m0, hN0, habs, hS⟩
    · dsimp only [newR, newV]
      refine sT (sT (sT (sT (sT (wN ?_)))))
      refine Awp.seq fun K8 h8 => ?_
      refine wS (sT (sT (sT ?_)))
      rw [show (e != 0) = true from by simpa using he]
      refine sSkip (hk := sSkip (hk := ?_))
      refine sH (Quiet.pick rfl rfl rfl) (wN ?_)
      refine Awp.cond rfl (fun hb10 => ?_) (fun hb10 => ?_)
      · refine wS (sC head20_fn (sT (wN ?_)))
        exact Awp.ret ⟨.inr rfl, Fin.cl rfl⟩
      · cases hb10
    dsimp only [newR, newV]
    refine sT (sT (sT (sT (sT (wN ?_)))))
    refine Awp.seq fun K8 h8 => ?_
    refine wS (sT (sT (sT ?_)))
    refine sTg ?_
    refine sHg (Quiet.eqPN rfl rfl rfl) ?_
    refine sH (Quiet.pick rfl rfl rfl) (wN ?_)
    refine Awp.cond rfl (fun hb10 => ?_) (fun hb10 => ?_)
    · cases hb10
    · refine Awp.skip ?_
      refine h8 _ ?_
      refine nT (hk := ?_)
      refine wR (hk := ?_)
      refine Awp.via _ (St.le_nil 7 3 tInt rfl (by decide)) ?_
      refine nT (hk := ?_)
      have hP := progOk hsz hS
      have hPB := pBig hsz hS
      have htop := hS.top
      unfold topB at htop
      simp only [Bool.and_eq_true, Bool.not_eq_true', Bool.or_eq_false_iff, decide_eq_false_iff_not, List.any_eq_false] at htop
      have hnl : p.threads.length ≤ 4 := by omega
      have hH : p.heap ≤ 1024 := by omega
      refine Awp.seq fun K14 h14 => ?_
      refine wR (hk := ?_)
      refine Awp.block ?_
      refine Awp.loopF (fun b : Nat × Nat => ⟨(A2 (.ptr 0 0 :: A2 (.lit (ptV m0.g 0) :: .any :: .own 3 b.2 :: .lit (.int .i64 (b.1 : Int)) :: A40 (A20 (A10 (A8 [])))))), [.box (encProg p), .res .emp, .res (modR p m0), .row b.2 3 tInt ((p.threads.take b.1).map (depthC' p))]⟩) (fun b => b.1 ≤ p.threads.length) (fun b => p.threads.length - b.1) (0, 0) (Nat.zero_le _) (le_C (hc := .cons (.cons (.cons (.cons (.nil _)))))) ?_
      rintro ⟨k, ver⟩ hk
      have hk : k ≤ p.threads.length := hk
      refine Awp.seq fun K17 h17 => ?_
      refine wS (sT (sT (sT (sT (sT (wN ?_))))))
      refine Awp.cond rfl (fun hb19 => ?_) (fun hb19 => ?_)
      · have hlt : k < p.threads.length := by
          have := of_decide_eq_true hb19
          omega
        obtain ⟨z, hz⟩ : ∃ z, p.threads[k]? = some z := ⟨_, List.getElem?_eq_getElem hlt⟩
        obtain ⟨hz0, hzl, _⟩ := hP.threads.2 z (List.mem_of_getElem? hz)
        obtain ⟨zn, rfl⟩ : ∃ zn : Nat, z = (zn : Int) := ⟨z.toNat, by omega⟩
        rw [Int.toNat_natCast] at hzl
        have hzI : ixD p.threads (k : Int) = (zn : Int) := by
          show p.threads.getD ((k : Int).toNat) 0 = _
          rw [Int.toNat_natCast, List.getD_eq_getElem?_getD, hz]
          rfl
        refine Awp.skip ?_
        refine h17 _ ?_
        refine nT (hk := ?_)
        refine Awp.seq fun K20 h20 => ?_
        refine Awp.block ?_
        refine dSE 9 (hq := qT (qT (qT (qT (qT ?_)))))
        refine qX (inBn hlt) (qT ?_)
        rw [hzI]
        refine qC (depthS_fn hh hb hzl) ?_
        refine qH (Quiet.lt1 (T := tInt) (d := depthC' p zn) rfl rfl rfl rfl (by decide) (Fit.int (wf_depth hsz.fl))) (qN ?_)
        refine sP (row1 (n := ((p.threads.take k).map (depthC' p)).length) (by rw [List.length_map]; exact Nat.le_trans (List.length_take_le _ _) (by omega))) (sT (wN ?_))
        refine h20 _ ?_
        refine nT (hk := ?_)
        refine wSE (sT (sT (sT (wN ?_))))
        have e3 : (p.threads.take (k + 1)).map (depthC' p) = (p.threads.take k).map (depthC' p) ++ [depthC' p zn] := by
          rw [List.take_add_one, hz, List.map_append]
          rfl
        refine athen_n ⟨(k + 1, ver + 1), hlt, by show p.threads.length - (k + 1) < p.threads.length - k; omega, ?_⟩
        rw [wrap_k (by omega)]
        show St.le _ _ ⟨_, [_, _, _, .row (ver + 1) 3 tInt ((p.threads.take (k + 1)).map (depthC' p))]⟩
        rw [e3]
        exact le_C (hc := .cons (.cons (.cons (.cons (.nil _)))))
      · have hkn : (p.threads.take k).map (depthC' p) = deepL p := by
          have := of_decide_eq_false hb19
          rw [List.take_of_length_le (by omega)]
          rfl
        rw [hkn]
        refine Awp.exit ?_
        refine h14 _ ?_
        refine nT (hk := ?_)
        have hdl : (deepL p).length = p.threads.length := List.length_map _
        refine Awp.via _ (St.le_fz hC 3 rfl) ?_
        simp only [fzH, AV.fzL, AV.fz, ABlk.fz, List.map_cons, List.map_nil, List.set_cons_succ, List.set_cons_zero, and_self, and_true, true_and, if_true, Nat.reduceEqDiff, false_and, if_false]
        refine Awp.seq fun K23 h23 => ?_
        refine wR (hk := ?_)
        refine Awp.block ?_
        refine Awp.loopF (fun b : Nat × MdA => ⟨(A5 (.lit (ptV b.2.g 0) :: .any :: .bs tInt (deepL p) :: .any :: .lit (.int .i64 (b.1 : Int)) :: A40 (A20 (A10 (A7 []))))), [.box (encProg p), .res .emp, .res (modR p b.2)]⟩) (fun b => b.1 ≤ 200 ∧ RunM p b.1 b.2) (fun b => 200 - b.1) (0, m0) ⟨Nat.zero_le _, hN0, by rw [habs]; exact start_ok hP ch, by rw [habs]; exact start_bnd hcw⟩ (le_C (hc := .cons (.cons (.cons (.nil _))))) ?_
        rintro ⟨i, m⟩ ⟨hi, hR⟩
        have hi : i ≤ 200 := hi
        have hR : RunM p i m := hR
        have hml : m.ths.length = p.threads.length := by
          have h1 := hR.ok.len
          have h2 : m.abs.ths.length = m.ths.length := List.length_map _
          omega
        refine Awp.seq fun K26 h26 => ?_
        refine wS (sT (sT (wN ?_)))
        refine Awp.cond rfl (fun hb28 => ?_) (fun hb28 => ?_)
        · have hilt : i < 200 := by
            have := of_decide_eq_true hb28
            omega
          refine Awp.skip ?_
          refine h26 _ ?_
          refine nT (hk := ?_)
          refine Awp.seq fun K29 h29 => ?_
          refine Awp.block ?_
          refine Awp.seq fun K30 h30 => ?_
          refine wR (hk := ?_)
          refine Awp.block ?_
          refine Awp.loopF (fun t : Nat => ⟨(A5 (.lit (ptV m.g 0) :: .any :: .bs tInt (deepL p) :: .any :: .lit (.int .i64 (i : Int)) :: .lit (.int .i64 (t : Int)) :: A40 (A20 (A10 (A6 []))))), [.box (encProg p), .res .emp, .res (modR p m)]⟩) (fun t => t ≤ (deepL p).length) (fun t => (deepL p).length - t) 0 (Nat.zero_le _) (le_C (hc := .cons (.cons (.cons (.nil _))))) ?_
          intro t htl
          have htl : t ≤ (deepL p).length := htl
          refine Awp.seq fun K33 h33 => ?_
          refine wS (sT (sT (sT (sT (wN ?_)))))
          refine Awp.cond rfl (fun hb35 => ?_) (fun hb35 => ?_)
          · have htlt : t < (deepL p).length := by
              have := of_decide_eq_true hb35
              omega
            obtain ⟨z, hz⟩ : ∃ z, p.threads[t]? = some z := ⟨_, List.getElem?_eq_getElem (by omega)⟩
            have hdI : ixD (deepL p) (t : Int) = depthC' p z := by
              show (deepL p).getD ((t : Int).toNat) 0 = _
              rw [Int.toNat_natCast, List.getD_eq_getElem?_getD]
              unfold deepL
              rw [List.getElem?_map, hz]
              rfl
            obtain ⟨t0, ht0⟩ : ∃ t0, m.ths[t]? = some t0 := ⟨_, List.getElem?_eq_getElem (by omega)⟩
            have hbig := hR.big (by omega) hH (by omega)
            have hst := stack_fn (p := p) hR.nrm ht0 (by omega) (hbig.frs t0 (List.mem_of_getElem? ht0)) (fun q hq => by
              have h1 := (hR.ok.frs t (t0.l.map FrA.fr) (by show (m.ths.map _)[t]? = _; rw [List.getElem?_map, ht0]; rfl)).1 q.fr (List.mem_map.2 ⟨q, hq, rfl⟩)
              exact Nat.le_trans (Nat.le_of_lt h1.f) (Nat.le_trans hsz.fl (by decide)))
            refine Awp.skip ?_
            refine h33 _ ?_
            refine nT (hk := ?_)
            refine Awp.seq fun K36 h36 => ?_
            refine Awp.block ?_
            refine dS 17 (hq := qT (qT ?_))
            refine qX (inBn htlt) (qT ?_)
            rw [hdI]
            refine qT (qT ?_)
            refine qGt rfl (qGt rfl ?_)
            refine qG (g := decide (depthC' p z ≥ 0)) (hg := gA_t rfl) (hq := fun _ => Quiet.callRS (i := 2) rfl rfl hst (by simp only [*]; rfl) rfl rfl) (ht := PA.e) (hk := ?_)
            refine qGt rfl (qGt rfl (qGt rfl ?_))
            refine qGXt rfl (by rw [inBn htlt, Bool.or_true]) ?_
            refine qGt rfl (qGt rfl (qGt rfl (qT (qN (wN ?_)))))
            refine Awp.cond rfl (fun hb38 => ?_) (fun hb38 => ?_)
            · exfalso
              have hdb := depth_bd (p := p) (z := z) hsz.fl
              rw [IntWalk.i64_in _ (by omega)] at hb38
              simp only [Bool.and_eq_true, decide_eq_true_eq] at hb38
              have h1 := hR.ok.stand hP hz (by omega)
              rw [MdA.getT ht0, List.length_map] at h1
              have h2 : t0.fs.length = t0.l.length := List.length_map _
              omega
            · refine Awp.skip ?_
              refine h36 _ ?_
              refine nT (hk := ?_)
              refine wRE (hk := ?_)
              refine athen_n ⟨t + 1, htlt, by show (deepL p).length - (t + 1) < (deepL p).length - t; omega, ?_⟩
              exact le_C (hc := .cons (.cons (.cons (.nil _))))
          · refine Awp.exit ?_
            refine h30 _ ?_
            refine nT (hk := ?_)
            refine wS (sT ?_)
            refine aSeq_t rfl (AOp.callS (i := 2) rfl rfl (step_fn hPB hR (by omega) hH (by omega)) (fun _ => rfl) rfl rfl (fun _ => rfl) fun q => ?_)
            refine sNt (hk := sT (wN ?_))
            obtain ⟨⟨m2, b2⟩, hg2, hR2, _⟩ := q
            refine Awp.cond rfl (fun hb43 => ?_) (fun hb43 => ?_)
            · refine wS (sC head20_fn (sT (wN ?_)))
              exact Awp.ret ⟨.inr rfl, Fin.cl rfl⟩
            · refine Awp.skip ?_
              refine h29 _ ?_
              refine nT (hk := ?_)
              refine wRE (hk := ?_)
              refine athen_n ⟨(i + 1, m2), ⟨hilt, hR2⟩, by show 200 - (i + 1) < 200 - i; omega, ?_⟩
              show St.le _ _ ⟨(A5 (.lit (ptV m2.g 0) :: .any :: .bs tInt (deepL p) :: .any :: .lit (.int .i64 ((i + 1 : Nat) : Int)) :: A40 (A20 (A10 (A7 []))))), _⟩
              rw [show m2.g = m.g from hg2]
              exact le_C (hc := .cons (.cons (.cons (.nil _))))
        · refine Awp.exit ?_
          refine h23 _ ?_
          refine nT (hk := ?_)
          refine wS (sC head20_fn (sT (wN ?_)))
          exact Awp.ret ⟨.inr rfl, Fin.cl rfl⟩
end Mu
end
section
/-
  The arguments of a row, read; what a call that makes new blocks only leaves of them.
  Conditions: none.
-/
namespace Mu
open Go Go.RowKit Go.ChangeShapes Go.WideShapes Go.Proofs

theorem laid_out : laidOutB Tryz.prog = true := by kernel_rfl
mutual
theorem bulk_le {H : Type} : ∀ d : DataW H, bulkD d ≤ YtlamjpneghjbgaaGreat.Rows.uptoBulk d
  | .lit (.string _) => Nat.le_refl _
  | .lit (.bool _) => Nat.le_refl _
  | .lit (.int _ _) => Nat.le_refl _
  | .lit (.float _ _) => Nat.le_refl _
  | .lit .nil => Nat.le_refl _
  | .nil => Nat.le_refl _
  | .ptr d => by show 1 ≤ YtlamjpneghjbgaaGreat.Rows.uptoBulk d + 1; omega
  | .slice e s => by
    have h1 := bulks_le e
    have h2 := bulks_le s
    show bulkD.go e + bulkD.go s + 1 ≤ YtlamjpneghjbgaaGreat.Rows.uptoBulkAll e + YtlamjpneghjbgaaGreat.Rows.uptoBulkAll s + 1
    omega
  | .agg p => by
    have h1 := bulks_le p
    show bulkD.go p + 1 ≤ YtlamjpneghjbgaaGreat.Rows.uptoBulkAll p + 1
    omega
  | .iface _ d => by show 1 ≤ YtlamjpneghjbgaaGreat.Rows.uptoBulk d + 1; omega
  | .map m => by show 1 ≤ YtlamjpneghjbgaaGreat.Rows.uptoBulkEntries m + 1; omega
  | .held _ => Nat.le_refl _
theorem bulks_le {H : Type} : ∀ l : List (DataW H), bulkD.go l ≤ YtlamjpneghjbgaaGreat.Rows.uptoBulkAll l
  | [] => Nat.le_refl _
  | d :: r => by
    have h1 := bulk_le d
    have h2 := bulks_le r
    show bulkD d + bulkD.go r ≤ YtlamjpneghjbgaaGreat.Rows.uptoBulk d + YtlamjpneghjbgaaGreat.Rows.uptoBulkAll r
    omega
end

/-- an argument of a type that is read: a value of many cells -/
theorem open_many {α : Type} {t : TypeId} {T : Ty α} {H : Type} {enc : TypeId × Value → H} {W : World} {v : Value} {d : DataW H} {p : List MemPlace} (ho : Opens Tryz.prog t T) (hs : 1 < T.size)
    (h : DataW.Trod enc Tryz.prog W 0 (fun _ => true) true t v d p) (hp : ∀ x ∈ p, x.block < W.heap.size) :
    ∃ cs x, v = .agg cs.toArray ∧ T.R W W.heap.size cs x ∧ T.bulk x ≤ YtlamjpneghjbgaaGreat.Rows.uptoBulk d := by
  obtain ⟨fuel, hf⟩ := h
  obtain ⟨x, hR, hb⟩ := ho.go H enc W 0 _ true fuel _ (d, p) W.heap.size hf hp
  have hl := T.len hR
  refine ⟨v.cells.toList, x, ?_, hR, Nat.le_trans hb (bulk_le d)⟩
  cases v <;> first
    | (simp [Value.cells] at hl; omega)
    | simp [Value.cells]
/-- an argument of a type that is read: a value of one cell -/
theorem open_one {α : Type} {t : TypeId} {T : Ty α} {H : Type} {enc : TypeId × Value → H} {W : World} {v : Value} {d : DataW H} {p : List MemPlace} (ho : Opens Tryz.prog t T)
    (h : DataW.Trod enc Tryz.prog W 0 (fun _ => true) true t v d p) (hp : ∀ x ∈ p, x.block < W.heap.size) (hv : v.cells = #[v]) :
    ∃ x, T.R W W.heap.size [v] x ∧ T.bulk x ≤ YtlamjpneghjbgaaGreat.Rows.uptoBulk d := by
  obtain ⟨fuel, hf⟩ := h
  obtain ⟨x, hR, hb⟩ := ho.go H enc W 0 _ true fuel _ (d, p) W.heap.size hf hp
  rw [hv] at hR
  exact ⟨x, hR, Nat.le_trans hb (bulk_le d)⟩
/-- what an argument read as, it reads as behind a call that makes new blocks only -/
theorem stays {t : TypeId} {H : Type} {enc : TypeId × Value → H} {W W' : World} {v : Value} {d : DataW H} {p : List MemPlace} (hr : Tryz.prog.readableRec t = true) (ht : t < Tryz.prog.types.size)
    (h : DataW.Trod enc Tryz.prog W 0 (fun _ => true) true t v d p) (hb : Below W.heap.size W W') (hp : ∀ x ∈ p, x.block < W.heap.size) :
    DataW.Trod enc Tryz.prog W' 0 (fun b => decide (b < W.heap.size)) true t v d p := Below.trod laid_out hr ht h hb hp
end Mu
end
section
/-
  What a row needs: calls, literals, programs, slices of words as arguments.
  Conditions: none.
-/
namespace Mu
open Go Go.RowKit Go.Proofs

theorem fn_calls {P : Program} {f : FuncId} {args : List AV} {u : Value} {W : World} {vs : List Value} (h : Fn P f args (.lit u)) (hr : AV.relL W (fun k => k < W.heap.size) [] ψ0 args vs) : Calls P f vs.toArray W fun e W' => e = .returned u ∧ Below W.heap.size W W' :=
  (h.2 W _ vs (fun _ h => h) hr).mono fun e W' ⟨v, he, hb, _, _, _, _, hv⟩ => by
    unfold AV.rel at hv
    exact ⟨by rw [he, hv], hb⟩
theorem relL_one {W : World} {S : Nat → Prop} {h : List ABlk} {ψ : Nat → Value} {x : AV} {v : Value} (hv : AV.rel W S h ψ x v) : AV.relL W S h ψ [x] [v] := by
  unfold AV.relL
  exact ⟨v, [], rfl, hv, by unfold AV.relL; rfl⟩
theorem relL_more {W : World} {S : Nat → Prop} {h : List ABlk} {ψ : Nat → Value} {x : AV} {v : Value} {l : List AV} {vs : List Value} (hv : AV.rel W S h ψ x v) (hl : AV.relL W S h ψ l vs) : AV.relL W S h ψ (x :: l) (v :: vs) := by
  unfold AV.relL
  exact ⟨v, vs, rfl, hv, hl⟩
theorem cells_sl {P : Program} {W : World} {r : Reach} {base : Nat} {t e : TypeId} {v : Value} (ht : P.underlying t = some (.slice e)) (hv : Value.okWide P W r base t v) : v.cells = #[v] := by
  unfold Value.okWide at hv
  rw [ht] at hv
  cases v <;> first | rfl | (exfalso; simp [Cell.okWide, Cell.ok, ht] at hv)
theorem ok_prog {w : World} {S : Nat → Prop} {cs : List Value} {p : Prog} (h : tProg.RS w S cs p) : ∀ f ∈ p.funcs, okFunc f := by
  obtain ⟨A, c, A', c', _, _, _, hf⟩ := tProg_R.1 h
  exact ok_slice (T := tFunc) (p := okFunc) (fun _ _ h => ok_func h) hf
theorem rel_prog {W : World} {S : Nat → Prop} {h : List ABlk} {ψ : Nat → Value} {cs : List Value} {p : Prog} (hR : tProg.RS W S cs p) : AV.rel W S h ψ (.agg (encProg p)) (.agg cs.toArray) := by
  unfold AV.rel
  exact ⟨cs, rfl, EncOf.ok (T := tProg) W S h ψ cs p hR⟩
theorem heap_prog {w : World} {S : Nat → Prop} {cs : List Value} {p : Prog} (h : tProg.RS w S cs p) : wfI .i64 p.heap := by
  obtain ⟨A, c, A', c', _, h1, _, _⟩ := tProg_R.1 h
  exact h1
theorem opens_sW : Opens Tryz.prog 26 (Ty.int .u32).slice := opens_slice Tryz.underlying26 (by kernel_rfl) (by decide) (opens_int Tryz.underlying38)
theorem rel_sW {W : World} {S : Nat → Prop} {h : List ABlk} {ψ : Nat → Value} {v : Value} {l : List Int} (hR : (Ty.int .u32).slice.RS W S [v] l) : AV.rel W S h ψ (.bs (Ty.int .u32) l) v := by
  unfold AV.rel
  exact hR
theorem ok_sW {W : World} {S : Nat → Prop} {v : Value} {l : List Int} (hR : (Ty.int .u32).slice.RS W S [v] l) : ∀ x ∈ l, wfI .u32 x := fun x hx => by
  obtain ⟨j, hj⟩ := List.mem_iff_getElem?.1 hx
  obtain ⟨A, c, _, _, _, hi⟩ := hR
  obtain ⟨b, off, _, hat⟩ := hi j x hj
  obtain ⟨_, cs, hcs, _⟩ := hat
  exact hcs.2
theorem len_sW (l : List Int) : (Ty.int .u32).slice.bulk l = l.length + 1 := by
  show bulkL (fun _ => 1) l + 1 = _
  have : ∀ l : List Int, bulkL (fun _ => 1) l = l.length := fun l => by
    induction l with
    | nil => rfl
    | cons a l ih => simp only [bulkL, ih, List.length_cons]; omega
  rw [this]
end Mu
end
