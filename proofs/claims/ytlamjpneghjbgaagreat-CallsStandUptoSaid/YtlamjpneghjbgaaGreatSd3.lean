/-
  Own texts laid together, part 3: MuFlatT, MuDrawH, MuFlatO, MuFlatN, MuFlatC, MuFlatD, MuFlatE, MuFlatH, MuFlatF, MuFlatG, MuCloneN, MuLend, MuThru, MuMeet, MuShLift, MuSure, MuName, MuTwice.
  Conditions: as each part says.
-/
import Derived.Test.YtlamjpneghjbgaaGreatSd2
set_option linter.unusedSimpArgs false
set_option linter.unusedVariables false
section
/-
  The flat model: its types; what is at hand for its walks; fault, cell, top, pop, runs.
  Conditions: none.
-/
namespace Mu
open Go Go.RowKit Go.Proofs
instance inMuFlatT1 : AG Tryz.prog 26 false 1 := ⟨by kernel_rfl⟩
instance inMuFlatT2 : SZ Tryz.prog 26 1 := ⟨by kernel_rfl⟩
instance inMuFlatT3 : ES Tryz.prog 26 1 := ⟨by kernel_rfl⟩
instance inMuFlatT4 : SL Tryz.prog 26 := ⟨by kernel_rfl⟩
instance inMuFlatT5 : RT Tryz.prog 26 38 1 4 := ⟨by kernel_rfl⟩
instance inMuFlatT6 : AG Tryz.prog 87 false 1 := ⟨by kernel_rfl⟩
instance inMuFlatT7 : SZ Tryz.prog 87 1 := ⟨by kernel_rfl⟩
instance inMuFlatT8 : ES Tryz.prog 87 1 := ⟨by kernel_rfl⟩
instance inMuFlatT9 : SL Tryz.prog 87 := ⟨by kernel_rfl⟩
instance inMuFlatT10 : RT Tryz.prog 87 97 1 24 := ⟨by kernel_rfl⟩
instance inMuFlatT15 : FO Tryz.prog 89 0 0 := ⟨by kernel_rfl⟩
instance inMuFlatT16 : FO Tryz.prog 89 1 3 := ⟨by kernel_rfl⟩
instance inMuFlatT17 : FO Tryz.prog 89 2 4 := ⟨by kernel_rfl⟩
instance inMuFlatT18 : FO Tryz.prog 89 3 5 := ⟨by kernel_rfl⟩
instance inMuFlatT19 : FO Tryz.prog 89 4 6 := ⟨by kernel_rfl⟩
instance inMuFlatT20 : FO Tryz.prog 89 5 7 := ⟨by kernel_rfl⟩
instance inMuFlatT21 : FO Tryz.prog 89 6 8 := ⟨by kernel_rfl⟩
instance inMuFlatT22 : FO Tryz.prog 91 0 0 := ⟨by kernel_rfl⟩
instance inMuFlatT23 : FO Tryz.prog 91 1 1 := ⟨by kernel_rfl⟩
instance inMuFlatT24 : FO Tryz.prog 91 2 2 := ⟨by kernel_rfl⟩
instance inMuFlatT25 : FO Tryz.prog 91 3 3 := ⟨by kernel_rfl⟩
instance inMuFlatT26 : FO Tryz.prog 97 0 0 := ⟨by kernel_rfl⟩
instance inMuFlatT27 : FO Tryz.prog 95 0 0 := ⟨by kernel_rfl⟩
instance inMuFlatT28 : FO Tryz.prog 60 0 0 := ⟨by kernel_rfl⟩
instance inMuFlatT30 : SZ Tryz.prog 60 2 := ⟨by kernel_rfl⟩
instance inMuFlatT31 : ZC Tryz.prog 60 [.int .u8 0, .int .u32 0] := ⟨by kernel_rfl⟩
instance inMuFlatT32 : AG Tryz.prog 91 true 4 := ⟨by kernel_rfl⟩
instance inMuFlatT33 : SZ Tryz.prog 91 4 := ⟨by kernel_rfl⟩
instance inMuFlatT34 : ZC Tryz.prog 91 [.int .i64 0, .int .i64 0, .int .i64 0, .slice none 0 0] := ⟨by kernel_rfl⟩
instance inMuFlatT35 : AG Tryz.prog 93 false 1 := ⟨by kernel_rfl⟩
instance inMuFlatT36 : SZ Tryz.prog 93 1 := ⟨by kernel_rfl⟩
instance inMuFlatT37 : ES Tryz.prog 93 4 := ⟨by kernel_rfl⟩
instance inMuFlatT38 : SL Tryz.prog 93 := ⟨by kernel_rfl⟩
instance inMuFlatT39 : RT Tryz.prog 93 91 4 48 := ⟨by kernel_rfl⟩
instance inMuFlatT40 : PN Tryz.prog 29 := ⟨by kernel_rfl⟩
instance inMuFlatT41 : PN Tryz.prog 135 := ⟨by kernel_rfl⟩
instance inMuFlatT42 : PN Tryz.prog 214 := ⟨by kernel_rfl⟩
instance inMuFlatT43 : IntT Tryz.prog 38 .u32 := ⟨by kernel_rfl⟩
instance inMuFlatT44 : IntT Tryz.prog 237 .u64 := ⟨by kernel_rfl⟩
instance inMuFlatT45 : IntT Tryz.prog 5 .u8 := ⟨by kernel_rfl⟩
instance inMuFlatT46 : IntT Tryz.prog 3 .i64 := ⟨by kernel_rfl⟩
theorem wf_u32 {z : Int} (h : wfI .u32 z) : 0 ≤ z ∧ z ≤ 4294967295 := by simpa [wfI, Lit.wf, IntKind.min, IntKind.max, IntKind.signed, IntKind.bits] using h
theorem wrap_u64 {z : Int} (h0 : 0 ≤ z) (h1 : z ≤ 9223372036854775807) : IntKind.u64.wrap z = z := by
  have e : IntKind.u64.wrap z = z % 18446744073709551616 := by simp [IntKind.wrap, IntKind.signed, IntKind.bits]
  omega
theorem plStop : places? Tryz.prog 60 = some [(0, 1), (1, 1)] := by kernel_rfl

set_option maxRecDepth 100000 in
theorem fault_fn (p : Prog) (m : MdA) (why : Int) : FnTurnS Tryz.prog 163 (modR p m) [.lit (ptV m.g 0), .lit (.int .u32 why)] (fun _ : Unit => modR p { m with kind := 2, v := why }) (fun _ => .lit (.tuple #[])) := by
  refine FnTurnS.of_awp0 Tryz.func163 rfl (by kernel_rfl) rfl Tryz.ntmps163 rfl (fun _ => rfl) fun C => ?_
  refine nS (hk := ?_)
  refine wSE (sT (sT ?_))
  refine sH (Quiet.bldP (rs := [.lit (.int .u8 2), .lit (.int .u32 why)]) rfl plStop rfl rfl) (sT (sT ?_))
  refine aSeq_t rfl (AOp.stMB (i := 0) { m with kind := 2, v := why } rfl rfl rfl (fun _ => Parts.aggB rfl) rfl rfl (Nat.le_of_ble_eq_true rfl) rfl ?_)
  exact wN ⟨.inl rfl, (), rfl, rfl, trivial⟩
set_option maxRecDepth 100000 in
theorem cell_in (p : Prog) (m : MdA) (z : Int) (hw : wfI .u32 z) (hz : z.toNat < m.heap.length) (hh : m.heap.length ≤ 4294967296) : FnTurnS Tryz.prog 164 (modR p m) [.lit (ptV m.g 0), .lit (.int .u32 z)] (fun _ : Unit => modR p m) (fun _ => .lit (ptV m.hg z.toNat)) := by
  have h0 := wf_u32 hw
  refine FnTurnS.of_awp Tryz.func164 rfl (by kernel_rfl) rfl Tryz.ntmps164 rfl fun C => ?_
  refine nS (hk := ?_)
  refine wS (sT (wN ?_))
  refine Awp.seq fun K2 h2 => ?_
  refine wS (sT ?_)
  refine sH (Quiet.cv rfl rfl (wrap_u64 h0.1 (by omega))) (sT (sT (sT (sT (sT ?_)))))
  refine sH (Quiet.cv rfl rfl (wrap_u64 (by omega) (by omega))) (sT (wN ?_))
  refine Awp.cond rfl (fun hb => ?_) (fun _ => ?_)
  · have := of_decide_eq_true hb
    omega
  refine Awp.skip (h2 _ ?_)
  refine wS (sT (sT (sT (sT (sT ?_)))))
  refine sI (by unfold inZ; simp; omega) (sT (wN ?_))
  exact Awp.ret ⟨.inr rfl, (), rfl, rfl, rfl, rfl⟩
set_option maxRecDepth 100000 in
theorem cell_out (p : Prog) (m : MdA) (z : Int) (hw : wfI .u32 z) (hz : ¬ z.toNat < m.heap.length) : FnTurnS Tryz.prog 164 (modR p m) [.lit (ptV m.g 0), .lit (.int .u32 z)] (fun _ : Unit => modR p { m with kind := 2, v := 2 }) (fun _ => .lit (.pointer none)) := by
  have h0 := wf_u32 hw
  refine FnTurnS.of_awp Tryz.func164 rfl (by kernel_rfl) rfl Tryz.ntmps164 rfl fun C => ?_
  refine nS (hk := ?_)
  refine wS (sT (wN ?_))
  refine Awp.seq fun K2 h2 => ?_
  refine wS (sT ?_)
  refine sH (Quiet.cv rfl rfl (wrap_u64 h0.1 (by omega))) (sT (sT (sT (sT (sT ?_)))))
  refine sH (Quiet.cv rfl rfl (wrap_u64 (by omega) (by omega))) (sT (wN ?_))
  refine Awp.cond rfl (fun _ => ?_) (fun hb => ?_)
  · refine wS (sT ?_)
    refine aSeq_t rfl (AOp.callS (i := 0) rfl rfl (fault_fn p m 2) (fun _ => rfl) rfl rfl (fun _ => rfl) fun _ => ?_)
    refine sNt (hk := wN ?_)
    refine wS (sT (wN ?_))
    exact Awp.ret ⟨.inr rfl, (), rfl, rfl, rfl, rfl⟩
  · have := of_decide_eq_false hb
    omega
/-! ### threads -/
def topA (t : ThA) (fg : Nat) : Option Addr := if t.l.length = 0 then none else some ⟨fg, (t.l.length - 1) * 4, none⟩
@[reducible] def topV (t : ThA) (fg : Nat) : Value := .pointer (topA t fg)
theorem Quiet.ixFr {P : Program} {C : Ctx} {t : List AV} {h : List ABlk} {o : Oper} {ty : TypeId} {x y : Operand} {ik : IntKind} {g n c k : Nat} {z : Int} [ES P ty 4] (ho : o.op = .indexAddr ty x y) (hx : evA t x = .lit (slV g n c)) (hy : evA t y = .lit (.int ik z)) (hz : z = (k : Int)) (hk : k < n) : Quiet P C t h o (.lit (ptV g (k * 4))) := by
  subst hz
  have := Quiet.ixl (P := P) (n := 4) (C := C) (h := h) (k := k) ho hx hy hk
  rwa [Nat.zero_add] at this
set_option maxRecDepth 100000 in
theorem top_fn (p : Prog) (m : MdA) (tg ti : Nat) (t0 : ThA) (fg c : Nat) (hv : TV m tg) (ht : m.ths[ti]? = some t0) (hc : t0.cv = slV fg t0.l.length c) (hl : t0.l.length ≤ 4611686018427387904) : FnTurnS Tryz.prog 84 (modR p m) [.lit (ptV tg ti)] (fun _ : Unit => modR p m) (fun _ => .lit (topV t0 fg)) := by
  haveI hT : TI m ti t0 := ⟨ht⟩
  refine FnTurnS.of_awp Tryz.func84 rfl (by kernel_rfl) rfl Tryz.ntmps84 rfl fun C => ?_
  refine nS (hk := ?_)
  refine wS (sT (wN ?_))
  refine Awp.seq fun K2 h2 => ?_
  refine wS (sT (sT (sT (sT ?_))))
  rw [hc]
  refine sT (sT (wN ?_))
  refine Awp.cond rfl (fun hb => ?_) (fun hb => ?_)
  · refine wS (sT (wN ?_))
    refine Awp.ret ⟨.inr rfl, (), rfl, rfl, ?_, ?_⟩
    · have : t0.l.length = 0 := by simpa using hb
      unfold topV topA
      rw [if_pos this]
      rfl
    · rfl
  · have hne : t0.l.length ≠ 0 := by simpa using hb
    have hw : IntKind.i64.wrap ((t0.l.length : Int) - 1) = ((t0.l.length - 1 : Nat) : Int) := by rw [IntWalk.i64_in _ (by omega)]; omega
    refine Awp.skip (h2 _ ?_)
    refine dS 12 (hq := qT (qT (qT (qT ?_))))
    rw [hc]
    refine qT (qT (qT (qT ?_)))
    rw [hc]
    refine qT (qT ?_)
    refine qH (Quiet.ixFr rfl rfl rfl hw (by omega)) (qT (qN (wN ?_)))
    refine Awp.ret ⟨.inr rfl, (), rfl, rfl, ?_, rfl⟩
    unfold topV topA
    rw [if_neg hne]
    rfl
/-! ### pop -/
theorem all_mono {l : List Res} {k : Nat} {A A' : Res} (hk : l[k]? = some A) (hF : ∀ g, A'.F g → A.F g) (hR : ∀ w S, A.R w S → A'.R w S) : (∀ g, (Res.all (l.set k A')).F g → (Res.all l).F g) ∧ ∀ w S, (Res.all l).R w S → (Res.all (l.set k A')).R w S := by
  have hkl := (List.getElem?_eq_some_iff.1 hk).1
  have hset : ∀ (i : Nat) (B : Res), (l.set k A')[i]? = some B → ∃ B0, l[i]? = some B0 ∧ (∀ g, B.F g → B0.F g) ∧ ∀ w S, B0.R w S → B.R w S := fun i B hB => by
    by_cases e : i = k
    · subst e
      rw [List.getElem?_set_self hkl] at hB
      cases hB
      exact ⟨A, hk, hF, hR⟩
    · rw [List.getElem?_set_ne (Ne.symm e)] at hB
      exact ⟨B, hB, fun _ h => h, fun _ _ h => h⟩
  refine ⟨fun g ⟨B, hB, hg⟩ => ?_, fun w S ⟨h1, h2⟩ => ⟨fun B hB => ?_, fun i j B1 B2 hij h3 h4 g hg => ?_⟩⟩
  · obtain ⟨i, hi⟩ := List.getElem?_of_mem hB
    obtain ⟨B0, k1, k2, _⟩ := hset i B hi
    exact ⟨B0, List.mem_of_getElem? k1, k2 g hg⟩
  · obtain ⟨i, hi⟩ := List.getElem?_of_mem hB
    obtain ⟨B0, k1, _, k3⟩ := hset i B hi
    exact k3 w S (h1 B0 (List.mem_of_getElem? k1))
  · obtain ⟨C1, a1, a2, _⟩ := hset i B1 h3
    obtain ⟨C2, b1, b2, _⟩ := hset j B2 h4
    exact fun hg2 => h2 i j C1 C2 hij a1 b1 g (a2 g hg) (b2 g hg2)
theorem row_pop {g n c : Nat} {e : TypeId} {α : Type} {T : Ty α} {l : List α} {w : World} {S : Nat → Prop} (hn : l.length = n) (H : (rowR (slV g n c) e T l).R w S) : (rowR (slV g (n - 1) c) e T l.dropLast).R w S := by
  subst hn
  obtain ⟨cur, hg, hnc, hcm, hsz, h0, hE⟩ := rowL_cells H
  have := rowL_of (g := g) (c := c) (e := e) (T := T) (l := l.dropLast) hg (by rw [List.length_dropLast]; omega) hcm hsz h0 fun i d hd => hE i d (by
    rw [List.getElem?_dropLast] at hd
    split at hd
    · exact hd
    · cases hd)
  unfold rowL at this
  rw [List.length_dropLast] at this
  exact this
def ThA.pop (t0 : ThA) (fg c : Nat) : ThA := ⟨slV fg (t0.l.length - 1) c, slV fg (t0.l.length - 1) c, t0.l.dropLast⟩
theorem St.le_popM {C : Ctx} {t : List AV} {h : List ABlk} {i ti fg c : Nat} {p : Prog} {m : MdA} {t0 : ThA} (hi : h[i]? = some (.res (modR p m))) (ht : m.ths[ti]? = some t0) (hc : t0.cv = slV fg (t0.l.length - 1) c) (hv : t0.fv = slV fg t0.l.length c) : St.le C ⟨t, h⟩ ⟨t, h.set i (.res (modR p (m.upT ti (t0.pop fg c))))⟩ := by
  have hm := all_mono (A' := thR (t0.pop fg c)) (modL_th (p := p) ht) (fun g ⟨A, hA, hg⟩ => ?_) fun w S ⟨h1, h2⟩ => ⟨fun A hA => ?_, fun i j A B hij hA hB g hg => ?_⟩
  · rw [modL_upT ht (by rw [hc]; rfl)] at hm
    exact St.le_res hi hm.1 hm.2 rfl
  · rcases List.mem_cons.1 hA with rfl | hA
    · refine ⟨_, List.mem_cons_self .., ?_⟩
      show blkOf t0.fv = some g
      rw [hv]
      exact hg
    · obtain ⟨q, hq, rfl⟩ := List.mem_map.1 hA
      exact ⟨rgR q, List.mem_cons_of_mem _ (List.mem_map.2 ⟨q, List.dropLast_subset _ hq, rfl⟩), hg⟩
  · rcases List.mem_cons.1 hA with rfl | hA
    · have := h1 _ (List.mem_cons_self ..)
      rw [hv] at this
      have := row_pop (n := t0.l.length) (by rw [List.length_map]) this
      show (rowR (slV fg (t0.l.length - 1) c) 91 (tCl 3) (t0.l.dropLast.map frC)).R w S
      rw [List.map_dropLast]
      exact this
    · obtain ⟨q, hq, rfl⟩ := List.mem_map.1 hA
      exact h1 _ (List.mem_cons_of_mem _ (List.mem_map.2 ⟨q, List.dropLast_subset _ hq, rfl⟩))
  · have key : ∀ (i : Nat) (A : Res), (thL (t0.pop fg c))[i]? = some A → ∃ A0, (thL t0)[i]? = some A0 ∧ ∀ g, A.F g → A0.F g := fun i A hA => by
      cases i with
      | zero =>
        cases hA
        refine ⟨_, rfl, fun g hg => ?_⟩
        show blkOf t0.fv = some g
        rw [hv]
        exact hg
      | succ i =>
        refine ⟨A, ?_, fun _ h => h⟩
        have hA : (t0.l.dropLast.map rgR)[i]? = some A := hA
        show (t0.l.map rgR)[i]? = some A
        rw [List.getElem?_map, List.getElem?_dropLast] at hA
        rw [List.getElem?_map]
        split at hA
        · exact hA
        · cases hA
    obtain ⟨A0, a1, a2⟩ := key i A hA
    obtain ⟨B0, b1, b2⟩ := key j B hB
    exact fun hg2 => h2 i j A0 B0 hij a1 b1 g (a2 g hg) (b2 g hg2)
section
variable {P : Program} {C : Ctx} {t : List AV} {h : List ABlk} {o : Oper} {K : St → Prop}
/-- a thread's cell is written -/
theorem AOp.stMT {ty : TypeId} {x y : Operand} {i ti tg : Nat} {p : Prog} {m : MdA} {t0 : ThA} {u : Value} [SZ P ty 1] (ho : o.op = .store ty x y) (hx : evA t x = .lit (ptV tg ti)) (hy : evA t y = .lit u) (hi : h[i]? = some (.res (modR p m))) (hT : TV m tg) (ht : m.ths[ti]? = some t0) (h1 : u.oneCell' = true)
    (hK : K ⟨putA t o.dst (.lit undef), h.set i (.res (modR p (m.upT ti { t0 with cv := u }))) ++ [.dead]⟩) : AOp P C o ⟨t, h⟩ K := by
  obtain ⟨c, hv⟩ := hT.e
  have hlen : m.ths.length = (m.ths.map fun t => [Cl.v t.cv]).length := (List.length_map _).symm
  refine AOp.inAll (ι := Unit) (t' := fun _ => putA t o.dst (.lit undef)) (A' := fun _ => rowR m.tv 97 (tCl 0) ((m.ths.map fun t => [Cl.v t.cv]).set ti [.v u])) i 3 [] hi rfl rfl (fun _ => rfl) (fun h1' K' hn _ hK' => ?_) fun _ => ?_
  · have hK2 := hK' ()
    rw [List.append_nil, hv] at hK2
    rw [hv, hlen] at hn
    refine AOp.stRL (T := tCl 0) (k := ti) (j := 0) (d := [Cl.v t0.cv]) [.v u] ho hx hn (by rw [List.getElem?_map, ht]; rfl) (by show _ = ti * 1 + 0; omega) (by rw [hy]; exact RowUpd.cl (d := [Cl.v t0.cv]) (.v u) (One.lit h1) (by decide)) ?_
    unfold rowL
    rw [List.length_set, ← hlen]
    exact hK2
  · have e : (modL p m).set 3 (rowR m.tv 97 (tCl 0) ((m.ths.map fun t => [Cl.v t.cv]).set ti [.v u])) = modL p (m.upT ti { t0 with cv := u }) := by
      unfold modL MdA.upT
      show _ :: _ :: _ :: _ :: m.ths.map thR = _ :: _ :: _ :: rowR m.tv 97 (tCl 0) ((m.ths.set ti { t0 with cv := u }).map fun t => [Cl.v t.cv]) :: (m.ths.set ti { t0 with cv := u }).map thR
      rw [List.map_set, List.map_set, show thR { t0 with cv := u } = thR t0 from rfl, set_at (by rw [List.getElem?_map, ht]; rfl : (m.ths.map thR)[ti]? = some (thR t0))]
    rw [e]
    exact hK
/-- a thread's last frame goes -/
theorem AOp.popM {ty : TypeId} {x y : Operand} {i ti tg fg c : Nat} {p : Prog} {m : MdA} {t0 : ThA} [SZ P ty 1] (ho : o.op = .store ty x y) (hx : evA t x = .lit (ptV tg ti)) (hy : evA t y = .lit (slV fg (t0.l.length - 1) c)) (hi : h[i]? = some (.res (modR p m))) (hT : TV m tg) (ht : m.ths[ti]? = some t0) (hf : t0.fv = slV fg t0.l.length c)
    (hK : K ⟨putA t o.dst (.lit undef), h.set i (.res (modR p (m.upT ti (t0.pop fg c)))) ++ [.dead]⟩) : AOp P C o ⟨t, h⟩ K := by
  have htl := (List.getElem?_eq_some_iff.1 ht).1
  have hil := (List.getElem?_eq_some_iff.1 hi).1
  refine AOp.post hK (AOp.stMT ho hx hy hi hT ht rfl ?_)
  have e : m.upT ti (t0.pop fg c) = (m.upT ti { t0 with cv := slV fg (t0.l.length - 1) c }).upT ti (ThA.pop { t0 with cv := slV fg (t0.l.length - 1) c } fg c) := by
    unfold MdA.upT
    rw [List.set_set]
    rfl
  have := St.le_popM (C := C) (t := putA t o.dst (.lit undef)) (h := h.set i (.res (modR p (m.upT ti { t0 with cv := slV fg (t0.l.length - 1) c }))) ++ [.dead]) (i := i) (ti := ti) (fg := fg) (c := c) (t0 := { t0 with cv := slV fg (t0.l.length - 1) c }) (by rw [List.getElem?_append_left (by simpa using hil), List.getElem?_set_self hil]) (by unfold MdA.upT; exact List.getElem?_set_self htl) rfl hf
  rw [← e, List.set_append_left _ _ (by simpa using hil), List.set_set] at this
  exact this
end
set_option maxRecDepth 100000 in
theorem pop_fn (p : Prog) (m : MdA) (tg ti : Nat) (t0 : ThA) (fg c : Nat) (hv : TV m tg) (ht : m.ths[ti]? = some t0) (hc : t0.cv = slV fg t0.l.length c) (hf : t0.fv = slV fg t0.l.length c) (hn : t0.l ≠ []) (hlc : t0.l.length ≤ c) (hl : t0.l.length ≤ 4611686018427387904) : FnTurnS Tryz.prog 166 (modR p m) [.lit (ptV tg ti)] (fun _ : Unit => modR p (m.upT ti (t0.pop fg c))) (fun _ => .lit (.tuple #[])) := by
  haveI hT : TI m ti t0 := ⟨ht⟩
  have hpos := List.length_pos_iff.2 hn
  have hw : IntKind.i64.wrap ((t0.l.length : Int) - 1) = ((t0.l.length - 1 : Nat) : Int) := by rw [IntWalk.i64_in _ (by omega)]; omega
  refine FnTurnS.of_awp0 Tryz.func166 rfl (by kernel_rfl) rfl Tryz.ntmps166 rfl (fun _ => rfl) fun C => ?_
  refine nS (hk := ?_)
  refine dSE 14 (hq := qT (qT (qT (qT (qT ?_)))))
  rw [hc]
  refine qT (qT (qT (qT ?_)))
  rw [hc]
  refine qT (qT ?_)
  refine qH (Quiet.slPre (m := t0.l.length - 1) rfl rfl ⟨.i64, by show AV.lit (.int .i64 (IntKind.i64.wrap ((t0.l.length : Int) - 1))) = _; rw [hw]⟩ (by omega)) (qT (qT (qN ?_)))
  refine aSeq_t rfl (AOp.popM (i := 0) rfl rfl rfl rfl hv ht hf ?_)
  exact wN ⟨.inl rfl, (), rfl, rfl, trivial⟩
/-! ### runs -/
section
variable {P : Program} {C : Ctx} {t t' : List AV} {h : List ABlk} {ops : Array Oper} {rest : List Oper} {d : Option Nat} {ty : TypeId} {ps : String} {af : Array Go.Edge} {gd : Option (Nat × Bool)} {K : St → Prop}
/-- an operation under a guard that holds -/
theorem sTg {op : Op} {r : AV} [QG P C t h op true r] [PA t d r t'] (hk : aSeq P C ops K rest ⟨t', h⟩) (hg : gA ops t ⟨d, op, ty, ps, af, gd⟩ = some true := by rfl) : aSeq P C ops K (⟨d, op, ty, ps, af, gd⟩ :: rest) ⟨t, h⟩ := sA (hg := hg) (hq := QG.e d ty ps af gd rfl) (ht := PA.e) (hk := hk)
theorem sHg {op : Op} {r : AV} (hq : Quiet P C t h ⟨d, op, ty, ps, af, gd⟩ r) [PA t d r t'] (hk : aSeq P C ops K rest ⟨t', h⟩) (hg : gA ops t ⟨d, op, ty, ps, af, gd⟩ = some true := by rfl) : aSeq P C ops K (⟨d, op, ty, ps, af, gd⟩ :: rest) ⟨t, h⟩ := sA (hg := hg) (hq := hq) (ht := PA.e) (hk := hk)
end
set_option maxRecDepth 100000 in
theorem runs_fn (p : Prog) (m : MdA) (tg c : Nat) (hc : m.tc = slV tg m.ths.length c) (hn : 0 < m.ths.length) : FnTurnS Tryz.prog 47 (modR p m) [.lit (ptV m.g 0)] (fun _ : Unit => modR p m) (fun _ => .lit (.bool (m.kind == 0))) := by
  refine FnTurnS.of_awp Tryz.func47 rfl (by kernel_rfl) rfl Tryz.ntmps47 rfl fun C => ?_
  refine nS (hk := ?_)
  refine wS (sT (wN ?_))
  refine wS (sT (sT (sT ?_)))
  refine sTg (sTg (sTg (sTg ?_)))
  rw [hc]
  refine sTg (sTg ?_)
  rw [show decide ((m.ths.length : Int) > 0) = true from decide_eq_true (by omega)]
  refine sH (Quiet.pick rfl rfl rfl) (sT ?_)
  refine sTg (sTg (sTg (sTg (sTg (sTg ?_)))))
  refine sH (Quiet.pick rfl rfl rfl) (sT (wN ?_))
  exact Awp.ret ⟨.inr rfl, (), rfl, rfl, rfl, rfl⟩
end Mu
end
section
/-
  Regions that draw their order, in which addresses are reckoned whenever; what does not look at memory comes first.
  Conditions: none; generic.
-/
namespace Mu
open Go Go.RowKit

section
variable {P : Program} {C : Ctx} {ops : Array Oper} {h : List ABlk}
/-- an operation that does not look at memory -/
def PureO (P : Program) (t : List AV) (o : Oper) (r : AV) : Prop := o.guard = none ∧ ∀ (a : Act) (w : World) (S : Nat → Prop) (h : List ABlk) (ψ : Nat → Value), AV.relL w S h ψ t a.tmps.toList → ∃ v, (∀ w', (execOp a.eval o).run P w' = .ok (.value v) w') ∧ AV.rel w S h ψ r v
def pureL (P : Program) (ops : Array Oper) : List Nat → List AV → List AV → Prop
  | [], t, t' => t = t'
  | i :: is, t, t' => ∃ o r, ops[i]? = some o ∧ PureO P t o r ∧ pureL P ops is (putA t o.dst r) t'
theorem wpAny_pure {Q : Exit → Act → World → Prop} (hsel : Region.noSelect ops = true) (hQ : ∀ c a w, ¬ Q (.panic c) a w) : ∀ (is : List Nat) (fuel : Nat) (listed : Array Bool) (t t' : List AV) (a : Act) (w : World), freeB ops is listed = true → pureL P ops is t t' → St.rel C ⟨t, h⟩ a w →
    (∀ a' , St.rel C ⟨t', h⟩ a' w → wpAny P .any ops Q fuel (setAll is listed) a' w) → wpAny P .any ops Q (fuel + is.length) listed a w
  | [], fuel, listed, t, t', a, w, _, hm, H, hk => by
    have hm : t = t' := hm
    subst hm
    exact hk a H
  | i :: is, fuel, listed, t, t', a, w, hB, hm, H, hk => by
    obtain ⟨o, r, ho, ⟨hg, hp⟩, hm⟩ := hm
    simp only [freeB, Bool.and_eq_true] at hB
    obtain ⟨⟨hr, hf⟩, hB'⟩ := hB
    obtain ⟨hd, S, ψ, hh, hl⟩ := id H
    obtain ⟨v, hv, hrel⟩ := hp a w S h ψ hl
    have hy : Yields P ops o v a := .inl ⟨by unfold Region.wanted; rw [hg], hv⟩
    rw [show fuel + (i :: is).length = (fuel + is.length) + 1 from by simp; omega]
    refine wpAny_take ho hsel hf hr (fun c a w hq => absurd hq (hQ c _ w)) hy ?_
    exact wpAny_pure hsel hQ is fuel _ _ t' _ w hB' hm ⟨by rw [put_defers]; exact hd, S, ψ, hh, put_rel hl o.dst hrel⟩ hk
def ClosedL (ops : Array Oper) (listed : Array Bool) : Prop := ∀ j oj, ops[j]? = some oj → listed.getD j false = true → ∀ e ∈ oj.after, Region.binds .any e = true → listed.getD e.on false = true
theorem ClosedL.set {listed : Array Bool} {i : Nat} (inv : ClosedL ops listed) (hi : i ∈ Region.ready .any ops listed) : ClosedL ops (listed.setIfInBounds i true) := by
  obtain ⟨_, oi, hoi, hall⟩ := mem_ready.1 hi
  intro j oj hj hl e he hb
  by_cases hij : i = j
  · subst hij
    have : oj = oi := Option.some.inj (hj.symm.trans hoi)
    subst this
    exact getD_set_true (hall e he hb)
  · rw [getD_set_ne false hij] at hl
    exact getD_set_true (inv j oj hj hl e he hb)
theorem waitB_closed {listed : Array Bool} (inv : ClosedL ops listed) : ∀ (f j i : Nat), (∀ oj, ops[j]? = some oj → ∀ e ∈ oj.after, Region.binds .any e = true → listed.getD e.on false = true) → waitB ops f j i = true → listed.getD i false = true
  | 0, j, i, _, h => by cases h
  | f + 1, j, i, hj, h => by
    unfold waitB at h
    cases ho : ops[j]? with
    | none => rw [ho] at h; cases h
    | some oj =>
      rw [ho] at h
      obtain ⟨e, he, hb⟩ := Array.any_eq_true'.1 h
      simp only [Bool.and_eq_true, Bool.or_eq_true, beq_iff_eq] at hb
      have hl := hj oj ho e he hb.1
      rcases hb.2 with h1 | h1
      · rw [← h1]; exact hl
      · exact waitB_closed inv f e.on i (fun oj' ho' e' he' hb' => inv e.on oj' ho' hl e' he' hb') h1
theorem closed_all : ∀ (fs : List Nat) (listed : Array Bool), ClosedL ops listed → freeB ops fs listed = true → ClosedL ops (setAll fs listed)
  | [], listed, inv, _ => inv
  | i :: fs, listed, inv, hB => by
    simp only [freeB, Bool.and_eq_true] at hB
    exact closed_all fs _ (inv.set (by simpa using hB.1.1)) hB.2
theorem free_lt : ∀ (fs : List Nat) (listed : Array Bool), freeB ops fs listed = true → ∀ j ∈ fs, j < ops.size
  | [], _, _, j, hj => by cases hj
  | i :: fs, listed, hB, j, hj => by
    simp only [freeB, Bool.and_eq_true] at hB
    rcases List.mem_cons.1 hj with rfl | hj
    · have h1 : j ∈ Region.ready .any ops listed := by simpa using hB.1.1
      obtain ⟨_, o, ho, _⟩ := mem_ready.1 h1
      exact (Array.getElem?_eq_some_iff.1 ho).1
    · exact free_lt fs _ hB.2 j hj
def regH (ops : Array Oper) (n : Nat) (fs is : List Nat) : Bool :=
  (Region.noSelect ops && noDefer ops) && decide (fs.length + is.length ≤ ops.size) && freeB ops fs (Array.replicate ops.size false) && ordB ops n is (setAll fs (Array.replicate ops.size false)) && ((List.range ops.size).all fun t => decide (t < n) || fs.contains t || (List.range n).all fun i => fs.contains i || waitB ops ops.size t i)
end
theorem Awp.drawH {P : Program} {C : Ctx} {id : Nat} {l : List Oper} {Q : Exit → St → Prop} {s : St} (n : Nat) (fs is : List Nat) {t1 : List AV} (hm : P.follows .mixedOrders = true) (hB : regH l.toArray n fs is = true) (hmv : pureL P l.toArray fs s.t t1)
    (hh : aQo P C l.toArray s.h (fun t => tAny P C .any l.toArray (Q .normal) (l.length - (fs.length + is.length)) (setAll is (setAll fs (Array.replicate l.length false))) ⟨t, s.h⟩) is t1) : Awp P C (.region id l.toArray true) Q s := fun a w H => by
  simp only [regH, Bool.and_eq_true, decide_eq_true_eq] at hB
  obtain ⟨⟨⟨⟨⟨hsel, hnd⟩, hn⟩, hfree⟩, hord⟩, hs⟩ := hB
  have inv0 : ClosedL l.toArray (Array.replicate l.toArray.size false) := fun j oj _ hl => by rw [getD_replicate_false] at hl; cases hl
  let Inv : Array Bool → Prop := fun listed => ClosedL l.toArray listed ∧ ∀ j ∈ fs, listed.getD j false = true
  have hset : ∀ listed i, Inv listed → i ∈ Region.ready .any l.toArray listed → i < n → Inv (listed.setIfInBounds i true) := fun listed i inv hr hi => ⟨inv.1.set hr, fun j hj => getD_set_true (inv.2 j hj)⟩
  have htail : ∀ (listed : Array Bool) (i : Nat), Inv listed → i < n → listed.getD i true = false → ∀ t, n ≤ t → t ∉ Region.ready .any l.toArray listed := by
    intro listed i inv hi hun t ht hr
    obtain ⟨hunt, ot, hot, hall⟩ := mem_ready.1 hr
    have htlt : t < l.toArray.size := (Array.getElem?_eq_some_iff.1 hot).1
    have h1 := List.all_eq_true.1 hs t (List.mem_range.2 htlt)
    simp only [Bool.or_eq_true, decide_eq_true_eq] at h1
    rcases h1 with (h1 | h1) | h1
    · omega
    · have := inv.2 t (by simpa using h1)
      rw [getD_both hunt] at this
      cases this
    · have h2 := List.all_eq_true.1 h1 i (List.mem_range.2 hi)
      simp only [Bool.or_eq_true] at h2
      rcases h2 with h2 | h2
      · have := inv.2 i (by simpa using h2)
        rw [getD_both hun] at this
        cases this
      · have h3 := waitB_closed inv.1 _ t i (fun oj hoj e he hb => by
          have : oj = ot := Option.some.inj (hoj.symm.trans hot)
          subst this
          exact hall e he hb) h2
        rw [getD_both hun] at h3
        cases h3
  have inv1 : Inv (setAll fs (Array.replicate l.toArray.size false)) := ⟨closed_all fs _ inv0 hfree, fun j hj => setAll_mem fs _ j hj (by
    have := free_lt fs _ hfree j hj
    simpa using this)⟩
  have HH := aAny_ord (P := P) (C := C) (h := s.h) (Inv := Inv) (Lq := fun t => tAny P C .any l.toArray (Q .normal) (l.length - (fs.length + is.length)) (setAll is (setAll fs (Array.replicate l.length false))) ⟨t, s.h⟩) hset htail is _ t1 inv1 hord hh
  have H' : St.rel C ⟨s.t, s.h⟩ a { w with drawn := w.drawn + 1 } := by
    obtain ⟨hd, S, ψ, hh', hl⟩ := H
    have hb : Below w.heap.size w { w with drawn := w.drawn + 1 } := ⟨rfl, rfl, rfl, Nat.le_refl _, fun _ _ => rfl⟩
    exact ⟨hd, S, ψ, hh'.grow hb (fun _ h => h) (fun _ h => .inl h) hh'.lt, AV.relL_ext (show Ext w S s.h ψ { w with drawn := w.drawn + 1 } S s.h ψ from Ext.grow s.h ψ (fun k hk => rfl) fun _ h => h) _ _ hl⟩
  refine fnc_region hm hnd ?_
  have key := wpAny_pure (P := P) (C := C) (h := s.h) (Q := fun e a' w' => e = .normal ∧ ∃ s', Q e s' ∧ s'.rel C a' w') hsel (fun c a w hq => by cases hq.1) fs (is.length + (l.length - (fs.length + is.length))) (Array.replicate l.toArray.size false) s.t t1 a { w with drawn := w.drawn + 1 } hfree hmv H' fun a' H'' =>
    wpAny_of_a (Q' := fun e a' w' => e = .normal ∧ ∃ s', Q e s' ∧ s'.rel C a' w') (g := l.length - (fs.length + is.length)) (fun listed t a' w' hL H' => by
      rw [hL.2.1]
      have := hL.2.2
      simp only [List.size_toArray] at this ⊢
      exact wpAny_of_tAny (fun s a w h H => ⟨rfl, s, h, H⟩) _ _ _ _ _ this H') _ _ _ _ _ HH H''
  have hn' : fs.length + is.length ≤ l.length := by simpa using hn
  rw [show is.length + (l.length - (fs.length + is.length)) + fs.length = l.toArray.size by simp; omega] at key
  exact key
/-! ### in few letters -/
class PU (P : Program) (t : List AV) (op : Op) (r : outParam AV) : Prop where
  e : ∀ (d : Option Nat) (ty : TypeId) (ps : String) (af : Array Go.Edge), PureO P t ⟨d, op, ty, ps, af, none⟩ r
section
variable {P : Program} {C : Ctx} {t t' t2 : List AV} {h : List ABlk} {ops : Array Oper} {is fs : List Nat} {i : Nat} {d : Option Nat} {ty : TypeId} {ps : String} {af : Array Go.Edge} {K : List AV → Prop}
instance inMuDrawH1 {x : Operand} {r : AV} [GA t x r] : PU P t (.move x) r := ⟨fun _ _ _ _ => ⟨rfl, fun a w S h ψ hl => ⟨a.eval x, fun w' => by simp [execOp], by rw [← GA.e (t := t) (x := x) (r := r)]; exact ev_rel hl x⟩⟩⟩
instance inMuDrawH3 {x : Operand} {g off : Nat} [GA t x (.lit (.pointer (some ⟨g, off, none⟩)))] : PU P t (.nilCheck x) (.lit (.pointer (some ⟨g, off, none⟩))) := ⟨fun _ _ _ _ => ⟨rfl, fun a w S h ψ hl => by
  have h1 := ev_rel hl x
  rw [GA.e (t := t) (x := x) (r := .lit (.pointer (some ⟨g, off, none⟩)))] at h1
  unfold AV.rel at h1
  exact ⟨.pointer (some ⟨g, off, none⟩), fun w' => by simp [execOp, h1], by unfold AV.rel; rfl⟩⟩⟩
instance inMuDrawH4 {st : TypeId} {x : Operand} {j n b off m : Nat} [FO P st j n] [GA t x (.lit (.pointer (some ⟨b, off, none⟩)))] [AD off n m] : PU P t (.fieldAddr st x j) (.lit (.pointer (some ⟨b, m, none⟩))) := ⟨fun _ _ _ _ => ⟨rfl, fun a w S h ψ hl => by
  have h1 := ev_rel hl x
  rw [GA.e (t := t) (x := x) (r := .lit (.pointer (some ⟨b, off, none⟩)))] at h1
  unfold AV.rel at h1
  rw [← AD.e (a := off) (b := n) (c := m)]
  exact ⟨.pointer (some ⟨b, off + n, none⟩), fun w' => by simp [execOp, h1, run_fieldAt (FO.eq (P := P) (st := st) (j := j) (n := n))], by unfold AV.rel; rfl⟩⟩⟩
theorem uN : pureL P ops [] t t := rfl
theorem uT {op : Op} {r : AV} [PU P t op r] [PA t d r t2] (hk : pureL P ops is t2 t') (ho : ops[i]? = some ⟨d, op, ty, ps, af, none⟩ := by (simp only [List.getElem?_toArray, List.getElem?_cons_succ, List.getElem?_cons_zero]; exact rfl)) : pureL P ops (i :: is) t t' :=
  ⟨_, r, ho, PU.e d ty ps af, by rw [PA.e (t := t) (d := d) (r := r) (t' := t2)]; exact hk⟩
theorem vN (hk : K t) : aQo P C ops h K [] t := hk
theorem vT {op : Op} {r : AV} [QI P C t h op r] [PA t d r t'] (hk : aQo P C ops h K is t') (ho : ops[i]? = some ⟨d, op, ty, ps, af, none⟩ := by (simp only [List.getElem?_toArray, List.getElem?_cons_succ, List.getElem?_cons_zero]; exact rfl)) : aQo P C ops h K (i :: is) t :=
  ⟨_, r, ho, .inl ⟨rfl, QI.e d ty ps af⟩, by rw [PA.e (t := t) (d := d) (r := r) (t' := t')]; exact hk⟩
theorem vH {op : Op} {r : AV} (hq : Quiet P C t h ⟨d, op, ty, ps, af, none⟩ r) [PA t d r t'] (hk : aQo P C ops h K is t') (ho : ops[i]? = some ⟨d, op, ty, ps, af, none⟩ := by (simp only [List.getElem?_toArray, List.getElem?_cons_succ, List.getElem?_cons_zero]; exact rfl)) : aQo P C ops h K (i :: is) t :=
  ⟨_, r, ho, .inl ⟨rfl, hq⟩, by rw [PA.e (t := t) (d := d) (r := r) (t' := t')]; exact hk⟩
end
section
variable {P : Program} {C : Ctx} {t t1 : List AV} {h : List ABlk} {l : List Oper} {y : Code} {Q : Exit → St → Prop} {id g : Nat}
theorem dHE (n : Nat) (fs is : List Nat) (hmv : pureL P l.toArray fs t t1) (hh : aQo P C l.toArray h (fun t => tAny P C .any l.toArray (Q .normal) g (setAll is (setAll fs (Array.replicate l.length false))) ⟨t, h⟩) is t1) (hg : l.length - (fs.length + is.length) = g := by exact rfl) (hm : P.follows .mixedOrders = true := by kernel_rfl) (hB : regH l.toArray n fs is = true := by kernel_rfl) : Awp P C (.region id l.toArray true) Q ⟨t, h⟩ := by
  subst hg
  exact Awp.drawH n fs is hm hB hmv hh
theorem dH (n : Nat) (fs is : List Nat) (hmv : pureL P l.toArray fs t t1) (hh : ∀ K : St → Prop, (∀ s, Awp P C y Q s → K s) → aQo P C l.toArray h (fun t => tAny P C .any l.toArray K g (setAll is (setAll fs (Array.replicate l.length false))) ⟨t, h⟩) is t1) (hg : l.length - (fs.length + is.length) = g := by exact rfl) (hm : P.follows .mixedOrders = true := by kernel_rfl) (hB : regH l.toArray n fs is = true := by kernel_rfl) : Awp P C (.seq (.region id l.toArray true) y) Q ⟨t, h⟩ :=
  Awp.seq fun K hK => dHE n fs is hmv (hh K hK) hg hm hB
end
section
variable {P : Program} {C : Ctx} {t t' : List AV} {h : List ABlk} {ops : Array Oper} {g : Nat} {d : Option Nat} {ty : TypeId} {ps : String} {af : Array Go.Edge} {K : St → Prop} {listed : Array Bool} {o : Oper}
/-- the only operation that may come next -/
theorem tA (i : Nat) (ha : AOp P C o ⟨t, h⟩ (tAny P C .any ops K g (listed.setIfInBounds i true))) (ho : ops[i]? = some o := by (simp only [List.getElem?_toArray, List.getElem?_cons_succ, List.getElem?_cons_zero]; exact rfl)) (hg : gA ops t o = some true := by rfl) (hr : Region.ready .any ops listed = [i] := by kernel_rfl) : tAny P C .any ops K (g + 1) listed ⟨t, h⟩ :=
  tAny_step [i] hr (by simp) (tAll_cons ho hg ha tAll_nil)
theorem tT (i : Nat) {op : Op} {r : AV} [QI P C t h op r] [PA t d r t'] (hk : tAny P C .any ops K g (listed.setIfInBounds i true) ⟨t', h⟩) (ho : ops[i]? = some ⟨d, op, ty, ps, af, none⟩ := by (simp only [List.getElem?_toArray, List.getElem?_cons_succ, List.getElem?_cons_zero]; exact rfl)) (hr : Region.ready .any ops listed = [i] := by kernel_rfl) : tAny P C .any ops K (g + 1) listed ⟨t, h⟩ :=
  tAny_step [i] hr (by simp) (tAll_cons ho rfl (AOp.q (QI.e d ty ps af) (by rw [PA.e (t := t) (d := d) (r := r) (t' := t')]; exact hk)) tAll_nil)
theorem tH (i : Nat) {op : Op} {r : AV} (hq : Quiet P C t h ⟨d, op, ty, ps, af, none⟩ r) [PA t d r t'] (hk : tAny P C .any ops K g (listed.setIfInBounds i true) ⟨t', h⟩) (ho : ops[i]? = some ⟨d, op, ty, ps, af, none⟩ := by (simp only [List.getElem?_toArray, List.getElem?_cons_succ, List.getElem?_cons_zero]; exact rfl)) (hr : Region.ready .any ops listed = [i] := by kernel_rfl) : tAny P C .any ops K (g + 1) listed ⟨t, h⟩ :=
  tAny_step [i] hr (by simp) (tAll_cons ho rfl (AOp.q hq (by rw [PA.e (t := t) (d := d) (r := r) (t' := t')]; exact hk)) tAll_nil)
end
end Mu
end
section
/-
  The flat model's instructions: konst, alu, mov, load, store, print, jmp, br.
  Conditions: the frame that runs is known.
-/
namespace Mu
open Go Go.RowKit Go.Proofs

/-- a frame of a thread -/
structure Cur (m : MdA) (ti fg k : Nat) (t0 : ThA) (q : FrA) : Prop where
  nrm : m.Nrm
  th : m.ths[ti]? = some t0
  fv : ∃ c, t0.fv = slV fg t0.l.length c
  fr : t0.l[k]? = some q
  i64 : q.fr.regs.length ≤ 4611686018427387904
/-- a model of such words -/
abbrev OutT (m : MdA) (s : Mdl) : Type := { m' : MdA // m'.Nrm ∧ m'.g = m.g ∧ m'.abs = s }
theorem MdA.Nrm.upF {m : MdA} {ti k : Nat} {t0 : ThA} {q' : FrA} (h : m.Nrm) (ht : m.ths[ti]? = some t0) : (m.upF ti t0 k q').Nrm := by
  refine ⟨h.out, h.tv, ?_, fun t htm => ?_⟩
  · obtain ⟨tg, c, e⟩ := h.tg
    exact ⟨tg, c, by show m.tv = slV tg (m.ths.set ti _).length c; rw [List.length_set]; exact e⟩
  · rcases List.mem_or_eq_of_mem_set htm with htm | rfl
    · exact h.th t htm
    · obtain ⟨h1, fg, c, h2⟩ := h.th t0 (List.mem_of_getElem? ht)
      exact ⟨h1, fg, c, by show t0.fv = slV fg (t0.l.set k q').length c; rw [List.length_set]; exact h2⟩
def setFr (s : Mdl) (ti k : Nat) (r : Fr) : Mdl := { s with ths := s.ths.set ti ((s.ths.getD ti []).set k r) }
theorem MdA.abs_upF {m : MdA} {ti k : Nat} {t0 : ThA} {q' : FrA} (ht : m.ths[ti]? = some t0) : (m.upF ti t0 k q').abs = setFr m.abs ti k q'.fr := by
  unfold MdA.abs setFr MdA.upF MdA.upT
  simp only
  rw [List.map_set, List.getD_eq_getElem?_getD, List.getElem?_map, ht]
  show Mdl.mk _ _ _ (List.set _ ti ((t0.l.set k q').map FrA.fr)) _ _ _ = _
  rw [List.map_set]
  rfl
theorem upF_upF {m : MdA} {ti k : Nat} {t0 : ThA} {q1 q2 : FrA} (ht : m.ths[ti]? = some t0) : (m.upF ti t0 k q1).upF ti (t0.upF k q1) k q2 = m.upF ti t0 k q2 := by
  unfold MdA.upF MdA.upT ThA.upF
  simp only [List.set_set]
theorem setFr_top {s : Mdl} {l : List Fr} {r : Fr} {k : Nat} (hl : s.ths[s.at_]? = some l) (hk : k + 1 = l.length) : setFr s s.at_ k r = setTop s r := by
  unfold setFr setTop putT thA
  rw [List.getD_eq_getElem?_getD, hl]
  show Mdl.mk _ _ _ (List.set _ _ (l.set k r)) _ _ _ = Mdl.mk _ _ _ (List.set _ _ (l.dropLast ++ [r])) _ _ _
  have : l.set k r = l.dropLast ++ [r] := by
    have hne : l ≠ [] := by
      intro e
      rw [e] at hk
      cases hk
    rw [← List.dropLast_concat_getLast hne]
    have hd : l.dropLast.length = k := by rw [List.length_dropLast]; omega
    rw [List.set_append_right _ _ (by rw [hd]; exact Nat.le_refl _), hd, Nat.sub_self]
    simp
  rw [this]
def Cur.out {m : MdA} {ti fg k : Nat} {t0 : ThA} {q : FrA} (h : Cur m ti fg k t0 q) (q' : FrA) : OutT m (setFr m.abs ti k q'.fr) := ⟨m.upF ti t0 k q', h.nrm.upF h.th, rfl, MdA.abs_upF h.th⟩
def okR (r : Fr) (z : Int) : Prop := 0 ≤ z ∧ z.toNat < r.regs.length
theorem okR.inZ {r : Fr} {z : Int} (h : okR r z) : inZ r.regs.length z = true := by
  unfold Mu.inZ
  rw [Bool.and_eq_true, decide_eq_true_eq, decide_eq_true_eq]
  exact h
/-- what an instruction does to a frame that has moved on already -/
def OpFn (f : FuncId) (p : Prog) (m : MdA) (fg k : Nat) (x : Ins) (s : Mdl) : Prop := FnTurnS Tryz.prog f (modR p m) [.lit (ptV m.g 0), .lit (ptV fg (k * 4)), .agg (encIns x)] (fun m' : OutT m s => modR p m'.1) (fun _ => .lit (.tuple #[]))
/-- .. that stands still -/
def OpFt (f : FuncId) (p : Prog) (m : MdA) (fg k : Nat) (x : Ins) (v : Int) : Prop := FnTurnS Tryz.prog f (modR p m) [.lit (ptV m.g 0), .lit (ptV fg (k * 4)), .agg (encIns x)] (fun _ : Unit => modR p { m with kind := 2, v := v }) (fun _ => .lit (.tuple #[]))
section
variable {p : Prog} {m : MdA} {ti fg k : Nat} {t0 : ThA} {q : FrA} {x : Ins}
section
variable {P : Program} {C : Ctx} {t t' : List AV} {h : List ABlk} {ops : Array Oper} {rest : List Oper} {d : Option Nat} {sty ty : TypeId} {ps : String} {af : Array Go.Edge} {K : St → Prop} {L : List AV → Prop} {y : Operand}
/-- a register is read -/
theorem Cur.ld {o : Oper} {n i : Nat} {z : Int} {lty : TypeId} [AG P lty false n] (hC : Cur m ti fg k t0 q) (ho : o.op = .load lty y) (hy : evA t y = .lit (ptV q.rg z.toNat)) (hi : h[i]? = some (.res (modR p m))) (hz : okR q.fr z) : Quiet P C t h o (.lit (.int .u32 (regA q.fr z))) :=
  Quiet.ldW (e := 38) (c := q.fr.regs.length) ho hy hi (fun w S H => mod_rg H hC.th hC.fr) hz.2
theorem Cur.wf (hC : Cur m ti fg k t0 q) {z : Int} (hz : okR q.fr z) {c : Code} {Q : Exit → St → Prop} (i : Nat) (hi : h[i]? = some (.res (modR p m))) (hk : wfI .u32 (regA q.fr z) → Awp P C c Q ⟨t, h⟩) : Awp P C c Q ⟨t, h⟩ := fun a w H => by
  obtain ⟨hd, S, ψ, HR, hl⟩ := id H
  exact hk (rowW_wf (mod_rg (HR.blk i _ hi).2 hC.th hC.fr) (getD_of hz.2)) a w H
end
theorem Cur.upF (hC : Cur m ti fg k t0 q) (q' : FrA) (hq : q'.fr.regs.length ≤ 4611686018427387904) : Cur (m.upF ti t0 k q') ti fg k (t0.upF k q') q' := ⟨hC.nrm.upF hC.th, by
  unfold MdA.upF MdA.upT
  exact List.getElem?_set_self (List.getElem?_eq_some_iff.1 hC.th).1, by
  obtain ⟨c, h⟩ := hC.fv
  exact ⟨c, by show t0.fv = slV fg (t0.l.set k q').length c; rw [List.length_set]; exact h⟩, List.getElem?_set_self (List.getElem?_eq_some_iff.1 hC.fr).1, hq⟩
theorem Awp.wfH {P : Program} {C : Ctx} {t : List AV} {h : List ABlk} {c : Code} {Q : Exit → St → Prop} {z : Int} (i : Nat) (hi : h[i]? = some (.res (modR p m))) (hz : z.toNat < m.heap.length) (hk : wfI .u32 (m.heap.getD z.toNat 0) → Awp P C c Q ⟨t, h⟩) : Awp P C c Q ⟨t, h⟩ := fun a w H => by
  obtain ⟨hd, S, ψ, HR, hl⟩ := id H
  exact hk (rowW_wf (mod_heap (HR.blk i _ hi).2) (getD_of hz)) a w H
theorem AOp.ov1 {P : Program} {C : Ctx} {t : List AV} {h : List ABlk} {o : Oper} {K : St → Prop} (i : Nat) (hi : h[i]? = some (.res (modR p m))) (hk : m.ov.oneCell' = true → AOp P C o ⟨t, h⟩ K) : AOp P C o ⟨t, h⟩ K := fun Q' a w H => by
  obtain ⟨hd, S, ψ, HR, hl⟩ := id H
  refine hk ?_ Q' a w H
  obtain ⟨cells, hown, _⟩ := mod_out (HR.blk i _ hi).2
  rcases hown.2 with ⟨e, _⟩ | ⟨_, _, _, e, _⟩ <;> rw [e] <;> rfl
set_option maxRecDepth 100000 in
theorem konst_fn (hC : Cur m ti fg k t0 q) (hz : okR q.fr x.d) (hn : wfI .u32 x.n) : OpFn 103 p m fg k x (setFr m.abs ti k ⟨q.fr.f, q.fr.b, q.fr.i, q.fr.regs.set x.d.toNat x.n⟩) := by
  haveI hT : TG m fg ti t0 := ⟨hC.th, hC.fv⟩
  haveI hQ : QK t0 k q := ⟨hC.fr⟩
  refine FnTurnS.of_awp0 Tryz.func103 rfl (by kernel_rfl) rfl Tryz.ntmps103 rfl (fun _ => rfl) fun C => ?_
  refine nS (hk := ?_)
  refine wS (sB (wN ?_))
  refine dSE 9 (hq := qT (qT (qT (qT (qT (qT (qT (qT ?_))))))))
  refine qI hz.inZ (qN ?_)
  refine aSeq_t rfl (AOp.stMR (i := 0) (z := x.d) rfl rfl rfl rfl hC.th hC.fr hz.2 hn ?_)
  exact wN ⟨.inl rfl, hC.out ⟨⟨q.fr.f, q.fr.b, q.fr.i, q.fr.regs.set x.d.toNat x.n⟩, q.rg⟩, rfl, rfl, trivial⟩
set_option maxRecDepth 100000 in
theorem mov_fn (hC : Cur m ti fg k t0 q) (hz : okR q.fr x.d) (ha : okR q.fr x.a) : OpFn 105 p m fg k x (setFr m.abs ti k ⟨q.fr.f, q.fr.b, q.fr.i, q.fr.regs.set x.d.toNat (regA q.fr x.a)⟩) := by
  haveI hT : TG m fg ti t0 := ⟨hC.th, hC.fv⟩
  haveI hQ : QK t0 k q := ⟨hC.fr⟩
  refine FnTurnS.of_awp0 Tryz.func105 rfl (by kernel_rfl) rfl Tryz.ntmps105 rfl (fun _ => rfl) fun C => ?_
  refine nS (hk := ?_)
  refine hC.wf ha 0 rfl fun hw => ?_
  refine wS (sB (wN ?_))
  refine dSE 15 (hq := (qT (qT (qT (qT (qT (qT (qT (qT (qT (qT (qT (qT ?_)))))))))))))
  refine qI ha.inZ (qH (hC.ld (i := 0) rfl rfl rfl ha) (qI hz.inZ (qN ?_)))
  refine aSeq_t rfl (AOp.stMR (i := 0) (z := x.d) rfl rfl rfl rfl hC.th hC.fr hz.2 hw ?_)
  exact wN ⟨.inl rfl, hC.out ⟨⟨q.fr.f, q.fr.b, q.fr.i, q.fr.regs.set x.d.toNat (regA q.fr x.a)⟩, q.rg⟩, rfl, rfl, trivial⟩
set_option maxRecDepth 100000 in
theorem jmp_fn (hC : Cur m ti fg k t0 q) (h1 : 0 ≤ x.l1) : OpFn 111 p m fg k x (setFr m.abs ti k ⟨q.fr.f, x.l1.toNat, 0, q.fr.regs⟩) := by
  haveI hT : TG m fg ti t0 := ⟨hC.th, hC.fv⟩
  haveI hQ : QK t0 k q := ⟨hC.fr⟩
  refine FnTurnS.of_awp0 Tryz.func111 rfl (by kernel_rfl) rfl Tryz.ntmps111 rfl (fun _ => rfl) fun C => ?_
  refine nS (hk := ?_)
  have hl := (List.getElem?_eq_some_iff.1 hC.fr).1
  have htl := (List.getElem?_eq_some_iff.1 hC.th).1
  refine wS (sB (wN ?_))
  refine wSE (sT (sT (sT (sT (sT (sT ?_))))))
  refine aSeq_t rfl (AOp.stMF (i := 0) (j := 1) (u := .int .i64 x.l1) ⟨⟨q.fr.f, x.l1.toNat, q.fr.i, q.fr.regs⟩, q.rg⟩ rfl rfl rfl rfl hT hC.fr rfl rfl (by decide) (by show [_, _, _, _] = [_, Cl.v (.int .i64 ((x.l1.toNat : Nat) : Int)), _, _]; rw [Int.toNat_of_nonneg h1]) rfl ?_)
  refine sNt (hk := sT (sT ?_))
  refine aSeq_t rfl (AOp.stMF (i := 0) (j := 2) (k := k) (u := .int .i64 0) ⟨⟨q.fr.f, x.l1.toNat, 0, q.fr.regs⟩, q.rg⟩ rfl rfl rfl rfl (inferInstance : TG (m.upF ti t0 k _) fg ti _) QK.e rfl rfl (by decide) rfl rfl ?_)
  refine wN ⟨.inl rfl, hC.out ⟨⟨q.fr.f, x.l1.toNat, 0, q.fr.regs⟩, q.rg⟩, rfl, ?_, trivial⟩
  exact congrArg (fun z => some (ABlk.res (modR p z))) (upF_upF hC.th)
set_option maxRecDepth 100000 in
theorem load_in_fn (hC : Cur m ti fg k t0 q) (hd : okR q.fr x.d) (ha : okR q.fr x.a) (hh : m.heap.length ≤ 4294967296) (hin : (regA q.fr x.a).toNat < m.heap.length) : OpFn 106 p m fg k x (setFr m.abs ti k ⟨q.fr.f, q.fr.b, q.fr.i, q.fr.regs.set x.d.toNat (m.heap.getD (regA q.fr x.a).toNat 0)⟩) := by
  haveI hT : TG m fg ti t0 := ⟨hC.th, hC.fv⟩
  haveI hQ : QK t0 k q := ⟨hC.fr⟩
  refine FnTurnS.of_awp0 Tryz.func106 rfl (by kernel_rfl) rfl Tryz.ntmps106 rfl (fun _ => rfl) fun C => ?_
  refine nS (hk := ?_)
  refine hC.wf ha 0 rfl fun hw => ?_
  refine Awp.wfH (m := m) 0 rfl hin fun hwh => ?_
  refine wS (sB (wN ?_))
  refine dS 9 (hq := (qT (qT (qT (qT (qT (qT (qT ?_))))))))
  refine qI ha.inZ (qH (hC.ld (i := 0) rfl rfl rfl ha) (qN ?_))
  refine aSeq_t rfl (AOp.callS (i := 0) rfl rfl (cell_in p m _ hw hin hh) (fun _ => rfl) rfl rfl (fun _ => rfl) fun _ => ?_)
  refine sNt (hk := sT (wN ?_))
  refine wS (sT (sT (wN ?_)))
  refine Awp.cond rfl (fun _ => ?_) (fun hb => by cases hb)
  refine dSE 10 (hq := (qT (qT (qT (qT (qT (qT (qT (qT ?_)))))))))
  refine qH (Quiet.ldW (i := 0) (e := 38) (c := m.heap.length) rfl rfl rfl (fun w S H => mod_heap H) hin) (qI hd.inZ (qN ?_))
  refine aSeq_t rfl (AOp.stMR (i := 0) (z := x.d) rfl rfl rfl rfl hC.th hC.fr hd.2 hwh ?_)
  exact wN ⟨.inl rfl, hC.out ⟨⟨q.fr.f, q.fr.b, q.fr.i, q.fr.regs.set x.d.toNat (m.heap.getD (regA q.fr x.a).toNat 0)⟩, q.rg⟩, rfl, rfl, trivial⟩
set_option maxRecDepth 100000 in
theorem load_out_fn (hC : Cur m ti fg k t0 q) (hd : okR q.fr x.d) (ha : okR q.fr x.a) (hh : m.heap.length ≤ 4294967296) (hin : ¬ (regA q.fr x.a).toNat < m.heap.length) : OpFt 106 p m fg k x 2 := by
  haveI hT : TG m fg ti t0 := ⟨hC.th, hC.fv⟩
  haveI hQ : QK t0 k q := ⟨hC.fr⟩
  refine FnTurnS.of_awp0 Tryz.func106 rfl (by kernel_rfl) rfl Tryz.ntmps106 rfl (fun _ => rfl) fun C => ?_
  refine nS (hk := ?_)
  refine hC.wf ha 0 rfl fun hw => ?_
  refine wS (sB (wN ?_))
  refine dS 9 (hq := (qT (qT (qT (qT (qT (qT (qT ?_))))))))
  refine qI ha.inZ (qH (hC.ld (i := 0) rfl rfl rfl ha) (qN ?_))
  refine aSeq_t rfl (AOp.callS (i := 0) rfl rfl (cell_out p m _ hw hin) (fun _ => rfl) rfl rfl (fun _ => rfl) fun _ => ?_)
  refine sNt (hk := sT (wN ?_))
  refine wS (sT (sT (wN ?_)))
  refine Awp.cond rfl (fun hb => by cases hb) (fun _ => ?_)
  exact Awp.skip ⟨.inl rfl, (), rfl, rfl, trivial⟩
set_option maxRecDepth 100000 in
theorem store_in_fn (hC : Cur m ti fg k t0 q) (hd : okR q.fr x.b) (ha : okR q.fr x.a) (hh : m.heap.length ≤ 4294967296) (hin : (regA q.fr x.a).toNat < m.heap.length) : OpFn 107 p m fg k x { m.abs with heap := m.heap.set (regA q.fr x.a).toNat (regA q.fr x.b) } := by
  haveI hT : TG m fg ti t0 := ⟨hC.th, hC.fv⟩
  haveI hQ : QK t0 k q := ⟨hC.fr⟩
  refine FnTurnS.of_awp0 Tryz.func107 rfl (by kernel_rfl) rfl Tryz.ntmps107 rfl (fun _ => rfl) fun C => ?_
  refine nS (hk := ?_)
  refine hC.wf ha 0 rfl fun hw => ?_
  refine hC.wf hd 0 rfl fun hwb => ?_
  refine wS (sB (wN ?_))
  refine dS 9 (hq := (qT (qT (qT (qT (qT (qT (qT ?_))))))))
  refine qI ha.inZ (qH (hC.ld (i := 0) rfl rfl rfl ha) (qN ?_))
  refine aSeq_t rfl (AOp.callS (i := 0) rfl rfl (cell_in p m _ hw hin hh) (fun _ => rfl) rfl rfl (fun _ => rfl) fun _ => ?_)
  refine sNt (hk := sT (wN ?_))
  refine wS (sT (sT (wN ?_)))
  refine Awp.cond rfl (fun _ => ?_) (fun hb => by cases hb)
  refine dSE 10 (hq := (qT (qT (qT (qT (qT (qT (qT ?_))))))))
  refine qI hd.inZ (qH (hC.ld (i := 0) rfl rfl rfl hd) (qT (qN ?_)))
  refine aSeq_t rfl (AOp.stMH (i := 0) rfl rfl rfl rfl hin hwb ?_)
  exact wN ⟨.inl rfl, ⟨{ m with heap := m.heap.set (regA q.fr x.a).toNat (regA q.fr x.b) }, ⟨hC.nrm.out, hC.nrm.tv, hC.nrm.tg, hC.nrm.th⟩, rfl, rfl⟩, rfl, rfl, trivial⟩
set_option maxRecDepth 100000 in
theorem store_out_fn (hC : Cur m ti fg k t0 q) (hd : okR q.fr x.b) (ha : okR q.fr x.a) (hh : m.heap.length ≤ 4294967296) (hin : ¬ (regA q.fr x.a).toNat < m.heap.length) : OpFt 107 p m fg k x 2 := by
  haveI hT : TG m fg ti t0 := ⟨hC.th, hC.fv⟩
  haveI hQ : QK t0 k q := ⟨hC.fr⟩
  refine FnTurnS.of_awp0 Tryz.func107 rfl (by kernel_rfl) rfl Tryz.ntmps107 rfl (fun _ => rfl) fun C => ?_
  refine nS (hk := ?_)
  refine hC.wf ha 0 rfl fun hw => ?_
  refine wS (sB (wN ?_))
  refine dS 9 (hq := (qT (qT (qT (qT (qT (qT (qT ?_))))))))
  refine qI ha.inZ (qH (hC.ld (i := 0) rfl rfl rfl ha) (qN ?_))
  refine aSeq_t rfl (AOp.callS (i := 0) rfl rfl (cell_out p m _ hw hin) (fun _ => rfl) rfl rfl (fun _ => rfl) fun _ => ?_)
  refine sNt (hk := sT (wN ?_))
  refine wS (sT (sT (wN ?_)))
  refine Awp.cond rfl (fun hb => by cases hb) (fun _ => ?_)
  exact Awp.skip ⟨.inl rfl, (), rfl, rfl, trivial⟩
set_option maxRecDepth 100000 in
theorem print_fn (hC : Cur m ti fg k t0 q) (ha : okR q.fr x.a) (ho : m.out.length ≤ 1073741824) : OpFn 109 p m fg k x { m.abs with out := m.out ++ [regA q.fr x.a] } := by
  haveI hT : TG m fg ti t0 := ⟨hC.th, hC.fv⟩
  haveI hQ : QK t0 k q := ⟨hC.fr⟩
  refine FnTurnS.of_awp0 Tryz.func109 rfl (by kernel_rfl) rfl Tryz.ntmps109 rfl (fun _ => rfl) fun C => ?_
  refine nS (hk := ?_)
  refine hC.wf ha 0 rfl fun hw => ?_
  refine wS (sB (wN ?_))
  refine dHE 14 [0] [1, 2, 3, 4, 5, 6, 7, 8, 9, 10, 11, 12, 13] (uT uN) (vT (vT (vT (vT ?_))))
  rw [hC.nrm.out]
  refine vT (vT (vT (vT (vT (vT ?_)))))
  refine vH (Quiet.ixRows rfl rfl rfl ha.inZ) (vH (hC.ld (i := 0) rfl rfl rfl ha) (vH (Quiet.lt1 (T := tW) (d := regA q.fr x.a) rfl rfl rfl rfl (by decide) (Fit.int hw)) (vN ?_)))
  refine tStep [14] (tC (AOp.apMO (l2 := [regA q.fr x.a]) (i := 0) rfl (by kernel_rfl : rowTy Tryz.prog 26 = some (38, tW.size, 4)) rfl rfl rfl (by unfold rowB maxLen; simp; omega) fun v' => ?_) tAll_nil)
  refine tNt (hk := tT 15 (tT 16 ?_))
  refine tStep [17] (tC (AOp.ov1 (m := { m with ov := v', out := m.out ++ [regA q.fr x.a] }) 0 rfl fun h1 => AOp.stMB (p := p) (m := { m with ov := v', out := m.out ++ [regA q.fr x.a] }) (i := 0) (new := [.lit v']) { m with oc := v', ov := v', out := m.out ++ [regA q.fr x.a] } rfl rfl rfl (fun _ => Parts.one (One.lit h1)) rfl rfl (Nat.le_of_ble_eq_true rfl) rfl ?_) tAll_nil)
  exact tDone ⟨.inl rfl, ⟨{ m with oc := v', ov := v', out := m.out ++ [regA q.fr x.a] }, ⟨rfl, hC.nrm.tv, hC.nrm.tg, hC.nrm.th⟩, rfl, rfl⟩, rfl, rfl, trivial⟩
set_option maxRecDepth 100000 in
theorem br_fn (hC : Cur m ti fg k t0 q) (h1 : 0 ≤ x.l1) (h2 : 0 ≤ x.l2) (ha : okR q.fr x.a) : OpFn 112 p m fg k x (setFr m.abs ti k ⟨q.fr.f, if regA q.fr x.a = 0 then x.l2.toNat else x.l1.toNat, 0, q.fr.regs⟩) := by
  haveI hT : TG m fg ti t0 := ⟨hC.th, hC.fv⟩
  haveI hQ : QK t0 k q := ⟨hC.fr⟩
  refine FnTurnS.of_awp0 Tryz.func112 rfl (by kernel_rfl) rfl Tryz.ntmps112 rfl (fun _ => rfl) fun C => ?_
  refine nS (hk := ?_)
  refine wS (sB (wN ?_))
  refine wS (sT (sT (sT (sT (sT (sT ?_))))))
  refine aSeq_t rfl (AOp.stMF (i := 0) (j := 1) (u := .int .i64 x.l1) ⟨⟨q.fr.f, x.l1.toNat, q.fr.i, q.fr.regs⟩, q.rg⟩ rfl rfl rfl rfl hT hC.fr rfl rfl (by decide) (by show [_, _, _, _] = [_, Cl.v (.int .i64 ((x.l1.toNat : Nat) : Int)), _, _]; rw [Int.toNat_of_nonneg h1]) rfl ?_)
  refine sNt (hk := sT (sT ?_))
  refine aSeq_t rfl (AOp.stMF (i := 0) (j := 2) (k := k) (u := .int .i64 0) ⟨⟨q.fr.f, x.l1.toNat, 0, q.fr.regs⟩, q.rg⟩ rfl rfl rfl rfl (inferInstance : TG (m.upF ti t0 k _) fg ti _) QK.e rfl rfl (by decide) rfl rfl ?_)
  rw [upF_upF hC.th]
  refine sNt (hk := wN ?_)
  have hC2 := hC.upF ⟨⟨q.fr.f, x.l1.toNat, 0, q.fr.regs⟩, q.rg⟩ hC.i64
  refine dS 9 (hq := (qT (qT (qT (qT (qT (qT ?_)))))))
  refine qI (n := q.fr.regs.length) ha.inZ (qH (hC2.ld (i := 0) rfl rfl rfl ha) (qT (qN (wN ?_))))
  refine Awp.cond rfl (fun hb => ?_) (fun hb => ?_)
  · have hb : (regA q.fr x.a == 0) = true := hb
    have h0 : regA q.fr x.a = 0 := by simpa using hb
    rw [if_pos h0]
    refine wSE (sT (sT (sT (sT (sT ?_)))))
    refine aSeq_t rfl (AOp.stMF (i := 0) (j := 1) (k := k) (u := .int .i64 x.l2) ⟨⟨q.fr.f, x.l2.toNat, 0, q.fr.regs⟩, q.rg⟩ rfl rfl rfl rfl (inferInstance : TG (m.upF ti t0 k _) fg ti _) QK.e rfl rfl (by decide) (by show [_, _, _, _] = [_, Cl.v (.int .i64 ((x.l2.toNat : Nat) : Int)), _, _]; rw [Int.toNat_of_nonneg h2]) rfl ?_)
    rw [upF_upF hC.th]
    exact wN ⟨.inl rfl, hC.out ⟨⟨q.fr.f, x.l2.toNat, 0, q.fr.regs⟩, q.rg⟩, rfl, rfl, trivial⟩
  · have hb : (regA q.fr x.a == 0) = false := hb
    have h0 : ¬ regA q.fr x.a = 0 := by simpa using hb
    rw [if_neg h0]
    exact Awp.skip ⟨.inl rfl, hC.out ⟨⟨q.fr.f, x.l1.toNat, 0, q.fr.regs⟩, q.rg⟩, rfl, rfl, trivial⟩
end
end Mu
end
section
/-
  The flat model: alu, the instruction at which a frame stands, a frame that is made.
  Conditions: the frame that runs is known.
-/
namespace Mu
open Go Go.RowKit Go.Proofs

theorem wrap_u8 {z : Int} (h0 : 0 ≤ z) (h1 : z ≤ 255) : IntKind.u8.wrap z = z := by
  have e : IntKind.u8.wrap z = z % 256 := by simp [IntKind.wrap, IntKind.signed, IntKind.bits]
  omega
section
variable {p : Prog} {m : MdA} {ti fg k : Nat} {t0 : ThA} {q : FrA} {x : Ins}
set_option maxRecDepth 100000 in
theorem alu_true (hC : Cur m ti fg k t0 q) (hd : okR q.fr x.d) (ha : okR q.fr x.a) (hb : okR q.fr x.b) (hn : 0 ≤ x.n ∧ x.n ≤ 255) {w : Int} (hw : wfI .u32 w) (hdo : Fn Tryz.prog 162 [.lit (.int .u8 x.n), .lit (.int .u32 (regA q.fr x.a)), .lit (.int .u32 (regA q.fr x.b))] (.tup [.lit (.int .u32 w), .lit (.bool true)])) : OpFn 104 p m fg k x (setFr m.abs ti k ⟨q.fr.f, q.fr.b, q.fr.i, q.fr.regs.set x.d.toNat w⟩) := by
  haveI hT : TG m fg ti t0 := ⟨hC.th, hC.fv⟩
  haveI hQ : QK t0 k q := ⟨hC.fr⟩
  refine FnTurnS.of_awp0 Tryz.func104 rfl (by kernel_rfl) rfl Tryz.ntmps104 rfl (fun _ => rfl) fun C => ?_
  refine nS (hk := ?_)
  refine wS (sB (wN ?_))
  refine dS 25 (hq := qT (qT ?_))
  refine qH (Quiet.cv rfl rfl (wrap_u8 hn.1 hn.2)) (qT (qT (qT (qT (qT (qT ?_))))))
  refine qI ha.inZ (qH (hC.ld (i := 0) rfl rfl rfl ha) (qT (qT (qT (qT (qT (qT ?_)))))))
  refine qI hb.inZ (qH (hC.ld (i := 0) rfl rfl rfl hb) (qC hdo (qT (qT (qT (qT (qT (qN (wN ?_)))))))))
  refine Awp.seq fun K3 h3 => ?_
  refine wS (sT (sT (wN ?_)))
  refine Awp.cond rfl (fun hb => by cases hb) (fun _ => ?_)
  refine Awp.skip (h3 _ ?_)
  refine dSE 8 (hq := (qT (qT (qT (qT (qT (qT (qT ?_))))))))
  refine qI hd.inZ (qN ?_)
  refine aSeq_t rfl (AOp.stMR (i := 0) (z := x.d) rfl rfl rfl rfl hC.th hC.fr hd.2 hw ?_)
  exact wN ⟨.inl rfl, hC.out ⟨⟨q.fr.f, q.fr.b, q.fr.i, q.fr.regs.set x.d.toNat w⟩, q.rg⟩, rfl, rfl, trivial⟩
set_option maxRecDepth 100000 in
theorem alu_false (hC : Cur m ti fg k t0 q) (hd : okR q.fr x.d) (ha : okR q.fr x.a) (hb : okR q.fr x.b) (hn : 0 ≤ x.n ∧ x.n ≤ 255) {w : Int} (hw : wfI .u32 w) (hdo : Fn Tryz.prog 162 [.lit (.int .u8 x.n), .lit (.int .u32 (regA q.fr x.a)), .lit (.int .u32 (regA q.fr x.b))] (.tup [.lit (.int .u32 w), .lit (.bool false)])) : OpFt 104 p m fg k x 1 := by
  haveI hT : TG m fg ti t0 := ⟨hC.th, hC.fv⟩
  haveI hQ : QK t0 k q := ⟨hC.fr⟩
  refine FnTurnS.of_awp0 Tryz.func104 rfl (by kernel_rfl) rfl Tryz.ntmps104 rfl (fun _ => rfl) fun C => ?_
  refine nS (hk := ?_)
  refine wS (sB (wN ?_))
  refine dS 25 (hq := qT (qT ?_))
  refine qH (Quiet.cv rfl rfl (wrap_u8 hn.1 hn.2)) (qT (qT (qT (qT (qT (qT ?_))))))
  refine qI ha.inZ (qH (hC.ld (i := 0) rfl rfl rfl ha) (qT (qT (qT (qT (qT (qT ?_)))))))
  refine qI hb.inZ (qH (hC.ld (i := 0) rfl rfl rfl hb) (qC hdo (qT (qT (qT (qT (qT (qN (wN ?_)))))))))
  refine Awp.seq fun K3 h3 => ?_
  refine wS (sT (sT (wN ?_)))
  refine Awp.cond rfl (fun _ => ?_) (fun hb => by cases hb)
  refine wS (sT ?_)
  refine aSeq_t rfl (AOp.callS (i := 0) rfl rfl (fault_fn p m 1) (fun _ => rfl) rfl rfl (fun _ => rfl) fun _ => ?_)
  refine sNt (hk := wN ?_)
  exact Awp.ret ⟨.inr rfl, (), rfl, rfl, trivial⟩
theorem inBn {α : Type} {l : List α} {k : Nat} (h : k < l.length) : inBd l (k : Int) = true := inB_iff.2 ⟨by omega, by rw [Int.toNat_natCast]; exact h⟩
set_option maxRecDepth 100000 in
theorem ins_fn (hC : Cur m ti fg k t0 q) (hf : FrOk p q.fr) : FnTurnS Tryz.prog 114 (modR p m) [.lit (ptV m.g 0), .lit (ptV fg (k * 4))] (fun _ : Unit => modR p m) (fun _ => .agg (encIns (insA p q.fr))) := by
  haveI hT : TG m fg ti t0 := ⟨hC.th, hC.fv⟩
  haveI hQ : QK t0 k q := ⟨hC.fr⟩
  refine FnTurnS.of_awpC Tryz.func114 rfl (by kernel_rfl) rfl (by kernel_rfl : aggT Tryz.prog 40 = some (true, 9)) Tryz.ntmps114 rfl fun C => ?_
  refine nS (hk := ?_)
  refine wS (sA0 (wN ?_))
  refine dS 25 (hq := (qT (qT (qT (qT (qT (qT (qT (qT (qT ?_))))))))))
  refine qX (inBn hf.f) (qT (qT (qT (qT (qT (qT ?_))))))
  refine qX (inBn hf.b) (qT (qT (qT (qT (qT (qT ?_))))))
  refine qX (inBn hf.i) (qT (qN ?_))
  refine sW (wN ?_)
  exact Awp.ret ⟨.inr rfl, (), rfl, rfl, 1, _, rfl, rfl, rfl, rfl, rfl⟩
end
/-- a row of zeros, where it lies -/
theorem AOp.mkW {P : Program} {C : Ctx} {t : List AV} {h : List ABlk} {o : Oper} {K : St → Prop} {ty : TypeId} {x y : Operand} {k k' : IntKind} {n : Nat} {e : TypeId} {z : Value} {bytes : Nat} {α : Type} {T : Ty α} (d : α) (ho : o.op = .makeSlice ty x y) (hz : zeroOne P ty = some (e, z, bytes)) (hT : T.size = 1) (hd0 : ∀ w S, T.RS w S [z] d)
    (hx : evA t x = .lit (.int k (n : Int))) (hy : evA t y = .lit (.int k' (n : Int))) (hb : bytes * n ≤ 281474976710656) (hn : n ≤ maxLen)
    (hK : ∀ g, K ⟨putA t o.dst (.lit (slV g n n)), h ++ [.res (rowR (slV g n n) e T (List.replicate n d))]⟩) : AOp P C o ⟨t, h⟩ K := by
  refine AOp.make_res (ι := Nat) (Rs := fun g => rowR (slV g n n) e T (List.replicate n d)) (val := fun g => slV g n n) (fun _ => rfl) (fun S ψ w ρ H hρ => ?_) hK
  have hx' := hρ x (by rw [ho]; simp [Op.operands])
  have hy' := hρ y (by rw [ho]; simp [Op.operands])
  rw [hx] at hx'
  rw [hy] at hy'
  unfold AV.rel at hx' hy'
  unfold zeroOne at hz
  split at hz <;> try (cases hz; done)
  rename_i e' h1
  obtain ⟨i, hi, h2⟩ := Option.bind_eq_some_iff.1 hz
  obtain ⟨z', hz', h3⟩ := Option.bind_eq_some_iff.1 h2
  split at h3 <;> try (cases h3; done)
  rename_i h4
  cases h3
  have hzc := cells_one h4.2
  have hrun := run_make_row' (P := P) ty e z i.bytes h1 (by rw [hi]; simp [hz', h4.1]) hzc k k' n hb (by unfold maxLen at hn; omega) w
  rw [made_rep1] at hrun
  have hbl := (Below.refl w.heap.size w).alloc (Nat.le_refl _) (.cells (List.replicate n z).toArray e)
  have he : (execOp ρ o).run P w = .ok (.value (slV w.heap.size n n)) (w.alloc (.cells (List.replicate n z).toArray e)) := by simp [execOp, ho, hx', hy', hrun]
  rw [he]
  refine ⟨⟨hbl.os, hbl.tape, hbl.output, hbl.size, fun k hk _ => hbl.block k hk⟩, w.heap.size, rfl, ?_, fun k hk => ?_⟩
  · have hlen : (List.replicate n d).length = n := List.length_replicate
    have := rowL_of (g := w.heap.size) (c := n) (e := e) (T := T) (l := List.replicate n d) (S := S) (heap_alloc_new w (.cells (List.replicate n z).toArray e)) (by rw [hlen]; exact Nat.le_refl _) hn (by rw [hT]; simp) (by rw [hT]; exact Nat.one_pos) fun j d' hj => by
      rw [hT, Nat.mul_one, List.drop_replicate]
      have hj2 := (List.getElem?_eq_some_iff.1 hj).1
      rw [hlen] at hj2
      rw [List.eq_of_mem_replicate (List.mem_of_getElem? hj), List.take_replicate, show min 1 (n - j) = 1 by omega]
      exact hd0 _ _
    unfold rowL at this
    rw [hlen] at this
    exact this
  · have hk : some w.heap.size = some k := hk
    cases hk
    exact ⟨.inr (Nat.le_refl _), by simp⟩
def frmR (p : Prog) (m : MdA) (n : Nat) (args : List Int) (rg : Nat) : Res := .all [modR p m, rowR (slV rg n n) 38 tW (args ++ (List.replicate n (0 : Int)).drop args.length)]
def frmV (f n rg : Nat) : List Value := [.int .i64 (f : Int), .int .i64 0, .int .i64 0, slV rg n n]
theorem plFrame : places? Tryz.prog 91 = some [(0, 1), (1, 1), (2, 1), (3, 1)] := by kernel_rfl
set_option maxRecDepth 100000 in
theorem frameOf_fn (p : Prog) (m : MdA) (f n : Nat) (args : List Int) (hf : f < p.funcs.length) (hn : (funA p f).regs = (n : Int)) (hn2 : n ≤ 65536) (ha : args.length ≤ n) : FnTurnS Tryz.prog 42 (modR p m) [.lit (ptV m.g 0), .lit (.int .i64 (f : Int)), .bs tW args] (frmR p m n args) (fun rg => .agg ((frmV f n rg).map .lit)) := by
  refine FnTurnS.of_awpC Tryz.func42 rfl (by kernel_rfl) rfl (by kernel_rfl : aggT Tryz.prog 91 = some (true, 4)) Tryz.ntmps42 rfl fun C => ?_
  refine nS (hk := ?_)
  refine wS (sA0 (wN ?_))
  refine wS (sT (sT (sT (sT (sT (sT (sT ?_)))))))
  refine sX (inBn hf) (sT (sT ?_))
  have e1 : ixD p.funcs (f : Int) = funA p f := rfl
  rw [e1, hn]
  refine aSeq_t rfl (AOp.mkW (T := tW) (0 : Int) (e := 38) (z := .int .u32 0) (bytes := 4) rfl (by kernel_rfl) rfl (fun w S => ⟨rfl, by decide⟩) rfl rfl (by omega) (by unfold maxLen; omega) fun rg => ?_)
  refine sNt (hk := sH (Quiet.bldP (rs := [.lit (.int .i64 (f : Int)), .lit (.int .i64 0), .lit (.int .i64 0), .lit (.slice (some ⟨rg, 0, none⟩) n n)]) rfl plFrame rfl rfl) ?_)
  refine sA0 (sW (wN ?_))
  refine wS (sT (sT (sT ?_)))
  refine aSeq_t rfl (AOp.cpL (i := 2) (T := tW) (l2 := args) rfl (one1_of_enc (enc := fun d => [.lit (.int .u32 d)]) EncOf.ok fun d x hx => by rw [List.mem_singleton.1 hx]; exact .inl ⟨_, rfl, rfl⟩) (by kernel_rfl : Tryz.prog.underlying 26 = some (.slice 38)) (by kernel_rfl) rfl rfl rfl rfl List.length_replicate ha ?_)
  refine sNt (hk := wN ?_)
  refine wS (sT (sW (wN ?_)))
  refine Awp.le (St.le_one 0 rfl) (Awp.le (St.le_push 0 2 (by decide) rfl rfl) ?_)
  exact Awp.ret ⟨.inr rfl, rg, rfl, rfl, 1, _, rfl, rfl, rfl, rfl, rfl⟩
end Mu
end
section
/-
  The flat model: the next thread is chosen.
  Conditions: one of the threads is not dead.
-/
namespace Mu
open Go Go.RowKit Go.Proofs

def liveK (s : Mdl) (k : Nat) : List Nat := (List.range k).filter fun t => !(s.ths.getD t []).isEmpty
theorem liveK_succ (s : Mdl) (k : Nat) : liveK s (k + 1) = liveK s k ++ if (s.ths.getD k []).isEmpty then [] else [k] := by
  unfold liveK
  rw [List.range_succ, List.filter_append]
  cases h : (s.ths.getD k []).isEmpty <;> simp only [List.filter_cons, h, List.filter_nil, Bool.not_true, Bool.not_false, if_true, if_false, Bool.false_eq_true]
theorem liveK_len (s : Mdl) (k : Nat) : (liveK s k).length ≤ k := by
  unfold liveK
  exact Nat.le_trans (List.length_filter_le _ _) (by simp)
theorem liveK_all (s : Mdl) : liveK s s.ths.length = liveT s := rfl
theorem wf_nat {k : Nat} (h : k ≤ 1073741824) : wfI .i64 (k : Int) := by
  simp [wfI, Lit.wf, IntKind.min, IntKind.max, IntKind.signed, IntKind.bits]
  omega
theorem wrap_k {k : Nat} (h : k ≤ 1073741824) : IntKind.i64.wrap ((k : Int) + 1) = ((k + 1 : Nat) : Int) := by rw [IntWalk.i64_in _ (by omega)]; rfl
theorem wrap_u32n {k : Nat} (h : k ≤ 1073741824) : IntKind.u32.wrap (k : Int) = (k : Int) := by
  have e : IntKind.u32.wrap (k : Int) = (k : Int) % 4294967296 := by simp [IntKind.wrap, IntKind.signed, IntKind.bits]
  omega
/-- a thread's frames, where the model has them -/
theorem MdA.getT {m : MdA} {ti : Nat} {t0 : ThA} (ht : m.ths[ti]? = some t0) : m.abs.ths.getD ti [] = t0.l.map FrA.fr := by
  rw [List.getD_eq_getElem?_getD]
  show ((m.ths.map fun t => t.l.map FrA.fr)[ti]?).getD [] = _
  rw [List.getElem?_map, ht]
  rfl
theorem row1 {n : Nat} (h : n ≤ 1073741824) : rowB (n + 1) 8 = true := by
  unfold rowB maxLen
  simp
  omega
def natI' (l : List Nat) : List Int := l.map fun k : Nat => (k : Int)
theorem Quiet.remNat {P : Program} {C : Ctx} {t : List AV} {h : List ABlk} {o : Oper} {xt yt : TypeId} {x y : Operand} {k : IntKind} {a b : Nat} (hb : 0 < b) (ho : o.op = .binOp .rem xt x y yt) (hx : evA t x = .lit (.int k (a : Int))) (hy : evA t y = .lit (.int k (b : Int))) : Quiet P C t h o (.lit (.int k ((a % b : Nat) : Int))) :=
  Quiet.remM (a := (a : Int)) (b := (b : Int)) ho hx hy (by simp; omega)
/-- a choice is used up -/
@[reducible] def MdA.tl (m : MdA) : MdA := { m with ch := m.ch.tail }
theorem MdA.tl_nil {m : MdA} (h : m.ch = []) : m.tl = m := by
  rcases m with ⟨g, hg, oc, ov, tc, tv, heap, out, ch, ths, at_, kind, v⟩
  obtain rfl : ch = [] := h
  rfl
def MdA.chosen (m : MdA) : MdA := { m with ch := m.ch.tail, at_ := (liveT m.abs).getD ((m.ch.headD 0).toNat % (liveT m.abs).length) 0 }
set_option maxRecDepth 100000 in
theorem choose_fn (p : Prog) (m : MdA) (hN : m.Nrm) (hl : liveT m.abs ≠ []) (hn : m.ths.length ≤ 1073741824) (hf : ∀ t ∈ m.ths, t.l.length ≤ 1073741824) (hc : ∀ c ∈ m.ch, wfI .u32 c) : FnTurnS Tryz.prog 165 (modR p m) [.lit (ptV m.g 0)] (fun _ : Unit => modR p m.chosen) (fun _ => .lit (.tuple #[])) := by
  obtain ⟨tg, tc, htv⟩ := hN.tg
  have htc : m.tc = slV tg m.ths.length tc := hN.tv.trans htv
  haveI hTV : TV m.tl tg := ⟨tc, htv⟩
  have hcw : wfI .u32 (m.ch.headD 0) := by
    cases hch : m.ch with
    | nil => exact (by simp [wfI, Lit.wf, IntKind.min, IntKind.max, IntKind.signed, IntKind.bits] : wfI .u32 0)
    | cons c l => exact hc c (by rw [hch]; simp)
  have hcb := wf_u32 hcw
  refine FnTurnS.of_awp0 Tryz.func165 rfl (by kernel_rfl) rfl Tryz.ntmps165 rfl (fun _ => rfl) fun C => ?_
  simp only [List.length_cons, List.length_nil, Nat.reduceAdd, Nat.reduceSub, List.replicate_succ, List.replicate_zero, List.cons_append, List.nil_append]
  refine wS (sT (wN ?_))
  refine Awp.seqc ⟨(.lit (ptV m.g 0) :: .any :: .lit (.int .u32 (m.ch.headD 0)) :: A40 (A10 (A5 []))), [.res (modR p m.tl)]⟩ ?_ ?_
  · refine wS (sT (sT (sT (sT (sT (sT (wN ?_)))))))
    refine Awp.cond rfl (fun hb4 => ?_) (fun hb4 => ?_)
    · have hpos : 0 < m.ch.length := by
        have := of_decide_eq_true hb4
        omega
      have e1 : (m.ch.take m.ch.length).drop 1 = m.ch.tail := by
        rw [List.take_length, List.drop_one]
      have e2 : ixD m.ch ((0 : Nat) : Int) = m.ch.headD 0 := by
        cases m.ch <;> rfl
      refine dSE 15 (hq := qT (qT (qT (qT (qT ?_)))))
      refine qX (inBn (k := 0) hpos) (qT (qT (qT (qT (qT ?_)))))
      refine qH (Quiet.slc (l := 1) (m := m.ch.length) rfl rfl rfl ⟨.i64, rfl⟩ rfl hpos (Nat.le_refl _)) ?_
      rw [e1, e2]
      refine qT (qT (qT (qN ?_)))
      refine aSeq_t rfl (AOp.stMB (p := p) (m := m) (i := 0) (new := [.bs tW m.ch.tail]) m.tl rfl rfl rfl (fun _ => Parts.one One.bs) rfl rfl (Nat.le_of_ble_eq_true rfl) rfl ?_)
      refine wN ?_
      exact le_C (hc := .cons (.nil _))
    · have hnil : m.ch = [] := by
        have := of_decide_eq_false hb4
        exact List.eq_nil_of_length_eq_zero (by omega)
      rw [MdA.tl_nil hnil, hnil]
      refine Awp.skip ?_
      exact le_C (hc := .cons (.nil _))
  · refine wS (sT (wN ?_))
    refine Awp.seq fun K7 h7 => ?_
    refine Awp.via _ (St.le_nil 3 3 tInt rfl (by decide)) ?_
    refine nT (hk := ?_)
    refine wS (sT (sT (sT (sT ?_))))
    rw [htc]
    refine sT (sT (wN ?_))
    refine Awp.block ?_
    refine Awp.loopF (fun b : Nat × Nat => ⟨(.lit (ptV m.g 0) :: .any :: .lit (.int .u32 (m.ch.headD 0)) :: .own 1 b.2 :: A20 (A5 (.lit (.int .i64 (m.ths.length : Int)) :: .lit (.int .i64 (b.1 : Int)) :: A20 (A7 [])))), [.res (modR p m.tl), .row b.2 3 tInt (natI' (liveK m.abs b.1))]⟩) (fun b => b.1 ≤ m.ths.length) (fun b => m.ths.length - b.1) (0, 0) (Nat.zero_le _) (St.le_t rfl (by (try simp only [putA, List.set_cons_zero, List.set_cons_succ]); repeat (first | exact Fgt.nil | refine Fgt.keep rfl ?_ | refine Fgt.any ?_))) ?_
    rintro ⟨k, ver⟩ hk
    have hk : k ≤ m.ths.length := hk
    refine wS (sT (wN ?_))
    refine Awp.seq fun K11 h11 => ?_
    refine Awp.cond rfl (fun hb12 => ?_) (fun hb12 => ?_)
    · have hlt : k < m.ths.length := by
        have := of_decide_eq_true hb12
        omega
      obtain ⟨t0, ht⟩ : ∃ t0, m.ths[k]? = some t0 := ⟨_, List.getElem?_eq_getElem hlt⟩
      have htm := List.mem_of_getElem? ht
      obtain ⟨h1, fg, c, h2⟩ := hN.th t0 htm
      refine Awp.skip ?_
      refine h11 _ ?_
      refine nT (hk := ?_)
      refine Awp.seq fun K13 h13 => ?_
      refine Awp.block ?_
      refine wS (sT (sT (wN ?_)))
      refine wS (sT (sT (sT (sT ?_))))
      rw [htc]
      refine sT ?_
      refine sH (Quiet.ixl0 rfl rfl rfl hlt) (sT ?_)
      refine aSeq_t rfl (AOp.callS (i := 0) rfl rfl (top_fn p m.tl tg k t0 fg c hTV ht (h1.trans h2) (by have := hf t0 htm; omega)) (fun _ => rfl) rfl rfl (fun _ => rfl) fun _ => ?_)
      refine sNt (hk := sT (wN ?_))
      refine Awp.cond rfl (fun hb16 => ?_) (fun hb16 => ?_)
      · have he : m.abs.ths.getD k [] ≠ [] := by
          rw [MdA.getT ht]
          intro e
          have : t0.l.length = 0 := by rw [← List.length_map (f := FrA.fr), e]; rfl
          rw [show (topA t0 fg) = none by unfold topA; rw [if_pos this]] at hb16
          cases hb16
        refine wSE (sT (sT ?_))
        refine sH (Quiet.lt1 (T := tInt) (d := (k : Int)) rfl rfl rfl rfl (by decide) (Fit.int (wf_nat (by omega)))) ?_
        refine sP (row1 (Nat.le_trans (by rw [natI', List.length_map]; exact liveK_len _ _) (Nat.le_trans hk hn))) (sT (wN ?_))
        refine h13 _ ?_
        refine nT (hk := ?_)
        refine wSE (sT (sT (wN ?_)))
        have e3 : natI' (liveK m.abs (k + 1)) = natI' (liveK m.abs k) ++ [(k : Int)] := by
          rw [liveK_succ, show (m.abs.ths.getD k []).isEmpty = false by simpa using he]
          simp [natI']
        refine athen_n ⟨(k + 1, ver + 1), hlt, by show m.ths.length - (k + 1) < m.ths.length - k; omega, ?_⟩
        rw [wrap_k (by omega)]
        show St.le _ _ ⟨_, [_, .row (ver + 1) 3 tInt (natI' (liveK m.abs (k + 1)))]⟩
        rw [e3]
        exact St.le_t rfl (by (try simp only [putA, List.set_cons_zero, List.set_cons_succ]); repeat (first | exact Fgt.nil | refine Fgt.keep rfl ?_ | refine Fgt.any ?_))
      · refine Awp.skip ?_
        refine h13 _ ?_
        refine nT (hk := ?_)
        refine wSE (sT (sT (wN ?_)))
        have he : (m.abs.ths.getD k []).isEmpty = true := by
          rw [MdA.getT ht]
          by_cases e : t0.l.length = 0
          · rw [List.eq_nil_of_length_eq_zero e]
            rfl
          · rw [show topA t0 fg = some ⟨fg, (t0.l.length - 1) * 4, none⟩ by unfold topA; rw [if_neg e]] at hb16
            cases hb16
        have e3 : natI' (liveK m.abs (k + 1)) = natI' (liveK m.abs k) := by
          rw [liveK_succ, he]
          simp [natI']
        refine athen_n ⟨(k + 1, ver), hlt, by show m.ths.length - (k + 1) < m.ths.length - k; omega, ?_⟩
        rw [wrap_k (by omega)]
        show St.le _ _ ⟨_, [_, .row ver 3 tInt (natI' (liveK m.abs (k + 1)))]⟩
        rw [e3]
        exact St.le_t rfl (by (try simp only [putA, List.set_cons_zero, List.set_cons_succ]); repeat (first | exact Fgt.nil | refine Fgt.keep rfl ?_ | refine Fgt.any ?_))
    · have hkn : k = m.ths.length := by
        have := of_decide_eq_false hb12
        omega
      have hlen : m.abs.ths.length = m.ths.length := List.length_map _
      rw [hkn, ← hlen, liveK_all]
      refine Awp.exit ?_
      refine h7 _ ?_
      refine nT (hk := ?_)
      have hLn : 0 < (liveT m.abs).length := List.length_pos_iff.2 hl
      have hLm : (liveT m.abs).length ≤ m.ths.length := by rw [← hlen, ← liveK_all]; exact liveK_len _ _
      have hLl : (natI' (liveT m.abs)).length = (liveT m.abs).length := List.length_map _
      obtain ⟨c, hce⟩ : ∃ c : Nat, m.ch.headD 0 = (c : Int) := ⟨(m.ch.headD 0).toNat, by omega⟩
      have hmod := Nat.mod_lt c hLn
      refine wSE (sT (sT (sT (sT (sT ?_)))))
      refine sH (Quiet.cv rfl rfl (wrap_u32n (by omega))) ?_
      rw [hce, hLl]
      refine sH (Quiet.remNat hLn rfl rfl rfl) ?_
      refine sH (Quiet.ixo rfl rfl rfl rfl rfl (by rw [hLl]; exact hmod)) ?_
      refine sH (Quiet.load_rp rfl rfl rfl (by rw [natI', List.getElem?_map, List.getElem?_eq_getElem hmod]; rfl) rfl) (sT (sT ?_))
      refine aSeq_t rfl (AOp.stMB (p := p) (m := m.tl) (i := 0) (new := [.lit (.int .i64 (((liveT m.abs)[c % (liveT m.abs).length] : Nat) : Int))]) m.chosen rfl rfl rfl (fun _ => Parts.one (One.lit rfl)) rfl rfl (Nat.le_of_ble_eq_true rfl) ?_ ?_)
      · unfold MdA.chosen
        rw [hce, Int.toNat_natCast, List.getD_eq_getElem?_getD, List.getElem?_eq_getElem hmod]
        rfl
      refine wN ?_
      exact ⟨.inl rfl, (), rfl, rfl, trivial⟩
end Mu
end
section
/-
  The flat model: yield, call, ret.
  Conditions: the frame that runs is known.
-/
namespace Mu
open Go Go.RowKit Go.Proofs

theorem MdA.abs_upT (m : MdA) (ti : Nat) (t : ThA) : (m.upT ti t).abs = { m.abs with ths := m.abs.ths.set ti (t.l.map FrA.fr) } := by
  unfold MdA.abs MdA.upT
  simp only [List.map_set]
theorem MdA.Nrm.upT {m : MdA} {ti : Nat} {t : ThA} (h : m.Nrm) (ht : t.cv = t.fv ∧ ∃ fg c, t.fv = slV fg t.l.length c) : (m.upT ti t).Nrm := by
  refine ⟨h.out, h.tv, ?_, fun t' htm => ?_⟩
  · obtain ⟨tg, c, e⟩ := h.tg
    exact ⟨tg, c, by show m.tv = slV tg (m.ths.set ti _).length c; rw [List.length_set]; exact e⟩
  · rcases List.mem_or_eq_of_mem_set htm with htm | rfl
    · exact h.th t' htm
    · exact ht
def modP (p : Prog) (m : MdA) (ti : Nat) (t0 : ThA) (q : FrA) : Res := .all ((modL p m).set (4 + ti) (.all (thL t0 ++ [rgR q])))
theorem St.le_adopt {C : Ctx} {t : List AV} {h : List ABlk} {i j ti : Nat} {p : Prog} {m : MdA} {t0 : ThA} {q : FrA} (hij : i ≠ j) (hi : h[i]? = some (.res (modR p m))) (hj : h[j]? = some (.res (rgR q))) (ht : m.ths[ti]? = some t0) : St.le C ⟨t, h⟩ ⟨t, (h.set j .dead).set i (.res (modP p m ti t0 q))⟩ := by
  have hk := modL_th (p := p) ht
  have hkl := (List.getElem?_eq_some_iff.1 hk).1
  refine St.le_merge hij hi hj rfl rfl rfl (fun g ⟨A, hA, hg⟩ => ?_) fun w S H1 H2 hdis => ?_
  · rcases List.mem_or_eq_of_mem_set hA with hA | rfl
    · exact .inl ⟨A, hA, hg⟩
    · obtain ⟨B, hB, hg⟩ := hg
      rcases List.mem_append.1 hB with hB | hB
      · exact .inl ⟨thR t0, List.mem_of_getElem? hk, B, hB, hg⟩
      · rw [List.mem_singleton.1 hB] at hg
        exact .inr hg
  · have hth := mod_th H1 ht
    have key : ∀ (i : Nat) (A : Res), ((modL p m).set (4 + ti) (.all (thL t0 ++ [rgR q])))[i]? = some A → ∃ A0, (modL p m)[i]? = some A0 ∧ ∀ g, A.F g → A0.F g ∨ (i = 4 + ti ∧ (rgR q).F g) := fun i A hA => by
      by_cases e : i = 4 + ti
      · subst e
        rw [List.getElem?_set_self hkl] at hA
        cases hA
        refine ⟨_, hk, fun g ⟨B, hB, hg⟩ => ?_⟩
        rcases List.mem_append.1 hB with hB | hB
        · exact .inl ⟨B, hB, hg⟩
        · rw [List.mem_singleton.1 hB] at hg
          exact .inr ⟨rfl, hg⟩
      · rw [List.getElem?_set_ne (Ne.symm e)] at hA
        exact ⟨A, hA, fun g hg => .inl hg⟩
    refine ⟨fun A hA => ?_, fun i j A B hne h3 h4 g hg hg2 => ?_⟩
    · rcases List.mem_or_eq_of_mem_set hA with hA | rfl
      · exact H1.1 A hA
      · refine ⟨fun B hB => ?_, fun i j B1 B2 hne h3 h4 g hg hg2 => ?_⟩
        · rcases List.mem_append.1 hB with hB | hB
          · exact hth.1 B hB
          · rw [List.mem_singleton.1 hB]
            exact H2
        · have hin : ∀ (i : Nat) (B : Res), (thL t0 ++ [rgR q])[i]? = some B → (thL t0)[i]? = some B ∨ (i = (thL t0).length ∧ B = rgR q) := fun i B hB => by
            by_cases e : i < (thL t0).length
            · rw [List.getElem?_append_left e] at hB
              exact .inl hB
            · rw [List.getElem?_append_right (Nat.le_of_not_lt e)] at hB
              have h1 := (List.getElem?_eq_some_iff.1 hB).1
              have e2 : i = (thL t0).length := by simp at h1; omega
              subst e2
              rw [Nat.sub_self] at hB
              exact .inr ⟨rfl, (Option.some.inj hB).symm⟩
          rcases hin i B1 h3 with a | ⟨a, rfl⟩
          · rcases hin j B2 h4 with b | ⟨b, rfl⟩
            · exact hth.2 i j B1 B2 hne a b g hg hg2
            · exact hdis g ⟨thR t0, List.mem_of_getElem? hk, B1, List.mem_of_getElem? a, hg⟩ hg2
          · rcases hin j B2 h4 with b | ⟨b, _⟩
            · exact hdis g ⟨thR t0, List.mem_of_getElem? hk, B2, List.mem_of_getElem? b, hg2⟩ hg
            · omega
    · obtain ⟨A0, a1, a2⟩ := key i A h3
      obtain ⟨B0, b1, b2⟩ := key j B h4
      rcases a2 g hg with a | ⟨a, a'⟩
      · rcases b2 g hg2 with b | ⟨_, b'⟩
        · exact H1.2 i j A0 B0 hne a1 b1 g a b
        · exact hdis g ⟨A0, List.mem_of_getElem? a1, a⟩ b'
      · rcases b2 g hg2 with b | ⟨b, _⟩
        · exact hdis g ⟨B0, List.mem_of_getElem? b1, b⟩ a'
        · omega
section
variable {P : Program} {C : Ctx} {t : List AV} {h : List ABlk} {o : Oper} {K : St → Prop}
/-- a frame comes on top -/
theorem AOp.pushF {ty : TypeId} {x y : Operand} {i j ti : Nat} {p : Prog} {m : MdA} {t0 : ThA} (q : FrA) (hij : i ≠ j) (ho : o.op = .call { callee := .builtin .append, args := #[x, y], argTypes := #[ty, ty] }) (hT : rowTy P ty = some (91, (tCl 3).size, 48)) (hx : evA t x = .lit t0.fv) (hy : evA t y = .bs (tCl 3) [frC q]) (hi : h[i]? = some (.res (modR p m))) (hj : h[j]? = some (.res (rgR q))) (ht : m.ths[ti]? = some t0)
    (hb : rowB (t0.l.length + 1) 48 = true) (hK : ∀ v', K ⟨putA t o.dst (.lit v'), (h.set j .dead).set i (.res (modR p (m.upT ti ⟨t0.cv, v', t0.l ++ [q]⟩))) ++ [.dead, .dead]⟩) : AOp P C o ⟨t, h⟩ K := by
  unfold rowB at hb
  simp only [Bool.and_eq_true, decide_eq_true_eq] at hb
  have hkl := (List.getElem?_eq_some_iff.1 (modL_th (p := p) ht)).1
  have hil := (List.getElem?_eq_some_iff.1 hi).1
  refine AOp.le (St.le_adopt hij hi hj ht) ?_
  refine AOp.inAll (ι := Value) (t' := fun v' => putA t o.dst (.lit v')) (A := .all (thL t0 ++ [rgR q])) (A' := fun v' => thR ⟨t0.cv, v', t0.l ++ [q]⟩) i (4 + ti) [.dead] (List.getElem?_set_self (by rw [List.length_set]; exact hil)) (List.getElem?_set_self hkl) rfl (fun _ => rfl) (fun h1 K1 hi1 _ hK1 => ?_) fun v' => ?_
  · refine AOp.inAll (ι := Value) (t' := fun v' => putA t o.dst (.lit v')) (A := rowR t0.fv 91 (tCl 3) (t0.l.map frC)) (A' := fun v' => rowR v' 91 (tCl 3) (t0.l.map frC ++ [frC q])) _ 0 [] hi1 rfl rfl (fun _ => rfl) (fun h2 K2 hi2 _ hK2 => ?_) fun v' => ?_
    · exact AOp.appendL ho hT hx hi2 hy (EncOf.one (T := tCl 3) (enc := fun l => l.map Cl.av)) (by rw [List.length_map]; exact hb.1) (by rw [List.length_map]; exact hb.2) fun v' => by have := hK2 v'; rwa [List.append_nil] at this
    · have e : (thL t0 ++ [rgR q]).set 0 (rowR v' 91 (tCl 3) (t0.l.map frC ++ [frC q])) = thL ⟨t0.cv, v', t0.l ++ [q]⟩ := by
        show _ :: (t0.l.map rgR ++ [rgR q]) = rowR v' 91 (tCl 3) ((t0.l ++ [q]).map frC) :: (t0.l ++ [q]).map rgR
        rw [List.map_append, List.map_append]
        rfl
      have := hK1 v'
      rw [e]
      exact this
  · rw [List.set_set, List.set_set, modL_upT ht (t' := ⟨t0.cv, v', t0.l ++ [q]⟩) rfl]
    exact hK v'
/-- where a thread's frames lie -/
theorem AOp.thAt {ti : Nat} {p : Prog} {m : MdA} {t0 : ThA} (i : Nat) (hi : h[i]? = some (.res (modR p m))) (ht : m.ths[ti]? = some t0) (hne : t0.l ≠ []) (hk : ∀ fg c, t0.fv = slV fg t0.l.length c → AOp P C o ⟨t, h⟩ K) : AOp P C o ⟨t, h⟩ K := fun Q' a w H => by
  obtain ⟨hd, S, ψ, HR, hl⟩ := id H
  obtain ⟨cells, hown, _⟩ := mod_frs (HR.blk i _ hi).2 ht
  rcases hown.2 with ⟨_, e0⟩ | ⟨g, cap, cur, e, _⟩
  · exact absurd (List.eq_nil_of_length_eq_zero (by rw [List.length_map] at e0; exact e0)) hne
  · rw [List.length_map] at e
    exact hk g cap e Q' a w H
theorem Fit.cl {n : Nat} {l : List Cl} (hl : l.length = n + 1) (h1 : ∀ x ∈ l, One h x.av) : Fit h (tCl n) (.agg (l.map Cl.av)) l := fun C S ψ w v H hv => by
  unfold AV.rel at hv
  obtain ⟨cs, rfl, hcs⟩ := hv
  refine ⟨hl, AV.relL_cl _ _ (Cl.clL l) hcs, fun u hu => ?_⟩
  obtain ⟨i, hi⟩ := List.getElem?_of_mem hu
  have hi : cs[i]? = some u := hi
  have hil : i < l.length := by
    have h2 := relL_len hcs
    rw [List.length_map] at h2
    have := (List.getElem?_eq_some_iff.1 hi).1
    omega
  obtain ⟨v, h2, h3⟩ := relL_get hcs (i := i) (x := l[i].av) (by rw [List.getElem?_map, List.getElem?_eq_getElem hil]; rfl)
  rw [hi] at h2
  cases h2
  exact h1 _ (List.getElem_mem hil) C S ψ w _ H h3
end
instance inMuFlatD1 : TyOf Tryz.prog 91 _ (tCl 3) := ⟨trivial⟩
/-! ### regions with two ways -/
section
variable {P : Program} {C : Ctx} {t t' : List AV} {h : List ABlk} {ops : Array Oper} {K : St → Prop} {g g0 : Nat} {listed L : Array Bool} {s s' : St} {d : Option Nat} {ty : TypeId} {ps : String} {af : Array Go.Edge}
theorem tJoin {ι : Type} (L : Array Bool) (g : Nat) (M : ι → St) (hB : ∀ i, tAny P C .any ops K g L (M i)) (hm : (∀ i, tAny P C .any ops K g L (M i)) → tAny P C .any ops K g0 listed s) : tAny P C .any ops K g0 listed s := hm hB
theorem tE (hh : tAny P C .any ops K g L s') (hs : s = s' := by rfl) (hl : listed = L := by kernel_rfl) : tAny P C .any ops K g listed s := by
  subst hs hl
  exact hh
theorem oT {op : Op} {r : AV} [QI P C t h op r] [PA t d r t'] (hk : K ⟨t', h⟩) : AOp P C ⟨d, op, ty, ps, af, none⟩ ⟨t, h⟩ K := AOp.q (QI.e d ty ps af) (by rw [PA.e (t := t) (d := d) (r := r) (t' := t')]; exact hk)
theorem oH {op : Op} {r : AV} (hq : Quiet P C t h ⟨d, op, ty, ps, af, none⟩ r) [PA t d r t'] (hk : K ⟨t', h⟩) : AOp P C ⟨d, op, ty, ps, af, none⟩ ⟨t, h⟩ K := AOp.q hq (by rw [PA.e (t := t) (d := d) (r := r) (t' := t')]; exact hk)
end
set_option maxRecDepth 100000 in
theorem yield_fn {p : Prog} {m : MdA} {fg k : Nat} {x : Ins} (hN : m.Nrm) (hl : liveT m.abs ≠ []) (hn : m.ths.length ≤ 1073741824) (hf : ∀ t ∈ m.ths, t.l.length ≤ 1073741824) (hc : ∀ c ∈ m.ch, wfI .u32 c) : OpFn 110 p m fg k x (chooseM m.abs) := by
  refine FnTurnS.of_awp0 Tryz.func110 rfl (by kernel_rfl) rfl Tryz.ntmps110 rfl (fun _ => rfl) fun C => ?_
  simp only [List.length_cons, List.length_nil, Nat.reduceAdd, Nat.reduceSub, List.replicate_succ, List.replicate_zero, List.cons_append, List.nil_append]
  refine wS (sB (wN ?_))
  refine wSE (sT ?_)
  refine aSeq_t rfl (AOp.callS (i := 0) rfl rfl (choose_fn p m hN hl hn hf hc) (fun _ => rfl) rfl rfl (fun _ => rfl) fun _ => ?_)
  refine sNt (hk := wN ?_)
  exact ⟨.inl rfl, ⟨m.chosen, ⟨hN.out, hN.tv, hN.tg, hN.th⟩, rfl, rfl⟩, rfl, rfl, trivial⟩
def pushFr (s : Mdl) (ti : Nat) (r : Fr) : Mdl := { s with ths := s.ths.set ti (s.ths.getD ti [] ++ [r]) }
set_option maxRecDepth 100000 in
theorem call_fn {p : Prog} {m : MdA} {fg k n : Nat} {t0 : ThA} {q : FrA} {x : Ins} (hC : Cur m m.at_ fg k t0 q) (hi1 : 1 ≤ q.fr.i) (hi2 : q.fr.i ≤ 1073741824) (hf : 0 ≤ x.f) (hfl : x.f.toNat < p.funcs.length) (hn : (funA p x.f.toNat).regs = (n : Int)) (hn2 : n ≤ 65536) (ha : x.args.length ≤ n) (hr : ∀ a ∈ x.args, okR q.fr a) (hl : t0.l.length ≤ 1073741824) (hat : m.at_ ≤ 1073741824) :
    OpFn 108 p m fg k x (pushFr (setFr m.abs m.at_ k ⟨q.fr.f, q.fr.b, q.fr.i - 1, q.fr.regs⟩) m.at_ (newFr p x.f.toNat (x.args.map (regA q.fr)))) := by
  haveI hT : TG m fg m.at_ t0 := ⟨hC.th, hC.fv⟩
  haveI hQ : QK t0 k q := ⟨hC.fr⟩
  obtain ⟨tg, tc, htv⟩ := hC.nrm.tg
  have htc : m.tc = slV tg m.ths.length tc := hC.nrm.tv.trans htv
  have htl := (List.getElem?_eq_some_iff.1 hC.th).1
  have hql := (List.getElem?_eq_some_iff.1 hC.fr).1
  obtain ⟨q1, hq1⟩ : ∃ q1 : FrA, q1 = ⟨⟨q.fr.f, q.fr.b, q.fr.i - 1, q.fr.regs⟩, q.rg⟩ := ⟨_, rfl⟩
  have hw1 : IntKind.i64.wrap ((q.fr.i : Int) - 1) = ((q.fr.i - 1 : Nat) : Int) := by rw [IntWalk.i64_in _ (by omega)]; omega
  refine FnTurnS.of_awp0C Tryz.func108 rfl (by kernel_rfl) rfl Tryz.ntmps108 rfl (fun _ => rfl) fun C hCt => ?_
  simp only [List.length_cons, List.length_nil, Nat.reduceAdd, Nat.reduceSub, List.replicate_succ, List.replicate_zero, List.cons_append, List.nil_append]
  refine wS (sB (wN ?_))
  refine wS (sT (wN ?_))
  refine Awp.seq fun K3 h3 => ?_
  refine Awp.via _ (St.le_nil 6 38 tW rfl (by decide)) ?_
  refine nT (hk := ?_)
  refine wS (sT (sT (sT (sT (wN ?_)))))
  refine Awp.block ?_
  refine Awp.loopF (fun j : Nat => ⟨(.lit (ptV m.g 0) :: .lit (ptV fg (k * 4)) :: A3 (.ptr 1 0 :: .own 2 j :: A4 (.bs tInt x.args :: .lit (.int .i64 (x.args.length : Int)) :: .lit (.int .i64 (j : Int)) :: A40 (A6 [])))), [.res (modR p m), .box (encIns x), .row j 38 tW ((x.args.take j).map (regA q.fr))]⟩) (fun j => j ≤ x.args.length) (fun j => x.args.length - j) 0 (Nat.zero_le _) (St.le_t rfl (by (try simp only [putA, List.set_cons_zero, List.set_cons_succ]); repeat (first | exact Fgt.nil | refine Fgt.keep rfl ?_ | refine Fgt.any ?_))) ?_
  rintro j hj
  refine wS (sT (wN ?_))
  refine Awp.seq fun K7 h7 => ?_
  refine Awp.cond rfl (fun hb8 => ?_) (fun hb8 => ?_)
  · have hlt : j < x.args.length := by
      have := of_decide_eq_true hb8
      omega
    obtain ⟨a, hae⟩ : ∃ a, x.args[j]? = some a := ⟨_, List.getElem?_eq_getElem hlt⟩
    have hra := hr a (List.mem_of_getElem? hae)
    have hix : ixD x.args (j : Int) = a := by
      unfold ixD
      rw [Int.toNat_natCast, List.getD_eq_getElem?_getD, hae]
      rfl
    refine hC.wf hra 0 rfl fun hw => ?_
    refine Awp.skip ?_
    refine h7 _ ?_
    refine nT (hk := ?_)
    refine Awp.seq fun K9 h9 => ?_
    refine Awp.block ?_
    refine wS ?_
    refine sX (inBn hlt) ?_
    refine sT (sT (wN ?_))
    rw [hix]
    refine wSE (sT (sT (sT (sT (sT (sT ?_))))))
    refine sI hra.inZ (sH (hC.ld (i := 0) rfl rfl rfl hra) ?_)
    refine sH (Quiet.lt1 (T := tW) (d := regA q.fr a) rfl rfl rfl rfl (by decide) (Fit.int hw)) ?_
    refine sP (by unfold rowB maxLen; simp; omega) (sT (wN ?_))
    refine h9 _ ?_
    refine nT (hk := ?_)
    refine wSE (sT (sT (wN ?_)))
    refine athen_n ⟨j + 1, hlt, by show x.args.length - (j + 1) < x.args.length - j; omega, ?_⟩
    rw [wrap_k (by omega)]
    show St.le _ _ ⟨_, [_, _, .row (j + 1) 38 tW ((x.args.take (j + 1)).map (regA q.fr))]⟩
    rw [List.take_add_one, hae, List.map_append]
    exact St.le_t rfl (by (try simp only [putA, List.set_cons_zero, List.set_cons_succ]); repeat (first | exact Fgt.nil | refine Fgt.keep rfl ?_ | refine Fgt.any ?_))
  · have hjn : j = x.args.length := by
      have := of_decide_eq_false hb8
      have hj : j ≤ x.args.length := hj
      omega
    rw [hjn, List.take_length]
    refine Awp.exit ?_
    refine h3 _ ?_
    refine nT (hk := ?_)
    refine wS (sT (sT (sT (sT (sT ?_)))))
    rw [hw1]
    refine sT (sT ?_)
    refine aSeq_t rfl (AOp.stMF (i := 0) (j := 2) (u := .int .i64 ((q.fr.i - 1 : Nat) : Int)) q1 rfl rfl rfl rfl hT hC.fr rfl rfl (by decide) (by rw [hq1]; rfl) (by rw [hq1]; rfl) ?_)
    refine sNt (hk := wN ?_)
    have hl1 : (m.upF m.at_ t0 k q1).ths.length = m.ths.length := List.length_set
    haveI hTV1 : TV (m.upF m.at_ t0 k q1) tg := ⟨tc, by rw [hl1]; exact htv⟩
    have ht1 : (m.upF m.at_ t0 k q1).ths[m.at_]? = some (t0.upF k q1) := List.getElem?_set_self htl
    have hcv : t0.cv = t0.fv := (hC.nrm.th t0 (List.mem_of_getElem? hC.th)).1
    obtain ⟨fc, hfv⟩ := hC.fv
    haveI hTI1 : TI (m.upF m.at_ t0 k q1) m.at_ (t0.upF k q1) := ⟨ht1⟩
    refine dS 10 (hq := qT (qT (qT (qT ?_))))
    rw [htc]
    refine qT (qT (qT (qT ?_)))
    refine qH (Quiet.ixl0 rfl rfl rfl htl) (qT (qN (wN ?_)))
    refine Awp.via _ (St.le_fzT hCt 0 2 6 (by decide) rfl (fun g h => mod_F hC.th hC.fr (by rw [hq1]) h) rfl rfl) ?_
    refine Awp.via ⟨(.lit (ptV m.g 0) :: A4 (.ptr 1 0 :: .bs tW (x.args.map (regA q.fr)) :: A2 (.lit (ptV tg m.at_) :: A40 (A10 [])))), [.res (modR p (m.upF m.at_ t0 k q1)), .box (encIns x)]⟩ (le_C (hc := .cons (.cons (.nil _)))) ?_
    have hal : (x.args.map (regA q.fr)).length ≤ n := by rw [List.length_map]; exact ha
    obtain ⟨q2, hq2⟩ : ∃ q2 : Nat → FrA, q2 = fun rg => ⟨newFr p x.f.toNat (x.args.map (regA q.fr)), rg⟩ := ⟨_, rfl⟩
    have hrl : (newFr p x.f.toNat (x.args.map (regA q.fr))).regs = x.args.map (regA q.fr) ++ (List.replicate n (0 : Int)).drop (x.args.map (regA q.fr)).length := by
      unfold newFr
      rw [hn, Int.toNat_natCast, List.take_of_length_le hal, List.drop_replicate]
    have hrn : (newFr p x.f.toNat (x.args.map (regA q.fr))).regs.length = n := by
      rw [hrl, List.length_append, List.length_drop, List.length_replicate]
      omega
    have hx : x.f = ((x.f.toNat : Nat) : Int) := by omega
    have hrR : ∀ rg, rowR (slV rg n n) 38 tW (x.args.map (regA q.fr) ++ (List.replicate n (0 : Int)).drop (x.args.map (regA q.fr)).length) = rgR (q2 rg) := fun rg => by
      rw [hq2]
      unfold rgR rowL
      rw [hrn, hrl]
    have hfc : ∀ rg, frC (q2 rg) = [.v (.int .i64 (x.f.toNat : Int)), .v (.int .i64 0), .v (.int .i64 0), .v (slV rg n n)] := fun rg => by
      rw [hq2]
      unfold frC
      rw [hrn]
      rfl
    have hLit : ∀ (C : Ctx) (t : List AV) (h : List ABlk) (o : Oper) (rg : Nat), o.op = .buildSlice 93 1 #[(0, .tmp 54)] → evA t (.tmp 54) = .agg ((frmV x.f.toNat n rg).map .lit) → Quiet Tryz.prog C t h o (.bs (tCl 3) [frC (q2 rg)]) := fun C t h o rg h1 h2 => Quiet.lt1 (T := tCl 3) (d := frC (q2 rg)) h1 rfl rfl rfl (by decide) (by
      rw [h2, hfc]
      exact Fit.cl (n := 3) (l := [.v (.int .i64 (x.f.toNat : Int)), .v (.int .i64 0), .v (.int .i64 0), .v (slV rg n n)]) rfl fun y hy => by
        simp only [List.mem_cons, List.not_mem_nil, or_false] at hy
        rcases hy with rfl | rfl | rfl | rfl <;> exact One.lit rfl)
    have hfo := frameOf_fn p (m.upF m.at_ t0 k q1) x.f.toNat n (x.args.map (regA q.fr)) hfl hn hn2 hal
    rw [← hx] at hfo
    rw [show frmR p (m.upF m.at_ t0 k q1) n (x.args.map (regA q.fr)) = fun rg => .all [modR p (m.upF m.at_ t0 k q1), rgR (q2 rg)] from funext fun rg => by unfold frmR; rw [hrR]] at hfo
    refine dHE 5 [0, 1, 2, 3, 4, 6, 9] [] (uT (uT (uT (uT (uT (uT (uT uN))))))) (vN ?_)
    refine tJoin (setAll [0, 1, 2, 3, 4, 6, 9, 5, 7, 8, 10, 11] (Array.replicate 17 false)) 5 (fun rg => ⟨(.lit (ptV m.g 0) :: A4 (.ptr 1 0 :: .bs tW (x.args.map (regA q.fr)) :: A2 (.lit (ptV tg m.at_) :: A20 (A10 (A4 (.lit (ptV tg m.at_) :: .lit (ptV tg m.at_) :: .lit (ptV tg m.at_) :: .lit (ptV tg m.at_) :: .lit (ptV tg m.at_) :: .lit t0.cv :: .lit (ptV m.g 0) :: .ptr 1 5 :: .lit (.int .i64 x.f) :: .bs tW (x.args.map (regA q.fr)) :: .agg ((frmV x.f.toNat n rg).map .lit) :: .bs (tCl 3) [frC (q2 rg)] :: A4 [])))))), [.res (modR p (m.upF m.at_ t0 k q1)), .box (encIns x), .res (rgR (q2 rg))]⟩) (fun rg => ?_) (fun hB => ?_)
    · refine tA 12 ?_
      refine (AOp.pushF (t0 := t0.upF k q1) (i := 0) (j := 2) (q2 rg) (by decide) rfl (by kernel_rfl : rowTy Tryz.prog 93 = some (91, (tCl 3).size, 48)) (by show AV.lit t0.cv = AV.lit t0.fv; rw [hcv]) rfl rfl rfl ht1 (by unfold rowB maxLen; simp; omega) fun v' => ?_)
      refine tNt (hk := tT 13 (tT 14 (tT 15 ?_)))
      have habl : m.at_ < m.abs.ths.length := by
        have : m.abs.ths.length = m.ths.length := List.length_map _
        omega
      have ht2 : ((m.upF m.at_ t0 k q1).upT m.at_ ⟨t0.cv, v', t0.l.set k q1 ++ [q2 rg]⟩).ths[m.at_]? = some ⟨t0.cv, v', t0.l.set k q1 ++ [q2 rg]⟩ := List.getElem?_set_self (by rw [List.length_set]; exact htl)
      refine tA 16 ?_
      refine AOp.thAt 0 rfl ht2 (by simp) fun fg2 c2 hv2 => ?_
      have hv2 : v' = slV fg2 (t0.l.set k q1 ++ [q2 rg]).length c2 := hv2
      refine AOp.stMT (i := 0) rfl rfl rfl rfl ⟨⟨tc, by show m.tv = slV tg (List.length _) tc; rw [List.length_set, List.length_set]; exact htv⟩⟩ ht2 (by rw [hv2]; rfl) ?_
      refine tDone ⟨.inl rfl, ⟨m.upT m.at_ ⟨v', v', t0.l.set k q1 ++ [q2 rg]⟩, hC.nrm.upT ⟨rfl, fg2, c2, hv2⟩, rfl, ?_⟩, rfl, ?_, trivial⟩
      · rw [MdA.abs_upT]
        unfold pushFr setFr
        simp only [List.set_set]
        rw [List.getD_eq_getElem?_getD, List.getElem?_set_self habl, MdA.getT hC.th]
        show Mdl.mk _ _ _ (List.set _ _ ((t0.l.set k q1 ++ [q2 rg]).map FrA.fr)) _ _ _ = Mdl.mk _ _ _ (List.set _ _ ((t0.l.map FrA.fr).set k _ ++ [_])) _ _ _
        rw [List.map_append, List.map_set, hq1, hq2]
        rfl
      · have e : m.upT m.at_ ⟨v', v', t0.l.set k q1 ++ [q2 rg]⟩ = (((m.upF m.at_ t0 k q1).upT m.at_ ⟨t0.cv, v', t0.l.set k q1 ++ [q2 rg]⟩).upT m.at_ ⟨v', v', t0.l.set k q1 ++ [q2 rg]⟩) := by
          unfold MdA.upF MdA.upT
          simp only [List.set_set]
        exact congrArg (fun z => some (ABlk.res (modR p z))) e.symm
    · refine tJoin (setAll [0, 1, 2, 3, 4, 6, 9, 5, 7, 8] (Array.replicate 17 false)) 7 (fun _ : Unit => ⟨(.lit (ptV m.g 0) :: A4 (.ptr 1 0 :: .bs tW (x.args.map (regA q.fr)) :: A2 (.lit (ptV tg m.at_) :: A20 (A10 (A4 (.lit (ptV tg m.at_) :: .lit (ptV tg m.at_) :: .lit (ptV tg m.at_) :: .lit (ptV tg m.at_) :: .lit (ptV tg m.at_) :: .lit t0.cv :: .lit (ptV m.g 0) :: .ptr 1 5 :: .lit (.int .i64 x.f) :: .bs tW (x.args.map (regA q.fr)) :: A6 [])))))), [.res (modR p (m.upF m.at_ t0 k q1)), .box (encIns x)]⟩) (fun _ => ?_) (fun hA => ?_)
      · refine tA 10 (AOp.callS2 (i := 0) rfl rfl hfo rfl (fun _ => rfl) (fun _ => rfl) rfl rfl (fun _ => rfl) fun rg => ?_)
        refine tNt (hk := tH 11 (hLit _ _ _ _ rg rfl rfl) (tE (hB rg)))
      · refine tStep [5, 7] (tC (oT (tT 7 (tT 8 (tE (hA ()))))) (tC (oT (tStep [5, 8] (tC (oT (tT 8 (tE (hA ())))) (tC (oT (tStep [5, 10] (tC (oT (tE (hA ()))) (tC ?_ tAll_nil)))) tAll_nil)))) tAll_nil))
        refine AOp.callS2 (i := 0) rfl rfl hfo rfl (fun _ => rfl) (fun _ => rfl) rfl rfl (fun _ => rfl) fun rg => ?_
        refine tNt (hk := tStep [5, 11] (tC (oT ?_) (tC (oH (hLit _ _ _ _ rg rfl rfl) ?_) tAll_nil)))
        · exact tH 11 (hLit _ _ _ _ rg rfl rfl) (tE (hB rg))
        · exact tT 5 (tE (hB rg))
    skip
end Mu
end
section
/-
  The flat model: ret.
  Conditions: the frame that runs is known.
-/
namespace Mu
open Go Go.RowKit Go.Proofs

def fieldOne (P : Program) (ty : TypeId) (j : Nat) : Option Nat :=
  match P.underlying ty with
  | some (.struct fs) =>
    match fs[j]? with
    | some f => match P.underlying f.type with
      | some (.int _) => some f.offset
      | _ => none
    | none => none
  | _ => none
theorem Quiet.fld {P : Program} {C : Ctx} {t : List AV} {h : List ABlk} {o : Oper} {ty : TypeId} {x : Operand} {j off : Nat} {l : List AV} {r : AV} (ho : o.op = .field ty x j) (hf : fieldOne P ty j = some off) (hx : evA t x = .agg l) (hr : l[off]? = some r) : Quiet P C t h o r :=
  Quiet.of_run fun S ψ w ρ _ hρ => by
    have h1 := hρ x (by simp [ho, Op.operands])
    rw [hx] at h1
    unfold AV.rel at h1
    obtain ⟨cs, e1, hl⟩ := h1
    obtain ⟨v, hv, hrel⟩ := relL_get hl hr
    unfold fieldOne at hf
    split at hf <;> try (cases hf; done)
    rename_i fs hu
    split at hf <;> try (cases hf; done)
    rename_i f hfj
    split at hf <;> try (cases hf; done)
    rename_i k hk
    cases hf
    exact ⟨v, by simp [execOp, ho, e1, Instr.field, run_underlying hu, hfj, part, isAgg, run_underlying hk, asAgg, hv], hrel⟩
/-- the frames of a thread have room -/
theorem Awp.capT {P : Program} {C : Ctx} {t : List AV} {h : List ABlk} {cd : Code} {Q : Exit → St → Prop} {ti fg c : Nat} {p : Prog} {m : MdA} {t0 : ThA} (i : Nat) (hi : h[i]? = some (.res (modR p m))) (ht : m.ths[ti]? = some t0) (hv : t0.fv = slV fg t0.l.length c) (hk : t0.l.length ≤ c → Awp P C cd Q ⟨t, h⟩) : Awp P C cd Q ⟨t, h⟩ := fun a w H => by
  obtain ⟨hd, S, ψ, HR, hl⟩ := id H
  have h1 := mod_frs (HR.blk i _ hi).2 ht
  have hlen : t0.l.length = (t0.l.map frC).length := (List.length_map _).symm
  rw [hv, hlen] at h1
  obtain ⟨cur, _, hnc, _⟩ := rowL_cells h1
  rw [← hlen] at hnc
  exact hk hnc a w H
set_option maxRecDepth 100000 in
theorem ret_up {p : Prog} {m : MdA} {fg k : Nat} {t0 : ThA} {q qu : FrA} {x : Ins} (hC : Cur m m.at_ fg (k + 1) t0 q) (hlen : t0.l.length = (k + 1) + 1) (ha : okR q.fr x.a) (hl : t0.l.length ≤ 1073741824) (hu : t0.l[k]? = some qu) (hfu : FrOk p qu.fr) (hd : okR qu.fr (insA p qu.fr).d) (hui : qu.fr.i ≤ 1073741824) (huq : qu.fr.regs.length ≤ 4611686018427387904) :
    OpFn 113 p m fg (k + 1) x { m.abs with ths := m.abs.ths.set m.at_ ((m.abs.ths.getD m.at_ []).dropLast.set k ⟨qu.fr.f, qu.fr.b, qu.fr.i + 1, qu.fr.regs.set (insA p qu.fr).d.toNat (regA q.fr x.a)⟩) } := by
  haveI hT : TG m fg m.at_ t0 := ⟨hC.th, hC.fv⟩
  haveI hQ : QK t0 (k + 1) q := ⟨hC.fr⟩
  obtain ⟨tg, tc, htv⟩ := hC.nrm.tg
  have htc : m.tc = slV tg m.ths.length tc := hC.nrm.tv.trans htv
  have htl := (List.getElem?_eq_some_iff.1 hC.th).1
  obtain ⟨fc, hfv⟩ := hC.fv
  have hcv : t0.cv = t0.fv := (hC.nrm.th t0 (List.mem_of_getElem? hC.th)).1
  haveI hTV : TV m tg := ⟨tc, htv⟩
  haveI hTI : TI m m.at_ t0 := ⟨hC.th⟩
  haveI hTV1 : TV (m.upT m.at_ (t0.pop fg fc)) tg := ⟨tc, by show m.tv = slV tg (List.length _) tc; rw [List.length_set]; exact htv⟩
  have ht1 : (m.upT m.at_ (t0.pop fg fc)).ths[m.at_]? = some (t0.pop fg fc) := List.getElem?_set_self htl
  have hne : t0.l ≠ [] := by
    intro e
    rw [e] at hlen
    cases hlen
  have hl1 : (t0.pop fg fc).l.length = t0.l.length - 1 := List.length_dropLast
  have htop := top_fn p (m.upT m.at_ (t0.pop fg fc)) tg m.at_ (t0.pop fg fc) fg fc hTV1 ht1 (by show slV fg _ fc = slV fg _ fc; rw [hl1]) (by omega)
  have hA : topA (t0.pop fg fc) fg = some ⟨fg, k * 4, none⟩ := by
    unfold topA
    rw [hl1, hlen, if_neg (by omega)]
    rfl
  have hu1 : (t0.pop fg fc).l[k]? = some qu := by
    show t0.l.dropLast[k]? = _
    rw [List.getElem?_dropLast, if_pos (by omega)]
    exact hu
  have hN1 : (m.upT m.at_ (t0.pop fg fc)).Nrm := hC.nrm.upT ⟨rfl, fg, fc, by show slV fg _ fc = slV fg _ fc; rw [hl1]⟩
  have hC1 : Cur (m.upT m.at_ (t0.pop fg fc)) m.at_ fg k (t0.pop fg fc) qu := ⟨hN1, ht1, ⟨fc, by show slV fg _ fc = slV fg _ fc; rw [hl1]⟩, hu1, huq⟩
  haveI hT1 : TG (m.upT m.at_ (t0.pop fg fc)) fg m.at_ (t0.pop fg fc) := ⟨ht1, hC1.fv⟩
  haveI hQ1 : QK (t0.pop fg fc) k qu := ⟨hu1⟩
  rw [show topV (t0.pop fg fc) fg = ptV fg (k * 4) from congrArg Value.pointer hA] at htop
  have hins := ins_fn hC1 hfu
  obtain ⟨q2, hq2⟩ : ∃ q2 : FrA, q2 = { qu with fr := { qu.fr with regs := qu.fr.regs.set (insA p qu.fr).d.toNat (regA q.fr x.a) } } := ⟨_, rfl⟩
  have hq2l : q2.fr.regs.length ≤ 4611686018427387904 := by rw [hq2]; show (List.set _ _ _).length ≤ _; rw [List.length_set]; exact huq
  have hq2i : q2.fr.i = qu.fr.i := by rw [hq2]
  have hC2 := hC1.upF q2 hq2l
  haveI hT2 : TG ((m.upT m.at_ (t0.pop fg fc)).upF m.at_ (t0.pop fg fc) k q2) fg m.at_ ((t0.pop fg fc).upF k q2) := ⟨hC2.th, hC2.fv⟩
  haveI hQ2 : QK ((t0.pop fg fc).upF k q2) k q2 := ⟨hC2.fr⟩
  have hw1 : IntKind.i64.wrap ((qu.fr.i : Int) + 1) = ((qu.fr.i + 1 : Nat) : Int) := wrap_k hui
  refine FnTurnS.of_awp0 Tryz.func113 rfl (by kernel_rfl) rfl Tryz.ntmps113 rfl (fun _ => rfl) fun C => ?_
  simp only [List.length_cons, List.length_nil, Nat.reduceAdd, Nat.reduceSub, List.replicate_succ, List.replicate_zero, List.cons_append, List.nil_append]
  refine Awp.capT 0 rfl hC.th hfv fun hcap => ?_
  refine hC.wf ha 0 rfl fun hw => ?_
  refine wS (sB (wN ?_))
  refine dS 19 (hq := qT (qT (qT (qT (qT (qT ?_))))))
  refine qI ha.inZ (qH (hC.ld (i := 0) rfl rfl rfl ha) (qT (qT (qT (qT ?_)))))
  rw [htc]
  refine qT (qT (qT (qT ?_)))
  refine qH (Quiet.ixl0 rfl rfl rfl htl) (qT (qT (qN (wN ?_))))
  refine wS (sT (sT (sT ?_)))
  refine aSeq_t rfl (AOp.callS (i := 0) rfl rfl (pop_fn p m tg m.at_ t0 fg fc hTV hC.th (hcv.trans hfv) hfv hne hcap (by omega)) (fun _ => rfl) rfl rfl (fun _ => rfl) fun _ => ?_)
  refine sNt (hk := wN ?_)
  refine wS (sT (sT (sT ?_)))
  refine aSeq_t rfl (AOp.callS (i := 0) rfl rfl htop (fun _ => rfl) rfl rfl (fun _ => rfl) fun _ => ?_)
  refine sNt (hk := sT (wN ?_))
  refine Awp.block ?_
  refine wS (sT (sT (sT (wN ?_))))
  refine Awp.cond rfl (fun hb6 => ?_) (fun hb6 => ?_)
  · refine Awp.via ⟨(.lit (ptV m.g 0) :: A5 (.lit (.int .u32 (regA q.fr x.a)) :: .any :: .lit (ptV fg (k * 4)) :: A40 (A10 (A8 [])))), [.res (modR p (m.upT m.at_ (t0.pop fg fc)))]⟩ (le_C (hc := .cons (.nil _))) ?_
    refine dH 3 [0, 1, 2, 4, 5, 8] [] (uT (uT (uT (uT (uT (uT uN)))))) fun K7 hK7 => vN ?_
    refine tJoin (setAll [0, 1, 2, 4, 5, 8, 3, 6, 7] (Array.replicate 11 false)) 2 (fun _ : Unit => ⟨(.lit (ptV m.g 0) :: A5 (.lit (.int .u32 (regA q.fr x.a)) :: .any :: .lit (ptV fg (k * 4)) :: A20 (A10 (.lit (ptV fg (k * 4)) :: .lit (ptV fg (k * 4)) :: .lit (ptV fg (k * 4 + 3)) :: .lit (slV qu.rg qu.fr.regs.length qu.fr.regs.length) :: .lit (ptV m.g 0) :: .lit (ptV fg (k * 4)) :: .agg (encIns (insA p qu.fr)) :: .lit (.int .i64 (insA p qu.fr).d) :: .lit (.int .u32 (regA q.fr x.a)) :: A10 (A9 []))))), [.res (modR p (m.upT m.at_ (t0.pop fg fc)))]⟩) (fun _ => ?_) (fun hB => ?_)
    rotate_left
    · refine tStep [3, 6] (tC (oT ?_) (tC ?_ tAll_nil))
      · refine tA 6 ?_
        refine AOp.callS (i := 0) rfl rfl hins (fun _ => rfl) rfl rfl (fun _ => rfl) fun _ => ?_
        exact tNt (hk := tH 7 (Quiet.fld (off := 1) rfl (by kernel_rfl) rfl rfl) (tE (hB ())))
      · refine AOp.callS (i := 0) rfl rfl hins (fun _ => rfl) rfl rfl (fun _ => rfl) fun _ => ?_
        refine tNt (hk := tStep [3, 7] (tC (oT ?_) (tC (oH (Quiet.fld (off := 1) rfl (by kernel_rfl) rfl rfl) ?_) tAll_nil)))
        · exact tH 7 (Quiet.fld (off := 1) rfl (by kernel_rfl) rfl rfl) (tE (hB ()))
        · exact tT 3 (tE (hB ()))
    refine tNt (hk := tH 9 (Quiet.ixRows rfl rfl rfl hd.inZ) ?_)
    refine tA 10 ?_
    refine AOp.stMR (i := 0) (z := (insA p qu.fr).d) rfl rfl rfl rfl ht1 hu1 hd.2 hw ?_
    rw [← hq2]
    refine tNt (hk := tDone (hK7 _ ?_))
    refine wSE (sT (sT (sT (sT ?_))))
    rw [hq2i]
    refine sT ?_
    rw [hw1]
    refine sT (sT ?_)
    refine aSeq_t rfl (AOp.stMF (i := 0) (j := 2) (k := k) (u := .int .i64 ((qu.fr.i + 1 : Nat) : Int)) ⟨⟨qu.fr.f, qu.fr.b, qu.fr.i + 1, q2.fr.regs⟩, q2.rg⟩ rfl rfl rfl rfl hT2 hC2.fr rfl rfl (by decide) (by rw [hq2]; rfl) rfl ?_)
    rw [upF_upF ht1]
    refine wN ?_
    refine ⟨.inl rfl, ⟨(m.upT m.at_ (t0.pop fg fc)).upF m.at_ (t0.pop fg fc) k ⟨⟨qu.fr.f, qu.fr.b, qu.fr.i + 1, q2.fr.regs⟩, q2.rg⟩, hN1.upF ht1, rfl, ?_⟩, rfl, rfl, trivial⟩
    rw [MdA.abs_upT, MdA.abs_upT]
    simp only [List.set_set]
    rw [MdA.getT hC.th]
    show Mdl.mk _ _ _ (List.set _ _ ((t0.l.dropLast.set k _).map FrA.fr)) _ _ _ = Mdl.mk _ _ _ (List.set _ _ ((t0.l.map FrA.fr).dropLast.set k _)) _ _ _
    rw [List.map_set, List.map_dropLast, hq2]
  · cases hb6
set_option maxRecDepth 100000 in
theorem ret_halt {p : Prog} {m : MdA} {fg : Nat} {t0 : ThA} {q : FrA} {x : Ins} (hC : Cur m m.at_ fg 0 t0 q) (hlen : t0.l.length = 0 + 1) (ha : okR q.fr x.a) (hl : t0.l.length ≤ 1073741824) (h0 : m.at_ = 0) :
    OpFn 113 p m fg 0 x { m.abs with ths := m.abs.ths.set m.at_ [], kind := 1, v := regA q.fr x.a } := by
  haveI hT : TG m fg m.at_ t0 := ⟨hC.th, hC.fv⟩
  haveI hQ : QK t0 0 q := ⟨hC.fr⟩
  obtain ⟨tg, tc, htv⟩ := hC.nrm.tg
  have htc : m.tc = slV tg m.ths.length tc := hC.nrm.tv.trans htv
  have htl := (List.getElem?_eq_some_iff.1 hC.th).1
  obtain ⟨fc, hfv⟩ := hC.fv
  have hcv : t0.cv = t0.fv := (hC.nrm.th t0 (List.mem_of_getElem? hC.th)).1
  haveI hTV : TV m tg := ⟨tc, htv⟩
  haveI hTI : TI m m.at_ t0 := ⟨hC.th⟩
  haveI hTV1 : TV (m.upT m.at_ (t0.pop fg fc)) tg := ⟨tc, by show m.tv = slV tg (List.length _) tc; rw [List.length_set]; exact htv⟩
  have ht1 : (m.upT m.at_ (t0.pop fg fc)).ths[m.at_]? = some (t0.pop fg fc) := List.getElem?_set_self htl
  have hne : t0.l ≠ [] := by
    intro e
    rw [e] at hlen
    cases hlen
  have hl1 : (t0.pop fg fc).l.length = t0.l.length - 1 := List.length_dropLast
  have htop := top_fn p (m.upT m.at_ (t0.pop fg fc)) tg m.at_ (t0.pop fg fc) fg fc hTV1 ht1 (by show slV fg _ fc = slV fg _ fc; rw [hl1]) (by omega)
  have hA : topV (t0.pop fg fc) fg = .pointer none := by
    unfold topV topA
    rw [hl1, hlen, if_pos rfl]
  have hnil : (t0.pop fg fc).l = [] := List.eq_nil_of_length_eq_zero (by omega)
  have hN1 : (m.upT m.at_ (t0.pop fg fc)).Nrm := hC.nrm.upT ⟨rfl, fg, fc, by show slV fg _ fc = slV fg _ fc; rw [hl1]⟩
  have habs : (m.upT m.at_ (t0.pop fg fc)).abs = { m.abs with ths := m.abs.ths.set m.at_ [] } := by
    rw [MdA.abs_upT, hnil]
    rfl
  rw [hA] at htop
  refine FnTurnS.of_awp0 Tryz.func113 rfl (by kernel_rfl) rfl Tryz.ntmps113 rfl (fun _ => rfl) fun C => ?_
  simp only [List.length_cons, List.length_nil, Nat.reduceAdd, Nat.reduceSub, List.replicate_succ, List.replicate_zero, List.cons_append, List.nil_append]
  refine Awp.capT 0 rfl hC.th hfv fun hcap => ?_
  refine hC.wf ha 0 rfl fun hw => ?_
  refine wS (sB (wN ?_))
  refine dS 19 (hq := qT (qT (qT (qT (qT (qT ?_))))))
  refine qI ha.inZ (qH (hC.ld (i := 0) rfl rfl rfl ha) (qT (qT (qT (qT ?_)))))
  rw [htc]
  refine qT (qT (qT (qT ?_)))
  refine qH (Quiet.ixl0 rfl rfl rfl htl) (qT (qT (qN (wN ?_))))
  refine wS (sT (sT (sT ?_)))
  refine aSeq_t rfl (AOp.callS (i := 0) rfl rfl (pop_fn p m tg m.at_ t0 fg fc hTV hC.th (hcv.trans hfv) hfv hne hcap (by omega)) (fun _ => rfl) rfl rfl (fun _ => rfl) fun _ => ?_)
  refine sNt (hk := wN ?_)
  refine wS (sT (sT (sT ?_)))
  refine aSeq_t rfl (AOp.callS (i := 0) rfl rfl htop (fun _ => rfl) rfl rfl (fun _ => rfl) fun _ => ?_)
  refine sNt (hk := sT (wN ?_))
  refine Awp.block ?_
  refine wS (sT (sT (sT (wN ?_))))
  refine Awp.cond rfl (fun hb6 => ?_) (fun hb6 => ?_)
  · cases hb6
  · refine wS (sT (sT (sT (sT (sT (sT (wN ?_)))))))
    refine Awp.cond rfl (fun hb10 => ?_) (fun hb10 => ?_)
    · refine wSE (sT (sT ?_))
      refine sH (Quiet.bldP (rs := [.lit (.int .u8 1), .lit (.int .u32 (regA q.fr x.a))]) rfl plStop rfl rfl) (sT (sT ?_))
      refine aSeq_t rfl (AOp.stMB (p := p) (m := m.upT m.at_ (t0.pop fg fc)) (i := 0) { m.upT m.at_ (t0.pop fg fc) with kind := 1, v := regA q.fr x.a } rfl rfl rfl (fun _ => Parts.aggB rfl) rfl rfl (Nat.le_of_ble_eq_true rfl) rfl ?_)
      refine wN ?_
      refine ⟨.inl rfl, ⟨{ m.upT m.at_ (t0.pop fg fc) with kind := 1, v := regA q.fr x.a }, ⟨hN1.out, hN1.tv, hN1.tg, hN1.th⟩, rfl, ?_⟩, rfl, rfl, trivial⟩
      show ({ (m.upT m.at_ (t0.pop fg fc)).abs with kind := 1, v := regA q.fr x.a } : Mdl) = _
      rw [habs]
    · have hb10 : ((m.at_ : Int) == 0) = false := hb10
      rw [h0] at hb10
      cases hb10
set_option maxRecDepth 100000 in
theorem ret_next {p : Prog} {m : MdA} {fg : Nat} {t0 : ThA} {q : FrA} {x : Ins} (hC : Cur m m.at_ fg 0 t0 q) (hlen : t0.l.length = 0 + 1) (ha : okR q.fr x.a) (hl : t0.l.length ≤ 1073741824) (h0 : m.at_ ≠ 0) (hlv : liveT { m.abs with ths := m.abs.ths.set m.at_ [] } ≠ []) (hn : m.ths.length ≤ 1073741824) (hf : ∀ t ∈ m.ths, t.l.length ≤ 1073741824) (hc : ∀ c ∈ m.ch, wfI .u32 c) :
    OpFn 113 p m fg 0 x (chooseM { m.abs with ths := m.abs.ths.set m.at_ [] }) := by
  haveI hT : TG m fg m.at_ t0 := ⟨hC.th, hC.fv⟩
  haveI hQ : QK t0 0 q := ⟨hC.fr⟩
  obtain ⟨tg, tc, htv⟩ := hC.nrm.tg
  have htc : m.tc = slV tg m.ths.length tc := hC.nrm.tv.trans htv
  have htl := (List.getElem?_eq_some_iff.1 hC.th).1
  obtain ⟨fc, hfv⟩ := hC.fv
  have hcv : t0.cv = t0.fv := (hC.nrm.th t0 (List.mem_of_getElem? hC.th)).1
  haveI hTV : TV m tg := ⟨tc, htv⟩
  haveI hTI : TI m m.at_ t0 := ⟨hC.th⟩
  haveI hTV1 : TV (m.upT m.at_ (t0.pop fg fc)) tg := ⟨tc, by show m.tv = slV tg (List.length _) tc; rw [List.length_set]; exact htv⟩
  have ht1 : (m.upT m.at_ (t0.pop fg fc)).ths[m.at_]? = some (t0.pop fg fc) := List.getElem?_set_self htl
  have hne : t0.l ≠ [] := by
    intro e
    rw [e] at hlen
    cases hlen
  have hl1 : (t0.pop fg fc).l.length = t0.l.length - 1 := List.length_dropLast
  have htop := top_fn p (m.upT m.at_ (t0.pop fg fc)) tg m.at_ (t0.pop fg fc) fg fc hTV1 ht1 (by show slV fg _ fc = slV fg _ fc; rw [hl1]) (by omega)
  have hA : topV (t0.pop fg fc) fg = .pointer none := by
    unfold topV topA
    rw [hl1, hlen, if_pos rfl]
  have hnil : (t0.pop fg fc).l = [] := List.eq_nil_of_length_eq_zero (by omega)
  have hN1 : (m.upT m.at_ (t0.pop fg fc)).Nrm := hC.nrm.upT ⟨rfl, fg, fc, by show slV fg _ fc = slV fg _ fc; rw [hl1]⟩
  have habs : (m.upT m.at_ (t0.pop fg fc)).abs = { m.abs with ths := m.abs.ths.set m.at_ [] } := by
    rw [MdA.abs_upT, hnil]
    rfl
  rw [hA] at htop
  refine FnTurnS.of_awp0 Tryz.func113 rfl (by kernel_rfl) rfl Tryz.ntmps113 rfl (fun _ => rfl) fun C => ?_
  simp only [List.length_cons, List.length_nil, Nat.reduceAdd, Nat.reduceSub, List.replicate_succ, List.replicate_zero, List.cons_append, List.nil_append]
  refine Awp.capT 0 rfl hC.th hfv fun hcap => ?_
  refine hC.wf ha 0 rfl fun hw => ?_
  refine wS (sB (wN ?_))
  refine dS 19 (hq := qT (qT (qT (qT (qT (qT ?_))))))
  refine qI ha.inZ (qH (hC.ld (i := 0) rfl rfl rfl ha) (qT (qT (qT (qT ?_)))))
  rw [htc]
  refine qT (qT (qT (qT ?_)))
  refine qH (Quiet.ixl0 rfl rfl rfl htl) (qT (qT (qN (wN ?_))))
  refine wS (sT (sT (sT ?_)))
  refine aSeq_t rfl (AOp.callS (i := 0) rfl rfl (pop_fn p m tg m.at_ t0 fg fc hTV hC.th (hcv.trans hfv) hfv hne hcap (by omega)) (fun _ => rfl) rfl rfl (fun _ => rfl) fun _ => ?_)
  refine sNt (hk := wN ?_)
  refine wS (sT (sT (sT ?_)))
  refine aSeq_t rfl (AOp.callS (i := 0) rfl rfl htop (fun _ => rfl) rfl rfl (fun _ => rfl) fun _ => ?_)
  refine sNt (hk := sT (wN ?_))
  refine Awp.block ?_
  refine wS (sT (sT (sT (wN ?_))))
  refine Awp.cond rfl (fun hb6 => ?_) (fun hb6 => ?_)
  · cases hb6
  · refine wS (sT (sT (sT (sT (sT (sT (wN ?_)))))))
    refine Awp.cond rfl (fun hb10 => ?_) (fun hb10 => ?_)
    · have hb10 : ((m.at_ : Int) == 0) = true := hb10
      exact absurd (by simpa using hb10) h0
    · refine wSE (sT ?_)
      refine aSeq_t rfl (AOp.callS (i := 0) rfl rfl (choose_fn p (m.upT m.at_ (t0.pop fg fc)) hN1 (by rw [habs]; exact hlv) (by show (List.set _ _ _).length ≤ _; rw [List.length_set]; exact hn) (fun t htm => ?_) hc) (fun _ => rfl) rfl rfl (fun _ => rfl) fun _ => ?_)
      · rcases List.mem_or_eq_of_mem_set htm with htm | rfl
        · exact hf t htm
        · rw [hnil]
          exact Nat.zero_le _
      refine sNt (hk := wN ?_)
      refine ⟨.inl rfl, ⟨(m.upT m.at_ (t0.pop fg fc)).chosen, ⟨hN1.out, hN1.tv, hN1.tg, hN1.th⟩, rfl, ?_⟩, rfl, rfl, trivial⟩
      rw [← habs]
      rfl
end Mu
end
section
/-
  The flat model: what each instruction is, by its number.
  Conditions: the program may be.
-/
namespace Mu
open Go Go.RowKit Go.Proofs

/-- what holds of a program that is run -/
structure PBig (dw : Int → Int → Int → Option Int) (p : Prog) : Prop where
  ok : ProgOk p
  wf : ∀ f ∈ p.funcs, ∀ b ∈ f.blocks, ∀ x ∈ b.ins, wfI .u32 x.n ∧ (x.op = 1 → 0 ≤ x.n ∧ x.n ≤ 255)
  blk : ∀ f ∈ p.funcs, ∀ b ∈ f.blocks, b.ins.length ≤ 1073741824
  regs : ∀ f ∈ p.funcs, f.regs ≤ 65536
  dw : ∀ n a b, 0 ≤ n → n ≤ 255 → wfI .u32 a → wfI .u32 b → ∃ w is, wfI .u32 w ∧ Fn Tryz.prog 162 [.lit (.int .u8 n), .lit (.int .u32 a), .lit (.int .u32 b)] (.tup [.lit (.int .u32 w), .lit (.bool is)]) ∧ dw n a b = if is then some w else none
structure MBig (m : MdA) : Prop where
  ths : m.ths.length ≤ 1073741824
  frs : ∀ t ∈ m.ths, t.l.length ≤ 1073741824
  out : m.out.length ≤ 1073741824
  heap : m.heap.length ≤ 4294967296
  ch : ∀ c ∈ m.ch, wfI .u32 c
theorem setFr_setFr {s : Mdl} {ti k : Nat} {a b : Fr} : setFr (setFr s ti k a) ti k b = setFr s ti k b := by
  unfold setFr
  simp only [List.set_set]
  by_cases h : ti < s.ths.length
  · rw [List.getD_eq_getElem?_getD, List.getElem?_set_self h]
    simp only [Option.getD_some, List.set_set]
  · rw [List.set_eq_of_length_le (by omega), List.set_eq_of_length_le (by omega)]
theorem setFr_self {s : Mdl} {ti k : Nat} {l : List Fr} {a : Fr} (hl : s.ths[ti]? = some l) (ha : l[k]? = some a) : setFr s ti k a = s := by
  unfold setFr
  rw [List.getD_eq_getElem?_getD, hl]
  show { s with ths := s.ths.set ti (l.set k a) } = s
  rw [set_at ha, set_at hl]
/-- the function that does it -/
def opF : Nat → FuncId
  | 0 => 103
  | 1 => 104
  | 2 => 105
  | 3 => 106
  | 4 => 107
  | 5 => 108
  | 6 => 109
  | 7 => 110
  | 8 => 111
  | 9 => 112
  | _ => 113
theorem reads_a {x : Ins} (h : (hasS x.op).contains 97 = true) : x.a ∈ readsC x := by
  unfold readsC
  rw [h]
  simp
theorem reads_b {x : Ins} (h : (hasS x.op).contains 98 = true) : x.b ∈ readsC x := by
  unfold readsC
  rw [h]
  simp
theorem reads_x {x : Ins} (h : (hasS x.op).contains 120 = true) : ∀ r ∈ x.args, r ∈ readsC x := fun r hr => by
  unfold readsC
  rw [h]
  simp [hr]
section
variable {dw : Int → Int → Int → Option Int} {p : Prog} {m : MdA} {fg k : Nat} {t0 : ThA} {q : FrA}
theorem Cur.okr (hC : Cur m m.at_ fg k t0 q) (hf : FrOk p q.fr) (hr : (funA p q.fr.f).regs ≤ 65536) {z : Int} (h : 0 ≤ z ∧ z < (funA p q.fr.f).regs) : okR q.fr z := ⟨h.1, by rw [hf.regs]; omega⟩
/-- the frame has moved on; then its instruction is done -/
theorem hop (hP : PBig dw p) (hM : MOk p m.abs) (hk : m.kind = 0) (hB : MBig m) (hC : Cur m m.at_ fg k t0 q) (hl : t0.l.length = k + 1) {q1 : FrA} (hq1 : q1 = ⟨nextF q.fr q.fr.regs, q.rg⟩) (hw : ∀ z, okR q.fr z → wfI .u32 (regA q.fr z)) {x : Ins} (hx : x = insA p q.fr) :
    (∃ s, s = oneM dw p m.abs ∧ s.kind ≠ 2 ∧ OpFn (opF x.op.toNat) p (m.upF m.at_ t0 k q1) fg k x s) ∨ ∃ v, oneM dw p m.abs = faultM m.abs v ∧ OpFt (opF x.op.toNat) p (m.upF m.at_ t0 k q1) fg k x v := by
  have htl := (List.getElem?_eq_some_iff.1 hC.th).1
  have hAt : m.abs.ths[m.at_]? = some (t0.l.map FrA.fr) := by
    show (m.ths.map _)[m.at_]? = _
    rw [List.getElem?_map, hC.th]
    rfl
  have hth : thA m.abs = t0.l.map FrA.fr := by
    show m.abs.ths.getD m.at_ [] = _
    exact MdA.getT hC.th
  obtain ⟨l0, hl0⟩ : ∃ l0, t0.l = l0 ++ [q] := by
    have hne : t0.l ≠ [] := by
      intro e
      rw [e] at hl
      cases hl
    refine ⟨t0.l.dropLast, ?_⟩
    have e := List.dropLast_concat_getLast hne
    have h2 : t0.l[k]? = some (t0.l.getLast hne) := by
      rw [List.getLast_eq_getElem, List.getElem?_eq_getElem (by omega)]
      congr 2
      omega
    rw [hC.fr] at h2
    rw [Option.some.inj h2]
    exact e.symm
  have htop : topF m.abs = q.fr := by
    unfold topF
    rw [hth, hl0]
    simp
  have hfrs := hM.frs _ _ hAt
  have hf : FrOk p q.fr := hfrs.1 _ (List.mem_map.2 ⟨q, List.mem_of_getElem? hC.fr, rfl⟩)
  obtain ⟨hF, hI, hend⟩ := blk_ok hP.ok hf
  rw [← hx] at hI hend
  have hfm : funA p q.fr.f ∈ p.funcs := by
    unfold funA
    rw [List.getD_eq_getElem?_getD, List.getElem?_eq_getElem hf.f]
    exact List.getElem_mem hf.f
  have hbm : (funA p q.fr.f).blocks.getD q.fr.b default ∈ (funA p q.fr.f).blocks := by
    rw [List.getD_eq_getElem?_getD, List.getElem?_eq_getElem hf.b]
    exact List.getElem_mem hf.b
  have hxm : x ∈ blkA p q.fr := by
    rw [hx]
    unfold insA
    rw [List.getD_eq_getElem?_getD, List.getElem?_eq_getElem hf.i]
    exact List.getElem_mem hf.i
  have hxw := hP.wf _ hfm _ hbm x hxm
  have hrg := hP.regs _ hfm
  have hil : q.fr.i ≤ 1073741824 := Nat.le_trans (Nat.le_of_lt hf.i) (hP.blk _ hfm _ hbm)
  have hok : ∀ r ∈ readsC x, okR q.fr r := fun r hr => hC.okr hf hrg (hI.reads r hr)
  have hokd : writesB x = true → okR q.fr x.d := fun h => hC.okr hf hrg (hI.dst h)
  have hregs : q1.fr.regs = q.fr.regs := by rw [hq1]; rfl
  have hok1 : ∀ {z}, okR q.fr z → okR q1.fr z := fun h => by unfold okR; rw [hregs]; exact h
  have hreg1 : ∀ z, regA q1.fr z = regA q.fr z := fun z => by unfold regA; rw [hregs]
  have hC1 : Cur (m.upF m.at_ t0 k q1) m.at_ fg k (t0.upF k q1) q1 := hC.upF q1 (by rw [hregs]; exact hC.i64)
  have hs1 : (m.upF m.at_ t0 k q1).abs = setFr m.abs m.at_ k q1.fr := MdA.abs_upF hC.th
  have hset : ∀ r, setFr (m.upF m.at_ t0 k q1).abs m.at_ k r = setTop m.abs r := fun r => by
    rw [hs1, setFr_setFr]
    exact setFr_top hAt (by rw [List.length_map]; omega)
  have hone : oneM dw p m.abs = stepM dw p m.abs q.fr x := by
    unfold oneM
    rw [htop, ← hx]
  have hm1 : (m.upF m.at_ t0 k q1).abs = setTop m.abs q1.fr := by rw [hs1]; exact setFr_top hAt (by rw [List.length_map]; omega)
  have hq1f : q1.fr = nextF q.fr q.fr.regs := by rw [hq1]
  have hln : (t0.upF k q1).l.length = k + 1 := by show (t0.l.set k q1).length = _; rw [List.length_set]; exact hl
  have hfl : t0.l.length ≤ 1073741824 := hB.frs t0 (List.mem_of_getElem? hC.th)
  have hfl1 : (t0.upF k q1).l.length ≤ 1073741824 := by omega
  have hat : m.at_ ≤ 1073741824 := by have := hB.ths; omega
  have hth1 : ∀ t ∈ (m.upF m.at_ t0 k q1).ths, t.l.length ≤ 1073741824 := fun t ht => by
    rcases List.mem_or_eq_of_mem_set ht with ht | rfl
    · exact hB.frs t ht
    · exact hfl1
  have hths1 : (m.upF m.at_ t0 k q1).ths.length ≤ 1073741824 := by show (List.set _ _ _).length ≤ _; rw [List.length_set]; exact hB.ths
  have hkind : ∀ r, (setTop m.abs r).kind ≠ 2 := fun r e => by
    have e : m.kind = 2 := e
    omega
  rw [hone]
  unfold stepM
  by_cases e0 : x.op = 0
  · rw [if_pos e0]
    refine .inl ⟨_, rfl, fun e => by have e : m.kind = 2 := e; omega, ?_⟩
    have := konst_fn (p := p) (x := x) hC1 (hok1 (hokd (by unfold writesB; rw [e0]; decide))) hxw.1
    rw [hset, hregs, hq1f] at this
    rw [e0]
    exact this
  rw [if_neg e0]
  by_cases e1 : x.op = 1
  · rw [if_pos e1]
    have hn := hxw.2 e1
    obtain ⟨w, is, hw32, hdo, hdw⟩ := hP.dw x.n (regA q.fr x.a) (regA q.fr x.b) hn.1 hn.2 (hw _ (hok _ (reads_a (by rw [e1]; decide)))) (hw _ (hok _ (reads_b (by rw [e1]; decide))))
    rw [hdw]
    rw [← hreg1 x.a, ← hreg1 x.b] at hdo
    cases is with
    | true =>
      refine .inl ⟨_, rfl, fun e => by have e : m.kind = 2 := e; omega, ?_⟩
      have := alu_true (p := p) (x := x) hC1 (hok1 (hokd (by unfold writesB; rw [e1]; decide))) (hok1 (hok _ (reads_a (by rw [e1]; decide)))) (hok1 (hok _ (reads_b (by rw [e1]; decide)))) hn hw32 hdo
      rw [hset, hregs, hq1f] at this
      rw [e1]
      exact this
    | false =>
      refine .inr ⟨1, rfl, ?_⟩
      have := alu_false (p := p) (x := x) hC1 (hok1 (hokd (by unfold writesB; rw [e1]; decide))) (hok1 (hok _ (reads_a (by rw [e1]; decide)))) (hok1 (hok _ (reads_b (by rw [e1]; decide)))) hn hw32 hdo
      rw [e1]
      exact this
  rw [if_neg e1]
  by_cases e2 : x.op = 2
  · rw [if_pos e2]
    refine .inl ⟨_, rfl, fun e => by have e : m.kind = 2 := e; omega, ?_⟩
    have := mov_fn (p := p) (x := x) hC1 (hok1 (hokd (by unfold writesB; rw [e2]; decide))) (hok1 (hok _ (reads_a (by rw [e2]; decide))))
    rw [hset, hregs, hreg1, hq1f] at this
    rw [e2]
    exact this
  rw [if_neg e2]
  by_cases e3 : x.op = 3
  · rw [if_pos e3]
    by_cases hin : (regA q.fr x.a).toNat < m.abs.heap.length
    · rw [if_pos hin]
      refine .inl ⟨_, rfl, fun e => by have e : m.kind = 2 := e; omega, ?_⟩
      have := load_in_fn (p := p) (x := x) hC1 (hok1 (hokd (by unfold writesB; rw [e3]; decide))) (hok1 (hok _ (reads_a (by rw [e3]; decide)))) hB.heap (by rw [hreg1]; exact hin)
      rw [hset, hregs, hreg1, hq1f] at this
      rw [e3]
      exact this
    · rw [if_neg hin]
      refine .inr ⟨2, rfl, ?_⟩
      have := load_out_fn (p := p) (x := x) hC1 (hok1 (hokd (by unfold writesB; rw [e3]; decide))) (hok1 (hok _ (reads_a (by rw [e3]; decide)))) hB.heap (by rw [hreg1]; exact hin)
      rw [e3]
      exact this
  rw [if_neg e3]
  by_cases e4 : x.op = 4
  · rw [if_pos e4]
    by_cases hin : (regA q.fr x.a).toNat < m.abs.heap.length
    · rw [if_pos hin]
      refine .inl ⟨_, rfl, fun e => by have e : m.kind = 2 := e; omega, ?_⟩
      have := store_in_fn (p := p) (x := x) hC1 (hok1 (hok _ (reads_b (by rw [e4]; decide)))) (hok1 (hok _ (reads_a (by rw [e4]; decide)))) hB.heap (by rw [hreg1]; exact hin)
      rw [hm1, hreg1, hreg1, hq1f] at this
      rw [e4]
      exact this
    · rw [if_neg hin]
      refine .inr ⟨2, rfl, ?_⟩
      have := store_out_fn (p := p) (x := x) hC1 (hok1 (hok _ (reads_b (by rw [e4]; decide)))) (hok1 (hok _ (reads_a (by rw [e4]; decide)))) hB.heap (by rw [hreg1]; exact hin)
      rw [e4]
      exact this
  rw [if_neg e4]
  by_cases e5 : x.op = 5
  · rw [if_pos e5]
    obtain ⟨c1, c2, c3⟩ := hI.call e5
    have hG := fun_ok hP.ok c2
    have hGr := hP.regs (funA p x.f.toNat) (by
      unfold funA
      rw [List.getD_eq_getElem?_getD, List.getElem?_eq_getElem c2]
      exact List.getElem_mem c2)
    have hG2 := hG.args
    refine .inl ⟨_, rfl, fun e => by have e : m.kind = 2 := e; omega, ?_⟩
    have := call_fn (p := p) (x := x) (n := (funA p x.f.toNat).regs.toNat) hC1 (by rw [hq1f]; exact Nat.succ_le_succ (Nat.zero_le _)) (by rw [hq1f]; have := hf.i; have := hP.blk _ hfm _ hbm; show q.fr.i + 1 ≤ _; exact Nat.le_trans hf.i this) c1 c2 (by omega) (by omega) (by omega) (fun a ha => hok1 (hok a (reads_x (by rw [e5]; decide) a ha))) hfl1 hat
    rw [hs1, setFr_setFr, hregs, show (⟨q1.fr.f, q1.fr.b, q1.fr.i - 1, q.fr.regs⟩ : Fr) = q.fr by rw [hq1f]; rfl, setFr_self hAt (by rw [List.getElem?_map, hC.fr]; rfl), show regA q1.fr = regA q.fr from funext hreg1] at this
    rw [e5]
    exact this
  rw [if_neg e5]
  by_cases e6 : x.op = 6
  · rw [if_pos e6]
    refine .inl ⟨_, rfl, fun e => by have e : m.kind = 2 := e; omega, ?_⟩
    have := print_fn (p := p) (x := x) hC1 (hok1 (hok _ (reads_a (by rw [e6]; decide)))) hB.out
    rw [hm1, hreg1, hq1f] at this
    rw [e6]
    exact this
  rw [if_neg e6]
  by_cases e7 : x.op = 7
  · rw [if_pos e7]
    refine .inl ⟨_, rfl, fun e => by have e : m.kind = 2 := e; omega, ?_⟩
    have hlv : liveT (m.upF m.at_ t0 k q1).abs ≠ [] := List.ne_nil_of_mem (a := m.at_) (liveT_mem.2 ⟨by show m.at_ < (List.map _ _).length; rw [List.length_map, List.length_set]; exact htl, by
      rw [MdA.getT (t0 := t0.upF k q1) hC1.th]
      intro e
      have : (t0.upF k q1).l.length = 0 := by rw [← List.length_map (f := FrA.fr), e]; rfl
      omega⟩)
    have := yield_fn (p := p) (fg := fg) (k := k) (x := x) hC1.nrm hlv hths1 hth1 hB.ch
    rw [hm1, hq1f] at this
    rw [e7]
    exact this
  rw [if_neg e7]
  by_cases e8 : x.op = 8
  · rw [if_pos e8]
    refine .inl ⟨_, rfl, fun e => by have e : m.kind = 2 := e; omega, ?_⟩
    have := jmp_fn (p := p) (x := x) hC1 (hI.l1 (.inl e8)).1
    rw [hset, hregs, hq1f] at this
    rw [e8]
    exact this
  rw [if_neg e8]
  by_cases e9 : x.op = 9
  · rw [if_pos e9]
    refine .inl ⟨_, rfl, fun e => by have e : m.kind = 2 := e; omega, ?_⟩
    have := br_fn (p := p) (x := x) hC1 (hI.l1 (.inr e9)).1 (hI.l2 e9).1 (hok1 (hok _ (reads_a (by rw [e9]; decide))))
    rw [hset, hregs, hreg1, hq1f] at this
    rw [e9]
    exact this
  rw [if_neg e9]
  have e10 : x.op = 10 := by have := hI.op; omega
  have hops : opF x.op.toNat = opF 10 := by rw [e10]; rfl
  rw [hops]
  have hdl : (thA m.abs).dropLast = l0.map FrA.fr := by rw [hth, hl0, List.map_append]; simp
  have hl0k : l0.length = k := by
    have := hl
    rw [hl0, List.length_append] at this
    simpa using this
  have hths : (m.upF m.at_ t0 k q1).abs.ths = m.abs.ths.set m.at_ ((l0 ++ [q1]).map FrA.fr) := by
    show (List.set _ _ _).map _ = _
    rw [List.map_set, show (t0.upF k q1).l = l0 ++ [q1] by show t0.l.set k q1 = _; rw [hl0, ← hl0k]; simp]
    rfl
  have hget : (m.upF m.at_ t0 k q1).abs.ths.getD m.at_ [] = (l0 ++ [q1]).map FrA.fr := by
    rw [MdA.getT (t0 := t0.upF k q1) hC1.th]
    show (t0.l.set k q1).map _ = _
    rw [hl0, ← hl0k]
    simp
  have har := (hok1 (hok _ (reads_a (by rw [e10]; decide))))
  rw [hdl, List.getLast?_map]
  cases hu : l0.getLast? with
  | some qu =>
    obtain ⟨l1, rfl⟩ := List.getLast?_eq_some_iff.1 hu
    have hk1 : k = l1.length + 1 := by rw [← hl0k]; simp
    subst hk1
    have hu1 : (t0.upF (l1.length + 1) q1).l[l1.length]? = some qu := by
      show (t0.l.set _ q1)[_]? = _
      rw [List.getElem?_set_ne (by omega), hl0]
      simp
    have hum : qu ∈ t0.l := by rw [hl0]; simp
    have hfu := hfrs.1 _ (List.mem_map.2 ⟨qu, hum, rfl⟩)
    have hch := hfrs.2.1
    rw [hl0, List.map_append, List.map_append, List.append_assoc] at hch
    have hc := Chain.mid (l := l1.map FrA.fr) (r := qu.fr) (u := q.fr) (m := []) hch
    obtain ⟨hFu, hIu, _⟩ := blk_ok hP.ok hfu
    have hfum : funA p qu.fr.f ∈ p.funcs := by
      unfold funA
      rw [List.getD_eq_getElem?_getD, List.getElem?_eq_getElem hfu.f]
      exact List.getElem_mem hfu.f
    have hbum : (funA p qu.fr.f).blocks.getD qu.fr.b default ∈ (funA p qu.fr.f).blocks := by
      rw [List.getD_eq_getElem?_getD, List.getElem?_eq_getElem hfu.b]
      exact List.getElem_mem hfu.b
    have hru := hP.regs _ hfum
    have hdu := hIu.dst (by unfold writesB; rw [hc.1]; decide)
    have := ret_up (p := p) (x := x) hC1 hln har hfl1 hu1 hfu ⟨hdu.1, by rw [hfu.regs]; omega⟩ (Nat.le_trans (Nat.le_of_lt hfu.i) (hP.blk _ hfum _ hbum)) (by rw [hfu.regs]; omega)
    refine .inl ⟨_, rfl, fun e => by have e : m.kind = 2 := e; omega, ?_⟩
    rw [hget, hths, hreg1] at this
    simp only [List.set_set] at this
    show OpFn _ p _ fg _ x (putT m.abs ((List.map FrA.fr (l1 ++ [qu])).dropLast ++ [⟨qu.fr.f, qu.fr.b, qu.fr.i + 1, qu.fr.regs.set (insA p qu.fr).d.toNat (regA q.fr x.a)⟩]))
    have e : ((l1 ++ [qu] ++ [q1]).map FrA.fr).dropLast.set l1.length ⟨qu.fr.f, qu.fr.b, qu.fr.i + 1, qu.fr.regs.set (insA p qu.fr).d.toNat (regA q.fr x.a)⟩ = (List.map FrA.fr (l1 ++ [qu])).dropLast ++ [⟨qu.fr.f, qu.fr.b, qu.fr.i + 1, qu.fr.regs.set (insA p qu.fr).d.toNat (regA q.fr x.a)⟩] := by
      simp
    rw [e] at this
    exact this
  | none =>
    have hl0n : l0 = [] := by simpa using hu
    subst hl0n
    have hk0 : k = 0 := by rw [← hl0k]; rfl
    subst hk0
    show (∃ s, s = (if m.at_ = 0 then { putT m.abs [] with kind := 1, v := regA q.fr x.a } else chooseM (putT m.abs [])) ∧ s.kind ≠ 2 ∧ OpFn _ p _ fg _ x s) ∨ _
    have e : ({ (m.upF m.at_ t0 0 q1).abs with ths := (m.upF m.at_ t0 0 q1).abs.ths.set m.at_ [] } : Mdl) = putT m.abs [] := by
      rw [hths, List.set_set]
      rfl
    by_cases h0 : m.at_ = 0
    · rw [if_pos h0]
      refine .inl ⟨_, rfl, ⟨by show (1 : Int) ≠ 2; decide, ?_⟩⟩
      have := ret_halt (p := p) (x := x) hC1 hln har hfl1 h0
      rw [hreg1] at this
      rw [← e]
      exact this
    · rw [if_neg h0]
      refine .inl ⟨_, rfl, fun e => by have e : m.kind = 2 := e; omega, ?_⟩
      have hz := hM.zero hk
      have hlv : liveT (putT m.abs []) ≠ [] := List.ne_nil_of_mem (a := 0) (liveT_mem.2 ⟨by show 0 < (List.set _ _ _).length; rw [List.length_set]; have : m.abs.ths.length = m.ths.length := List.length_map _; omega, putT_zero hz (.inr h0)⟩)
      have := ret_next (p := p) (x := x) hC1 hln har hfl1 h0 (by rw [e]; exact hlv) hths1 hth1 hB.ch
      rw [e] at this
      exact this
end
end Mu
end
section
/-
  The flat model: a step.
  Conditions: the program may be, the model runs.
-/
namespace Mu
open Go Go.RowKit Go.Proofs

/-- two memories are one -/
theorem St.le_twoJ {C : Ctx} {t : List AV} {h : List ABlk} {A B : Res} (i j : Nat) (hij : i ≠ j) (hi : h[i]? = some (.res A)) (hj : h[j]? = some (.res B)) (hA : A.mrk = [] := by rfl) (hB : B.mrk = [] := by rfl) : St.le C ⟨t, h⟩ ⟨t, (h.set j .dead).set i (.res (.all [A, B]))⟩ :=
  St.le_merge hij hi hj hA hB rfl (fun g ⟨X, hX, hg⟩ => by
    rcases List.mem_cons.1 hX with rfl | hX
    · exact .inl hg
    · rw [List.mem_singleton.1 hX] at hg
      exact .inr hg) fun w S h1 h2 h3 => ⟨fun X hX => by
    rcases List.mem_cons.1 hX with rfl | hX
    · exact h1
    · rw [List.mem_singleton.1 hX]
      exact h2, fun a b X Y hab hX hY g k1 k2 => by
    rcases a with _ | _ | a <;> rcases b with _ | _ | b <;> simp only [List.getElem?_cons_zero, List.getElem?_cons_succ, List.getElem?_nil, Option.some.injEq] at hX hY <;> try (first | cases hX; done | cases hY; done | exact absurd rfl hab)
    · subst hX hY
      exact h3 g k1 k2
    · subst hX hY
      exact h3 g k2 k1⟩
section
variable {P : Program} {C : Ctx} {t : List AV} {h : List ABlk} {o : Oper} {ι : Type} {Rs : ι → Res} {rs : ι → AV} {K : St → Prop}
/-- a function value that leads to nothing is called -/
theorem AOp.callSF {i : Nat} {R : Res} {f : FuncId} {x : Operand} {args : Array Operand} {tys : Array TypeId} {xs : List AV} (hi : h[i]? = some (.res R))
    (ho : o.op = .call { callee := .value x, args := args, argTypes := tys }) (hv : evA t x = .lit (.func (.func f) #[] #[])) (hF : FnTurnS P f R xs Rs rs) (hm : ∀ p, (Rs p).mrk = R.mrk) (hx : args.toList.map (evA t) = xs) (hc : AV.clL xs = true) (hr : ∀ p, AV.cl (rs p) = true)
    (hK : ∀ p, K ⟨putA t o.dst (rs p), h.set i (.res (Rs p))⟩) : AOp P C o ⟨t, h⟩ K := by
  rintro Q' a w ⟨hd, S, ψ, H, hl⟩
  refine ⟨fun c e => (by rw [ho] at e; cases e), ?_⟩
  have h1 := ev_rel hl x
  rw [show evA (St.mk t h).t x = _ from hv] at h1
  unfold AV.rel at h1
  have h2 : AV.relL w S h ψ xs (args.toList.map a.eval) := by
    rw [← hx]
    exact relL_map fun x _ => ev_rel hl x
  unfold Oper.wp
  rw [run_callV ho hF.1 a.eval w h1]
  simp only [Oper.upon]
  rw [show (args.map a.eval ++ #[]) = (args.toList.map a.eval).toArray from (by rw [Array.append_empty, ← Array.toList_map])]
  refine (hF.2 w S (args.toList.map a.eval) (fun k hk => ⟨H.lt k hk, fun hf => ((H.blk i _ hi).1 k hf).2.1 hk⟩) (fun g hg => ((H.blk i _ hi).1 g hg).2.2) (H.blk i _ hi).2 (AV.relL_cl _ _ hc h2)).mono ?_
  rintro e w' ⟨v, rfl, hT⟩
  obtain ⟨p, hp⟩ := turnS_st (o := o) hi hm hr hd H hl H.lt hT (.inl rfl)
  exact ⟨_, hK p, hp⟩
/-- an array's cell, where it lies -/
theorem Quiet.ixArrL {ty : TypeId} {x y : Operand} {ik : IntKind} {b off n : Nat} {z : Int} (hs : arrOf P ty = some (n, 1)) (ho : o.op = .indexAddr ty x y) (hx : evA t x = .lit (ptV b off)) (hy : evA t y = .lit (.int ik z)) (h0 : 0 ≤ z) (hk : z.toNat < n) : Quiet P C t h o (.lit (ptV b (off + z.toNat))) :=
  Quiet.of_run fun S ψ w ρ H hρ => by
    have h1 := hρ x (by simp [ho, Op.operands])
    have h2 := hρ y (by simp [ho, Op.operands])
    rw [hx] at h1
    rw [hy] at h2
    unfold AV.rel at h1 h2
    have hr := run_indexAt_arr (P := P) (w := w) (b := b) (off := off) (ik := ik) hs hk
    rw [Int.toNat_of_nonneg h0] at hr
    refine ⟨ptV b (off + z.toNat * 1), by simp [execOp, ho, h1, h2, hr], ?_⟩
    unfold AV.rel
    rw [Nat.mul_one]
end
@[reducible] def opV (k : Nat) : AV := .lit (.func (.func (opF k)) #[] #[])
@[reducible] def opsL : List AV := [opV 0, opV 1, opV 2, opV 3, opV 4, opV 5, opV 6, opV 7, opV 8, opV 9, opV 10]
instance inMuFlatF1 : ZC Tryz.prog 103 [.nilFunc, .nilFunc, .nilFunc, .nilFunc, .nilFunc, .nilFunc, .nilFunc, .nilFunc, .nilFunc, .nilFunc, .nilFunc] := ⟨by kernel_rfl⟩
instance inMuFlatF4 {h : List ABlk} {f : Go.Fn} {a b : Array Value} : OneI h (.lit (.func f a b)) := ⟨One.lit rfl⟩
instance inMuFlatF2 : AG Tryz.prog 102 false 1 := ⟨by kernel_rfl⟩
instance inMuFlatF3 : SZ Tryz.prog 103 11 := ⟨by kernel_rfl⟩
set_option maxRecDepth 100000 in
theorem does_fn : Fn Tryz.prog 48 [] (.agg opsL) := by
  refine Fn.of_awpC Tryz.func48 rfl (by kernel_rfl) rfl (by kernel_rfl : aggT Tryz.prog 103 = some (true, 11)) Tryz.ntmps48 fun C hC => ?_
  simp only [List.length_cons, List.length_nil, Nat.reduceAdd, Nat.reduceSub, List.replicate_succ, List.replicate_zero, List.cons_append, List.nil_append]
  refine wS (sA0 (wN ?_))
  refine wS (sH (Quiet.bldA (rs := opsL) (n := 11) (zs := List.replicate 11 .nilFunc) rfl (by kernel_rfl) (by kernel_rfl) (by kernel_rfl) (by kernel_rfl)) ?_)
  refine sW (wN ?_)
  exact Awp.ret ⟨⟨.inr rfl, 0, opsL, rfl, rfl, Fin.cl rfl⟩, fun i cells h1 h2 => by cases h1; cases h2; rfl⟩
section
variable {dw : Int → Int → Int → Option Int} {p : Prog} {m : MdA} {ga : Nat}
/-- the frame that runs -/
theorem cur_of (hP : PBig dw p) (hM : MOk p m.abs) (hk : m.kind = 0) (hN : m.Nrm) : ∃ fg k t0 q, Cur m m.at_ fg k t0 q ∧ t0.l.length = k + 1 ∧ FrOk p q.fr ∧ topF m.abs = q.fr := by
  obtain ⟨h1, h2⟩ := hM.run hk
  have h1 : m.at_ < m.ths.length := by
    have e : m.abs.ths.length = m.ths.length := List.length_map _
    have : m.abs.at_ = m.at_ := rfl
    omega
  obtain ⟨t0, ht⟩ : ∃ t0, m.ths[m.at_]? = some t0 := ⟨_, List.getElem?_eq_getElem h1⟩
  have hth : thA m.abs = t0.l.map FrA.fr := MdA.getT ht
  have hne : t0.l ≠ [] := by
    intro e
    rw [hth, e] at h2
    exact h2 rfl
  have hpos := List.length_pos_iff.2 hne
  obtain ⟨q, hq⟩ : ∃ q, t0.l[t0.l.length - 1]? = some q := ⟨_, List.getElem?_eq_getElem (by omega)⟩
  obtain ⟨_, fg, c, hv⟩ := hN.th t0 (List.mem_of_getElem? ht)
  have hat : m.abs.ths[m.at_]? = some (t0.l.map FrA.fr) := by
    show (m.ths.map _)[m.at_]? = _
    rw [List.getElem?_map, ht]
    rfl
  have hf : FrOk p q.fr := (hM.frs _ _ hat).1 _ (List.mem_map.2 ⟨q, List.mem_of_getElem? hq, rfl⟩)
  have hfm : funA p q.fr.f ∈ p.funcs := by
    unfold funA
    rw [List.getD_eq_getElem?_getD, List.getElem?_eq_getElem hf.f]
    exact List.getElem_mem hf.f
  refine ⟨fg, t0.l.length - 1, t0, q, ⟨hN, ht, ⟨c, hv⟩, hq, ?_⟩, by omega, hf, ?_⟩
  · have := hf.regs
    have := hP.regs _ hfm
    omega
  · unfold topF
    rw [hth, List.getLastD_eq_getLast?, List.getLast?_eq_getElem?, List.length_map, List.getElem?_map, hq]
    rfl
/-- what memory tells is known ahead -/
theorem FnTurnS.know {ι : Type} {P : Program} {f : FuncId} {R : Res} {args : List AV} {Rs : ι → Res} {rs : ι → AV} {Φ : Prop} (hE : Enters P f = true) (hk : ∀ w S, R.R w S → Φ) (h : Φ → FnTurnS P f R args Rs rs) : FnTurnS P f R args Rs rs := ⟨hE, fun w S vs a b c d => (h (hk w S c)).2 w S vs a b c d⟩
theorem ld_ops {n : Nat} (hn : n < 11) {w : World} {S : Nat → Prop} (H : (boxR ga opsL).R w S) : ∃ u, w.cell? ⟨ga, 0 + n, none⟩ = some u ∧ AV.rel w S [] ψ0 (.lit (.func (.func (opF n)) #[] #[])) u := by
  obtain ⟨cs, e, h1, h2⟩ := H
  have hg : opsL[n]? = some (.lit (.func (.func (opF n)) #[] #[])) := by
    rcases n with _ | _ | _ | _ | _ | _ | _ | _ | _ | _ | _ | n <;> first | rfl | omega
  obtain ⟨u, h3, h4⟩ := relL_get h2 hg
  exact ⟨u, by simp [World.cell?, h1, h3], h4⟩
set_option maxRecDepth 100000 in
theorem one_run {fg k : Nat} {t0 : ThA} {q : FrA} (hP : PBig dw p) (hB : MBig m) (hC : Cur m m.at_ fg k t0 q) (hl : t0.l.length = k + 1) (hf : FrOk p q.fr) {s : Mdl} (hs : s.kind ≠ 2) (ho : OpFn (opF (insA p q.fr).op.toNat) p (m.upF m.at_ t0 k ⟨nextF q.fr q.fr.regs, q.rg⟩) fg k (insA p q.fr) s) : FnTurnS Tryz.prog 49 (.all [modR p m, boxR ga opsL]) [.lit (ptV m.g 0), .lit (ptV ga 0)] (fun m' : OutT m s => .all [modR p m'.1, boxR ga opsL]) (fun _ => .lit (.tuple #[])) := by
  haveI hT : TG m fg m.at_ t0 := ⟨hC.th, hC.fv⟩
  haveI hQ : QK t0 k q := ⟨hC.fr⟩
  obtain ⟨tg, tc, htv⟩ := hC.nrm.tg
  have htc : m.tc = slV tg m.ths.length tc := hC.nrm.tv.trans htv
  have htl := (List.getElem?_eq_some_iff.1 hC.th).1
  obtain ⟨fc, hfv⟩ := hC.fv
  have hcv : t0.cv = t0.fv := (hC.nrm.th t0 (List.mem_of_getElem? hC.th)).1
  haveI hTV : TV m tg := ⟨tc, htv⟩
  have hfl : t0.l.length ≤ 1073741824 := hB.frs t0 (List.mem_of_getElem? hC.th)
  have htopf := top_fn p m tg m.at_ t0 fg fc hTV hC.th (hcv.trans hfv) (by omega)
  rw [show topV t0 fg = ptV fg (k * 4) by unfold topV topA; rw [if_neg (by omega), hl]; rfl] at htopf
  have hins := ins_fn hC hf
  obtain ⟨hF, hI, hend⟩ := blk_ok hP.ok hf
  have hbm : (funA p q.fr.f).blocks.getD q.fr.b default ∈ (funA p q.fr.f).blocks := by
    rw [List.getD_eq_getElem?_getD, List.getElem?_eq_getElem hf.b]
    exact List.getElem_mem hf.b
  have hfm : funA p q.fr.f ∈ p.funcs := by
    unfold funA
    rw [List.getD_eq_getElem?_getD, List.getElem?_eq_getElem hf.f]
    exact List.getElem_mem hf.f
  have hil : q.fr.i ≤ 1073741824 := Nat.le_trans (Nat.le_of_lt hf.i) (hP.blk _ hfm _ hbm)
  obtain ⟨x, hx⟩ : ∃ x, x = insA p q.fr := ⟨_, rfl⟩
  rw [← hx] at hins hI hend ho
  obtain ⟨q1, hq1⟩ : ∃ q1 : FrA, q1 = ⟨nextF q.fr q.fr.regs, q.rg⟩ := ⟨_, rfl⟩
  rw [← hq1] at ho
  have hw1 : IntKind.i64.wrap ((q.fr.i : Int) + 1) = ((q.fr.i + 1 : Nat) : Int) := wrap_k (by omega)
  have hopx := hI.op
  refine FnTurnS.of_awp0 Tryz.func49 rfl (by kernel_rfl) rfl Tryz.ntmps49 rfl (fun _ => rfl) fun C => ?_
  simp only [List.length_cons, List.length_nil, Nat.reduceAdd, Nat.reduceSub, List.replicate_succ, List.replicate_zero, List.cons_append, List.nil_append]
  refine Awp.via _ (St.le_two 0 rfl rfl rfl) ?_
  refine Awp.upto ?_
  refine nT (hk := ?_)
  refine dS 10 (hq := qT (qT (qT (qT ?_))))
  rw [htc]
  refine qT (qT (qT (qT ?_)))
  refine qH (Quiet.ixl0 rfl rfl rfl htl) (qT (qN ?_))
  refine aSeq_t rfl (AOp.callS (i := 0) rfl rfl htopf (fun _ => rfl) rfl rfl (fun _ => rfl) fun _ => ?_)
  refine sNt (hk := sT (wN ?_))
  refine wS (sT (sT ?_))
  refine aSeq_t rfl (AOp.callS (i := 0) rfl rfl hins (fun _ => rfl) rfl rfl (fun _ => rfl) fun _ => ?_)
  refine sNt (hk := ?_)
  refine sA0 ?_
  refine sW (wN ?_)
  refine wS (sT (sT (sT (sT (sT ?_)))))
  rw [hw1]
  refine sT (sT ?_)
  refine aSeq_t rfl (AOp.stMF (i := 0) (j := 2) (k := k) (u := .int .i64 ((q.fr.i + 1 : Nat) : Int)) q1 rfl rfl rfl rfl hT hC.fr rfl rfl (by decide) (by rw [hq1]; rfl) (by rw [hq1]; rfl) ?_)
  refine sNt (hk := wN ?_)
  refine dS 9 (hq := qT (qT (qT (qT ?_))))
  refine qH (Quiet.ixArrL (n := 11) (by kernel_rfl) rfl rfl rfl hopx.1 (by omega)) ?_
  refine qH (Quiet.ld_res (i := 1) (R := boxR ga opsL) rfl rfl rfl rfl fun w S H => ld_ops (by omega) H) (qT (qT (qT (qN ?_))))
  refine aSeq_t rfl (AOp.callSF (i := 0) rfl rfl rfl ho (fun _ => rfl) rfl rfl (fun _ => rfl) fun m1 => ?_)
  obtain ⟨m1, hN1, hg1, ha1⟩ := m1
  have hg1 : m1.g = m.g := hg1
  haveI : MC (modR p m1) m.g 8 (.lit (.int .u8 m1.kind)) := hg1 ▸ inferInstance
  refine sNt (hk := wN ?_)
  refine wS (sT (sT (sT (sT (sT (sT (wN ?_)))))))
  refine Awp.cond rfl (fun hb6 => ?_) (fun hb6 => ?_)
  · have hb6 := of_decide_eq_true hb6
    exact absurd (show s.kind = 2 by rw [← ha1]; exact hb6) hs
  · refine Awp.skip ?_
    refine upE (St.le.trans (St.le_twoJ 0 1 (by decide) rfl rfl) St.le.refl) ?_
    exact ⟨.inl rfl, ⟨m1, hN1, hg1, ha1⟩, rfl, rfl, trivial⟩
set_option maxRecDepth 100000 in
theorem one_flt {fg k : Nat} {t0 : ThA} {q : FrA} (hP : PBig dw p) (hB : MBig m) (hC : Cur m m.at_ fg k t0 q) (hl : t0.l.length = k + 1) (hf : FrOk p q.fr) {v : Int} (ho : OpFt (opF (insA p q.fr).op.toNat) p (m.upF m.at_ t0 k ⟨nextF q.fr q.fr.regs, q.rg⟩) fg k (insA p q.fr) v) : FnTurnS Tryz.prog 49 (.all [modR p m, boxR ga opsL]) [.lit (ptV m.g 0), .lit (ptV ga 0)] (fun m' : OutT m (faultM m.abs v) => .all [modR p m'.1, boxR ga opsL]) (fun _ => .lit (.tuple #[])) := by
  haveI hT : TG m fg m.at_ t0 := ⟨hC.th, hC.fv⟩
  haveI hQ : QK t0 k q := ⟨hC.fr⟩
  obtain ⟨tg, tc, htv⟩ := hC.nrm.tg
  have htc : m.tc = slV tg m.ths.length tc := hC.nrm.tv.trans htv
  have htl := (List.getElem?_eq_some_iff.1 hC.th).1
  obtain ⟨fc, hfv⟩ := hC.fv
  have hcv : t0.cv = t0.fv := (hC.nrm.th t0 (List.mem_of_getElem? hC.th)).1
  haveI hTV : TV m tg := ⟨tc, htv⟩
  have hfl : t0.l.length ≤ 1073741824 := hB.frs t0 (List.mem_of_getElem? hC.th)
  have htopf := top_fn p m tg m.at_ t0 fg fc hTV hC.th (hcv.trans hfv) (by omega)
  rw [show topV t0 fg = ptV fg (k * 4) by unfold topV topA; rw [if_neg (by omega), hl]; rfl] at htopf
  have hins := ins_fn hC hf
  obtain ⟨hF, hI, hend⟩ := blk_ok hP.ok hf
  have hbm : (funA p q.fr.f).blocks.getD q.fr.b default ∈ (funA p q.fr.f).blocks := by
    rw [List.getD_eq_getElem?_getD, List.getElem?_eq_getElem hf.b]
    exact List.getElem_mem hf.b
  have hfm : funA p q.fr.f ∈ p.funcs := by
    unfold funA
    rw [List.getD_eq_getElem?_getD, List.getElem?_eq_getElem hf.f]
    exact List.getElem_mem hf.f
  have hil : q.fr.i ≤ 1073741824 := Nat.le_trans (Nat.le_of_lt hf.i) (hP.blk _ hfm _ hbm)
  obtain ⟨x, hx⟩ : ∃ x, x = insA p q.fr := ⟨_, rfl⟩
  rw [← hx] at hins hI hend ho
  obtain ⟨q1, hq1⟩ : ∃ q1 : FrA, q1 = ⟨nextF q.fr q.fr.regs, q.rg⟩ := ⟨_, rfl⟩
  rw [← hq1] at ho
  have hw1 : IntKind.i64.wrap ((q.fr.i : Int) + 1) = ((q.fr.i + 1 : Nat) : Int) := wrap_k (by omega)
  have hopx := hI.op
  have hw2 : IntKind.i64.wrap (((q.fr.i + 1 : Nat) : Int) - 1) = (q.fr.i : Int) := by rw [IntWalk.i64_in _ (by omega)]; omega
  obtain ⟨m2, hm2⟩ : ∃ m2 : MdA, m2 = { m.upF m.at_ t0 k q1 with kind := 2, v := v } := ⟨_, rfl⟩
  have hC1 : Cur (m.upF m.at_ t0 k q1) m.at_ fg k (t0.upF k q1) q1 := hC.upF q1 (by rw [hq1]; exact hC.i64)
  haveI hT2 : TG m2 fg m.at_ (t0.upF k q1) := by rw [hm2]; exact ⟨hC1.th, hC1.fv⟩
  haveI hQ2 : QK (t0.upF k q1) k q1 := ⟨hC1.fr⟩
  have hi1 : q1.fr.i = q.fr.i + 1 := by rw [hq1]; rfl
  have e2 : m2.upF m.at_ (t0.upF k q1) k q = { m with kind := 2, v := v } := by
    rw [hm2]
    unfold MdA.upF MdA.upT ThA.upF
    simp only [List.set_set]
    rw [set_at hC.fr, set_at hC.th]
  have hg2 : m2.g = m.g := by rw [hm2]
  haveI : MC (modR p m2) m.g 8 (.lit (.int .u8 2)) := by rw [← hg2, show (2 : Int) = m2.kind by rw [hm2]]; infer_instance
  unfold OpFt at ho
  rw [← hm2] at ho
  refine FnTurnS.of_awp0 Tryz.func49 rfl (by kernel_rfl) rfl Tryz.ntmps49 rfl (fun _ => rfl) fun C => ?_
  simp only [List.length_cons, List.length_nil, Nat.reduceAdd, Nat.reduceSub, List.replicate_succ, List.replicate_zero, List.cons_append, List.nil_append]
  refine Awp.via _ (St.le_two 0 rfl rfl rfl) ?_
  refine Awp.upto ?_
  refine nT (hk := ?_)
  refine dS 10 (hq := qT (qT (qT (qT ?_))))
  rw [htc]
  refine qT (qT (qT (qT ?_)))
  refine qH (Quiet.ixl0 rfl rfl rfl htl) (qT (qN ?_))
  refine aSeq_t rfl (AOp.callS (i := 0) rfl rfl htopf (fun _ => rfl) rfl rfl (fun _ => rfl) fun _ => ?_)
  refine sNt (hk := sT (wN ?_))
  refine wS (sT (sT ?_))
  refine aSeq_t rfl (AOp.callS (i := 0) rfl rfl hins (fun _ => rfl) rfl rfl (fun _ => rfl) fun _ => ?_)
  refine sNt (hk := ?_)
  refine sA0 ?_
  refine sW (wN ?_)
  refine wS (sT (sT (sT (sT (sT ?_)))))
  rw [hw1]
  refine sT (sT ?_)
  refine aSeq_t rfl (AOp.stMF (i := 0) (j := 2) (k := k) (u := .int .i64 ((q.fr.i + 1 : Nat) : Int)) q1 rfl rfl rfl rfl hT hC.fr rfl rfl (by decide) (by rw [hq1]; rfl) (by rw [hq1]; rfl) ?_)
  refine sNt (hk := wN ?_)
  refine dS 9 (hq := qT (qT (qT (qT ?_))))
  refine qH (Quiet.ixArrL (n := 11) (by kernel_rfl) rfl rfl rfl hopx.1 (by omega)) ?_
  refine qH (Quiet.ld_res (i := 1) (R := boxR ga opsL) rfl rfl rfl rfl fun w S H => ld_ops (by omega) H) (qT (qT (qT (qN ?_))))
  refine aSeq_t rfl (AOp.callSF (i := 0) rfl rfl rfl ho (fun _ => rfl) rfl rfl (fun _ => rfl) fun _ => ?_)
  refine sNt (hk := wN ?_)
  refine wS (sT (sT (sT (sT (sT (sT (wN ?_)))))))
  refine Awp.cond rfl (fun hb6 => ?_) (fun hb6 => ?_)
  · refine wSE (sT (sT (sT (sT ?_))))
    rw [hi1]
    refine sT ?_
    rw [hw2]
    refine sT (sT ?_)
    refine aSeq_t rfl (AOp.stMF (i := 0) (j := 2) (k := k) (u := .int .i64 (q.fr.i : Int)) q rfl rfl rfl rfl hT2 hC1.fr rfl rfl (by decide) (by rw [hq1]; rfl) (by rw [hq1]; rfl) ?_)
    rw [e2]
    refine wN ?_
    refine upE (St.le.trans (St.le_twoJ 0 1 (by decide) rfl rfl) St.le.refl) ?_
    exact ⟨.inl rfl, ⟨{ m with kind := 2, v := v }, ⟨hC.nrm.out, hC.nrm.tv, hC.nrm.tg, hC.nrm.th⟩, rfl, rfl⟩, rfl, rfl, trivial⟩
  · cases hb6
set_option maxRecDepth 100000 in
/-- a step -/
theorem one_fn (hP : PBig dw p) (hM : MOk p m.abs) (hk : m.kind = 0) (hN : m.Nrm) (hB : MBig m) : FnTurnS Tryz.prog 49 (.all [modR p m, boxR ga opsL]) [.lit (ptV m.g 0), .lit (ptV ga 0)] (fun m' : OutT m (oneM dw p m.abs) => .all [modR p m'.1, boxR ga opsL]) (fun _ => .lit (.tuple #[])) := by
  obtain ⟨fg, k, t0, q, hC, hl, hf, htop⟩ := cur_of hP hM hk hN
  refine FnTurnS.know (Φ := ∀ z, okR q.fr z → wfI .u32 (regA q.fr z)) rfl (fun w S H z hz => rowW_wf (mod_rg (H.1 _ (List.mem_cons_self ..)) hC.th hC.fr) (getD_of hz.2)) fun hw => ?_
  rcases hop hP hM hk hB hC hl rfl hw rfl with ⟨s, rfl, hs, ho⟩ | ⟨v, hv, ho⟩
  · exact one_run hP hB hC hl hf hs ho
  · rw [hv]
    exact one_flt hP hB hC hl hf ho
end
end Mu
end
section
/-
  The flat model: Step, Stack.
  Conditions: the program may be, the model runs.
-/
namespace Mu
open Go Go.RowKit Go.Proofs

section
variable {dw : Int → Int → Int → Option Int} {p : Prog} {m : MdA}
set_option maxRecDepth 100000 in
theorem step_run (hP : PBig dw p) (hM : MOk p m.abs) (hk : m.kind = 0) (hN : m.Nrm) (hB : MBig m) : FnTurnS Tryz.prog 13 (modR p m) [.lit (ptV m.g 0)] (fun m' : OutT m (oneM dw p m.abs) => modR p m'.1) (fun _ => .lit (.bool true)) := by
  obtain ⟨tg, tc, htv⟩ := hN.tg
  have htc : m.tc = slV tg m.ths.length tc := hN.tv.trans htv
  have hn : 0 < m.ths.length := by
    have h1 := (hM.run hk).1
    have e : m.abs.ths.length = m.ths.length := List.length_map _
    omega
  have hr := runs_fn p m tg tc htc hn
  rw [show (m.kind == 0) = true by rw [hk]; rfl] at hr
  refine FnTurnS.of_awp Tryz.func13 rfl (by kernel_rfl) rfl Tryz.ntmps13 rfl fun C => ?_
  simp only [List.length_cons, List.length_nil, Nat.reduceAdd, Nat.reduceSub, List.replicate_succ, List.replicate_zero, List.cons_append, List.nil_append]
  refine wR (hk := ?_)
  refine Awp.seq fun K2 h2 => ?_
  refine wS (sT ?_)
  refine aSeq_t rfl (AOp.callS (i := 0) rfl rfl hr (fun _ => rfl) rfl rfl (fun _ => rfl) fun _ => ?_)
  refine sNt (hk := sT (wN ?_))
  refine Awp.cond rfl (fun hb4 => ?_) (fun hb4 => ?_)
  · cases hb4
  · refine Awp.skip ?_
    refine h2 _ ?_
    refine nT (hk := ?_)
    refine wS (sC does_fn (sA0 ?_))
    refine sW (wN ?_)
    refine Awp.open_box 1 rfl rfl rfl (fun g => (.lit (ptV m.g 0) :: .any :: .lit (.bool false) :: .lit (ptV g 0) :: A6 [])) (fun g => (by (repeat (first | exact OpnB.nil | refine OpnB.ptr ?_ | refine OpnB.any ?_ | refine OpnB.keep rfl ?_)))) fun ga => ?_
    refine nT (hk := ?_)
    refine Awp.via _ (St.le_one 0 rfl) ?_
    refine nT (hk := ?_)
    refine Awp.via _ (St.le_push 0 1 (by decide) rfl rfl) ?_
    refine nT (hk := ?_)
    refine wS (sT ?_)
    refine aSeq_t rfl (AOp.callS (i := 0) rfl rfl (one_fn hP hM hk hN hB) (fun _ => rfl) rfl rfl (fun _ => rfl) fun m1 => ?_)
    refine sNt (hk := wN ?_)
    refine Awp.via _ (St.le_two 0 rfl rfl rfl) ?_
    refine nT (hk := ?_)
    refine wR (hk := ?_)
    exact Awp.ret ⟨.inr rfl, m1, rfl, rfl, rfl, rfl⟩
set_option maxRecDepth 100000 in
theorem step_idle (hk : m.kind ≠ 0) (hN : m.Nrm) (hn : 0 < m.ths.length) : FnTurnS Tryz.prog 13 (modR p m) [.lit (ptV m.g 0)] (fun _ : Unit => modR p m) (fun _ => .lit (.bool false)) := by
  obtain ⟨tg, tc, htv⟩ := hN.tg
  have htc : m.tc = slV tg m.ths.length tc := hN.tv.trans htv
  have hr := runs_fn p m tg tc htc hn
  rw [show (m.kind == 0) = false by simpa using hk] at hr
  refine FnTurnS.of_awp Tryz.func13 rfl (by kernel_rfl) rfl Tryz.ntmps13 rfl fun C => ?_
  simp only [List.length_cons, List.length_nil, Nat.reduceAdd, Nat.reduceSub, List.replicate_succ, List.replicate_zero, List.cons_append, List.nil_append]
  refine wR (hk := ?_)
  refine Awp.seq fun K2 h2 => ?_
  refine wS (sT ?_)
  refine aSeq_t rfl (AOp.callS (i := 0) rfl rfl hr (fun _ => rfl) rfl rfl (fun _ => rfl) fun _ => ?_)
  refine sNt (hk := sT (wN ?_))
  refine Awp.cond rfl (fun hb4 => ?_) (fun hb4 => ?_)
  · refine wR (hk := ?_)
    exact Awp.ret ⟨.inr rfl, (), rfl, rfl, rfl, rfl⟩
  · cases hb4
end
theorem FnTurnS.of_awpT {P : Program} {f : FuncId} {fn : Go.Func} {c : Code} {args : List AV} {ι : Type} {R : Res} {Rs : ι → Res} {rs : ι → AV} {n : Nat} {t : Tmp} (hf : P.funcs[f]? = some fn) (hb : fn.body = some c) (hE : Enters P f = true) (hres : fn.results = #[.tmp t]) (hn : fn.ntmps = n) (hm : R.mrk = [])
    (h : ∀ C : Ctx, C.turn R → Awp P C c (RetsTS R Rs rs fun s r => evA s.t (.tmp t) = r ∧ AV.cl r = true) ⟨args ++ List.replicate (n - args.length) (.lit undef), [.res R]⟩) : FnTurnS P f R args Rs rs :=
  FnTurnS.of_awpQ _ hf hb hE hn hm (fun C s a w r S ψ ⟨h1, h2⟩ H hl => ⟨_, results_tmp hres _ _ _, by
    have := ev_rel hl (.tmp t)
    rw [h1] at this
    exact AV.rel_cl _ _ h2 this⟩) h
end Mu
end
section
/-
  slices.Clone: the same once more.
  Conditions: rows that memory has room for.
-/
namespace Mu
open Go Go.RowKit Go.Proofs
instance inMuCloneN1 : SL Tryz.prog 144 := ⟨by kernel_rfl⟩
instance inMuCloneN2 : RT Tryz.prog 144 4 1 1 := ⟨by kernel_rfl⟩

section
variable {l : List Int}
end
section
variable {l : List Int}
end
section
variable {l : List Bool}
set_option maxRecDepth 100000 in
theorem cloneP_set (hl : l.length ≤ 1073741824) : FnTurnS Tryz.prog 160 .emp [.tv (Ty.sliceP Ty.bool) l] (fun q : Nat × Nat => rowR (slV q.1 l.length q.2) 4 Ty.bool l) (fun q => .lit (slV q.1 l.length q.2)) := by
  refine FnTurnS.of_awp Tryz.func160 rfl (by kernel_rfl) rfl Tryz.ntmps160 rfl fun C => ?_
  simp only [List.length_cons, List.length_nil, Nat.reduceAdd, Nat.reduceSub, List.replicate_succ, List.replicate_zero, List.cons_append, List.nil_append]
  refine wR (hk := ?_)
  refine Awp.seq fun K2 h2 => ?_
  refine wS (sT (sH (Quiet.eqNilP rfl rfl rfl) (wN ?_)))
  refine Awp.cond rfl (fun hb4 => ?_) (fun hb4 => ?_)
  · cases hb4
  · refine Awp.skip ?_
    refine h2 _ ?_
    refine nT (hk := ?_)
    refine Awp.via _ (St.le_ofP 0 rfl) ?_
    refine nT (hk := ?_)
    refine wS ?_
    refine aSeq_t rfl (AOp.litE (T := Ty.bool) rfl (by decide) fun g => ?_)
    refine sNt (hk := sT ?_)
    refine aSeq_t rfl (AOp.appendQ (i := 1) (l := []) (bytes := 1) (T := Ty.bool) rfl (by kernel_rfl) rfl rfl rfl EncOf.one (by unfold maxLen; simp; omega) (by simp; omega) fun g' c' => ?_)
    refine sNt (hk := sT (wN ?_))
    refine Awp.via _ (St.le_move 0 1 (by decide) rfl rfl) ?_
    refine nT (hk := ?_)
    exact Awp.ret ⟨.inr rfl, (g', c'), rfl, rfl, rfl, rfl⟩
end
section
variable {l : List Func}
set_option maxRecDepth 100000 in
theorem cloneN_func : FnTurnS Tryz.prog 96 .emp [.lit (.slice none 0 0)] (fun _ : Unit => rowR (.slice none 0 0) 45 tFunc []) (fun _ => .lit (.slice none 0 0)) := by
  refine FnTurnS.of_awp Tryz.func96 rfl (by kernel_rfl) rfl Tryz.ntmps96 rfl fun C => ?_
  simp only [List.length_cons, List.length_nil, Nat.reduceAdd, Nat.reduceSub, List.replicate_succ, List.replicate_zero, List.cons_append, List.nil_append]
  refine wR (hk := ?_)
  refine Awp.seq fun K2 h2 => ?_
  refine wS (sT (sH (Quiet.eqNilN rfl rfl rfl) (wN ?_)))
  refine Awp.cond rfl (fun hb4 => ?_) (fun hb4 => ?_)
  · refine wR (hk := ?_)
    refine Awp.via _ (St.le_empNil 0 45 (T := tFunc) rfl (by decide)) ?_
    exact Awp.ret ⟨.inr rfl, (), rfl, rfl, rfl, rfl⟩
  · cases hb4
set_option maxRecDepth 100000 in
theorem cloneP_func (hl : l.length ≤ 1073741824) : FnTurnS Tryz.prog 96 .emp [.tv (Ty.sliceP tFunc) l] (fun q : Nat × Nat => rowR (slV q.1 l.length q.2) 45 tFunc l) (fun q => .lit (slV q.1 l.length q.2)) := by
  refine FnTurnS.of_awp Tryz.func96 rfl (by kernel_rfl) rfl Tryz.ntmps96 rfl fun C => ?_
  simp only [List.length_cons, List.length_nil, Nat.reduceAdd, Nat.reduceSub, List.replicate_succ, List.replicate_zero, List.cons_append, List.nil_append]
  refine wR (hk := ?_)
  refine Awp.seq fun K2 h2 => ?_
  refine wS (sT (sH (Quiet.eqNilP rfl rfl rfl) (wN ?_)))
  refine Awp.cond rfl (fun hb4 => ?_) (fun hb4 => ?_)
  · cases hb4
  · refine Awp.skip ?_
    refine h2 _ ?_
    refine nT (hk := ?_)
    refine Awp.via _ (St.le_ofP 0 rfl) ?_
    refine nT (hk := ?_)
    refine wS ?_
    refine aSeq_t rfl (AOp.litE (T := tFunc) rfl (by decide) fun g => ?_)
    refine sNt (hk := sT ?_)
    refine aSeq_t rfl (AOp.appendQ (i := 1) (l := []) (bytes := 56) (T := tFunc) rfl (by kernel_rfl) rfl rfl rfl EncOf.one (by unfold maxLen; simp; omega) (by simp; omega) fun g' c' => ?_)
    refine sNt (hk := sT (wN ?_))
    refine Awp.via _ (St.le_move 0 1 (by decide) rfl rfl) ?_
    refine nT (hk := ?_)
    exact Awp.ret ⟨.inr rfl, (g', c'), rfl, rfl, rfl, rfl⟩
end
section
variable {l : List Block}
set_option maxRecDepth 100000 in
theorem cloneN_block : FnTurnS Tryz.prog 97 .emp [.lit (.slice none 0 0)] (fun _ : Unit => rowR (.slice none 0 0) 48 tBlock []) (fun _ => .lit (.slice none 0 0)) := by
  refine FnTurnS.of_awp Tryz.func97 rfl (by kernel_rfl) rfl Tryz.ntmps97 rfl fun C => ?_
  simp only [List.length_cons, List.length_nil, Nat.reduceAdd, Nat.reduceSub, List.replicate_succ, List.replicate_zero, List.cons_append, List.nil_append]
  refine wR (hk := ?_)
  refine Awp.seq fun K2 h2 => ?_
  refine wS (sT (sH (Quiet.eqNilN rfl rfl rfl) (wN ?_)))
  refine Awp.cond rfl (fun hb4 => ?_) (fun hb4 => ?_)
  · refine wR (hk := ?_)
    refine Awp.via _ (St.le_empNil 0 48 (T := tBlock) rfl (by decide)) ?_
    exact Awp.ret ⟨.inr rfl, (), rfl, rfl, rfl, rfl⟩
  · cases hb4
set_option maxRecDepth 100000 in
theorem cloneP_block (hl : l.length ≤ 1073741824) : FnTurnS Tryz.prog 97 .emp [.tv (Ty.sliceP tBlock) l] (fun q : Nat × Nat => rowR (slV q.1 l.length q.2) 48 tBlock l) (fun q => .lit (slV q.1 l.length q.2)) := by
  refine FnTurnS.of_awp Tryz.func97 rfl (by kernel_rfl) rfl Tryz.ntmps97 rfl fun C => ?_
  simp only [List.length_cons, List.length_nil, Nat.reduceAdd, Nat.reduceSub, List.replicate_succ, List.replicate_zero, List.cons_append, List.nil_append]
  refine wR (hk := ?_)
  refine Awp.seq fun K2 h2 => ?_
  refine wS (sT (sH (Quiet.eqNilP rfl rfl rfl) (wN ?_)))
  refine Awp.cond rfl (fun hb4 => ?_) (fun hb4 => ?_)
  · cases hb4
  · refine Awp.skip ?_
    refine h2 _ ?_
    refine nT (hk := ?_)
    refine Awp.via _ (St.le_ofP 0 rfl) ?_
    refine nT (hk := ?_)
    refine wS ?_
    refine aSeq_t rfl (AOp.litE (T := tBlock) rfl (by decide) fun g => ?_)
    refine sNt (hk := sT ?_)
    refine aSeq_t rfl (AOp.appendQ (i := 1) (l := []) (bytes := 40) (T := tBlock) rfl (by kernel_rfl) rfl rfl rfl EncOf.one (by unfold maxLen; simp; omega) (by simp; omega) fun g' c' => ?_)
    refine sNt (hk := sT (wN ?_))
    refine Awp.via _ (St.le_move 0 1 (by decide) rfl rfl) ?_
    refine nT (hk := ?_)
    exact Awp.ret ⟨.inr rfl, (g', c'), rfl, rfl, rfl, rfl⟩
end
section
variable {l : List Ins}
set_option maxRecDepth 100000 in
theorem cloneN_ins : FnTurnS Tryz.prog 98 .emp [.lit (.slice none 0 0)] (fun _ : Unit => rowR (.slice none 0 0) 40 tIns []) (fun _ => .lit (.slice none 0 0)) := by
  refine FnTurnS.of_awp Tryz.func98 rfl (by kernel_rfl) rfl Tryz.ntmps98 rfl fun C => ?_
  simp only [List.length_cons, List.length_nil, Nat.reduceAdd, Nat.reduceSub, List.replicate_succ, List.replicate_zero, List.cons_append, List.nil_append]
  refine wR (hk := ?_)
  refine Awp.seq fun K2 h2 => ?_
  refine wS (sT (sH (Quiet.eqNilN rfl rfl rfl) (wN ?_)))
  refine Awp.cond rfl (fun hb4 => ?_) (fun hb4 => ?_)
  · refine wR (hk := ?_)
    refine Awp.via _ (St.le_empNil 0 40 (T := tIns) rfl (by decide)) ?_
    exact Awp.ret ⟨.inr rfl, (), rfl, rfl, rfl, rfl⟩
  · cases hb4
set_option maxRecDepth 100000 in
theorem cloneP_ins (hl : l.length ≤ 1073741824) : FnTurnS Tryz.prog 98 .emp [.tv (Ty.sliceP tIns) l] (fun q : Nat × Nat => rowR (slV q.1 l.length q.2) 40 tIns l) (fun q => .lit (slV q.1 l.length q.2)) := by
  refine FnTurnS.of_awp Tryz.func98 rfl (by kernel_rfl) rfl Tryz.ntmps98 rfl fun C => ?_
  simp only [List.length_cons, List.length_nil, Nat.reduceAdd, Nat.reduceSub, List.replicate_succ, List.replicate_zero, List.cons_append, List.nil_append]
  refine wR (hk := ?_)
  refine Awp.seq fun K2 h2 => ?_
  refine wS (sT (sH (Quiet.eqNilP rfl rfl rfl) (wN ?_)))
  refine Awp.cond rfl (fun hb4 => ?_) (fun hb4 => ?_)
  · cases hb4
  · refine Awp.skip ?_
    refine h2 _ ?_
    refine nT (hk := ?_)
    refine Awp.via _ (St.le_ofP 0 rfl) ?_
    refine nT (hk := ?_)
    refine wS ?_
    refine aSeq_t rfl (AOp.litE (T := tIns) rfl (by decide) fun g => ?_)
    refine sNt (hk := sT ?_)
    refine aSeq_t rfl (AOp.appendQ (i := 1) (l := []) (bytes := 88) (T := tIns) rfl (by kernel_rfl) rfl rfl rfl EncOf.one (by unfold maxLen; simp; omega) (by simp; omega) fun g' c' => ?_)
    refine sNt (hk := sT (wN ?_))
    refine Awp.via _ (St.le_move 0 1 (by decide) rfl rfl) ?_
    refine nT (hk := ?_)
    exact Awp.ret ⟨.inr rfl, (g', c'), rfl, rfl, rfl, rfl⟩
end
end Mu
end
section
/-
  Known memory is lent: a call reads it as a row.
  Conditions: none; generic.
-/
namespace Mu
open Go Go.RowKit Go.Proofs

section
variable {P : Program} {C : Ctx} {t : List AV} {h : List ABlk} {o : Oper} {ι : Type} {Rs : ι → Res} {rs : ι → AV} {K : St → Prop}
theorem AOp.callSR {i j : Nat} {R : Res} {b : ABlk} {f : FuncId} {args : Array Operand} {tys : Array TypeId} {xs : List AV} (hij : j ≠ i) (hi : h[i]? = some (.res R)) (hj : h[j]? = some b) (hlv : ABlk.live (some b) = true)
    (ho : o.op = .call { callee := .value (.func f), args := args, argTypes := tys }) (hF : FnTurnS P f R xs Rs rs) (hm : ∀ p, (Rs p).mrk = R.mrk) (hS : ∀ p w S S', (Rs p).R w S → (Rs p).R w S') (hcl : ∀ p, AV.cl (rs p) = true) (hr : ∀ p w S S' v, AV.rel w S [] ψ0 (rs p) v → AV.rel w S' [] ψ0 (rs p) v)
    (hx : ∀ S ψ w vs, HRel C h S ψ w → AV.relL w S h ψ (args.toList.map (evA t)) vs → AV.relL w (fun k => S k ∨ ftp h[j]? (ψ j) k) [] ψ0 xs vs)
    (hK : ∀ p, K ⟨putA t o.dst (rs p), h.set i (.res (Rs p))⟩) : AOp P C o ⟨t, h⟩ K := by
  rintro Q' a w ⟨hd, S, ψ, H, hl⟩
  refine ⟨fun c e => (by rw [ho] at e; cases e), ?_⟩
  have h2 := hx S ψ w (args.toList.map a.eval) H (relL_map fun x _ => ev_rel hl x)
  have hj2 : ∀ k, ftp h[j]? (ψ j) k → k < w.heap.size ∧ ¬ R.F k := fun k hk => ⟨(H.own_lt ⟨j, by rw [hj]; exact hlv, hk⟩).2.1, fun hf => H.dis j i hij (by rw [hj]; exact hlv) (by rw [hi]; rfl) k hk (by rw [hi]; exact hf)⟩
  unfold Oper.wp
  rw [run_call ho hF.1 a.eval w rfl]
  simp only [Oper.upon]
  rw [show (args.map a.eval) = (args.toList.map a.eval).toArray from (by rw [← Array.toList_map])]
  refine (hF.2 w _ (args.toList.map a.eval) (fun k hk => ?_) (fun g hg => ((H.blk i _ hi).1 g hg).2.2) (R.keep (H.blk i _ hi).2 (fun _ _ => rfl) (fun _ _ => rfl) fun _ h => .inl h) h2).mono ?_
  · rcases hk with hk | hk
    · exact ⟨H.lt k hk, fun hf => ((H.blk i _ hi).1 k hf).2.1 hk⟩
    · exact hj2 k hk
  · rintro e w' ⟨v, rfl, hT⟩
    obtain ⟨p, hp⟩ := turnS_st (o := o) hi hm hcl hd H hl (fun k hk => hk.elim (H.lt k) fun hk => (hj2 k hk).1) hT (.inr ⟨hS, hr, fun _ h => .inl h⟩)
    exact ⟨_, hK p, hp⟩
theorem lend_lastR {j g n c : Nat} {e : TypeId} {α : Type} {T : Ty α} {d : List α} (hj : h[j]? = some (.res (rowR (slV g n c) e T d))) {S : Nat → Prop} {ψ : Nat → Value} {w : World} (H : HRel C h S ψ w) : ∀ {pre : List AV} {vs : List Value}, AV.clL pre = true → AV.relL w S h ψ (pre ++ [.lit (slV g n c)]) vs → AV.relL w (fun k => S k ∨ ftp h[j]? (ψ j) k) [] ψ0 (pre ++ [.tv T.sliceP d]) vs
  | [], vs, _, hr => by
    rw [List.nil_append] at hr ⊢
    unfold AV.relL at hr ⊢
    obtain ⟨v, vs', e1, h1, h2⟩ := hr
    refine ⟨v, vs', e1, ?_, by unfold AV.relL at h2 ⊢; exact h2⟩
    unfold AV.rel at h1 ⊢
    subst h1
    obtain ⟨cells, k1, k0, k2⟩ := (H.blk _ _ hj).2
    refine ⟨own_slice k1 (fun i d hd => Ty.keepS _ (k2 i d hd) (fun _ _ => rfl) fun _ h => .inl h) fun g hg => .inr (by rw [hj]; exact ownBlock_blkOf hg), fun e => by cases e⟩
  | x :: pre, vs, hc, hr => by
    unfold AV.clL at hc
    rw [Bool.and_eq_true] at hc
    rw [List.cons_append] at hr ⊢
    unfold AV.relL at hr ⊢
    obtain ⟨v, vs', e1, h1, h2⟩ := hr
    exact ⟨v, vs', e1, AV.rel_cl _ _ hc.1 (AV.rel_ext (Ext.grow h ψ (fun _ _ => rfl) fun _ h => .inl h) _ _ h1), lend_lastR hj H hc.2 h2⟩
/-- memory is made by a call that reads known memory -/
theorem AOp.callNR {j g n c : Nat} {e : TypeId} {α : Type} {T : Ty α} {d : List α} {f : FuncId} {args : Array Operand} {tys : Array TypeId} (pre : List AV) (hj : h[j]? = some (.res (rowR (slV g n c) e T d)))
    (ho : o.op = .call { callee := .value (.func f), args := args, argTypes := tys }) (hF : FnTurnS P f .emp (pre ++ [.tv T.sliceP d]) Rs rs) (hm : ∀ p, (Rs p).mrk = []) (hS : ∀ p w S S', (Rs p).R w S → (Rs p).R w S') (hcl : ∀ p, AV.cl (rs p) = true) (hr : ∀ p w S S' v, AV.rel w S [] ψ0 (rs p) v → AV.rel w S' [] ψ0 (rs p) v)
    (hx : args.toList.map (evA t) = pre ++ [.lit (slV g n c)]) (hc : AV.clL pre = true)
    (hK : ∀ p, K ⟨putA t o.dst (rs p), h ++ [.res (Rs p)]⟩) : AOp P C o ⟨t, h⟩ K := by
  have hjl := (List.getElem?_eq_some_iff.1 hj).1
  have hj' : (h ++ [ABlk.res .emp])[j]? = some (.res (rowR (slV g n c) e T d)) := by rw [List.getElem?_append_left hjl]; exact hj
  refine AOp.le St.le_emp (AOp.callSR (i := h.length) (j := j) (by omega) (by rw [List.getElem?_append_right (Nat.le_refl _), Nat.sub_self]; rfl) hj' rfl ho hF hm hS hcl hr (fun S ψ w vs H hv => ?_) fun p => ?_)
  · rw [hx] at hv
    exact lend_lastR hj' H hc hv
  · rw [List.set_append_right _ _ (Nat.le_refl _), Nat.sub_self]
    exact hK p
theorem AOp.callSRL {i j g n c : Nat} {R : Res} {e : TypeId} {α : Type} {T : Ty α} {d : List α} {f : FuncId} {args : Array Operand} {tys : Array TypeId} (pre : List AV) (hij : j ≠ i) (hi : h[i]? = some (.res R)) (hj : h[j]? = some (.res (rowR (slV g n c) e T d)))
    (ho : o.op = .call { callee := .value (.func f), args := args, argTypes := tys }) (hF : FnTurnS P f R (pre ++ [.tv T.sliceP d]) Rs rs) (hm : ∀ p, (Rs p).mrk = R.mrk) (hS : ∀ p w S S', (Rs p).R w S → (Rs p).R w S') (hcl : ∀ p, AV.cl (rs p) = true) (hr : ∀ p w S S' v, AV.rel w S [] ψ0 (rs p) v → AV.rel w S' [] ψ0 (rs p) v)
    (hx : args.toList.map (evA t) = pre ++ [.lit (slV g n c)]) (hc : AV.clL pre = true)
    (hK : ∀ p, K ⟨putA t o.dst (rs p), h.set i (.res (Rs p))⟩) : AOp P C o ⟨t, h⟩ K :=
  AOp.callSR hij hi hj rfl ho hF hm hS hcl hr (fun S ψ w vs H hv => by
    rw [hx] at hv
    exact lend_lastR hj H hc hv) hK
end
/-! ### rows of truths -/
structure SetA where
  g : Nat
  c : Nat
  l : List Bool
@[reducible] def sV : Option SetA → Value
  | none => .slice none 0 0
  | some s => slV s.g s.l.length s.c
abbrev bR (g n c : Nat) (l : List Bool) : Res := rowR (slV g n c) 4 Ty.bool l
def sR : Option SetA → Res
  | none => .emp
  | some s => bR s.g s.l.length s.c s.l
def outLR (go : Nat) (o : List (Option SetA)) : List Res := rowL go o.length 144 (tCl 0) (o.map fun s => [Cl.v (sV s)]) :: o.map sR
def outR (go : Nat) (o : List (Option SetA)) : Res := .all (outLR go o)
theorem row_free {v : Value} {e : TypeId} {l : List Bool} {w : World} {S S' : Nat → Prop} (h : (rowR v e Ty.bool l).R w S) : (rowR v e Ty.bool l).R w S' := by
  obtain ⟨cells, h1, h0, h2⟩ := h
  exact ⟨cells, h1, h0, fun i d hd => h2 i d hd⟩
theorem cl_free {v : Value} {e : TypeId} {l : List (List Value)} {w : World} {S S' : Nat → Prop} (h : (rowR v e (tCl 0) (l.map fun d => d.map Cl.v)).R w S) : (rowR v e (tCl 0) (l.map fun d => d.map Cl.v)).R w S' := by
  obtain ⟨cells, h1, h0, h2⟩ := h
  refine ⟨cells, h1, h0, fun i d hd => ?_⟩
  obtain ⟨k1, k2, k3⟩ := h2 i d hd
  rw [List.getElem?_map] at hd
  obtain ⟨d0, _, rfl⟩ := Option.map_eq_some_iff.1 hd
  have e : (d0.map Cl.v).map Cl.av = d0.map AV.lit := by rw [List.map_map]; rfl
  refine ⟨k1, ?_, k3⟩
  rw [e] at k2 ⊢
  exact AV.litL_free k2
theorem out_free {go : Nat} {o : List (Option SetA)} {w : World} {S S' : Nat → Prop} (h : (outR go o).R w S) : (outR go o).R w S' := by
  refine ⟨fun A hA => ?_, h.2⟩
  have hA' := h.1 A hA
  rcases List.mem_cons.1 hA with rfl | hA
  · have e : (o.map fun s => [Cl.v (sV s)]) = (o.map fun s => [sV s]).map fun d => d.map Cl.v := by rw [List.map_map]; rfl
    unfold rowL at hA' ⊢
    rw [e] at hA' ⊢
    exact cl_free hA'
  · obtain ⟨s, _, rfl⟩ := List.mem_map.1 hA
    cases s with
    | none => trivial
    | some s => exact row_free hA'
theorem outL_get {go k : Nat} {o : List (Option SetA)} {s : Option SetA} (h : o[k]? = some s) : (outLR go o)[k + 1]? = some (sR s) := by
  show (o.map sR)[k]? = _
  rw [List.getElem?_map, h]
  rfl
section
variable {P : Program} {C : Ctx} {t : List AV} {h : List ABlk} {o : Oper} {K : St → Prop}
/-- which set a place has -/
theorem Quiet.ldO {ty : TypeId} {x : Operand} {n i go k : Nat} {O : List (Option SetA)} {s : Option SetA} [AG P ty false n] (ho : o.op = .load ty x) (hx : evA t x = .lit (ptV go k)) (hi : h[i]? = some (.res (outR go O))) (hk : O[k]? = some s) : Quiet P C t h o (.lit (sV s)) :=
  Quiet.ld_res ho hx hi rfl fun w S H => by
    have := rowL_at (T := tCl 0) (enc := fun l => l.map Cl.av) (k := k) (j := 0) (d := [Cl.v (sV s)]) (H.1 _ (List.mem_cons_self ..)) (by rw [List.getElem?_map, hk]; rfl) rfl
    rwa [show k * (tCl 0).size + 0 = k by show k * 1 + 0 = k; omega] at this
/-- a truth of such a set -/
theorem Quiet.ldB {ty : TypeId} {x : Operand} {n i go k z : Nat} {O : List (Option SetA)} {s : SetA} [AG P ty false n] (ho : o.op = .load ty x) (hx : evA t x = .lit (ptV s.g z)) (hi : h[i]? = some (.res (outR go O))) (hk : O[k]? = some (some s)) (hz : z < s.l.length) : Quiet P C t h o (.lit (.bool (s.l.getD z false))) :=
  Quiet.ld_res ho hx hi rfl fun w S H => by
    have := rowV_at (T := Ty.bool) (enc := fun d => [.lit (.bool d)]) (k := z) (j := 0) rfl (H.1 _ (List.mem_of_getElem? (outL_get hk))) (getD_of (d := false) hz) rfl
    rwa [show z * Ty.bool.size + 0 = z by show z * 1 + 0 = z; omega] at this
/-- .. is made false -/
theorem AOp.stOB {ty : TypeId} {x y : Operand} {i go k z : Nat} {O : List (Option SetA)} {s : SetA} {b : Bool} [SZ P ty 1] (ho : o.op = .store ty x y) (hx : evA t x = .lit (ptV s.g z)) (hy : evA t y = .lit (.bool b)) (hi : h[i]? = some (.res (outR go O))) (hk : O[k]? = some (some s)) (hz : z < s.l.length)
    (hK : K ⟨putA t o.dst (.lit undef), h.set i (.res (outR go (O.set k (some ⟨s.g, s.c, s.l.set z b⟩)))) ++ [.dead]⟩) : AOp P C o ⟨t, h⟩ K := by
  refine AOp.inAll (ι := Unit) (t' := fun _ => putA t o.dst (.lit undef)) (A' := fun _ => sR (some ⟨s.g, s.c, s.l.set z b⟩)) i (k + 1) [] hi (outL_get hk) rfl (fun _ => rfl) (fun h1 K' hi1 _ hK' => ?_) fun _ => ?_
  · have hK2 := hK' ()
    rw [List.append_nil] at hK2
    refine AOp.stRL (T := Ty.bool) (g := s.g) (c := s.c) (k := z) (j := 0) (d := s.l[z]) b ho hx hi1 (List.getElem?_eq_getElem hz) (by show _ = z * 1 + 0; omega) (by rw [hy]; exact RowUpd.fit (Fit.bool) EncOf.one) ?_
    rw [show sR (some ⟨s.g, s.c, s.l.set z b⟩) = rowL s.g s.c 4 Ty.bool (s.l.set z b) from rfl] at hK2
    exact hK2
  · have e : (outLR go O).set (k + 1) (sR (some ⟨s.g, s.c, s.l.set z b⟩)) = outLR go (O.set k (some ⟨s.g, s.c, s.l.set z b⟩)) := by
      unfold outLR
      rw [List.set_cons_succ, List.length_set, List.map_set, List.map_set, set_at (l := O.map fun s => [Cl.v (sV s)]) (by rw [List.getElem?_map, hk]; show some [Cl.v (slV s.g s.l.length s.c)] = some [Cl.v (slV s.g (s.l.set z b).length s.c)]; rw [List.length_set])]
    rw [e]
    exact hK
/-- a set that was made is put in -/
theorem AOp.stOS {ty : TypeId} {x y : Operand} {i j go k : Nat} {O : List (Option SetA)} {s : SetA} [SZ P ty 1] (hij : i ≠ j) (ho : o.op = .store ty x y) (hx : evA t x = .lit (ptV go k)) (hy : evA t y = .lit (sV (some s))) (hi : h[i]? = some (.res (outR go O))) (hk : O[k]? = some none) (hj : h[j]? = some (.res (sR (some s))))
    (hK : K ⟨putA t o.dst (.lit undef), ((h.set j .dead).set i (.res (outR go (O.set k (some s))))) ++ [.dead]⟩) : AOp P C o ⟨t, h⟩ K := by
  have hkl := (List.getElem?_eq_some_iff.1 hk).1
  have hil := (List.getElem?_eq_some_iff.1 hi).1
  refine AOp.le (St.le_put i j (k + 1) hij hi hj (outL_get hk) rfl) ?_
  refine AOp.inAll (ι := Unit) (t' := fun _ => putA t o.dst (.lit undef)) (A' := fun _ => rowL go O.length 144 (tCl 0) ((O.set k (some s)).map fun s => [Cl.v (sV s)])) i 0 [] (List.getElem?_set_self (by rw [List.length_set]; exact hil)) rfl rfl (fun _ => rfl) (fun h1 K' hi1 _ hK' => ?_) fun _ => ?_
  · have hK2 := hK' ()
    rw [List.append_nil] at hK2
    refine AOp.stRL (T := tCl 0) (k := k) (j := 0) (d := [Cl.v (sV none)]) [Cl.v (sV (some s))] ho hx hi1 (by rw [List.getElem?_map, hk]; rfl) (by show _ = k * 1 + 0; omega) (by rw [hy]; exact RowUpd.cl (.v (sV (some s))) (One.lit rfl) (by decide)) ?_
    rw [List.map_set] at hK2
    exact hK2
  · have e : ((outLR go O).set (k + 1) (sR (some s))).set 0 (rowL go O.length 144 (tCl 0) ((O.set k (some s)).map fun s => [Cl.v (sV s)])) = outLR go (O.set k (some s)) := by
      unfold outLR
      rw [List.set_cons_succ, List.set_cons_zero, List.length_set, List.map_set (f := sR)]
    rw [e, List.set_set]
    exact hK
end
end Mu
end
section
/-
  shape.through: which registers are surely there behind a block.
  Conditions: the block's registers are in range.
-/
namespace Mu
open Go Go.RowKit Go.Proofs

theorem shR_fn (x : Ins) (ho : okIns x) (hl : x.args.length ≤ 2097152) : Fn Tryz.prog 161 [.agg (encIns x)] (.bs tInt (readsC x)) :=
  Fn.of_ints (by kernel_rfl) (readsC_ok ho) fun w vs hr => by
    obtain ⟨v, rfl, hv⟩ := arg1 hr
    obtain ⟨cs, rfl, hc⟩ := rel_agg hv
    exact shape_reads x w cs (put_ins ho hc) hl
theorem shW_fn (x : Ins) (ho : okIns x) : Fn Tryz.prog 120 [.agg (encIns x)] (.tup [.lit (.int .i64 (if writesB x then x.d else 0)), .lit (.bool (writesB x))]) :=
  Fn.of_tup2 (by kernel_rfl) fun w vs hr => by
    obtain ⟨v, rfl, hv⟩ := arg1 hr
    obtain ⟨cs, rfl, hc⟩ := rel_agg hv
    refine (shape_writes x w cs (put_ins ho hc)).mono fun e w' ⟨he, hb⟩ => ⟨?_, hb⟩
    rw [he]
    unfold writesV
    cases writesB x <;> rfl
section
variable {P : Program} {C : Ctx} {t t' : List AV} {h : List ABlk} {ops : Array Oper} {rest : List Oper} {d : Option Nat} {ty : TypeId} {ps : String} {af : Array Go.Edge} {j : Nat} {K : St → Prop}
theorem sGq {op : Op} {r : AV} {g : Bool} (hq : g = true → Quiet P C t h ⟨d, op, ty, ps, af, some (j, true)⟩ r) [PA t d (cond g r (.lit undef)) t'] (hk : aSeq P C ops K rest ⟨t', h⟩) (hg : gA ops t ⟨d, op, ty, ps, af, some (j, true)⟩ = some (g == true) := by rfl) : aSeq P C ops K (⟨d, op, ty, ps, af, some (j, true)⟩ :: rest) ⟨t, h⟩ := sG (hg := gA_t hg) (hq := hq) (ht := PA.e) (hk := hk)
end
instance inMuThru1 : ES Tryz.prog 144 1 := ⟨by kernel_rfl⟩
instance inMuThru2 : AG Tryz.prog 144 false 1 := ⟨by kernel_rfl⟩
instance inMuThru3 : SZ Tryz.prog 144 1 := ⟨by kernel_rfl⟩
instance inMuThru4 : SL Tryz.prog 142 := ⟨by kernel_rfl⟩
instance inMuThru5 : ES Tryz.prog 142 1 := ⟨by kernel_rfl⟩
/-- what an instruction asks of registers -/
structure InRT (n : Nat) (x : Ins) : Prop where
  ok : okIns x
  args : x.args.length ≤ 2097152
  reads : ∀ r ∈ readsC x, 0 ≤ r ∧ r.toNat < n
  dst : writesB x = true → 0 ≤ x.d ∧ x.d.toNat < n
theorem inZ_iff {n : Nat} {z : Int} (h : 0 ≤ z ∧ z.toNat < n) : inZ n z = true := by
  unfold inZ
  rw [Bool.and_eq_true, decide_eq_true_eq, decide_eq_true_eq]
  exact h
theorem Quiet.ldBR {P : Program} {C : Ctx} {t : List AV} {h : List ABlk} {o : Oper} {ty : TypeId} {x : Operand} {n m i g c z : Nat} {l : List Bool} [AG P ty false m] (ho : o.op = .load ty x) (hx : evA t x = .lit (ptV g z)) (hi : h[i]? = some (.res (bR g n c l))) (hz : z < l.length) : Quiet P C t h o (.lit (.bool (l.getD z false))) :=
  Quiet.ld_res ho hx hi rfl fun w S H => by
    have := rowV_at (T := Ty.bool) (enc := fun d => [.lit (.bool d)]) (k := z) (j := 0) rfl H (getD_of (d := false) hz) rfl
    rwa [show z * Ty.bool.size + 0 = z by show z * 1 + 0 = z; omega] at this
theorem AOp.stBR {P : Program} {C : Ctx} {t : List AV} {h : List ABlk} {o : Oper} {K : St → Prop} {ty : TypeId} {x y : Operand} {i g n c z : Nat} {l : List Bool} {b : Bool} [SZ P ty 1] (ho : o.op = .store ty x y) (hx : evA t x = .lit (ptV g z)) (hy : evA t y = .lit (.bool b)) (hi : h[i]? = some (.res (bR g n c l))) (hn : l.length = n) (hz : z < l.length)
    (hK : K ⟨putA t o.dst (.lit undef), h.set i (.res (bR g n c (l.set z b)))⟩) : AOp P C o ⟨t, h⟩ K := by
  subst hn
  refine AOp.stRL (T := Ty.bool) (g := g) (c := c) (k := z) (j := 0) (d := l[z]) b ho hx hi (List.getElem?_eq_getElem hz) (by show _ = z * 1 + 0; omega) (by rw [hy]; exact RowUpd.fit (Fit.bool) EncOf.one) ?_
  rw [show rowL g c 4 Ty.bool (l.set z b) = bR g l.length c (l.set z b) by unfold rowL; rw [List.length_set]]
  exact hK
theorem readsC_lenT {x : Ins} (h : x.args.length ≤ 2097152) : (readsC x).length ≤ 2097154 := by
  unfold readsC
  rw [List.length_append, List.length_append]
  have h1 : (if (hasS x.op).contains 97 then [x.a] else []).length ≤ 1 := by split <;> simp
  have h2 : (if (hasS x.op).contains 98 then [x.b] else []).length ≤ 1 := by split <;> simp
  have h3 : (if (hasS x.op).contains 120 then x.args else []).length ≤ 2097152 := by
    split
    · exact h
    · simp
  omega
def thruR (q : SetA × Bool) : AV := .tup [.lit (slV q.1.g q.1.l.length q.1.c), .lit (.bool q.2)]
set_option maxRecDepth 100000 in
theorem through_fn {b : Block} {l : List Bool} (hl : l.length ≤ 1073741824) (hb : b.ins.length ≤ 1073741824) (hr : ∀ x ∈ b.ins, InRT l.length x) : FnTurnS Tryz.prog 94 .emp [.agg (encBlock b), .tv Ty.bool.sliceP l] (fun q : { q : SetA × Bool // q.1.l.length = l.length } => sR (some q.1.1)) (fun q => thruR q.1) := by
  refine FnTurnS.of_awp2 Tryz.func94 rfl (by kernel_rfl) rfl Tryz.ntmps94 rfl fun C => ?_
  simp only [List.length_cons, List.length_nil, Nat.reduceAdd, Nat.reduceSub, List.replicate_succ, List.replicate_zero, List.cons_append, List.nil_append]
  refine wS (sB (sT (sT (wN ?_))))
  refine wS (sT ?_)
  refine aSeq_t rfl (AOp.callN rfl (cloneP_set hl) (fun _ => rfl) rfl rfl (fun _ => rfl) fun gc => ?_)
  refine sNt (hk := sT (sT (wN ?_)))
  obtain ⟨g, c⟩ := gc
  refine Awp.seq fun K3 h3 => ?_
  refine wS (sT (sT (sT (sT (wN ?_)))))
  refine Awp.block ?_
  refine Awp.loopF (fun q : Nat × List Bool × Bool => ⟨(A6 (.lit (slV g l.length c) :: .lit (.bool q.2.2) :: A9 (.bs tIns b.ins :: .lit (.int .i64 (b.ins.length : Int)) :: .lit (.int .i64 (q.1 : Int)) :: A20 (A10 [])))), [.res .emp, .box (encBlock b), .res (bR g l.length c q.2.1)]⟩) (fun q => q.1 ≤ b.ins.length ∧ q.2.1.length = l.length) (fun q => b.ins.length - q.1) (0, l, true) ⟨Nat.zero_le _, rfl⟩ (St.le_t rfl (by (try simp only [putA, List.set_cons_zero, List.set_cons_succ]); repeat (first | exact Fgt.nil | refine Fgt.keep rfl ?_ | refine Fgt.any ?_))) ?_
  rintro ⟨k, l1, fine⟩ ⟨hk, hl1⟩
  have hk : k ≤ b.ins.length := hk
  have hl1 : l1.length = l.length := hl1
  refine wS (sT (wN ?_))
  refine Awp.seq fun K7 h7 => ?_
  refine Awp.cond rfl (fun hb8 => ?_) (fun hb8 => ?_)
  · have hlt : k < b.ins.length := by
      have := of_decide_eq_true hb8
      omega
    have hx := hr _ (List.mem_of_getElem? (inB_get (inBn hlt)))
    obtain ⟨x, hxe⟩ : ∃ x, x = ixD b.ins (k : Int) := ⟨_, rfl⟩
    rw [← hxe] at hx
    refine Awp.skip ?_
    refine h7 _ ?_
    refine nT (hk := ?_)
    refine Awp.seq fun K9 h9 => ?_
    refine Awp.block ?_
    refine wS (sX (inBn hlt) ?_)
    rw [← hxe]
    refine sT (sA0 (sW (wN ?_)))
    refine Awp.seq fun K11 h11 => ?_
    refine wS (sT (sC (shR_fn x hx.ok hx.args) (sT (sT (wN ?_)))))
    refine Awp.block ?_
    refine Awp.loopF (fun q : Nat × Bool => ⟨(A6 (.lit (slV g l.length c) :: .lit (.bool q.2) :: .any :: .ptr 3 0 :: A7 (.bs tIns b.ins :: .lit (.int .i64 (b.ins.length : Int)) :: .lit (.int .i64 (k : Int)) :: A4 (.bs tInt (readsC x) :: .lit (.int .i64 ((readsC x).length : Int)) :: .lit (.int .i64 (q.1 : Int)) :: A20 (A3 []))))), [.res .emp, .box (encBlock b), .res (bR g l.length c l1), .box (encIns x)]⟩) (fun q => q.1 ≤ (readsC x).length) (fun q => (readsC x).length - q.1) (0, fine) (Nat.zero_le _) (St.le_t rfl (by (try simp only [putA, List.set_cons_zero, List.set_cons_succ]); repeat (first | exact Fgt.nil | refine Fgt.keep rfl ?_ | refine Fgt.any ?_))) ?_
    rintro ⟨j, fine2⟩ hj
    have hj : j ≤ (readsC x).length := hj
    have hrl : (readsC x).length ≤ 2097154 := readsC_lenT hx.args
    refine wS (sT (wN ?_))
    refine Awp.seq fun K15 h15 => ?_
    refine Awp.cond rfl (fun hb16 => ?_) (fun hb16 => ?_)
    · have hjl : j < (readsC x).length := by
        have := of_decide_eq_true hb16
        omega
      have hz := hx.reads _ (List.mem_of_getElem? (inB_get (inBn hjl)))
      refine Awp.skip ?_
      refine h15 _ ?_
      refine nT (hk := ?_)
      refine Awp.seq fun K17 h17 => ?_
      refine Awp.block ?_
      refine wS (sX (inBn hjl) (sT (sT (wN ?_))))
      refine wSE (sT (sT ?_))
      refine sGt rfl ?_
      refine sGt rfl ?_
      refine sGq (fun hg => Quiet.ixRows rfl (GX.e hg) (GX.e hg) (inZ_iff hz)) ?_
      refine sGq (fun hg => Quiet.ldBR (i := 2) rfl (GX.e hg) rfl (by rw [hl1]; exact hz.2)) ?_
      refine sT (sT (wN ?_))
      refine h17 _ ?_
      refine nT (hk := ?_)
      refine wSE (sT (sT (wN ?_)))
      refine athen_n ⟨(j + 1, fine2 && l1.getD (ixD (readsC x) (j : Int)).toNat false), hjl, by show (readsC x).length - (j + 1) < (readsC x).length - j; omega, ?_⟩
      rw [wrap_k (by omega)]
      exact St.le_t rfl (by (try simp only [putA, List.set_cons_zero, List.set_cons_succ]); repeat (first | exact Fgt.nil | refine Fgt.keep rfl ?_ | refine Fgt.any ?_))
    · refine Awp.exit ?_
      refine h11 _ ?_
      refine nT (hk := ?_)
      refine wS (sT (sC (shW_fn x hx.ok) (sT (sT (sT (sT (sT (wN ?_))))))))
      refine wS (sT (wN ?_))
      refine Awp.cond rfl (fun hb23 => ?_) (fun hb23 => ?_)
      · have hd := hx.dst (by simpa using hb23)
        refine wSE (sT (sT ?_))
        refine sH (Quiet.ixRows rfl rfl rfl (inZ_iff (by rw [if_pos (by simpa using hb23)]; exact hd))) ?_
        refine aSeq_t rfl (AOp.stBR (i := 2) (z := (if writesB x then x.d else 0).toNat) rfl rfl rfl rfl hl1 (by rw [if_pos (by simpa using hb23), hl1]; exact hd.2) ?_)
        refine sNt (hk := wN ?_)
        refine h9 _ ?_
        refine nT (hk := ?_)
        refine wSE (sT (sT (wN ?_)))
        refine athen_n ⟨(k + 1, l1.set (if writesB x then x.d else 0).toNat true, fine2), ⟨hlt, by show (List.set _ _ _).length = _; rw [List.length_set]; exact hl1⟩, by show b.ins.length - (k + 1) < b.ins.length - k; omega, ?_⟩
        rw [wrap_k (by omega)]
        exact St.le_c (.cons (.cons (.cons (.nil _)))) rfl (by (try simp only [putA, List.set_cons_zero, List.set_cons_succ]); repeat (first | exact Fgt.nil | refine Fgt.keep rfl ?_ | refine Fgt.any ?_))
      · refine Awp.skip ?_
        refine h9 _ ?_
        refine nT (hk := ?_)
        refine wSE (sT (sT (wN ?_)))
        refine athen_n ⟨(k + 1, l1, fine2), ⟨hlt, hl1⟩, by show b.ins.length - (k + 1) < b.ins.length - k; omega, ?_⟩
        rw [wrap_k (by omega)]
        exact St.le_c (.cons (.cons (.cons (.nil _)))) rfl (by (try simp only [putA, List.set_cons_zero, List.set_cons_succ]); repeat (first | exact Fgt.nil | refine Fgt.keep rfl ?_ | refine Fgt.any ?_))
  · refine Awp.exit ?_
    refine h3 _ ?_
    refine nT (hk := ?_)
    refine wS (sT (sT (sT (sT (wN ?_)))))
    refine Awp.via _ (St.le_move 0 2 (by decide) rfl rfl) ?_
    refine nT (hk := ?_)
    exact Awp.ret ⟨.inr rfl, ⟨(⟨g, c, l1⟩, fine), hl1⟩, rfl, by show some (ABlk.res (bR g l.length c l1)) = some (.res (bR g l1.length c l1)); rw [hl1], by show AV.tup [.lit (slV g l.length c), .lit (.bool fine)] = .tup [.lit (slV g l1.length c), .lit (.bool fine)]; rw [hl1], rfl⟩
end Mu
end
section
/-
  shape.meet: a block loses registers.
  Conditions: sets of one length.
-/
namespace Mu
open Go Go.RowKit Go.Proofs

def wSet (n : Nat) : Option SetA → Nat
  | none => n + 1
  | some s => s.l.count true
def muO (n : Nat) (O : List (Option SetA)) : Nat := (O.map (wSet n)).sum
theorem sum_set {l : List Nat} {k a b : Nat} (h : l[k]? = some a) : (l.set k b).sum + a = l.sum + b := by
  induction l generalizing k with
  | nil => cases h
  | cons x l ih =>
    cases k with
    | zero =>
      obtain rfl : x = a := Option.some.inj h
      simp
      omega
    | succ k =>
      have := ih (k := k) h
      rw [List.set_cons_succ, List.sum_cons, List.sum_cons]
      omega
theorem muO_set {n k : Nat} {O : List (Option SetA)} {a b : Option SetA} (h : O[k]? = some a) : muO n (O.set k b) + wSet n a = muO n O + wSet n b := by
  unfold muO
  rw [List.map_set]
  exact sum_set (by rw [List.getElem?_map, h]; rfl)
theorem count_set {l : List Bool} {r : Nat} (h : l[r]? = some true) : (l.set r false).count true + 1 = l.count true := by
  induction l generalizing r with
  | nil => cases h
  | cons x l ih =>
    cases r with
    | zero =>
      obtain rfl : x = true := Option.some.inj h
      rw [List.set_cons_zero, List.count_cons, List.count_cons]
      simp
    | succ r =>
      have := ih (r := r) h
      rw [List.set_cons_succ, List.count_cons, List.count_cons]
      omega
def okO (n : Nat) (O : List (Option SetA)) : Prop := ∀ s, some s ∈ O → s.l.length = n
theorem okO.set {n k : Nat} {O : List (Option SetA)} (h : okO n O) {x : Option SetA} (hx : ∀ s, x = some s → s.l.length = n) : okO n (O.set k x) := fun s hs => by
  rcases List.mem_or_eq_of_mem_set hs with hs | hs
  · exact h s hs
  · exact hx s hs.symm
/-- what becomes of sets -/
abbrev MeetO (n : Nat) (O : List (Option SetA)) : Type := { q : Bool × List (Option SetA) // q.2.length = O.length ∧ okO n q.2 ∧ (q.1 = true → muO n q.2 < muO n O) ∧ muO n q.2 ≤ muO n O }
section
variable {go k n : Nat} {O : List (Option SetA)} {bl : List Bool}
set_option maxRecDepth 100000 in
theorem meet_none (hk : O[k]? = some none) (hn : n ≤ 1073741824) (hbl : bl.length = n) (hO : okO n O) : FnTurnS Tryz.prog 159 (outR go O) [.lit (slV go O.length O.length), .lit (.int .i64 (k : Int)), .tv Ty.bool.sliceP bl] (fun q : MeetO n O => outR go q.1.2) (fun q => .lit (.bool q.1.1)) := by
  have hkl := (List.getElem?_eq_some_iff.1 hk).1
  refine FnTurnS.of_awp Tryz.func159 rfl (by kernel_rfl) rfl Tryz.ntmps159 rfl fun C => ?_
  simp only [List.length_cons, List.length_nil, Nat.reduceAdd, Nat.reduceSub, List.replicate_succ, List.replicate_zero, List.cons_append, List.nil_append]
  refine wR (hk := ?_)
  refine Awp.seq fun K2 h2 => ?_
  refine wS (sT (sT ?_))
  refine sH (Quiet.ixl0 rfl rfl rfl hkl) ?_
  refine sH (Quiet.ldO (i := 0) rfl rfl rfl hk) ?_
  refine sH (Quiet.eqNilN rfl rfl rfl) (wN ?_)
  refine Awp.cond rfl (fun hb4 => ?_) (fun hb4 => ?_)
  · refine wS (sT (sT (sT ?_)))
    refine aSeq_t rfl (AOp.callN rfl (cloneP_set (by omega)) (fun _ => rfl) rfl rfl (fun _ => rfl) fun gc => ?_)
    refine sNt (hk := ?_)
    refine sH (Quiet.ixl0 rfl rfl rfl hkl) ?_
    refine aSeq_t rfl (AOp.stOS (i := 0) (j := 1) (s := ⟨gc.1, gc.2, bl⟩) (by decide) rfl rfl rfl rfl hk rfl ?_)
    refine sNt (hk := wN ?_)
    refine wR (hk := ?_)
    have hm := muO_set (n := n) (b := some ⟨gc.1, gc.2, bl⟩) hk
    have hc : bl.count true ≤ bl.length := List.count_le_length
    have hw1 : wSet n none = n + 1 := rfl
    have hw2 : wSet n (some ⟨gc.1, gc.2, bl⟩) = bl.count true := rfl
    exact Awp.ret ⟨.inr rfl, ⟨(true, O.set k (some ⟨gc.1, gc.2, bl⟩)), List.length_set, hO.set fun s e => by cases e; exact hbl, fun _ => by show muO n (O.set k _) < _; omega, by show muO n (O.set k _) ≤ _; omega⟩, rfl, rfl, rfl, rfl⟩
  · cases hb4
set_option maxRecDepth 100000 in
theorem meet_some {s : SetA} (hk : O[k]? = some (some s)) (hn : n ≤ 1073741824) (hbl : bl.length = n) (hO : okO n O) : FnTurnS Tryz.prog 159 (outR go O) [.lit (slV go O.length O.length), .lit (.int .i64 (k : Int)), .tv Ty.bool.sliceP bl] (fun q : MeetO n O => outR go q.1.2) (fun q => .lit (.bool q.1.1)) := by
  have hkl := (List.getElem?_eq_some_iff.1 hk).1
  have hsl : s.l.length = n := hO s (List.mem_of_getElem? hk)
  refine FnTurnS.of_awp Tryz.func159 rfl (by kernel_rfl) rfl Tryz.ntmps159 rfl fun C => ?_
  simp only [List.length_cons, List.length_nil, Nat.reduceAdd, Nat.reduceSub, List.replicate_succ, List.replicate_zero, List.cons_append, List.nil_append]
  refine wR (hk := ?_)
  refine Awp.seq fun K2 h2 => ?_
  refine wS (sT (sT ?_))
  refine sH (Quiet.ixl0 rfl rfl rfl hkl) ?_
  refine sH (Quiet.ldO (i := 0) rfl rfl rfl hk) ?_
  refine sH (Quiet.eqNilV rfl rfl rfl) (wN ?_)
  refine Awp.cond rfl (fun hb4 => ?_) (fun hb4 => ?_)
  · cases hb4
  · refine Awp.skip ?_
    refine h2 _ ?_
    refine nT (hk := ?_)
    refine wR (hk := ?_)
    refine Awp.via _ (St.le_ofP 2 rfl) ?_
    refine nT (hk := ?_)
    refine Awp.seq fun K9 h9 => ?_
    refine wS (sT (sT ?_))
    refine sH (Quiet.ixl0 rfl rfl rfl hkl) ?_
    refine sH (Quiet.ldO (i := 0) rfl rfl rfl hk) ?_
    refine sT (sT (wN ?_))
    refine Awp.block ?_
    refine Awp.loopF (fun q : Nat × List Bool × Bool => ⟨(.lit (slV go O.length O.length) :: .lit (.int .i64 (k : Int)) :: .bs Ty.bool bl :: A4 (.lit (.bool q.2.2) :: A10 (A5 (.lit (.int .i64 (s.l.length : Int)) :: .lit (.int .i64 (q.1 : Int)) :: A20 (A4 []))))), [.res (outR go (O.set k (some ⟨s.g, s.c, q.2.1⟩)))]⟩) (fun q => q.1 ≤ s.l.length ∧ q.2.1.length = s.l.length ∧ (q.2.2 = true → q.2.1.count true < s.l.count true) ∧ q.2.1.count true ≤ s.l.count true) (fun q => s.l.length - q.1) (0, s.l, false) ⟨Nat.zero_le _, rfl, fun (e : false = true) => (by cases e), Nat.le_refl _⟩ (by rw [set_at hk]; exact St.le_t rfl (by (try simp only [putA, List.set_cons_zero, List.set_cons_succ]); repeat (first | exact Fgt.nil | refine Fgt.keep rfl ?_ | refine Fgt.any ?_))) ?_
    rintro ⟨r, l1, lost⟩ ⟨hr, hl1, hlt1, hle1⟩
    have hr : r ≤ s.l.length := hr
    have hl1 : l1.length = s.l.length := hl1
    have hle1 : l1.count true ≤ s.l.count true := hle1
    have hlt1 : lost = true → l1.count true < s.l.count true := hlt1
    have hk1 : (O.set k (some ⟨s.g, s.c, l1⟩))[k]? = some (some ⟨s.g, s.c, l1⟩) := List.getElem?_set_self hkl
    refine wS (sT (wN ?_))
    refine Awp.seq fun K13 h13 => ?_
    refine Awp.cond rfl (fun hb14 => ?_) (fun hb14 => ?_)
    · have hlt : r < s.l.length := by
        have := of_decide_eq_true hb14
        omega
      have hrl : r < l1.length := by omega
      have hrb : inBd bl (r : Int) = true := inBn (by omega)
      refine Awp.skip ?_
      refine h13 _ ?_
      refine nT (hk := ?_)
      refine Awp.seq fun K15 h15 => ?_
      refine Awp.block ?_
      refine wR (hk := ?_)
      refine wS (sT (sT ?_))
      refine sH (Quiet.ixl0 rfl rfl rfl hkl) ?_
      refine sH (Quiet.ldO (i := 0) rfl rfl rfl hk1) (sT ?_)
      refine sH (Quiet.ixl0 rfl rfl rfl hrl) ?_
      refine sH (Quiet.ldB (i := 0) (s := ⟨s.g, s.c, l1⟩) rfl rfl rfl hk1 hrl) (sT ?_)
      refine sGt rfl ?_
      refine sGt rfl ?_
      refine sGXt rfl (by rw [hrb]; simp) ?_
      refine sGt rfl ?_
      refine sGt rfl ?_
      refine sT (wN ?_)
      refine Awp.cond rfl (fun hb18 => ?_) (fun hb18 => ?_)
      · refine wSE (sT (sT ?_))
        refine sH (Quiet.ixl0 rfl rfl rfl hkl) ?_
        refine sH (Quiet.ldO (i := 0) rfl rfl rfl hk1) (sT ?_)
        refine sH (Quiet.ixl0 rfl rfl rfl hrl) ?_
        refine aSeq_t rfl (AOp.stOB (i := 0) (s := ⟨s.g, s.c, l1⟩) (z := r) (b := false) rfl rfl rfl rfl hk1 hrl ?_)
        refine sNt (hk := sT (wN ?_))
        refine h15 _ ?_
        refine nT (hk := ?_)
        refine wSE (sT (sT (wN ?_)))
        have htr : l1[r]? = some true := by
          rw [List.getElem?_eq_getElem hrl]
          rw [List.getD_eq_getElem?_getD, List.getElem?_eq_getElem hrl] at hb18
          rw [Bool.and_eq_true] at hb18
          exact congrArg some hb18.1
        have hcs := count_set htr
        refine athen_n ⟨(r + 1, l1.set r false, true), ⟨hlt, by show (List.set _ _ _).length = _; rw [List.length_set]; exact hl1, fun _ => by show (l1.set r false).count true < _; omega, by show (l1.set r false).count true ≤ _; omega⟩, by show s.l.length - (r + 1) < s.l.length - r; omega, ?_⟩
        rw [wrap_k (by omega)]
        show St.le _ _ ⟨_, [.res (outR go (O.set k (some ⟨s.g, s.c, l1.set r false⟩)))]⟩
        rw [show (O.set k (some ⟨s.g, s.c, l1.set r false⟩)) = (O.set k (some ⟨s.g, s.c, l1⟩)).set k (some ⟨s.g, s.c, l1.set r false⟩) by rw [List.set_set]]
        exact St.le_c (.cons (.nil _)) rfl (by (try simp only [putA, List.set_cons_zero, List.set_cons_succ]); repeat (first | exact Fgt.nil | refine Fgt.keep rfl ?_ | refine Fgt.any ?_))
      · refine Awp.skip ?_
        refine h15 _ ?_
        refine nT (hk := ?_)
        refine wSE (sT (sT (wN ?_)))
        refine athen_n ⟨(r + 1, l1, lost), ⟨hlt, hl1, hlt1, hle1⟩, by show s.l.length - (r + 1) < s.l.length - r; omega, ?_⟩
        rw [wrap_k (by omega)]
        exact St.le_c (.cons (.nil _)) rfl (by (try simp only [putA, List.set_cons_zero, List.set_cons_succ]); repeat (first | exact Fgt.nil | refine Fgt.keep rfl ?_ | refine Fgt.any ?_))
    · refine Awp.exit ?_
      refine h9 _ ?_
      refine nT (hk := ?_)
      refine wR (hk := ?_)
      have hm := muO_set (n := n) (b := some ⟨s.g, s.c, l1⟩) hk
      have hw1 : wSet n (some s) = s.l.count true := rfl
      have hw2 : wSet n (some ⟨s.g, s.c, l1⟩) = l1.count true := rfl
      exact Awp.ret ⟨.inr rfl, ⟨(lost, O.set k (some ⟨s.g, s.c, l1⟩)), List.length_set, hO.set fun s e => by cases e; rw [hl1]; exact hsl, fun e => by have := hlt1 e; show muO n (O.set k _) < _; omega, by show muO n (O.set k _) ≤ _; omega⟩, rfl, rfl, rfl, rfl⟩
theorem meet_fn (hkl : k < O.length) (hn : n ≤ 1073741824) (hbl : bl.length = n) (hO : okO n O) : FnTurnS Tryz.prog 159 (outR go O) [.lit (slV go O.length O.length), .lit (.int .i64 (k : Int)), .tv Ty.bool.sliceP bl] (fun q : MeetO n O => outR go q.1.2) (fun q => .lit (.bool q.1.1)) := by
  obtain ⟨x, hk⟩ : ∃ x, O[k]? = some x := ⟨_, List.getElem?_eq_getElem hkl⟩
  cases x with
  | none => exact meet_none hk hn hbl hO
  | some s => exact meet_some hk hn hbl hO
end
end Mu
end
section
/-
  shape: goes, Ends, has; letters, digits.
  Conditions: none.
-/
namespace Mu
open Go Go.RowKit Go.Proofs

def shape_goes (x : Ins) : M (List Int) := M.cnd (x.op == 8) (M.chk (wfB .i64 x.l1) (M.ok [x.l1])) (M.cnd (x.op == 9) (M.chk (wfB .i64 x.l1) (M.chk (wfB .i64 x.l2) (M.ok [x.l1, x.l2]))) (M.ok []))
set_option maxRecDepth 100000 in
set_option maxHeartbeats 4000000 in
theorem shape_goes_l {x : Ins} {r : List Int} (H : (shape_goes x).to r) : Fn Tryz.prog 158 [.agg (encIns x)] (.bs tInt r) := by
  delta shape_goes at H
  try dsimp only at H
  refine Fn.of_awp Tryz.func158 rfl (by kernel_rfl) rfl Tryz.ntmps158 fun C hC => ?_
  simp only [List.length_cons, List.length_nil, Nat.reduceAdd, Nat.reduceSub, List.replicate_succ, List.replicate_zero, List.cons_append, List.nil_append]
  refine wS (sB (sT (wN ?_)))
  refine Awp.seq fun Khs1 hs1 => ?_
  refine wS (sT (sT (wN ?_)))
  refine Awp.block ?_
  refine wS (sT (sT (wN ?_)))
  refine Awp.cond rfl (fun hb2 => ?_) (fun hb2 => ?_)
  · have H := M.to_t hb2 H
    obtain ⟨c3, H⟩ := M.to_chk.1 H
    refine wS (sT (sT ?_)); (refine aSeq_t rfl (AOp.litI 1 rfl (xs := [.tmp 8]) (T := tInt) (ds := [x.l1]) rfl rfl rfl (RT.eq (n := 1) (bytes := 8)) (by decide) (by decide) (.cons (Fit.int c3) .nil) ?_); refine sNtM (ht := (setS8 set1)) (hk := ?_)); refine sT (wN ?_)
    obtain rfl := M.to_ok.1 H
    exact Awp.ret ⟨.inr rfl, Fin.own rfl⟩
  · have H := M.to_f hb2 H
    refine wS (sT (sT (wN ?_)))
    refine Awp.cond rfl (fun hb4 => ?_) (fun hb4 => ?_)
    · have H := M.to_t hb4 H
      obtain ⟨c5, H⟩ := M.to_chk.1 H
      obtain ⟨c6, H⟩ := M.to_chk.1 H
      refine wS (sT (sT (sT (sT ?_)))); (refine aSeq_t rfl (AOp.litI 1 rfl (xs := [.tmp 13, .tmp 15]) (T := tInt) (ds := [x.l1, x.l2]) rfl rfl rfl (RT.eq (n := 1) (bytes := 8)) (by decide) (by decide) (.cons (Fit.int c5) (.cons (Fit.int c6) .nil)) ?_); refine sNtM (ht := (setS8 (setS8 set0))) (hk := ?_)); refine sT (wN ?_)
      obtain rfl := M.to_ok.1 H
      exact Awp.ret ⟨.inr rfl, Fin.own rfl⟩
    · have H := M.to_f hb4 H
      refine Awp.skip ?_
      refine hs1 _ ?_
      refine nT (hk := ?_)
      refine wS (sT (wN ?_))
      obtain rfl := M.to_ok.1 H
      refine Awp.via _ (St.le_nb 2 tInt rfl) ?_
      exact Awp.ret ⟨.inr rfl, Fin.cl rfl⟩
def shape_Ends (x : Ins) : M Bool := M.ok ((decide (x.op ≥ 8)) && (decide (x.op ≤ 10)))
set_option maxRecDepth 100000 in
set_option maxHeartbeats 4000000 in
theorem shape_Ends_l {x : Ins} {r : Bool} (H : (shape_Ends x).to r) : Fn Tryz.prog 156 [.agg (encIns x)] (.lit (.bool r)) := by
  delta shape_Ends at H
  try dsimp only at H
  refine Fn.of_awp Tryz.func156 rfl (by kernel_rfl) rfl Tryz.ntmps156 fun C hC => ?_
  simp only [List.length_cons, List.length_nil, Nat.reduceAdd, Nat.reduceSub, List.replicate_succ, List.replicate_zero, List.cons_append, List.nil_append]
  refine wS (sB (sT (wN ?_)))
  refine wS (sT (sT (sT (sT ?_)))); refine sGt rfl ?_; refine sGt rfl ?_; refine sGt rfl (sT (sT (wN ?_)))
  obtain rfl := M.to_ok.1 H
  exact Awp.ret ⟨.inr rfl, Fin.cl rfl⟩
def shape_has (place : Int) (many : Int) : M Bool := M.ok ((decide (place ≥ 0)) && (decide (place < many)))
set_option maxRecDepth 100000 in
set_option maxHeartbeats 4000000 in
theorem shape_has_l {place : Int} {many : Int} {r : Bool} (H : (shape_has place many).to r) : Fn Tryz.prog 151 [.lit (.int .i64 place), .lit (.int .i64 many)] (.lit (.bool r)) := by
  delta shape_has at H
  try dsimp only at H
  refine Fn.of_awp Tryz.func151 rfl (by kernel_rfl) rfl Tryz.ntmps151 fun C hC => ?_
  simp only [List.length_cons, List.length_nil, Nat.reduceAdd, Nat.reduceSub, List.replicate_succ, List.replicate_zero, List.cons_append, List.nil_append]
  refine wS (sT (wN ?_))
  refine wS (sT (sT (sT ?_))); refine sGt rfl ?_; refine sGt rfl ?_; refine sGt rfl (sT (sT (wN ?_)))
  obtain rfl := M.to_ok.1 H
  exact Awp.ret ⟨.inr rfl, Fin.cl rfl⟩
def lex_letter (c : Int) : M Bool := M.ok ((((decide (c ≥ 97)) && (decide (c ≤ 122))) || ((decide (c ≥ 65)) && (decide (c ≤ 90)))) || (c == 95))
set_option maxRecDepth 100000 in
set_option maxHeartbeats 4000000 in
theorem lex_letter_l {c : Int} {r : Bool} (H : (lex_letter c).to r) : Fn Tryz.prog 216 [.lit (.int .u8 c)] (.lit (.bool r)) := by
  delta lex_letter at H
  try dsimp only at H
  refine Fn.of_awp Tryz.func216 rfl (by kernel_rfl) rfl Tryz.ntmps216 fun C hC => ?_
  simp only [List.length_cons, List.length_nil, Nat.reduceAdd, Nat.reduceSub, List.replicate_succ, List.replicate_zero, List.cons_append, List.nil_append]
  refine wS (sT (wN ?_))
  refine wS (sT (sT (sT ?_))); refine sGt rfl ?_; refine sGt rfl (sT (sT ?_)); refine sGf rfl ?_; refine sGf rfl ?_; refine sGf rfl ?_; refine sG (g := ((!((decide (c ≥ 97)) && (decide (c ≤ 122)))) && (decide (c ≥ 65)))) (hg := gA_tc rfl rfl) (hq := fun hg => by (have hg' := and_l hg; exact Quiet.move rfl get0)) (ht := (setS8 set5)) (hk := ?_); refine sG (g := ((!((decide (c ≥ 97)) && (decide (c ≤ 122)))) && (decide (c ≥ 65)))) (hg := gA_tc rfl rfl) (hq := fun hg => by (have hg' := and_l hg; exact Quiet.bin rfl ((getS8 get5).trans (cndT hg _ _)) getC rfl)) (ht := (setS8 set6)) (hk := ?_); refine sG (g := (!((decide (c ≥ 97)) && (decide (c ≤ 122))))) (hg := gA_f rfl) (hq := fun hg => Quiet.pickAndB rfl ((getS8 get4).trans (cndT hg _ _)) ((getS8 get6).trans (cndA hg _ _)) getC) (ht := (setS8 set7)) (hk := ?_); refine sT (sT ?_); refine sGf rfl ?_; refine sGf rfl (sT (sT (wN ?_)))
  obtain rfl := M.to_ok.1 H
  exact Awp.ret ⟨.inr rfl, Fin.cl rfl⟩
def lex_digit (c : Int) : M Bool := M.ok ((decide (c ≥ 48)) && (decide (c ≤ 57)))
set_option maxRecDepth 100000 in
set_option maxHeartbeats 4000000 in
theorem lex_digit_l {c : Int} {r : Bool} (H : (lex_digit c).to r) : Fn Tryz.prog 219 [.lit (.int .u8 c)] (.lit (.bool r)) := by
  delta lex_digit at H
  try dsimp only at H
  refine Fn.of_awp Tryz.func219 rfl (by kernel_rfl) rfl Tryz.ntmps219 fun C hC => ?_
  simp only [List.length_cons, List.length_nil, Nat.reduceAdd, Nat.reduceSub, List.replicate_succ, List.replicate_zero, List.cons_append, List.nil_append]
  refine wS (sT (wN ?_))
  refine wS (sT (sT (sT ?_))); refine sGt rfl ?_; refine sGt rfl (sT (sT (wN ?_)))
  obtain rfl := M.to_ok.1 H
  exact Awp.ret ⟨.inr rfl, Fin.cl rfl⟩
def word_truth (isP0 : Bool) : M (Int × Bool) := M.cnd isP0 (M.ok (1, true)) (M.ok (0, true))
set_option maxRecDepth 100000 in
set_option maxHeartbeats 4000000 in
theorem word_truth_l {isP0 : Bool} {r : Int × Bool} (H : (word_truth isP0).to r) : Fn Tryz.prog 233 [.lit (.bool isP0)] (.tup [.lit (.int .u32 r.1), .lit (.bool r.2)]) := by
  delta word_truth at H
  try dsimp only at H
  refine Fn.of_awp2 Tryz.func233 rfl (by kernel_rfl) rfl Tryz.ntmps233 fun C hC => ?_
  simp only [List.length_cons, List.length_nil, Nat.reduceAdd, Nat.reduceSub, List.replicate_succ, List.replicate_zero, List.cons_append, List.nil_append]
  refine wS (sT (sT (wN ?_)))
  refine Awp.seq fun Khs1 hs1 => ?_
  refine wS (sT (wN ?_))
  refine Awp.cond rfl (fun hb2 => ?_) (fun hb2 => ?_)
  · have H := M.to_t hb2 H
    refine wS (sT (sT (wN ?_)))
    obtain rfl := M.to_ok.1 H
    exact Awp.ret ⟨.inr rfl, _, _, Fin.cl rfl, rfl, rfl⟩
  · have H := M.to_f hb2 H
    refine Awp.skip ?_
    refine hs1 _ ?_
    refine nT (hk := ?_)
    refine wS (sT (sT (wN ?_)))
    obtain rfl := M.to_ok.1 H
    exact Awp.ret ⟨.inr rfl, _, _, Fin.cl rfl, rfl, rfl⟩
def goesL (x : Ins) : List Int := if x.op = 8 then [x.l1] else if x.op = 9 then [x.l1, x.l2] else []
theorem goes_fn {x : Ins} (ho : okIns x) : Fn Tryz.prog 158 [.agg (encIns x)] (.bs tInt (goesL x)) := by
  refine shape_goes_l ?_
  unfold shape_goes goesL
  by_cases e8 : x.op = 8
  · rw [if_pos e8, show (x.op == 8) = true by simpa using e8]
    exact M.t_to rfl (M.chk_to ho.l1 (M.ok_to _))
  · rw [if_neg e8, show (x.op == 8) = false by simpa using e8]
    by_cases e9 : x.op = 9
    · rw [if_pos e9, show (x.op == 9) = true by simpa using e9]
      exact M.f_to rfl (M.t_to rfl (M.chk_to ho.l1 (M.chk_to ho.l2 (M.ok_to _))))
    · rw [if_neg e9, show (x.op == 9) = false by simpa using e9]
      exact M.f_to rfl (M.f_to rfl (M.ok_to _))
theorem ends_fn (x : Ins) : Fn Tryz.prog 156 [.agg (encIns x)] (.lit (.bool (decide (x.op ≥ 8) && decide (x.op ≤ 10)))) := shape_Ends_l (M.ok_to _)
end Mu
end
section
/-
  shape.sure: the registers that are surely there ahead of each block.
  Conditions: the function's instructions are in range.
-/
namespace Mu
open Go Go.RowKit Go.Proofs

theorem AV.tupLit_free (us : List Value) {w w' : World} {S S' : Nat → Prop} {v : Value} (h : AV.rel w S [] ψ0 (.tup (us.map AV.lit)) v) : AV.rel w' S' [] ψ0 (.tup (us.map AV.lit)) v := by
  unfold AV.rel at h ⊢
  obtain ⟨cs, e, hl⟩ := h
  exact ⟨cs, e, AV.litL_free hl⟩
theorem setU {α : Type _} {l : List α} {k : Nat} {x : α} (h : l[k]? = some x) : l.set k x = l := List.ext_getElem? fun j => by
  by_cases e : k = j
  · subst e
    rw [List.getElem?_set_self (List.getElem?_eq_some_iff.1 h).1, h]
  · rw [List.getElem?_set_ne e]
section
variable {P : Program} {C : Ctx} {t : List AV} {h : List ABlk} {o : Oper} {ι : Type} {Rs : ι → Res} {rs : ι → AV} {K : St → Prop}
/-- a call that makes memory reads one set of several -/
theorem AOp.callOS {i go k : Nat} {O : List (Option SetA)} {s : SetA} {f : FuncId} {args : Array Operand} {tys : Array TypeId} (pre : List AV) (hi : h[i]? = some (.res (outR go O))) (hk : O[k]? = some (some s))
    (ho : o.op = .call { callee := .value (.func f), args := args, argTypes := tys }) (hF : FnTurnS P f .emp (pre ++ [.tv Ty.bool.sliceP s.l]) Rs rs) (hm : ∀ p, (Rs p).mrk = []) (hS : ∀ p w S S', (Rs p).R w S → (Rs p).R w S') (hcl : ∀ p, AV.cl (rs p) = true) (hr : ∀ p w S S' v, AV.rel w S [] ψ0 (rs p) v → AV.rel w S' [] ψ0 (rs p) v)
    (hx : args.toList.map (evA t) = pre ++ [.lit (slV s.g s.l.length s.c)]) (hc : AV.clL pre = true)
    (hK : ∀ p, K ⟨putA t o.dst (rs p), h ++ [.dead, .res (Rs p)]⟩) : AOp P C o ⟨t, h⟩ K := by
  have hil := (List.getElem?_eq_some_iff.1 hi).1
  have hkl : k + 1 < (outLR go O).length := (List.getElem?_eq_some_iff.1 (outL_get hk)).1
  refine AOp.postI (F := fun p => ⟨putA t o.dst (rs p), h ++ [.dead, .res (Rs p)]⟩) hK (AOp.le (St.le_take i (k + 1) hi (outL_get hk) rfl) (AOp.callNR (j := h.length) (T := Ty.bool) (d := s.l) (g := s.g) (n := s.l.length) (c := s.c) (e := 4) pre ?_ ho hF hm hS hcl hr hx hc fun p => ⟨p, ?_⟩))
  · show (h.set i _ ++ [ABlk.res (sR (some s))])[h.length]? = _
    rw [List.getElem?_append_right (by rw [List.length_set]; exact Nat.le_refl _), List.length_set, Nat.sub_self]
    rfl
  · have hlen : ∀ X : ABlk, (h.set i X).length = h.length := fun _ => List.length_set
    have := St.le_put (C := C) (t := putA t o.dst (rs p)) (h := h.set i (.res (.all ((outLR go O).set (k + 1) .emp))) ++ [.res (sR (some s))] ++ [.res (Rs p)]) (l := (outLR go O).set (k + 1) .emp) (R := sR (some s)) i h.length (k + 1) (by omega)
      (by rw [List.append_assoc, List.getElem?_append_left (by rw [hlen]; exact hil), List.getElem?_set_self hil]) (by rw [List.append_assoc, List.getElem?_append_right (by rw [hlen]; exact Nat.le_refl _), hlen, Nat.sub_self]; rfl) (List.getElem?_set_self hkl) rfl
    rw [List.set_set, set_at (outL_get hk), List.append_assoc, List.set_append_right _ _ (by rw [hlen]; exact Nat.le_refl _), hlen, Nat.sub_self, List.set_append_left _ _ (by rw [hlen]; exact hil), List.set_set] at this
    rw [show (h.set i (.res (.all (outLR go O)))) = h from setU hi] at this
    rw [List.append_assoc]
    exact this
theorem Quiet.eqNilS {xt yt : TypeId} {x y : Operand} {s : Option SetA} [SL P xt] (ho : o.op = .binOp .eql xt x y yt) (hx : evA t x = .lit (sV s)) (hy : evA t y = .lit (.slice none 0 0)) : Quiet P C t h o (.lit (.bool s.isNone)) := by
  cases s with
  | none => exact Quiet.eqNilN ho hx hy
  | some s => exact Quiet.eqNilV ho hx hy
/-- a row of slots, of which none has a set -/
theorem St.le_out0 (i : Nat) {go nb : Nat} (hi : h[i]? = some (.res (rowR (slV go nb nb) 144 (tCl 0) (List.replicate nb [Cl.v (.slice none 0 0)])))) : St.le C ⟨t, h⟩ ⟨t, h.set i (.res (outR go (List.replicate nb none)))⟩ := by
  refine St.le_res hi (fun g ⟨A, hA, hg⟩ => ?_) (fun w S H => ⟨fun A hA => ?_, fun a b A B hab hA hB g h1 h2 => ?_⟩) rfl
  · rcases List.mem_cons.1 hA with rfl | hA
    · exact hg
    · obtain ⟨s, hs, rfl⟩ := List.mem_map.1 hA
      rw [(List.mem_replicate.1 hs).2] at hg
      exact hg.elim
  · rcases List.mem_cons.1 hA with rfl | hA
    · unfold rowL
      rw [List.map_replicate, List.length_replicate, List.length_replicate]
      exact H
    · obtain ⟨s, hs, rfl⟩ := List.mem_map.1 hA
      rw [(List.mem_replicate.1 hs).2]
      trivial
  · have key : ∀ (a : Nat) (A : Res), (outLR go (List.replicate nb none))[a]? = some A → a ≠ 0 → A = .emp := fun a A hA ha => by
      obtain ⟨a, rfl⟩ : ∃ b, a = b + 1 := ⟨a - 1, by omega⟩
      have hA : ((List.replicate nb none).map sR)[a]? = some A := hA
      rw [List.getElem?_map] at hA
      obtain ⟨s, hs, rfl⟩ := Option.map_eq_some_iff.1 hA
      rw [(List.mem_replicate.1 (List.mem_of_getElem? hs)).2]
      rfl
    by_cases ha : a = 0
    · rw [key b B hB (by omega)] at h2
      exact h2
    · rw [key a A hA ha] at h1
      exact h1
end
theorem thruR_free (q : SetA × Bool) {w w' : World} {S S' : Nat → Prop} {v : Value} (h : AV.rel w S [] ψ0 (thruR q) v) : AV.rel w' S' [] ψ0 (thruR q) v := AV.tupLit_free [slV q.1.g q.1.l.length q.1.c, .bool q.2] h
/-- what a function asks for its registers to be told -/
structure InF (n : Nat) (f : Func) : Prop where
  regs : f.regs = (n : Int)
  nle : n ≤ 1073741824
  args : 0 ≤ f.args ∧ f.args ≤ f.regs
  blocks : f.blocks ≠ []
  len : f.blocks.length ≤ 1073741824
  ins : ∀ b ∈ f.blocks, b.ins ≠ [] ∧ b.ins.length ≤ 1073741824 ∧ (∀ x ∈ b.ins, InRT n x) ∧ ∀ x ∈ b.ins, ∀ r ∈ goesL x, 0 ≤ r ∧ r.toNat < f.blocks.length
abbrev SureO (n : Nat) (f : Func) : Type := { q : Nat × List (Option SetA) // q.2.length = f.blocks.length ∧ okO n q.2 }
set_option maxRecDepth 100000 in
theorem sure_fn {n : Nat} {f : Func} (hf : InF n f) : FnTurnS Tryz.prog 93 .emp [.agg (encFunc f)] (fun q : SureO n f => outR q.1.1 q.1.2) (fun q => .lit (slV q.1.1 q.1.2.length q.1.2.length)) := by
  obtain ⟨na, hna⟩ : ∃ na : Nat, f.args = (na : Int) := ⟨f.args.toNat, by have := hf.args; omega⟩
  have hnan : na ≤ n := by have := hf.args; have := hf.regs; omega
  have hn := hf.nle
  have hbl := hf.len
  have hpos := List.length_pos_iff.2 hf.blocks
  refine FnTurnS.of_awp Tryz.func93 rfl (by kernel_rfl) rfl Tryz.ntmps93 rfl fun C => ?_
  simp only [List.length_cons, List.length_nil, Nat.reduceAdd, Nat.reduceSub, List.replicate_succ, List.replicate_zero, List.cons_append, List.nil_append]
  refine wS (sB (sT (wN ?_)))
  refine wS (sT (sT ?_))
  rw [hf.regs]
  refine aSeq_t rfl (AOp.mkW (T := Ty.bool) false (e := 4) (z := .bool false) (bytes := 1) rfl (by kernel_rfl) rfl (fun w S => rfl) rfl rfl (by omega) (by unfold maxLen; omega) fun g1 => ?_)
  refine sNt (hk := sT (wN ?_))
  refine Awp.seq fun K3 h3 => ?_
  refine wS (sT (sT ?_))
  rw [hna]
  refine sT (wN ?_)
  refine Awp.block ?_
  refine Awp.loopF (fun q : Nat × List Bool => ⟨(.any :: .ptr 1 0 :: .any :: .lit (slV g1 n n) :: A10 (A3 (.lit (.int .i64 (na : Int)) :: .lit (.int .i64 (q.1 : Int)) :: A40 (A20 [.any])))), [.res .emp, .box (encFunc f), .res (bR g1 n n q.2)]⟩) (fun q => q.1 ≤ na ∧ q.2.length = n) (fun q => na - q.1) (0, List.replicate n false) ⟨Nat.zero_le _, List.length_replicate⟩ (St.le_t rfl (by (try simp only [putA, List.set_cons_zero, List.set_cons_succ]); repeat (first | exact Fgt.nil | refine Fgt.keep rfl ?_ | refine Fgt.any ?_))) ?_
  rintro ⟨k, l1⟩ ⟨hk, hl1⟩
  have hk : k ≤ na := hk
  have hl1 : l1.length = n := hl1
  refine wS (sT (wN ?_))
  refine Awp.seq fun K7 h7 => ?_
  refine Awp.cond rfl (fun hb8 => ?_) (fun hb8 => ?_)
  · have hlt : k < na := by
      have := of_decide_eq_true hb8
      omega
    refine Awp.skip ?_
    refine h7 _ ?_
    refine nT (hk := ?_)
    refine Awp.seq fun K9 h9 => ?_
    refine Awp.block ?_
    refine wS (sT (sT (wN ?_)))
    refine wSE (sT (sT ?_))
    refine sH (Quiet.ixl0 rfl rfl rfl (show k < n by omega)) ?_
    refine aSeq_t rfl (AOp.stBR (i := 2) (z := k) rfl rfl rfl rfl hl1 (by omega) ?_)
    refine sNt (hk := wN ?_)
    refine h9 _ ?_
    refine nT (hk := ?_)
    refine wSE (sT (sT (wN ?_)))
    refine athen_n ⟨(k + 1, l1.set k true), ⟨hlt, by show (List.set _ _ _).length = _; rw [List.length_set]; exact hl1⟩, by show na - (k + 1) < na - k; omega, ?_⟩
    rw [wrap_k (by omega)]
    exact St.le_c (.cons (.cons (.cons (.nil _)))) rfl (by (try simp only [putA, List.set_cons_zero, List.set_cons_succ]); repeat (first | exact Fgt.nil | refine Fgt.keep rfl ?_ | refine Fgt.any ?_))
  · refine Awp.exit ?_
    refine h3 _ ?_
    refine nT (hk := ?_)
    refine wS (sT (sT (sT ?_)))
    refine aSeq_t rfl (AOp.mkW (T := tCl 0) [Cl.v (.slice none 0 0)] (e := 144) (z := .slice none 0 0) (bytes := 24) rfl (by kernel_rfl) rfl (fun w S => ⟨rfl, by unfold AV.relL; exact ⟨_, _, rfl, by unfold AV.rel; rfl, by unfold AV.relL; rfl⟩, fun u hu => by rw [List.mem_singleton.1 hu]; rfl⟩) rfl rfl (by omega) (by unfold maxLen; omega) fun go => ?_)
    refine sNt (hk := sT (wN ?_))
    refine Awp.via _ (St.le_out0 3 rfl) ?_
    refine nT (hk := ?_)
    have h00 : (List.replicate f.blocks.length (none : Option SetA))[0]? = some none := by rw [List.getElem?_replicate, if_pos (by omega)]
    refine wS (sT (sT ?_))
    refine sH (Quiet.ixl0 (k := 0) rfl rfl rfl (by omega)) ?_
    refine aSeq_t rfl (AOp.stOS (i := 3) (j := 2) (s := ⟨g1, n, l1⟩) (by decide) rfl rfl (by show AV.lit (slV g1 n n) = .lit (slV g1 l1.length n); rw [hl1]) rfl h00 (by show some (ABlk.res (bR g1 n n l1)) = some (.res (bR g1 l1.length n l1)); rw [hl1]) ?_)
    refine sNt (hk := wN ?_)
    refine Awp.block ?_
    refine Awp.loopF (fun O : List (Option SetA) => ⟨(.any :: .ptr 1 0 :: A3 (.lit (slV go f.blocks.length f.blocks.length) :: A40 (A20 (A10 (A4 []))))), [.res .emp, .box (encFunc f), .dead, .res (outR go O)]⟩) (fun O => O.length = f.blocks.length ∧ okO n O) (fun O => muO n O) ((List.replicate f.blocks.length none).set 0 (some ⟨g1, n, l1⟩)) ⟨by rw [List.length_set, List.length_replicate], fun s hs => by
      rcases List.mem_or_eq_of_mem_set hs with hs | hs
      · cases (List.mem_replicate.1 hs).2
      · cases hs; exact hl1⟩ (St.le_c (.cons (.cons (.cons (.cons (.nil _))))) rfl (by (try simp only [putA, List.set_cons_zero, List.set_cons_succ]); repeat (first | exact Fgt.nil | refine Fgt.keep rfl ?_ | refine Fgt.any ?_))) ?_
    rintro O ⟨hOl, hO⟩
    refine Awp.block ?_
    refine Awp.scope ?_
    refine wS (sT (wN ?_))
    refine Awp.seq fun K17 h17 => ?_
    refine Awp.label ?_
    refine h17 _ ?_
    refine nT (hk := ?_)
    refine Awp.seq fun K18 h18 => ?_
    refine wS (sT (sT (sT (sT (wN ?_)))))
    refine Awp.block ?_
    refine Awp.loopF (fun q : Nat × List (Option SetA) × Bool => ⟨(.any :: .ptr 1 0 :: A3 (.lit (slV go f.blocks.length f.blocks.length) :: .lit (.bool q.2.2) :: A20 (A6 (.bs tBlock f.blocks :: .lit (.int .i64 (f.blocks.length : Int)) :: .lit (.int .i64 (q.1 : Int)) :: A40 (A4 []))))), [.res .emp, .box (encFunc f), .dead, .res (outR go q.2.1)]⟩) (fun q => q.1 ≤ f.blocks.length ∧ q.2.1.length = f.blocks.length ∧ okO n q.2.1 ∧ (q.2.2 = true → muO n q.2.1 < muO n O) ∧ muO n q.2.1 ≤ muO n O) (fun q => f.blocks.length - q.1) (0, O, false) ⟨Nat.zero_le _, hOl, hO, fun (e : false = true) => (by cases e), Nat.le_refl _⟩ (St.le_t rfl (by (try simp only [putA, List.set_cons_zero, List.set_cons_succ]); repeat (first | exact Fgt.nil | refine Fgt.keep rfl ?_ | refine Fgt.any ?_))) ?_
    rintro ⟨k, O1, lost⟩ ⟨hk, hO1l, hO1, hlt1, hle1⟩
    have hk : k ≤ f.blocks.length := hk
    have hO1l : O1.length = f.blocks.length := hO1l
    have hO1 : okO n O1 := hO1
    have hlt1 : lost = true → muO n O1 < muO n O := hlt1
    have hle1 : muO n O1 ≤ muO n O := hle1
    refine wS (sT (wN ?_))
    refine Awp.seq fun K22 h22 => ?_
    refine Awp.cond rfl (fun hb23 => ?_) (fun hb23 => ?_)
    · have hlt : k < f.blocks.length := by
        have := of_decide_eq_true hb23
        omega
      obtain ⟨x, hx⟩ : ∃ x, O1[k]? = some x := ⟨_, List.getElem?_eq_getElem (by omega)⟩
      obtain ⟨b, hb⟩ : ∃ b, b = ixD f.blocks (k : Int) := ⟨_, rfl⟩
      obtain ⟨hbi, hbl2, hbr, hbg⟩ := hf.ins b (by rw [hb]; exact List.mem_of_getElem? (inB_get (inBn hlt)))
      refine Awp.skip ?_
      refine h22 _ ?_
      refine nT (hk := ?_)
      refine Awp.seq fun K24 h24 => ?_
      refine Awp.block ?_
      refine wS (sT (sX (inBn hlt) ?_))
      rw [← hb]
      refine sT (sA0 (sT (sW (wN ?_))))
      refine Awp.seq fun K26 h26 => ?_
      refine wS (sT (sT ?_))
      refine sH (Quiet.ixl0 rfl rfl rfl (show k < f.blocks.length by omega)) ?_
      refine sH (Quiet.ldO (i := 3) rfl rfl rfl hx) ?_
      refine sH (Quiet.eqNilS rfl rfl rfl) (wN ?_)
      refine Awp.cond rfl (fun hb28 => ?_) (fun hb28 => ?_)
      · refine Awp.exit ?_
        refine h24 _ ?_
        refine nT (hk := ?_)
        refine wSE (sT (sT (wN ?_)))
        refine athen_n ⟨(k + 1, O1, lost), ⟨hlt, hO1l, hO1, hlt1, hle1⟩, by show f.blocks.length - (k + 1) < f.blocks.length - k; omega, ?_⟩
        rw [wrap_k (by omega)]
        exact St.le_c (.cons (.cons (.cons (.cons (.nil _))))) rfl (by (try simp only [putA, List.set_cons_zero, List.set_cons_succ]); repeat (first | exact Fgt.nil | refine Fgt.keep rfl ?_ | refine Fgt.any ?_))
      · obtain ⟨s, rfl⟩ : ∃ s, x = some s := by
          cases x with
          | none => cases hb28
          | some s => exact ⟨s, rfl⟩
        have hsl : s.l.length = n := hO1 s (List.mem_of_getElem? hx)
        refine Awp.skip ?_
        refine h26 _ ?_
        refine nT (hk := ?_)
        refine Awp.via ⟨(.any :: .ptr 1 0 :: A3 (.lit (slV go f.blocks.length f.blocks.length) :: .lit (.bool lost) :: .lit (.int .i64 (k : Int)) :: .ptr 4 0 :: A20 (A4 (.bs tBlock f.blocks :: .lit (.int .i64 (f.blocks.length : Int)) :: .lit (.int .i64 (k : Int)) :: A40 (A4 []))))), [.res .emp, .box (encFunc f), .dead, .res (outR go O1), .box (encBlock b)]⟩ (le_C (hc := .cons (.cons (.cons (.cons (.cons (.nil _))))))) ?_
        refine dH 5 [1, 2] [0, 3, 4] (uT (uT uN)) fun K29 hK29 => vT (vH (Quiet.ixl0 rfl rfl rfl (show k < f.blocks.length by omega)) (vH (Quiet.ldO (i := 3) rfl rfl rfl hx) (vN ?_)))
        refine tA 5 ?_
        refine AOp.callOS (i := 3) [.agg (encBlock b)] rfl hx rfl (through_fn (b := b) (l := s.l) (by omega) hbl2 (by rw [hsl]; exact hbr)) (fun _ => rfl) (fun p w S S' h => row_free h) (fun _ => rfl) (fun p w S S' v h => thruR_free p.1 h) rfl rfl fun q => ?_
        obtain ⟨⟨s2, fine⟩, hs2⟩ := q
        have hs2 : s2.l.length = s.l.length := hs2
        refine tNt (hk := ?_)
        dsimp only [thruR]
        refine tT 6 ?_
        refine tJoin (Array.replicate 11 true) 0 (fun _ : Unit => ⟨(.any :: .ptr 1 0 :: A3 (.lit (slV go f.blocks.length f.blocks.length) :: .lit (.bool lost) :: .lit (.int .i64 (k : Int)) :: .ptr 4 0 :: .lit (slV s2.g s2.l.length s2.c) :: .lit (.bool fine) :: A20 (A2 (.bs tBlock f.blocks :: .lit (.int .i64 (f.blocks.length : Int)) :: .lit (.int .i64 (k : Int)) :: A9 (.tup [.lit (slV s2.g s2.l.length s2.c), .lit (.bool fine)] :: .agg (encBlock b) :: .lit (slV go f.blocks.length f.blocks.length) :: .lit (.int .i64 (k : Int)) :: .lit (ptV go k) :: .lit (slV s.g s.l.length s.c) :: .tup [.lit (slV s2.g s2.l.length s2.c), .lit (.bool fine)] :: .lit (slV s2.g s2.l.length s2.c) :: .lit (.bool fine) :: A20 (A6 [])))))), [.res .emp, .box (encFunc f), .dead, .res (outR go O1), .box (encBlock b), .dead, .res (bR s2.g s2.l.length s2.c s2.l)]⟩) (fun _ => ?_) (fun hB => ?_)
        rotate_left
        · refine tStep [7, 8] (tC (oT ?_) (tC (oT ?_) tAll_nil))
          · refine tStep [8, 9] (tC (oT ?_) (tC (oT ?_) tAll_nil))
            · exact tT 9 (tT 10 (tE (hB ())))
            · exact tT 8 (tT 10 (tE (hB ())))
          · exact tT 7 (tT 9 (tT 10 (tE (hB ()))))
        refine tDone (hK29 _ ?_)
        refine wS (sT (sT (sT (sT (sT ?_)))))
        have hblp := List.length_pos_iff.2 hbi
        refine sT ?_
        rw [show IntKind.i64.wrap ((b.ins.length : Int) - 1) = ((b.ins.length - 1 : Nat) : Int) by rw [IntWalk.i64_in _ (by omega)]; omega]
        refine sX (inBn (show b.ins.length - 1 < b.ins.length by omega)) ?_
        obtain ⟨y, hy⟩ : ∃ y, y = ixD b.ins ((b.ins.length - 1 : Nat) : Int) := ⟨_, rfl⟩
        have hym : y ∈ b.ins := by rw [hy]; exact List.mem_of_getElem? (inB_get (inBn (by omega)))
        rw [← hy]
        refine sT (sC (goes_fn (hbr y hym).ok) (sT (sT (wN ?_))))
        refine Awp.block ?_
        refine Awp.loopF (fun q : Nat × List (Option SetA) × Bool => ⟨(.any :: .ptr 1 0 :: A3 (.lit (slV go f.blocks.length f.blocks.length) :: .lit (.bool q.2.2) :: A2 (.lit (slV s2.g s2.l.length s2.c) :: A20 (A3 (.bs tBlock f.blocks :: .lit (.int .i64 (f.blocks.length : Int)) :: .lit (.int .i64 (k : Int)) :: A20 (A6 (.bs tInt (goesL y) :: .lit (.int .i64 ((goesL y).length : Int)) :: .lit (.int .i64 (q.1 : Int)) :: A10 (A5 [])))))))), [.res .emp, .box (encFunc f), .dead, .res (outR go q.2.1), .dead, .dead, .res (bR s2.g s2.l.length s2.c s2.l)]⟩) (fun q => q.1 ≤ (goesL y).length ∧ q.2.1.length = f.blocks.length ∧ okO n q.2.1 ∧ (q.2.2 = true → muO n q.2.1 < muO n O) ∧ muO n q.2.1 ≤ muO n O) (fun q => (goesL y).length - q.1) (0, O1, lost) ⟨Nat.zero_le _, hO1l, hO1, hlt1, hle1⟩ (St.le_c (.cons (.cons (.cons (.cons (.dead (.cons (.cons (.nil _)))))))) rfl (by (try simp only [putA, List.set_cons_zero, List.set_cons_succ]); repeat (first | exact Fgt.nil | refine Fgt.keep rfl ?_ | refine Fgt.any ?_))) ?_
        rintro ⟨j, O2, lost2⟩ ⟨hj, hO2l, hO2, hlt2, hle2⟩
        have hj : j ≤ (goesL y).length := hj
        have hO2l : O2.length = f.blocks.length := hO2l
        have hO2 : okO n O2 := hO2
        have hlt2 : lost2 = true → muO n O2 < muO n O := hlt2
        have hle2 : muO n O2 ≤ muO n O := hle2
        have hgl : (goesL y).length ≤ 2 := by
          unfold goesL
          split
          · simp
          · split <;> simp
        refine wS (sT (wN ?_))
        refine Awp.seq fun K33 h33 => ?_
        refine Awp.cond rfl (fun hb34 => ?_) (fun hb34 => ?_)
        · have hjl : j < (goesL y).length := by
            have := of_decide_eq_true hb34
            omega
          have hz := hbg y hym _ (List.mem_of_getElem? (inB_get (inBn hjl)))
          obtain ⟨kz, hkz⟩ : ∃ kz : Nat, ixD (goesL y) (j : Int) = (kz : Int) := ⟨(ixD (goesL y) (j : Int)).toNat, by omega⟩
          rw [hkz, Int.toNat_natCast] at hz
          refine Awp.skip ?_
          refine h33 _ ?_
          refine nT (hk := ?_)
          refine Awp.seq fun K35 h35 => ?_
          refine Awp.block ?_
          refine wS (sX (inBn hjl) (sT ?_))
          rw [hkz]
          refine sT (wN ?_)
          refine wSE (sT (sT (sT ?_)))
          have hm := meet_fn (go := go) (k := kz) (n := n) (O := O2) (bl := s2.l) (by omega) hn (by omega) hO2
          rw [show slV go O2.length O2.length = slV go f.blocks.length f.blocks.length by rw [hO2l]] at hm
          refine aSeq_t rfl (AOp.callSRL (i := 3) (j := 6) (g := s2.g) (n := s2.l.length) (c := s2.c) (e := 4) (T := Ty.bool) (d := s2.l) [.lit (slV go f.blocks.length f.blocks.length), .lit (.int .i64 (kz : Int))] (by decide) rfl rfl rfl hm (fun _ => rfl) (fun p w S S' h => out_free h) (fun _ => rfl) (fun p w S S' v h => by unfold AV.rel at h ⊢; exact h) rfl rfl fun q => ?_)
          obtain ⟨⟨bq, O3⟩, hq1, hq2, hq3, hq4⟩ := q
          have hq1 : O3.length = O2.length := hq1
          have hq2 : okO n O3 := hq2
          have hq3 : bq = true → muO n O3 < muO n O2 := hq3
          have hq4 : muO n O3 ≤ muO n O2 := hq4
          refine sNt (hk := sT ?_)
          refine sGf rfl ?_
          refine sT (sT (wN ?_))
          refine h35 _ ?_
          refine nT (hk := ?_)
          refine wSE (sT (sT (wN ?_)))
          refine athen_n ⟨(j + 1, O3, bq || lost2), ⟨hjl, hq1.trans hO2l, hq2, fun e => by
            show muO n O3 < _
            have e : (bq || lost2) = true := e
            rw [Bool.or_eq_true] at e
            rcases e with e | e
            · have := hq3 e
              omega
            · have := hlt2 e
              omega, by show muO n O3 ≤ _; omega⟩, by show (goesL y).length - (j + 1) < (goesL y).length - j; omega, ?_⟩
          rw [wrap_k (by omega)]
          exact St.le_c (.cons (.cons (.cons (.cons (.cons (.cons (.cons (.nil _)))))))) rfl (by (try simp only [putA, List.set_cons_zero, List.set_cons_succ]); repeat (first | exact Fgt.nil | refine Fgt.keep rfl ?_ | refine Fgt.any ?_))
        · refine Awp.exit ?_
          refine h24 _ ?_
          refine nT (hk := ?_)
          refine wSE (sT (sT (wN ?_)))
          refine athen_n ⟨(k + 1, O2, lost2), ⟨hlt, hO2l, hO2, hlt2, hle2⟩, by show f.blocks.length - (k + 1) < f.blocks.length - k; omega, ?_⟩
          rw [wrap_k (by omega)]
          exact St.le_c (.cons (.cons (.cons (.cons (.nil _))))) rfl (by (try simp only [putA, List.set_cons_zero, List.set_cons_succ]); repeat (first | exact Fgt.nil | refine Fgt.keep rfl ?_ | refine Fgt.any ?_))
    · refine Awp.exit ?_
      refine h18 _ ?_
      refine nT (hk := ?_)
      refine wS (sT (sT (wN ?_)))
      refine Awp.cond rfl (fun hb41 => ?_) (fun hb41 => ?_)
      · refine wR (hk := ?_)
        refine Awp.via _ (St.le_move 0 3 (by decide) rfl rfl) ?_
        refine nT (hk := ?_)
        exact Awp.ret ⟨.inr rfl, ⟨(go, O1), hO1l, hO1⟩, rfl, rfl, by show AV.lit (slV go f.blocks.length f.blocks.length) = .lit (slV go O1.length O1.length); rw [hO1l], rfl⟩
      · refine Awp.skip ?_
        have hlost : lost = true := by simpa using hb41
        refine asN ?_
        refine abN ?_
        refine athen_n ⟨O1, ⟨hO1l, hO1⟩, hlt1 hlost, ?_⟩
        exact St.le_t rfl (by (try simp only [putA, List.set_cons_zero, List.set_cons_succ]); repeat (first | exact Fgt.nil | refine Fgt.keep rfl ?_ | refine Fgt.any ?_))
end Mu
end
section
/-
  lex.Name.
  Conditions: texts of at most 2^30 bytes.
-/
namespace Mu
open Go Go.RowKit Go.Proofs

theorem Quiet.callFV {P : Program} {C : Ctx} {t : List AV} {h : List ABlk} {o : Oper} {f : FuncId} {x : Operand} {args : Array Operand} {tys : Array TypeId} {xs : List AV} {r : AV} (ho : o.op = .call { callee := .value x, args := args, argTypes := tys }) (hv : evA t x = .lit (.func (.func f) #[] #[])) (hx : args.toList.map (evA t) = xs) (hF : Fn P f xs r) (hc : AV.clL xs = true) (hr : AV.cl r = true) : Quiet P C t h o r := by
  intro S ψ w ρ H hρ
  have h1 : ρ x = .func (.func f) #[] #[] := by
    have := hρ x (by rw [ho]; exact Array.mem_append.2 (.inl (by simp)))
    rw [hv] at this
    unfold AV.rel at this
    exact this
  rw [run_callV ho hF.1 ρ w h1]
  refine ⟨rfl, ?_⟩
  have h2 : AV.relL w S h ψ xs (args.toList.map ρ) := by
    rw [← hx]
    exact relL_map fun x hx' => hρ x (by rw [ho]; exact Array.mem_append.2 (.inr (Array.mem_toList_iff.1 hx')))
  have h3 := hF.2 w S (args.toList.map ρ) H.lt (AV.relL_cl _ _ hc h2)
  rw [show (args.map ρ ++ #[]) = (args.toList.map ρ).toArray from (by rw [Array.append_empty, ← Array.toList_map])]
  refine h3.mono ?_
  rintro e w' ⟨v, he, hb, S', k1, k2, k3, k4⟩
  exact ⟨v, he, hb, S', k1, k2, k3, AV.rel_cl _ _ hr k4⟩
def lex_Name_1 (c : Int) : M Bool := M.bnd (lex_letter c) fun r1 => M.bnd (M.whn (!r1) false (lex_digit c)) fun r2 => M.ok (r1 || r2)
set_option maxRecDepth 100000 in
set_option maxHeartbeats 4000000 in
theorem lex_Name_1_l {c : Int} {r : Bool} (H : (lex_Name_1 c).to r) : Fn Tryz.prog 218 [.lit (.int .u8 c)] (.lit (.bool r)) := by
  delta lex_Name_1 at H
  try dsimp only at H
  refine Fn.of_awp Tryz.func218 rfl (by kernel_rfl) rfl Tryz.ntmps218 fun C hC => ?_
  simp only [List.length_cons, List.length_nil, Nat.reduceAdd, Nat.reduceSub, List.replicate_succ, List.replicate_zero, List.cons_append, List.nil_append]
  refine wS (sT (wN ?_))
  obtain ⟨r1, k1, H⟩ := M.to_bnd.1 H
  have k1 := lex_letter_l k1
  obtain ⟨r2, k2, H⟩ := M.to_bnd.1 H
  refine wS (sT (sC k1 (sT ?_))); refine sGf rfl ?_; refine sG (g := (!r1)) (hg := gA_f rfl) (hq := fun hg => by ((try simp only [cndT hg]); (try simp only [cndA hg]); exact Quiet.callA rfl rfl (lex_digit_l (M.to_whn k2 hg)) rfl rfl)) (ht := set7) (hk := ?_); refine sT (sT (wN ?_))
  obtain rfl := M.to_ok.1 H
  exact Awp.ret ⟨.inr rfl, Fin.cl rfl⟩
def allS (b : Int → Bool) (s : ByteArray) : Bool := s.data.toList.all fun u => b (u.toNat : Int)
set_option maxRecDepth 100000 in
theorem allNm_fn {f : FuncId} {b : Int → Bool} (hF : ∀ c : UInt8, Fn Tryz.prog f [.lit (.int .u8 (c.toNat : Int))] (.lit (.bool (b (c.toNat : Int))))) {s : ByteArray} (hs : s.size ≤ 1073741824) : Fn Tryz.prog 217 [.lit (.string s), .lit (.func (.func f) #[] #[])] (.lit (.bool (allS b s))) := by
  have hsz : s.data.toList.length = s.size := by rw [Array.length_toList]; rfl
  refine Fn.of_awp Tryz.func217 rfl (by kernel_rfl) rfl Tryz.ntmps217 fun C hC => ?_
  simp only [List.length_cons, List.length_nil, Nat.reduceAdd, Nat.reduceSub, List.replicate_succ, List.replicate_zero, List.cons_append, List.nil_append]
  refine wR (hk := ?_)
  refine Awp.seq fun K2 h2 => ?_
  refine wS (sT (sH (Quiet.lnS rfl rfl) (sT (wN ?_))))
  refine Awp.block ?_
  refine Awp.loopF (fun k : Nat => ⟨(.lit (.string s) :: .lit (.func (.func f) #[] #[]) :: A5 (.lit (.int .i64 (s.size : Int)) :: .lit (.int .i64 (k : Int)) :: A9 [])), []⟩) (fun k => k ≤ s.size ∧ (s.data.toList.take k).all (fun u => b (u.toNat : Int)) = true) (fun k => s.size - k) 0 ⟨Nat.zero_le _, rfl⟩ (St.le_t rfl (by (try simp only [putA, List.set_cons_zero, List.set_cons_succ]); repeat (first | exact Fgt.nil | refine Fgt.keep rfl ?_ | refine Fgt.any ?_))) ?_
  rintro k ⟨hk, hall⟩
  refine wS (sT (wN ?_))
  refine Awp.seq fun K6 h6 => ?_
  refine Awp.cond rfl (fun hb7 => ?_) (fun hb7 => ?_)
  · have hlt : k < s.size := by
      have := of_decide_eq_true hb7
      omega
    obtain ⟨c, hc⟩ : ∃ c, s.data.toList[k]? = some c := ⟨_, List.getElem?_eq_getElem (by omega)⟩
    refine Awp.skip ?_
    refine h6 _ ?_
    refine nT (hk := ?_)
    refine Awp.seq fun K8 h8 => ?_
    refine Awp.block ?_
    refine wR (hk := ?_)
    refine wS (sT (sT (sT ?_)))
    refine sH (Quiet.ixS rfl rfl rfl hc) ?_
    refine sH (Quiet.callFV rfl rfl rfl (hF c) rfl rfl) (sT (wN ?_))
    refine Awp.cond rfl (fun hb11 => ?_) (fun hb11 => ?_)
    · refine wR (hk := ?_)
      have hb : b (c.toNat : Int) = false := by simpa using hb11
      have : allS b s = false := by
        unfold allS
        rw [List.all_eq_false]
        exact ⟨c, List.mem_of_getElem? hc, by rw [hb]; simp⟩
      rw [this]
      exact Awp.ret ⟨.inr rfl, Fin.cl rfl⟩
    · refine Awp.skip ?_
      refine h8 _ ?_
      refine nT (hk := ?_)
      refine wRE (hk := ?_)
      have hb : b (c.toNat : Int) = true := by simpa using hb11
      refine athen_n ⟨k + 1, ⟨hlt, by rw [List.take_add_one, hc, List.all_append, hall]; simp [hb]⟩, by omega, ?_⟩
      exact St.le_t rfl (by (try simp only [putA, List.set_cons_zero, List.set_cons_succ]); repeat (first | exact Fgt.nil | refine Fgt.keep rfl ?_ | refine Fgt.any ?_))
  · refine Awp.exit ?_
    refine h2 _ ?_
    refine nT (hk := ?_)
    refine wR (hk := ?_)
    have : allS b s = true := by
      have := of_decide_eq_false hb7
      rw [List.take_of_length_le (by omega)] at hall
      exact hall
    rw [this]
    exact Awp.ret ⟨.inr rfl, Fin.cl rfl⟩
section
variable {P : Program} {C : Ctx} {t t' : List AV} {h : List ABlk} {ops : Array Oper} {rest : List Oper} {d : Option Nat} {ty : TypeId} {ps : String} {af : Array Go.Edge} {j : Nat} {K : St → Prop} {o : Oper}
theorem sGqf {op : Op} {r : AV} {g : Bool} (hq : (!g) = true → Quiet P C t h ⟨d, op, ty, ps, af, some (j, false)⟩ r) [PA t d (cond (!g) r (.lit undef)) t'] (hk : aSeq P C ops K rest ⟨t', h⟩) (hg : gA ops t ⟨d, op, ty, ps, af, some (j, false)⟩ = some (g == false) := by rfl) : aSeq P C ops K (⟨d, op, ty, ps, af, some (j, false)⟩ :: rest) ⟨t, h⟩ := sG (hg := gA_f hg) (hq := hq) (ht := PA.e) (hk := hk)
theorem Quiet.call1 {f : FuncId} {x : Operand} {tys : Array TypeId} {a r : AV} (ho : o.op = .call { callee := .value (.func f), args := #[x], argTypes := tys }) (hx : evA t x = a) (hF : Fn P f [a] r) (hc : AV.clL [a] = true) (hr : AV.cl r = true) : Quiet P C t h o r := Quiet.callA ho (by show [evA t x] = [a]; rw [hx]) hF hc hr
theorem Quiet.call2 {f : FuncId} {x y : Operand} {tys : Array TypeId} {a b r : AV} (ho : o.op = .call { callee := .value (.func f), args := #[x, y], argTypes := tys }) (hx : evA t x = a) (hy : evA t y = b) (hF : Fn P f [a, b] r) (hc : AV.clL [a, b] = true) (hr : AV.cl r = true) : Quiet P C t h o r := Quiet.callA ho (by show [evA t x, evA t y] = [a, b]; rw [hx, hy]) hF hc hr
end
theorem letter_any : ∃ b : Int → Bool, ∀ c : Int, Fn Tryz.prog 216 [.lit (.int .u8 c)] (.lit (.bool (b c))) := ⟨_, fun c => lex_letter_l (M.ok_to _)⟩
theorem digit_any : ∃ b : Int → Bool, ∀ c : Int, Fn Tryz.prog 219 [.lit (.int .u8 c)] (.lit (.bool (b c))) := ⟨_, fun c => lex_digit_l (M.ok_to _)⟩
theorem name1_any : ∃ b : Int → Bool, ∀ c : Int, Fn Tryz.prog 218 [.lit (.int .u8 c)] (.lit (.bool (b c))) := by
  have h : ∀ c : Int, ∃ b : Bool, Fn Tryz.prog 218 [.lit (.int .u8 c)] (.lit (.bool b)) := fun c => by
    cases h1 : ((((decide (c ≥ 97)) && (decide (c ≤ 122))) || ((decide (c ≥ 65)) && (decide (c ≤ 90)))) || (c == 95)) with
    | true => exact ⟨_, lex_Name_1_l (M.bnd_to (M.ok_to _) (M.bnd_to (M.whn_f (by rw [h1]; rfl)) (M.ok_to _)))⟩
    | false => exact ⟨_, lex_Name_1_l (M.bnd_to (M.ok_to _) (M.bnd_to (M.whn_t (by rw [h1]; rfl) (M.ok_to _)) (M.ok_to _)))⟩
  exact ⟨fun c => Classical.choose (h c), fun c => Classical.choose_spec (h c)⟩
set_option maxRecDepth 100000 in
theorem name_nil : Fn Tryz.prog 197 [.lit (.string ⟨#[]⟩)] (.lit (.bool false)) := by
  refine Fn.of_awp Tryz.func197 rfl (by kernel_rfl) rfl Tryz.ntmps197 fun C hC => ?_
  simp only [List.length_cons, List.length_nil, Nat.reduceAdd, Nat.reduceSub, List.replicate_succ, List.replicate_zero, List.cons_append, List.nil_append]
  refine wR (hk := ?_)
  refine Awp.seq fun K2 h2 => ?_
  refine wS (sT (sH (Quiet.eqSs rfl rfl rfl) (sT ?_)))
  refine sGf (g := true) rfl ?_
  refine sGqf (g := true) (fun hg => by cases hg) (r := .any) ?_
  refine sGqf (g := true) (fun hg => by cases hg) (r := .any) ?_
  refine sH (Quiet.pick rfl rfl rfl) (sT ?_)
  refine sGf (g := true) rfl ?_
  refine sGqf (g := true) (fun hg => by cases hg) (r := .any) ?_
  refine sGqf (g := true) (fun hg => by cases hg) (r := .any) ?_
  refine sGqf (g := true) (fun hg => by cases hg) (r := .any) ?_
  refine sH (Quiet.pick rfl rfl rfl) (sT ?_)
  refine sGf (g := true) rfl ?_
  refine sGqf (g := true) (fun hg => by cases hg) (r := .any) ?_
  refine sGqf (g := true) (fun hg => by cases hg) (r := .any) ?_
  refine sH (Quiet.pick rfl rfl rfl) (wN ?_)
  refine Awp.cond rfl (fun hb4 => ?_) (fun hb4 => ?_)
  · refine wR (hk := ?_)
    exact Awp.ret ⟨.inr rfl, Fin.cl rfl⟩
  · cases hb4
theorem inSt0 {s : ByteArray} (h : 0 < s.size) : inSt s 0 = true := by
  unfold inSt
  simp
  omega
set_option maxRecDepth 100000 in
theorem name_some {s : ByteArray} {lb db nb : Int → Bool} (hlb : ∀ c : Int, Fn Tryz.prog 216 [.lit (.int .u8 c)] (.lit (.bool (lb c)))) (hdb : ∀ c : Int, Fn Tryz.prog 219 [.lit (.int .u8 c)] (.lit (.bool (db c)))) (hnb : ∀ c : Int, Fn Tryz.prog 218 [.lit (.int .u8 c)] (.lit (.bool (nb c)))) (h0 : 0 < s.size) (hs : s.size ≤ 1073741824) :
    Fn Tryz.prog 197 [.lit (.string s)] (.lit (.bool (bif (decide ((s.size : Int) > 64) || !lb (chD s 0) || !allS nb s) then false else (chD s 0 != 118 || (s.size : Int) == 1 || !allS db (s.extract 1 s.size))))) := by
  have hA1 := allNm_fn (fun c => hnb c.toNat) hs
  have hA2 := allNm_fn (s := s.extract 1 s.size) (fun c => hdb c.toNat) (by rw [ByteArray.size_extract]; omega)
  have hne : (s == ⟨#[]⟩) = false := by
    cases e : s == ⟨#[]⟩ with
    | false => rfl
    | true =>
      have e : (s.data == #[]) = true := e
      have : s.data = #[] := eq_of_beq e
      have h0 : 0 < s.data.size := h0
      rw [this] at h0
      exact absurd h0 (by decide)
  refine Fn.of_awp Tryz.func197 rfl (by kernel_rfl) rfl Tryz.ntmps197 fun C hC => ?_
  simp only [List.length_cons, List.length_nil, Nat.reduceAdd, Nat.reduceSub, List.replicate_succ, List.replicate_zero, List.cons_append, List.nil_append]
  refine wR (hk := ?_)
  refine Awp.seq fun K2 h2 => ?_
  refine wS (sT (sH (Quiet.eqS rfl rfl rfl) ?_))
  rw [hne]
  refine sT ?_
  refine sTg (sHg (Quiet.lnS rfl rfl) (sTg (sH (r := .lit (.bool (decide ((s.size : Int) > 64)))) (Quiet.pick rfl rfl rfl) (sT ?_))))
  refine sGf rfl ?_
  refine sGqf (fun hg => Quiet.ixSM rfl (GX.e hg) rfl (inSt0 h0)) ?_
  refine sGqf (fun hg => Quiet.call1 rfl (GX.e hg) (hlb _) rfl rfl) ?_
  refine sGf rfl ?_
  refine sT (sT ?_)
  refine sGf rfl ?_
  refine sGqf (fun hg => Quiet.call2 rfl (GX.e hg) rfl hA1 rfl rfl) ?_
  refine sGf rfl ?_
  refine sT (wN ?_)
  refine Awp.cond rfl (fun hb4 => ?_) (fun hb4 => ?_)
  · refine wR (hk := ?_)
    rw [show (decide ((s.size : Int) > 64) || !lb (chD s 0) || !allS nb s) = true from hb4, cond_true]
    exact Awp.ret ⟨.inr rfl, Fin.cl rfl⟩
  · have hbe : (decide ((s.size : Int) > 64) || !lb (chD s 0) || !allS nb s) = false := hb4
    refine Awp.skip ?_
    refine h2 _ ?_
    refine nT (hk := ?_)
    refine wS (sT ?_)
    refine sH (Quiet.ixSM rfl rfl rfl (inSt0 h0)) (sT (sT ?_))
    refine sGf rfl ?_
    refine sGqf (fun hg => Quiet.lnS rfl (GX.e hg)) ?_
    refine sGf rfl ?_
    refine sT (sT ?_)
    refine sGf rfl ?_
    refine sGqf (fun hg => Quiet.cutS (k := 1) (s := s) rfl (GX.e hg) rfl h0) ?_
    refine sGqf (fun hg => Quiet.call2 rfl (GX.e hg) rfl hA2 rfl rfl) ?_
    refine sGf rfl ?_
    refine sT (sT (wN ?_))
    rw [hbe, cond_false]
    exact Awp.ret ⟨.inr rfl, Fin.cl rfl⟩
theorem name_fn {s : ByteArray} (hs : s.size ≤ 1073741824) : ∃ b : Bool, Fn Tryz.prog 197 [.lit (.string s)] (.lit (.bool b)) := by
  obtain ⟨lb, hlb⟩ := letter_any
  obtain ⟨db, hdb⟩ := digit_any
  obtain ⟨nb, hnb⟩ := name1_any
  by_cases h0 : s.size = 0
  · refine ⟨false, ?_⟩
    have hse : s = ⟨#[]⟩ := by
      rcases s with ⟨d⟩
      have : d.size = 0 := h0
      rw [Array.size_eq_zero_iff.1 this]
    subst hse
    exact name_nil
  · exact ⟨_, name_some hlb hdb hnb (by omega) hs⟩
end Mu
end
section
/-
  shape.twice, with functions that read a variable.
  Conditions: texts of at most 2^30 bytes.
-/
namespace Mu
open Go Go.RowKit Go.Proofs

section
variable {P : Program} {C : Ctx} {t : List AV} {h : List ABlk} {o : Oper}
/-- a variable of several cells is from now on only read -/
theorem St.le_fzBoxE (hC : C.std) (i j : Nat) {cells : List AV} {α : Type} {T : Ty α} {d : α} (hi : h[i]? = some (.box cells)) (hj : t[j]? = some (.ptr i 0)) (hcl : AV.clL cells = true) (hp : ∀ (w : World) (S : Nat → Prop) (cs : List Value), AV.relL w S [] ψ0 cells cs → T.RS w S cs d) : St.le C ⟨t, h⟩ ⟨t.set j (.bp T d 0), h.set i .dead⟩ :=
  St.le_fzG i j hi rfl rfl hj (fz_std hC hi rfl) fun S ψ w v H hr => by
    obtain ⟨g, cs, e0, hg, k1, k2, k3, k4⟩ := H.blk i _ hi
    unfold AV.rel at hr
    obtain ⟨g', hg', hv'⟩ := hr.2 (by rw [hi]; rfl)
    rw [hg] at hg'
    cases hg'
    unfold AV.rel
    rw [hv']
    refine ⟨g, 0, rfl, .inr (by rw [hg]; rfl), ?_⟩
    have hl4 : AV.relL w S [] ψ0 cells cs := AV.relL_cl _ _ hcl k4
    refine ⟨cs, T.keepS (hp w S cs hl4) (fun _ _ => rfl) fun k hk => .inl hk, fun q u' hq => ?_⟩
    unfold World.cell?
    simp [k3, hq]
theorem put_prog {x : Prog} (ho : wfI .i64 x.heap) {w : World} {S : Nat → Prop} {cs : List Value} (H : AV.relL w S h ψ0 (encProg x) cs) : tProg.RS w S cs x := by
  simp only [encProg, AV.relL, AV.rel] at H
  obtain ⟨_, _, rfl, rfl, _, _, rfl, ha, _, _, rfl, hb, rfl⟩ := H
  obtain ⟨A, c, rfl⟩ := slice_form ha
  obtain ⟨A2, c2, rfl⟩ := slice_form hb
  exact tProg_R.2 ⟨A2, c2, A, c, rfl, ho, ha, hb⟩
/-- a function value that leads to something is called -/
theorem Quiet.callFn {f : FuncId} {x : Operand} {args : Array Operand} {tys : Array TypeId} {as_ l : List AV} {r : AV} (ho : o.op = .call { callee := .value x, args := args, argTypes := tys }) (hv : evA t x = .fn f l) (hx : args.toList.map (evA t) = as_) (hF : Fn P f (as_ ++ l) r) (hc : AV.clL (as_ ++ l) = true) (hr : AV.cl r = true) : Quiet P C t h o r := by
  intro S ψ w ρ H hρ
  obtain ⟨cs, h1, hcs⟩ : ∃ cs : List Value, ρ x = .func (.func f) #[] cs.toArray ∧ AV.relL w S h ψ l cs := by
    have := hρ x (by rw [ho]; exact Array.mem_append.2 (.inl (by simp)))
    rw [hv] at this
    unfold AV.rel at this
    exact this
  rw [run_callV ho hF.1 ρ w h1]
  refine ⟨rfl, ?_⟩
  have h2 : AV.relL w S h ψ (as_ ++ l) (args.toList.map ρ ++ cs) := by
    rw [← hx]
    exact relL_append (relL_map fun x hx' => hρ x (by rw [ho]; exact Array.mem_append.2 (.inr (Array.mem_toList_iff.1 hx')))) hcs
  have h3 := hF.2 w S (args.toList.map ρ ++ cs) H.lt (AV.relL_cl _ _ hc h2)
  rw [show (args.map ρ ++ cs.toArray) = (args.toList.map ρ ++ cs).toArray from (by simp)]
  refine h3.mono ?_
  rintro e w' ⟨v, he, hb, S', k1, k2, k3, k4⟩
  exact ⟨v, he, hb, S', k1, k2, k3, AV.rel_cl _ _ hr k4⟩
end
def twB (nm : Nat → ByteArray) (n : Nat) (nb : Bool) : Bool := (List.range n).any (fun i => nm i == nm n) || !nb
set_option maxRecDepth 100000 in
theorem twice_fn {f : FuncId} {α : Type} {T : Ty α} {d : α} {nm : Nat → ByteArray} {n : Nat} {nb : Bool} (hn : n ≤ 1073741824) (hF : ∀ i, i ≤ n → Fn Tryz.prog f [.lit (.int .i64 (i : Int)), .bp T d 0] (.lit (.string (nm i)))) (hnb : Fn Tryz.prog 197 [.lit (.string (nm n))] (.lit (.bool nb))) : Fn Tryz.prog 152 [.lit (.int .i64 (n : Int)), .fn f [.bp T d 0]] (.lit (.bool (twB nm n nb))) := by
  have hc : ∀ i : Nat, AV.clL ([.lit (.int .i64 (i : Int))] ++ [.bp T d 0]) = true := fun i => rfl
  refine Fn.of_awp Tryz.func152 rfl (by kernel_rfl) rfl Tryz.ntmps152 fun C hC => ?_
  simp only [List.length_cons, List.length_nil, Nat.reduceAdd, Nat.reduceSub, List.replicate_succ, List.replicate_zero, List.cons_append, List.nil_append]
  refine wR (hk := ?_)
  refine Awp.seq fun K2 h2 => ?_
  refine wS (sT (sT (wN ?_)))
  refine Awp.block ?_
  refine Awp.loopF (fun k : Nat => ⟨(.lit (.int .i64 (n : Int)) :: .fn f [.bp T d 0] :: A4 (.lit (.int .i64 (n : Int)) :: .lit (.int .i64 (k : Int)) :: A10 (A5 []))), []⟩) (fun k => k ≤ n ∧ ∀ i, i < k → (nm i == nm n) = false) (fun k => n - k) 0 ⟨Nat.zero_le _, fun i hi => absurd hi (Nat.not_lt_zero _)⟩ (St.le_t rfl (by (try simp only [putA, List.set_cons_zero, List.set_cons_succ]); repeat (first | exact Fgt.nil | refine Fgt.keep rfl ?_ | refine Fgt.any ?_))) ?_
  rintro k ⟨hk, hall⟩
  refine wS (sT (wN ?_))
  refine Awp.seq fun K6 h6 => ?_
  refine Awp.cond rfl (fun hb7 => ?_) (fun hb7 => ?_)
  · have hlt : k < n := by
      have := of_decide_eq_true hb7
      omega
    refine Awp.skip ?_
    refine h6 _ ?_
    refine nT (hk := ?_)
    refine Awp.seq fun K8 h8 => ?_
    refine Awp.block ?_
    refine wR (hk := ?_)
    refine wS (sT (sT ?_))
    refine sH (Quiet.callFn rfl rfl rfl (hF k hk) (hc k) rfl) (sT (sT ?_))
    refine sH (Quiet.callFn rfl rfl rfl (hF n (Nat.le_refl _)) (hc n) rfl) ?_
    refine sH (Quiet.eqS rfl rfl rfl) (wN ?_)
    refine Awp.cond rfl (fun hb11 => ?_) (fun hb11 => ?_)
    · refine wR (hk := ?_)
      have : twB nm n nb = true := by
        unfold twB
        rw [Bool.or_eq_true]
        exact .inl (List.any_eq_true.2 ⟨k, List.mem_range.2 hlt, hb11⟩)
      rw [this]
      exact Awp.ret ⟨.inr rfl, Fin.cl rfl⟩
    · refine Awp.skip ?_
      refine h8 _ ?_
      refine nT (hk := ?_)
      refine wRE (hk := ?_)
      refine athen_n ⟨k + 1, ⟨hlt, fun i hi => by
        by_cases e : i = k
        · subst e; exact hb11
        · exact hall i (by omega)⟩, by omega, ?_⟩
      exact St.le_t rfl (by (try simp only [putA, List.set_cons_zero, List.set_cons_succ]); repeat (first | exact Fgt.nil | refine Fgt.keep rfl ?_ | refine Fgt.any ?_))
  · refine Awp.exit ?_
    refine h2 _ ?_
    refine nT (hk := ?_)
    refine wS (sT (sT ?_))
    refine sH (Quiet.callFn rfl rfl rfl (hF n (Nat.le_refl _)) (hc n) rfl) ?_
    refine sC hnb (sT (sT (wN ?_)))
    have : twB nm n nb = !nb := by
      unfold twB
      have : (List.range n).any (fun i => nm i == nm n) = false := by
        have := of_decide_eq_false hb7
        rw [List.any_eq_false]
        intro i hi
        rw [hall i (by have := List.mem_range.1 hi; omega)]
        simp
      rw [this, Bool.false_or]
    rw [this]
    exact Awp.ret ⟨.inr rfl, Fin.cl rfl⟩
end Mu
end
