/-
  Own texts laid together, part 3: MuCiT, MuCiU, MuCiW, MuCiX, MuCiY, MuCiE, MuCiYx, MuCiK, MuCiZ, MuCiL, MuCiN, MuCiC, MuCiI.
  Conditions: as each part says.
-/
import Derived.Test.YtphbknmjnoeheaaGreatBm2
import Derived.Laws.IdiomStrings
import Derived.Laws.LoneSync
import Derived.Laws.Slices
import Derived.Laws.BytesString
import Derived.Deep.Upon
import Derived.Lib.AppendZeros
import Derived.RangeFuncRecord
import Derived.WideKeyRuns
import Derived.Laws.Externs
import Derived.Conc.AtomicLaws2
import Derived.KernelRfl
import Derived.TacticsIn
import Derived.OrdersIn
import Derived.LoopNIn
import Derived.RangeFuncIn
import Derived.RangeFuncLeaves
import Derived.RangeFuncSeq
import Derived.RangeFuncCalls
import Derived.StillTail
import Derived.Scope
import Derived.RecoverIn
import Derived.RangeFuncNested
section
/-
  Operations over known memory do what the model's do: slices, conversions, new rows and maps.
  Conditions: none; generic.
-/
namespace Mu.CI
open Go Go.RowKit
noncomputable section
set_option linter.unusedVariables false
section
variable {M M' : Mem} {md : Bool} {P : Program} {E : Env} {w w' : World} {ρc : Operand → CV} {v : CV}
theorem natO_ok {o : Option Operand} {ρ : Operand → Value} {d n : Nat} {c : Bool} (h : natO d (o.map ρc) = some (c, n)) (hc : c = true) (hρ : ∀ x, o = some x → VR E (ρc x) (ρ x)) : (o = none ∧ n = d) ∨ ∃ x k, o = some x ∧ ρ x = .int k (n : Int) := by
  cases o with
  | none =>
    simp only [Option.map_none, natO, Option.some.injEq, Prod.mk.injEq] at h
    exact .inl ⟨rfl, h.2.symm⟩
  | some x =>
    simp only [Option.map_some, natO] at h
    obtain ⟨k, hk⟩ := nat_ok h hc (hρ x rfl)
    exact .inr ⟨x, k, rfl, hk⟩
theorem bounds_run {lo hi : Option Operand} {ρ : Operand → Value} {isS : Bool} {len cap l h : Nat} (h1 : (lo = none ∧ l = 0) ∨ ∃ x k, lo = some x ∧ ρ x = .int k (l : Int)) (h2 : (hi = none ∧ h = len) ∨ ∃ x k, hi = some x ∧ ρ x = .int k (h : Int)) (hl : l ≤ h) (hh : h ≤ cap) :
    (Instr.sliceBounds isS len cap (lo.map ρ) (hi.map ρ) none).run P w = .ok (l, h, cap) w := by
  have e1 : (0 : Int) ≤ l := by omega
  have e2 : (l : Int) ≤ h := by omega
  have e3 : (0 : Int) ≤ h := by omega
  have e4 : (h : Int) ≤ cap := by omega
  rcases h1 with ⟨rfl, rfl⟩ | ⟨x, k, rfl, hx⟩ <;> rcases h2 with ⟨rfl, rfl⟩ | ⟨y, k', rfl, hy⟩
  · simp [Instr.sliceBounds]
  · simp [Instr.sliceBounds, hy, run_sliceBound w _ _ _ _ e3 e4]
  · simp [Instr.sliceBounds, hx, run_sliceBound w _ _ _ _ e1 e2]
  · simp [Instr.sliceBounds, hx, hy, run_sliceBound w _ _ _ _ e1 e2, run_sliceBound w _ _ _ _ e3 e4]
theorem bounds3_run {lo : Option Operand} {hi mx : Operand} {ρ : Operand → Value} {len cap l h m : Nat} {k k' : IntKind} (h1 : (lo = none ∧ l = 0) ∨ ∃ x k, lo = some x ∧ ρ x = .int k (l : Int)) (h2 : ρ hi = .int k (h : Int)) (h3 : ρ mx = .int k' (m : Int)) (hl : l ≤ h) (hh : h ≤ m) (hm : m ≤ cap) :
    (Instr.sliceBounds true len cap (lo.map ρ) (some (ρ hi)) (some (ρ mx))).run P w = .ok (l, h, m) w := by
  have e1 : (0 : Int) ≤ l := by omega
  have e2 : (l : Int) ≤ h := by omega
  have e3 : (0 : Int) ≤ h := by omega
  have e4 : (h : Int) ≤ m := by omega
  have e5 : (0 : Int) ≤ m := by omega
  have e6 : (m : Int) ≤ cap := by omega
  rcases h1 with ⟨rfl, rfl⟩ | ⟨x, kx, rfl, hx⟩
  · simp [Instr.sliceBounds, h2, h3, run_sliceBound w _ _ _ _ e3 e4, run_sliceBound w _ _ _ _ e5 e6]
  · simp [Instr.sliceBounds, hx, h2, h3, run_sliceBound w _ _ _ _ e1 e2, run_sliceBound w _ _ _ _ e3 e4, run_sliceBound w _ _ _ _ e5 e6]
theorem chk1 {c : Bool} {u : CV} {R : Res} (h : chk md c M (fun M => ret u M) = some (v, M')) : v = u ∧ M'.h = M.h ∧ M'.nx = M.nx ∧ M.sfx M' ∧ (M'.Holds → c = true) := by
  obtain ⟨M1, e1, e2, e3, h, hc⟩ := chk_ok h
  obtain ⟨rfl, rfl⟩ := ret_ok h
  exact ⟨rfl, e1, e2, e3, hc⟩
theorem slice_ok {t : TypeId} {x : Operand} {lo hi mx : Option Operand} (h : exOp P md ρc (.slice t x lo hi mx) M = some (v, M')) : OK P ρc (.slice t x lo hi mx) M v M' := by
  have hop : ∀ {ρ : Operand → Value} {E : Env}, (∀ y ∈ (Op.slice t x lo hi mx).operands, VR E (ρc y) (ρ y)) → VR E (ρc x) (ρ x) ∧ (∀ y, lo = some y → VR E (ρc y) (ρ y)) ∧ (∀ y, hi = some y → VR E (ρc y) (ρ y)) ∧ (∀ y, mx = some y → VR E (ρc y) (ρ y)) := fun hρ =>
    ⟨hρ x (by simp [Op.operands]), fun y e => hρ y (by simp [Op.operands, e]), fun y e => hρ y (by simp [Op.operands, e]), fun y e => hρ y (by simp [Op.operands, e])⟩
  simp only [exOp] at h
  unfold sliceC at h
  split at h
  · rename_i s hu hx
    split at h
    · rename_i c1 l c2 h' hl hh hm
      obtain ⟨rfl, e1, e2, e3, hc⟩ := chk1 (R := none) h
      refine ⟨e3, Nat.le_of_eq e2.symm, fun hH B N w0 E w ρ q hq H hρ => ?_⟩
      have hcc := hc hH
      simp only [Bool.and_eq_true] at hcc
      obtain ⟨p0, p1, p2, p3⟩ := hop hρ
      have k1 := natO_ok hl hcc.1 p1
      have k2 := natO_ok hh hcc.2.1 p2
      have q1 := Nat.le_of_ble_eq_true hcc.2.2.1
      have q2 := Nat.le_of_ble_eq_true hcc.2.2.2
      have hm' : mx = none := by cases mx <;> simp at hm ⊢
      subst hm'
      rw [hx] at p0
      unfold VR at p0
      refine Out.same (u := .string (s.extract l h')) (H.re e1 e2) ?_ (by unfold VR; rfl)
      simp only [execOp, hq]
      refine run_v ?_
      simp only [Option.map_none]
      rw [run_sliceAt_string w t _ _ _ _ hu]
      unfold Instr.slice
      rw [Sem.run_bind, run_underlying hu, Result.andThen_ok, p0]
      simp only [Option.isSome_none, Bool.false_eq_true, if_false]
      rw [Sem.run_bind, bounds_run k1 k2 q1 q2]
      rfl
    · cases h
  · rename_i e g o n m z hu hx
    split at h
    · rename_i c1 l c2 h' k hl hh hk
      have hat : ∀ {ρ : Operand → Value} {a : Option Addr} {len cap : Nat} {w : World} {q1 q2 q3 : Nat} {b : Option Value}, ρ x = .slice a len cap → (Instr.sliceBounds true len cap (lo.map ρ) (hi.map ρ) b).run P w = .ok (q1, q2, q3) w → (Instr.sliceAt t (ρ x) (lo.map ρ) (hi.map ρ) b).run P w = .ok (.slice (if q3 = q1 then a else a.map (·.add (q1 * k))) (q2 - q1) (q3 - q1)) w := by
        intro ρ a len cap w q1 q2 q3 b hxx hb
        unfold Instr.sliceAt
        rw [Sem.run_bind, run_underlying hu, Result.andThen_ok]
        simp only []
        unfold Instr.slice
        rw [Sem.run_bind, run_underlying hu, Result.andThen_ok, hxx]
        simp only []
        rw [Sem.run_bind, hb, Result.andThen_ok]
        simp only []
        rw [Sem.run_bind, run_size hk, Result.andThen_ok]
        rfl
      split at h
      · rename_i hm
        obtain ⟨rfl, e1, e2, e3, hc⟩ := chk1 (R := none) h
        refine ⟨e3, Nat.le_of_eq e2.symm, fun hH B N w0 E w ρ q hq H hρ => ?_⟩
        have hcc := hc hH
        simp only [Bool.and_eq_true] at hcc
        obtain ⟨p0, p1, p2, p3⟩ := hop hρ
        have k1 := natO_ok hl hcc.1 p1
        have k2 := natO_ok hh hcc.2.1 p2
        have q1 := Nat.le_of_ble_eq_true hcc.2.2.1
        have q2 := Nat.le_of_ble_eq_true hcc.2.2.2.1
        have hkz := Nat.eq_of_beq_eq_true hcc.2.2.2.2
        subst hkz
        have hm' : mx = none := by cases mx <;> simp at hm ⊢
        subst hm'
        rw [hx] at p0
        unfold VR at p0
        obtain ⟨L, cap, p, hL, hxx, hp, r1, r2, r3⟩ := p0
        have hb := bounds_run (P := P) (w := w) (isS := true) (len := n) (cap := cap) k1 k2 q1 (by omega)
        refine Out.same (u := .slice (if cap = l then some ⟨L.g, L.o + p, none⟩ else (some ⟨L.g, L.o + p, none⟩ : Option Addr).map (·.add (l * k))) (h' - l) (cap - l)) (H.re e1 e2) ?_ ?_
        · simp only [execOp, hq]
          refine run_v ?_
          exact hat hxx hb
        · unfold VR
          by_cases hcl : cap = l
          · rw [if_pos hcl]
            refine ⟨L, cap - l, p, hL, rfl, .inl (by omega), by omega, by omega, ?_⟩
            have h0 : cap - l = 0 := by omega
            have : l * k ≤ cap * k := Nat.mul_le_mul_right _ (by omega)
            rw [h0]
            simp only [Nat.zero_mul, Nat.add_zero]
            omega
          · rw [if_neg hcl]
            have hpo : p = o := by omega
            subst hpo
            refine ⟨L, cap - l, p + l * k, hL, by simp [Addr.add_lit, Nat.add_assoc], .inr rfl, by omega, by omega, ?_⟩
            have hmul : (cap - l) * k = cap * k - l * k := Nat.sub_mul _ _ _
            have : l * k ≤ cap * k := Nat.mul_le_mul_right _ (by omega)
            omega
      · rename_i mv hm
        split at h
        · rename_i c3 m' hv hmx hhs
          obtain ⟨rfl, e1, e2, e3, hc⟩ := chk1 (R := none) h
          refine ⟨e3, Nat.le_of_eq e2.symm, fun hH B N w0 E w ρ q hq H hρ => ?_⟩
          have hcc := hc hH
          simp only [Bool.and_eq_true] at hcc
          obtain ⟨p0, p1, p2, p3⟩ := hop hρ
          have k1 := natO_ok hl hcc.1 p1
          have k2 := natO_ok hh hcc.2.1 p2
          have q1 := Nat.le_of_ble_eq_true hcc.2.2.2.1
          have q2 := Nat.le_of_ble_eq_true hcc.2.2.2.2.1
          have q3 := Nat.le_of_ble_eq_true hcc.2.2.2.2.2.1
          have hkz := Nat.eq_of_beq_eq_true hcc.2.2.2.2.2.2
          subst hkz
          cases mx with
          | none => simp at hm
          | some my =>
            simp only [Option.map_some, Option.some.injEq] at hm
            subst hm
            obtain ⟨kk, hmy⟩ := nat_ok hmx hcc.2.2.1 (p3 my rfl)
            cases hi with
            | none => simp at hhs
            | some hy =>
              rcases k2 with ⟨hn, _⟩ | ⟨y, k', hy', hyy⟩
              · cases hn
              · cases hy'
                rw [hx] at p0
                unfold VR at p0
                obtain ⟨L, cap, p, hL, hxx, hp, r1, r2, r3⟩ := p0
                have hb := bounds3_run (P := P) (w := w) (len := n) (cap := cap) (lo := lo) (hi := hy) (mx := my) k1 hyy hmy q1 q2 (by omega)
                refine Out.same (u := .slice (if m' = l then some ⟨L.g, L.o + p, none⟩ else (some ⟨L.g, L.o + p, none⟩ : Option Addr).map (·.add (l * k))) (h' - l) (m' - l)) (H.re e1 e2) ?_ ?_
                · simp only [execOp, hq]
                  refine run_v ?_
                  exact hat hxx hb
                · unfold VR
                  by_cases hcl : m' = l
                  · rw [if_pos hcl]
                    refine ⟨L, m' - l, p, hL, rfl, .inl (by omega), by omega, by omega, ?_⟩
                    have h0 : m' - l = 0 := by omega
                    have : l * k ≤ cap * k := Nat.mul_le_mul_right _ (by omega)
                    rw [h0]
                    simp only [Nat.zero_mul, Nat.add_zero]
                    omega
                  · rw [if_neg hcl]
                    have hpo : p = o := by omega
                    subst hpo
                    refine ⟨L, m' - l, p + l * k, hL, by simp [Addr.add_lit, Nat.add_assoc], .inr rfl, by omega, by omega, ?_⟩
                    have hmul : (m' - l) * k = m' * k - l * k := Nat.sub_mul _ _ _
                    have h1 : l * k ≤ m' * k := Nat.mul_le_mul_right _ (by omega)
                    have h2 : m' * k ≤ cap * k := Nat.mul_le_mul_right _ (by omega)
                    omega
        · cases h
    · cases h
  · rename_i e hu hx
    split at h
    · rename_i c1 l c2 h' k hl hh hm hk
      obtain ⟨rfl, e1, e2, e3, hc⟩ := chk1 (R := none) h
      refine ⟨e3, Nat.le_of_eq e2.symm, fun hH B N w0 E w ρ q hq H hρ => ?_⟩
      have hcc := hc hH
      simp only [Bool.and_eq_true] at hcc
      obtain ⟨p0, p1, p2, p3⟩ := hop hρ
      have k1 := natO_ok hl hcc.1 p1
      have k2 := natO_ok hh hcc.2.1 p2
      have q1 := Nat.eq_of_beq_eq_true hcc.2.2.1
      have q2 := Nat.eq_of_beq_eq_true hcc.2.2.2
      subst q1 q2
      have hm' : mx = none := by cases mx <;> simp at hm ⊢
      subst hm'
      rw [hx] at p0
      unfold VR at p0
      refine Out.same (u := .slice none 0 0) (H.re e1 e2) ?_ (by unfold VR; rfl)
      simp only [execOp, hq]
      refine run_v ?_
      unfold Instr.sliceAt
      rw [Sem.run_bind, run_underlying hu, Result.andThen_ok]
      simp only []
      unfold Instr.slice
      rw [Sem.run_bind, run_underlying hu, Result.andThen_ok, p0]
      simp only [Option.map_none]
      rw [Sem.run_bind, bounds_run k1 k2 (Nat.le_refl _) (Nat.le_refl _), Result.andThen_ok]
      simp only []
      rw [Sem.run_bind, run_size hk, Result.andThen_ok]
      rfl
    · cases h
  · rename_i n e g o hu hx
    split at h
    · rename_i c1 l c2 h' k b hl hh hm hk hb
      obtain ⟨rfl, e1, e2, e3, hc⟩ := chk1 (R := none) h
      refine ⟨e3, Nat.le_of_eq e2.symm, fun hH B N w0 E w ρ q hq H hρ => ?_⟩
      have hcc := hc hH
      simp only [Bool.and_eq_true] at hcc
      obtain ⟨p0, p1, p2, p3⟩ := hop hρ
      have k1 := natO_ok hl hcc.1 p1
      have k2 := natO_ok hh hcc.2.1 p2
      have q1 := Nat.le_of_ble_eq_true hcc.2.2.1
      have q2 := Nat.le_of_ble_eq_true hcc.2.2.2.1
      have q3 := Nat.le_of_ble_eq_true hcc.2.2.2.2
      have hm' : mx = none := by cases mx <;> simp at hm ⊢
      subst hm'
      rw [hx] at p0
      unfold VR at p0
      obtain ⟨L, hL, hxx⟩ := p0
      have hC := H.cells hL hb
      obtain ⟨_, _, _, _, _, hLn, _, _⟩ := hC
      refine Out.same (u := .slice (some (if n = l then ⟨L.g, L.o + o, none⟩ else (⟨L.g, L.o + o, none⟩ : Addr).add (l * k))) (h' - l) (n - l)) (H.re e1 e2) ?_ ?_
      · simp only [execOp, hq]
        refine run_v ?_
        unfold Instr.sliceAt
        rw [Sem.run_bind, run_underlying hu, Result.andThen_ok, hxx]
        simp only [Instr.sureAddr, Option.map_none]
        rw [Sem.run_bind]
        simp only [Sem.run_pure, Result.andThen_ok]
        rw [Sem.run_bind, bounds_run k1 k2 q1 q2, Result.andThen_ok]
        simp only []
        rw [Sem.run_bind, run_size hk, Result.andThen_ok]
        rfl
      · unfold VR
        have hmul : (n - l) * k = n * k - l * k := Nat.sub_mul _ _ _
        have h1 : l * k ≤ n * k := Nat.mul_le_mul_right _ (by omega)
        by_cases hcl : n = l
        · rw [if_pos hcl]
          exact ⟨L, n - l, o, hL, rfl, .inl (by omega), by omega, by omega, by omega⟩
        · rw [if_neg hcl]
          exact ⟨L, n - l, o + l * k, hL, by simp [Addr.add_lit, Nat.add_assoc], .inr rfl, by omega, by omega, by omega⟩
    · cases h
  · cases h
theorem bytesC_ok {l : List CV} {bs : List UInt8} {vs : List Value} (h : convC.bytesC l = some bs) (hv : VRL E l vs) : ∃ ns : List Int, vs = ns.map (Value.int .u8) ∧ ∀ s : ByteArray, ns.foldl (fun r n => r.push (UInt8.ofNat n.toNat)) s = ⟨(s.data.toList ++ bs).toArray⟩ := by
  induction l generalizing bs vs with
  | nil =>
    simp only [convC.bytesC, Option.some.injEq] at h
    subst h
    unfold VRL at hv
    subst hv
    exact ⟨[], rfl, fun s => by simp⟩
  | cons x l ih =>
    unfold VRL at hv
    obtain ⟨v, r, rfl, h1, h2⟩ := hv
    unfold convC.bytesC at h
    split at h
    · rename_i heq; cases heq
    · rename_i n l' heq
      cases heq
      split at h
      · rename_i r' hr'
        cases h
        obtain ⟨ns, rfl, hf⟩ := ih hr' h2
        unfold VR at h1
        subst h1
        refine ⟨n :: ns, rfl, fun s => ?_⟩
        rw [List.foldl_cons, hf]
        congr 1
        simp [ByteArray.push]
      · cases h
    · cases h
theorem toBt_of {src dst : TypeId} (h : toBt P src dst = true) : ∃ e, P.underlying src = some .string ∧ P.underlying dst = some (.slice e) ∧ P.underlying e = some (.int .u8) := by
  unfold toBt at h
  split at h
  · rename_i e h1 h2
    split at h
    · rename_i h3; exact ⟨e, h1, h2, h3⟩
    · cases h
  · cases h
theorem byteC_rel (E : Env) (s : ByteArray) : VRL E (byteC s) (s.data.toList.map fun b => Value.int .u8 b.toNat) := by
  unfold byteC
  generalize s.data.toList = l
  induction l with
  | nil => exact VRL.nil
  | cons c l ih => exact VRL.cons (by unfold VR; rfl) ih
theorem bytes_cells {E' : Env} {s : ByteArray} {c : Nat} {e : TypeId} {L : Loc} (hL : L = ⟨w.heap.size, 0, (bytesRow s c).size⟩) : BR E' (w.drew.alloc (.cells (bytesRow s c) e ((bytesRow s c).size, (bytesRow s c).size + 1))) L (.cells ⟨puts (byteC s) 0 .e, (byteC s).length, []⟩) := by
  subst hL
  have hlen : (s.data.toList.map fun b => Value.int .u8 b.toNat).length ≤ (bytesRow s c).size := by simp [bytesRow]
  have := cells_new (w := w.drew.alloc (.cells (bytesRow s c) e ((bytesRow s c).size, (bytesRow s c).size + 1))) (g := w.heap.size) (c := bytesRow s c) (e := e) (fz := ((bytesRow s c).size, (bytesRow s c).size + 1)) (l := byteC s) (vs := s.data.toList.map fun b => Value.int .u8 b.toNat) (E := E') (alloc_get w.drew _) (fun k hk h => by omega) (fun j v h => by
    have hj : j < (s.data.toList.map fun b => Value.int .u8 b.toNat).length := (List.getElem?_eq_some_iff.1 h).1
    unfold bytesRow
    rw [Array.getElem?_append_left (by simpa using hj)]
    simpa using h) hlen (byteC_rel E' s) (fun v hv => by
    obtain ⟨b, _, rfl⟩ := List.mem_map.1 hv
    rfl)
  exact this
theorem bytesN_ok {src dst : TypeId} {x : Operand} (hb : toBt P src dst = true) (h : bytesN md (ρc x) M = some (v, M')) : OK P ρc (.convert src dst x) M v M' := by
  obtain ⟨e, hs, hd, he⟩ := toBt_of hb
  unfold bytesN at h
  split at h
  · rename_i s hx
    cases hc : Nat.ble s.size 16777216 with
    | false => rw [hc] at h; cases h
    | true =>
      rw [hc, cond_true, Mem.newC_eq] at h
      obtain ⟨rfl, rfl⟩ := ret_ok h
      refine ⟨⟨[], rfl⟩, Nat.le_succ _, fun hH B N w0 E w ρ q hq H hρ => ?_⟩
      have h1 := hρ x (by simp [Op.operands])
      rw [hx] at h1
      unfold VR at h1
      have hrun := run_bytes_of_string (P := P) w src dst e s hs hd he
      have hbel : Below w.heap.size w (w.drew.alloc (.cells (bytesRow s (grownCap w s.size 0 e)) e ((bytesRow s (grownCap w s.size 0 e)).size, (bytesRow s (grownCap w s.size 0 e)).size + 1))) := (below_drew w).trans (below_alloc w.drew _)
      obtain ⟨k1, k2⟩ := H.new (b := .cells ⟨puts (byteC s) 0 .e, (byteC s).length, []⟩) (L := ⟨w.heap.size, 0, (bytesRow s (grownCap w s.size 0 e)).size⟩) hbel (Nat.le_refl _) (by show _ < (w.drew.alloc _).heap.size; rw [alloc_size]; exact Nat.lt_succ_self _) (fun c h => by cases h) fun E' hE hn => bytes_cells rfl
      refine ⟨_, k1, _, k2, .inl ⟨.slice (some ⟨w.heap.size, 0, none⟩) s.size (grownCap w s.size 0 e), ?_, ?_⟩⟩
      · simp only [execOp, hq]
        exact run_v (by rw [h1]; exact hrun)
      · have hcap := grownCap_ge w s.size 0 e
        unfold VR
        refine ⟨_, grownCap w s.size 0 e, 0, Env.set_self, rfl, .inr rfl, Nat.le_refl _, hcap, ?_⟩
        have : s.data.size = s.size := rfl
        simp [bytesRow, this]
        omega
  · cases h
theorem run_to_unsafe {src dst t : TypeId} {a : Addr} {v : Value} {k : Nat} (hs : P.underlying src = some (.pointer t)) (hd : P.underlying dst = some .unsafePointer) (hk : sz P t = some (k + 1)) (hc : w.cell? a = some v) :
    (convert src dst (.pointer (some a))).run P w = .ok (.pointer (some a)) w := by
  obtain ⟨e, n, hsh, hlt, hsp⟩ := World.shape?_of_cell? hc
  obtain ⟨i, hi, hz0⟩ := info_of hk
  have hz : i.size ≠ 0 := by omega
  have hge : ¬ (n ≤ a.off) := by omega
  simp [convert, Conv.unsafePointer, Conv.seenAt, viewAt, cellsIn, run_underlying hs, run_underlying hd, run_size hk, hsh, hge]
theorem convert_ok {src dst : TypeId} {x : Operand} (h : exOp P md ρc (.convert src dst x) M = some (v, M')) : OK P ρc (.convert src dst x) M v M' := by
  simp only [exOp] at h
  cases hb : toBt P src dst with
  | true => rw [hb, cond_true] at h; exact bytesN_ok hb h
  | false =>
  rw [hb, cond_false] at h
  unfold convC at h
  split at h
  · rename_i k0 k k1 n hs hd hx
    obtain ⟨rfl, rfl⟩ := ret_ok h
    refine ok_pure fun E ρ w q hq hρ => ?_
    have h1 := hρ x (by simp [Op.operands])
    rw [hx] at h1
    unfold VR at h1
    refine ⟨.int k (k.wrap n), ?_, by unfold VR; rfl⟩
    simp only [execOp, hq]
    exact run_v (by simp [convert, run_underlying hs, run_underlying hd, h1, Conv.intToInt])
  · rename_i s hs hd hx
    obtain ⟨rfl, rfl⟩ := ret_ok h
    refine ok_pure fun E ρ w q hq hρ => ?_
    have h1 := hρ x (by simp [Op.operands])
    rw [hx] at h1
    unfold VR at h1
    refine ⟨.string s, ?_, by unfold VR; rfl⟩
    simp only [execOp, hq]
    exact run_v (by simp [convert, run_underlying hs, run_underlying hd, h1])
  · rename_i e hs hd hx
    split at h
    · rename_i he
      obtain ⟨rfl, rfl⟩ := ret_ok h
      refine ok_pure fun E ρ w q hq hρ => ?_
      have h1 := hρ x (by simp [Op.operands])
      rw [hx] at h1
      unfold VR at h1
      refine ⟨.string .empty, ?_, by unfold VR; rfl⟩
      simp only [execOp, hq]
      exact run_v (by rw [h1, run_convert_bytes_string w src dst e none 0 0 hs he hd]; simp [Conv.bytesToString])
    · cases h
  · rename_i e g o n m z hs hd hx
    split at h
    · rename_i he
      cases hz : Nat.beq z 1 with
      | false => rw [hz] at h; cases h
      | true =>
        rw [hz] at h
        simp only [cond_true] at h
        split at h
        · rename_i l hr
          split at h
          · rename_i bs hbs
            obtain ⟨rfl, rfl⟩ := ret_ok h
            refine ⟨M'.sfx_refl, Nat.le_refl _, fun hH B N w0 E w ρ q hq H hρ => ?_⟩
            have h1 := hρ x (by simp [Op.operands])
            rw [hx] at h1
            unfold VR at h1
            obtain ⟨L, cap, p, hL, hxx, hp, r1, r2, r3⟩ := h1
            obtain ⟨vs, k1, k2, k3, k4⟩ := rd_ok H hL hr
            obtain ⟨ns, rfl, hf⟩ := bytesC_ok hbs k1
            refine Out.same (u := .string ⟨bs.toArray⟩) H ?_ (by unfold VR; rfl)
            simp only [execOp, hq]
            refine run_v ?_
            rw [hxx, run_convert_bytes_string w src dst e _ _ _ hs he hd]
            have hl : (loadCells ⟨L.g, L.o + p, none⟩ n).run P w = .ok (ns.map (Value.int .u8)).toArray w := by
              by_cases hn : n = 0
              · subst hn
                have : ns = [] := by
                  apply List.eq_nil_of_length_eq_zero
                  simpa using k2
                subst this
                rfl
              · have hpo : p = o := by omega
                subst hpo
                rw [← k2]
                exact run_loadCells_list w ⟨L.g, L.o + p, none⟩ _ fun j v hv => by
                  rw [Addr.add_lit]
                  exact k3 j v hv
            rw [run_bytesToString w _ _ _ ns hl, hf]
            rfl
          · cases h
        · cases h
    · cases h
  · rename_i t g o hs hd hx
    split at h
    · rename_i k l hk hr
      obtain ⟨rfl, rfl⟩ := ret_ok h
      refine ⟨M'.sfx_refl, Nat.le_refl _, fun hH B N w0 E w ρ q hq H hρ => ?_⟩
      have h1 := hρ x (by simp [Op.operands])
      rw [hx] at h1
      have h1' := h1
      unfold VR at h1
      obtain ⟨L, hL, hxx⟩ := h1
      obtain ⟨vs, k1, k2, k3, k4⟩ := rd_ok H hL hr
      have hc : w.cell? ⟨L.g, L.o + o, none⟩ = some (vs[0]'(by omega)) := k3 0 _ (List.getElem?_eq_getElem (by omega))
      refine Out.same (u := ρ x) H ?_ h1'
      simp only [execOp, hq]
      refine run_v ?_
      rw [hxx]
      exact run_to_unsafe hs hd hk hc
    · cases h
  · cases h
theorem makeMap_ok {t : TypeId} {r : Option Operand} (h : exOp P md ρc (.makeMap t r) M = some (v, M')) : OK P ρc (.makeMap t r) M v M' := by
  have key : (match M.new (.map [] 0) with | some M' => ret (.mp M.nx) M' | none => none) = some (v, M') → (∀ (ρ : Operand → Value) (w : World) (E : Env), (∀ x ∈ (Op.makeMap t r).operands, VR E (ρc x) (ρ x)) → (Instr.makeMap t (r.map ρ)).run P w = .ok (.map (some w.heap.size)) (w.alloc (.map #[] 0))) → OK P ρc (.makeMap t r) M v M' := by
    intro h hrun
    rw [Mem.new_eq] at h
    obtain ⟨rfl, rfl⟩ := ret_ok h
    refine ⟨⟨[], rfl⟩, Nat.le_succ _, fun hH B N w0 E w ρ q hq H hρ => ?_⟩
    obtain ⟨k1, k2⟩ := H.new (b := .map [] 0) (L := ⟨w.heap.size, 0, 0⟩) (below_alloc w (.map #[] 0)) (Nat.le_refl _) (by show _ < (w.alloc (.map #[] 0)).heap.size; rw [alloc_size]; exact Nat.lt_succ_self _) (fun c h => by cases h) fun E' hE hn => ⟨[], alloc_get _ _, by unfold EntR; rfl⟩
    refine ⟨_, k1, _, k2, .inl ⟨.map (some w.heap.size), ?_, ?_⟩⟩
    · simp only [execOp, hq]
      exact run_v (hrun ρ w E hρ)
    · unfold VR
      exact ⟨_, Env.set_self, rfl⟩
  cases r with
  | none =>
    simp only [exOp] at h
    exact key h fun ρ w E hρ => by simp [Instr.makeMap, newObj, Sem.run]
  | some x =>
    simp only [exOp] at h
    split at h
    · rename_i a b k n hu hx
      refine key h fun ρ w E hρ => ?_
      have h1 := hρ x (by simp [Op.operands])
      rw [hx] at h1
      unfold VR at h1
      simp [Instr.makeMap, run_underlying hu, h1, asInt, asIntOf, newObj, Sem.run]
    · cases h
theorem makeSlice_ok {t : TypeId} {x y : Operand} (h : exOp P md ρc (.makeSlice t x y) M = some (v, M')) : OK P ρc (.makeSlice t x y) M v M' := by
  simp only [exOp] at h
  split at h
  · rename_i e b1 l b2 c hu hl hc
    split at h
    · rename_i k by_ z hk hby hz
      cases hb : Nat.beq z.length k && Nat.ble 1 k with
      | false => rw [hb] at h; cases h
      | true =>
        rw [hb] at h
        simp only [cond_true] at h
        rw [Bool.and_eq_true] at hb
        have hzk := Nat.eq_of_beq_eq_true hb.1
        have hk1 := Nat.le_of_ble_eq_true hb.2
        obtain ⟨M1, e1, e2, e3, h, hcc⟩ := chk_ok h
        rw [fM_eq, Mem.new_eq] at h
        obtain ⟨rfl, rfl⟩ := ret_ok h
        have hpush : M1.sfx (M1.push (.cells ⟨.e, c * k, z⟩)) := ⟨[], rfl⟩
        refine ⟨Mem.sfx_trans e3 hpush, by show M.nx ≤ M1.nx + 1; omega, fun hH B N w0 E w ρ q hq H hρ => ?_⟩
        have hcond := hcc (hH.of hpush)
        simp only [Bool.and_eq_true] at hcond
        have q1 := Nat.le_of_ble_eq_true hcond.2.2.1
        have q2 := Nat.le_of_ble_eq_true hcond.2.2.2.1
        have q3 := Nat.le_of_ble_eq_true hcond.2.2.2.2
        obtain ⟨kx, hx⟩ := nat_ok hl hcond.1 (hρ x (by simp [Op.operands]))
        obtain ⟨ky, hy⟩ := nat_ok hc hcond.2.1 (hρ y (by simp [Op.operands]))
        obtain ⟨i, z', hi, hz1, hz2⟩ := zero_of hz
        obtain ⟨k1, k2⟩ := VR.cells (cv_rel E z') hz2
        have hzs : z'.cells.size = k := by
          have := k1.len
          simp only [Array.length_toList] at this
          omega
        have hib : i.bytes = by_ := by
          rw [hi] at hby
          simpa using hby
        have hik : i.size = k := by
          obtain ⟨i', hi', hs'⟩ := info_of hk
          rw [hi] at hi'
          cases hi'
          exact hs'
        have hbytes : (i.bytes : Int) * (c : Int) ≤ 281474976710656 := by
          have : i.bytes * c ≤ 1048576 * 16777216 := Nat.mul_le_mul (by omega) q2
          have : ((i.bytes * c : Nat) : Int) ≤ 281474976710656 := by omega
          rwa [Int.natCast_mul] at this
        have hrun := run_make (P := P) w t e i z' hu hi hz1 kx ky (l : Int) (c : Int) (by omega) (by omega) hbytes (by omega)
        simp only [Int.toNat_natCast, hik] at hrun
        obtain ⟨g1, g2⟩ := (H.re e1 e2).new (b := .cells ⟨.e, c * k, z⟩) (L := ⟨w.heap.size, 0, c * k⟩) (below_alloc w (.cells (madeCells z'.cells (c * k)) e)) (Nat.le_refl _) (by show _ < (w.alloc _).heap.size; rw [alloc_size]; exact Nat.lt_succ_self _) (fun c h => by cases h) fun E' hE hn => by
          refine ⟨madeCells z'.cells (c * k), e, (0, 0), alloc_get _ _, size_madeCells _ _, by simp, fun _ _ => by simp, fun j hj => ?_⟩
          have hj' : j < c * k := hj
          have hm : j % k < k := Nat.mod_lt _ hk1
          have hm2 : j % z'.cells.size < z'.cells.size := by rw [hzs]; exact hm
          refine ⟨z'.cells[j % z'.cells.size], ?_, ?_, k2 _ (by simp)⟩
          · simp only [Nat.zero_add, madeCells, Array.getElem?_map, Array.getElem?_range, hj', if_true, Option.map_some]
            simp [hm2]
          · have hget : Blk.get ⟨.e, c * k, z⟩ j = z[j % k]'(by omega) := by
              unfold Blk.get
              simp only [Tr.get_e, hzk]
              rw [List.getElem?_eq_getElem (by omega)]
              rfl
            rw [hget]
            refine (k1.mono hE).get' (i := j % k) (List.getElem?_eq_getElem (by omega)) ?_
            rw [Array.getElem?_toList, Array.getElem?_eq_getElem (by omega)]
            simp only [hzs]
        rw [e2] at g1 g2
        refine ⟨_, g1, _, g2, .inl ⟨.slice (some ⟨w.heap.size, 0, none⟩) l c, ?_, ?_⟩⟩
        · simp only [execOp, hq]
          refine run_v ?_
          rw [hx, hy]
          exact hrun
        · unfold VR
          exact ⟨⟨w.heap.size, 0, c * k⟩, c, 0, by rw [e2]; exact Env.set_self, rfl, .inr rfl, q1, Nat.le_refl _, by simp⟩
    · cases h
  · cases h
end
end
end Mu.CI
end
section
/-
  Operations over known memory do what the model's do: the built-in functions on rows.
  Conditions: none; generic.
-/
namespace Mu.CI
open Go Go.RowKit
noncomputable section
set_option linter.unusedVariables false
section
variable {M M' : Mem} {md : Bool} {P : Program} {E : Env} {w w' : World} {ρc : Operand → CV} {v : CV}
theorem map2 {f : Operand → CV} {l : List Operand} {a b : CV} (h : l.map f = [a, b]) : ∃ x y, l = [x, y] ∧ f x = a ∧ f y = b := by
  match l, h with
  | [x, y], h => simp at h; exact ⟨x, y, rfl, h.1, h.2⟩
theorem map1 {f : Operand → CV} {l : List Operand} {a : CV} (h : l.map f = [a]) : ∃ x, l = [x] ∧ f x = a := by
  match l, h with
  | [x], h => simp at h; exact ⟨x, rfl, h⟩
theorem byteCells_rel (E : Env) (s : ByteArray) : VRL E (s.data.toList.map fun c => CV.it .u8 c.toNat) (byteCells s) := by
  unfold byteCells
  generalize s.data.toList = l
  induction l with
  | nil => exact VRL.nil
  | cons c l ih => exact VRL.cons (by unfold VR; rfl) ih
theorem src_ok {B : Nat} {N : Nat → Prop} {w0 : World} {k n : Nat} {x : CV} {l : List CV} {tx : TypeId} {d : TypeDesc} {a : Value} (H : HR B N w0 E M w) (h : srcC d M k x = some (n, l)) (hd : P.underlying tx = some d) (ha : VR E x a) :
    ∃ news, Go.Src P k tx a n news w ∧ VRL E l news ∧ ∀ v ∈ news, v.oneCell' = true := by
  unfold srcC at h
  split at h
  · split at h
    · cases h
      unfold VR at ha
      subst ha
      exact ⟨[], Go.Src.ofNil w hd 0, VRL.nil, fun v hv => by cases hv⟩
    · cases h
  · rename_i g o n' m z
    split at h
    · rename_i e'
      cases hz : Nat.beq k z with
      | false => rw [hz] at h; cases h
      | true =>
        rw [hz] at h
        simp only [cond_true] at h
        split at h
        · rename_i l' hr
          cases h
          unfold VR at ha
          obtain ⟨L, c, p, hL, rfl, hp, r1, r2, r3⟩ := ha
          obtain ⟨vs, k1, k2, k3, k4⟩ := rd_ok H hL hr
          refine ⟨vs, Go.Src.ofSlice w hd _ n c vs k2 (fun j u hu => ?_) k4, k1, k4⟩
          have hj : j < vs.length := by
            rcases Nat.lt_or_ge j vs.length with h | h
            · exact h
            · rw [List.getElem?_eq_none h] at hu; cases hu
          have hn : 0 < n := Nat.pos_of_ne_zero fun e => by rw [k2, e] at hj; simp at hj
          have hpo : p = o := by omega
          subst hpo
          rw [Addr.add_lit]
          exact k3 j u hu
        · cases h
    · cases h
  · rename_i s
    split at h
    · cases hk : Nat.beq k 1 with
      | false => rw [hk] at h; cases h
      | true =>
        rw [hk] at h
        simp only [cond_true, Option.some.injEq, Prod.mk.injEq] at h
        obtain ⟨rfl, rfl⟩ := h
        have hk := Nat.eq_of_beq_eq_true hk
        subst hk
        unfold VR at ha
        subst ha
        exact ⟨byteCells s, Go.Src.ofString w hd s, byteCells_rel E s, fun v hv => by
          unfold byteCells at hv
          obtain ⟨c, _, rfl⟩ := List.mem_map.1 hv
          rfl⟩
    · cases h
  · cases h
theorem HR.ext {B : Nat} {N : Nat → Prop} {w0 : World} (H : HR B N w0 E M w) (h : ∀ i, M'.h.get i = M.h.get i) (k : M'.nx = M.nx) : HR B N w0 E M' w := by
  obtain ⟨a1, a2, a3, a4, a5, a6, a7, a8, a9⟩ := H
  refine ⟨a1, a2, a3, ?_, ?_, a6, ?_, ?_, ?_⟩ <;> simp only [h, k] <;> assumption
/-- a block of the world that no known block lies in changes -/
theorem HR.chg {B : Nat} {N : Nat → Prop} {w0 : World} {g : Nat} (H : HR B N w0 E M w) (hN : ¬ N g) (hf : ∀ i L, E i = some L → RB.live (M.h.get i) = true → L.g ≠ g) (hw : ∀ k, k ≠ g → w'.heap[k]? = w.heap[k]?) (ho : w'.os = w.os ∧ w'.tape = w.tape ∧ w'.output = w.output) (hs : w'.heap.size = w.heap.size) : HR B N w0 E M w' := by
  have hkp : Kp N w w' := ⟨ho.1, ho.2.1, ho.2.2, Nat.le_of_eq hs.symm, fun k hk => hw k fun e => hN (e ▸ hk)⟩
  refine ⟨H.kp.trans hkp, H.nlt, fun i L h => by rw [hs]; exact H.lt i L h, H.own, H.ro, H.base, fun i L b h hb => ?_, H.dis, H.fresh⟩
  have hB := H.blk i L b h hb
  by_cases hl : RB.live (some b) = true
  · exact hB.keep (Env.le_refl E) (hw _ (hf i L h (by rw [hb]; exact hl)))
  · cases b <;> simp [RB.live] at hl
    · trivial
    · obtain ⟨K, hK, hNK⟩ := H.base i (H.ro i _ hb)
      rw [h] at hK
      cases hK
      exact hB.keep (Env.le_refl E) (hkp.block _ hNK)
/-- a block that is there comes to be known -/
theorem HR.newAt {B : Nat} {N : Nat → Prop} {w0 : World} {b : RB} {L : Loc} (H : HR B N w0 E M w) (hg : L.g < w.heap.size) (hN : ¬ N L.g) (hf : ∀ i K, E i = some K → RB.live (M.h.get i) = true → K.g ≠ L.g) (hr : ∀ c, b ≠ .ro c) (hb : ∀ E', E.le E' → E' M.nx = some L → BR E' w L b) :
    Env.ex M.nx E (E.set M.nx L) ∧ HR B N w0 (E.set M.nx L) (M.push b) w := by
  have hn := (H.fresh M.nx (Nat.le_refl _)).2
  have hle : E.le (E.set M.nx L) := Env.le_set hn
  have hcase : ∀ i K, (E.set M.nx L) i = some K → (i = M.nx ∧ K = L) ∨ (i ≠ M.nx ∧ E i = some K) := fun i K h => by
    unfold Env.set at h
    split at h
    · rename_i e; cases h; exact .inl ⟨e, rfl⟩
    · rename_i e; exact .inr ⟨e, h⟩
  unfold Mem.push
  refine ⟨⟨hle, fun j hj => if_neg (Nat.ne_of_lt hj)⟩, H.kp, H.nlt, fun i K h => ?_, fun i K h hl => ?_, fun i c hl => ?_, fun i hi => (let ⟨K, h, k⟩ := H.base i hi; ⟨K, hle _ _ h, k⟩), fun i K c h hl => ?_, fun i j K J hij hK hJ li lj => ?_, fun i hi => ⟨?_, ?_⟩⟩
  · rcases hcase i K h with ⟨rfl, rfl⟩ | ⟨hi, h⟩
    · exact hg
    · exact H.lt i K h
  · rcases hcase i K h with ⟨rfl, rfl⟩ | ⟨hi, h⟩
    · exact hN
    · simp only [Tr.get_set_ne _ hi] at hl
      exact H.own i K h hl
  · by_cases hi : i = M.nx
    · subst hi
      simp only [Tr.get_set_self] at hl
      cases hl
      exact absurd rfl (hr c)
    · simp only [Tr.get_set_ne _ hi] at hl
      exact H.ro i c hl
  · rcases hcase i K h with ⟨rfl, rfl⟩ | ⟨hi, h⟩
    · simp only [Tr.get_set_self] at hl
      cases hl
      exact hb _ hle Env.set_self
    · simp only [Tr.get_set_ne _ hi] at hl
      exact (H.blk i K c h hl).keep hle rfl
  · rcases hcase i K hK with ⟨rfl, rfl⟩ | ⟨hi, hK'⟩
    · rcases hcase j J hJ with ⟨rfl, rfl⟩ | ⟨hj, hJ'⟩
      · exact absurd rfl hij
      · simp only [Tr.get_set_ne _ hj] at lj
        exact (hf j J hJ' lj).symm
    · rcases hcase j J hJ with ⟨rfl, rfl⟩ | ⟨hj, hJ'⟩
      · simp only [Tr.get_set_ne _ hi] at li
        exact hf i K hK' li
      · simp only [Tr.get_set_ne _ hi] at li
        simp only [Tr.get_set_ne _ hj] at lj
        exact H.dis i j K J hij hK' hJ' li lj
  · have hi : M.nx + 1 ≤ i := hi
    simp only [Tr.get_set_ne _ (show i ≠ M.nx by omega)]
    exact (H.fresh i (by omega)).1
  · have hi : M.nx + 1 ≤ i := hi
    unfold Env.set
    rw [if_neg (by omega)]
    exact (H.fresh i (by omega)).2
theorem nextcap_le (n c : Nat) (h : c < n) : Builtin.nextslicecap n c ≤ 4 * n + 1024 := by
  unfold Builtin.nextslicecap
  split
  · omega
  · split
    · omega
    · have : ∀ (r c' : Nat), c' ≤ 2 * n + 512 → Builtin.growBy n r c' ≤ 4 * n + 1024 := by
        intro r
        induction r with
        | zero => intro c' hc; unfold Builtin.growBy; omega
        | succ r ih =>
          intro c' hc
          unfold Builtin.growBy
          split
          · omega
          · exact ih _ (by omega)
      exact this _ _ (by omega)
theorem wr_sfx {g o : Nat} {l : List CV} (hr : M.wr md g o l = some M') : M.sfx M' ∧ M'.nx = M.nx ∧ M'.hn = M.hn := by
  unfold Mem.wr at hr
  split at hr
  · rename_i b hb
    cases hc : Nat.ble (o + l.length) b.n with
    | false => rw [hc] at hr; cases hr
    | true =>
      rw [hc] at hr
      simp only [cond_true, putsK_eq, Tr.setK_eq, Option.some.injEq] at hr
      subst hr
      exact ⟨⟨[], rfl⟩, rfl, rfl⟩
  · cases hr
theorem grown_new {B : Nat} {N : Nat → Prop} {w0 : World} {l : List CV} {vs : List Value} {zs : Array Value} {e : TypeId} {c k : Nat} (H : HR B N w0 E M w) (hr : M.newC md l = some M') (hv : VRL E l vs) (h1 : ∀ v ∈ vs, v.oneCell' = true) :
    Env.ex M.nx E (E.set M.nx ⟨w.heap.size, 0, (vs.toArray ++ zs).size⟩) ∧ HR B N w0 (E.set M.nx ⟨w.heap.size, 0, (vs.toArray ++ zs).size⟩) M' (w.drew.alloc (.cells (vs.toArray ++ zs) e)) := by
  rw [Mem.newC_eq, Option.some.injEq] at hr
  subst hr
  have hb : Below w.heap.size w (w.drew.alloc (.cells (vs.toArray ++ zs) e)) := (below_drew w).trans (below_alloc w.drew _)
  refine H.new (b := .cells _) hb (Nat.le_refl _) (by show _ < (w.drew.alloc _).heap.size; rw [alloc_size]; exact Nat.lt_succ_self _) (fun c h => by cases h) fun E' hE hn => ?_
  show CellsR _ _ _ _
  refine cells_new (w := w.drew.alloc (.cells (vs.toArray ++ zs) e)) (c := vs.toArray ++ zs) (e := e) (fz := (0, 0)) (alloc_get w.drew _) (fun k _ => by simp) (fun j v hj => ?_) (by simp) (hv.mono hE) h1
  have hj' : j < vs.length := by
    rcases Nat.lt_or_ge j vs.length with h | h
    · exact h
    · rw [List.getElem?_eq_none h] at hj; cases hj
  rw [Array.getElem?_append_left (by simpa using hj')]
  simpa using hj
/-- what an append of n elements 'cs' does, told by its runs alone (a row, a string, or zeros of a number) -/
structure AppF (P : Program) (e : TypeId) (i : TypeInfo) (z : Value) (t tx ty : TypeId) (x : Value) (n : Nat) (cs : List Value) (w : World) : Prop where
  newsLen : cs.length = n * i.size
  nothing : n = 0 → ∀ (base : Option Addr) (l c : Nat), l ≤ c → (Builtin.append_ #[t, tx] ty #[.slice base l c, x]).run P w = .ok (.slice base l c) w
  room : ∀ (b off l c : Nat), l + n ≤ c → (∀ j, j < cs.length → (w.cell? ⟨b, off + l * i.size + j, none⟩).isSome = true) → (∀ j, j < cs.length → w.frozen? ⟨b, off + l * i.size + j, none⟩ = false) →
    (Builtin.append_ #[t, tx] ty #[.slice (some ⟨b, off, none⟩) l c, x]).run P w = .ok (.slice (some ⟨b, off, none⟩) (l + n) c) (w.setCells b (off + l * i.size) cs)
  grow : ∀ (base : Option Addr) (l c : Nat) (olds : List Value), (Builtin.firstCells i.size l (.slice base l c)).run P w.drew = .ok olds.toArray w.drew → c < l + n → ((l + n : Nat) : Int) ≤ 9223372036854775807 → Builtin.nextslicecap (l + n) c * i.bytes ≤ 281474976710656 →
    (Builtin.append_ #[t, tx] ty #[.slice base l c, x]).run P w =
      .ok (.slice (some ⟨w.heap.size, 0, none⟩) (l + n) (grownCap w (l + n) c e))
        (w.drew.alloc (.cells ((olds ++ cs).toArray ++ Builtin.zeroCells z.cells (grownCap w (l + n) c e - (l + n))) e))
theorem AppF.ofSrc {e : TypeId} {i : TypeInfo} {z x : Value} {t tx ty : TypeId} {n k : Nat} {cs : List Value} (ht : P.underlying t = some (.slice e)) (hi : P.info? e = some i) (hz : i.zero = some z) (hik : i.size = k) (hs : Go.Src P k tx x n cs w) : AppF P e i z t tx ty x n cs w := by
  subst hik
  refine ⟨hs.newsLen, fun hn base l c hl => ?_, fun b off l c hr h1 h2 => run_append_room_src (P := P) w t tx ty e i ht hi b off l c x n cs hs hr h1 h2, fun base l c olds ho hg h63 hf => run_append_grow_src (P := P) w t tx ty e i z ht hi hz base l c olds ho x n cs hs hg h63 hf⟩
  subst hn
  have hc0 : cs = [] := List.eq_nil_of_length_eq_zero (by simpa using hs.newsLen)
  subst hc0
  exact run_append_nothing w t tx ty e i ht hi base l c hl x hs
theorem append0_ok {e : TypeId} {s : CV} {n : Nat} {news : List CV} (h : appendW P md (growC0 md) e s n news M = some (v, M')) : M.sfx M' ∧ M.nx ≤ M'.nx ∧ (M'.Holds → ∀ {B : Nat} {N : Nat → Prop} {w0 : World} {E : Env} {w : World} {a x : Value} {t tx ty : TypeId} {cs : List Value} {k : Nat}, HR B N w0 E M w → VR E s a → P.underlying t = some (.slice e) → sz P e = some k → (∀ i z, P.info? e = some i → i.zero = some z → i.size = k → AppF P e i z t tx ty x n cs w) → VRL E news cs → (∀ v ∈ cs, v.oneCell' = true) →
    ∃ E', Env.ex M.nx E E' ∧ ∃ w' u, (Builtin.append_ #[t, tx] ty #[a, x]).run P w = .ok u w' ∧ VR E' v u ∧ HR B N w0 E' M' w') := by
  unfold appendW at h
  split at h
  · rename_i k by_ zs hk hby hzs
    cases hzk : Nat.beq zs.length k with
    | false => rw [hzk] at h; cases h
    | true =>
      rw [hzk] at h
      simp only [cond_true] at h
      have hzk := Nat.eq_of_beq_eq_true hzk
      obtain ⟨i, z, hi, hz1, hz2⟩ := zero_of hzs
      have hib : i.bytes = by_ := by rw [hi] at hby; simpa using hby
      have hik : i.size = k := by
        obtain ⟨i', hi', hs'⟩ := info_of hk
        rw [hi] at hi'
        cases hi'
        exact hs'
      have hzsz : z.cells.size = k := by
        have := (VR.cells (cv_rel (fun _ => none) z) hz2).1.len
        simp only [Array.length_toList] at this
        omega
      split at h
      · cases hn : Nat.beq n 0 with
        | true =>
          rw [hn] at h
          obtain ⟨rfl, rfl⟩ := ret_ok h
          have hn := Nat.eq_of_beq_eq_true hn
          subst hn
          refine ⟨M'.sfx_refl, Nat.le_refl _, fun hH B N w0 E w a x t tx ty cs k' H ha ht hk' hs hv h1 => ?_⟩
          rw [hk] at hk'
          cases hk'
          have hs := hs i z hi hz1 hik
          have hnl0 : cs.length = 0 := by rw [hs.newsLen]; simp
          have hc0 : cs = [] := by
            apply List.eq_nil_of_length_eq_zero
            simp [hnl0]
          subst hc0
          unfold VR at ha
          subst ha
          exact ⟨E, E.ex_refl, w, _, hs.nothing rfl none 0 0 (Nat.le_refl _), by unfold VR; rfl, H⟩
        | false =>
          rw [hn] at h
          simp only [cond_false] at h
          obtain ⟨M1, e1, e2, e3, h, hc⟩ := chk_ok h
          split at h
          · rename_i M2 hr
            obtain ⟨rfl, rfl⟩ := ret_ok h
            obtain ⟨s1, s2, _⟩ := newC_sfx hr
            refine ⟨Mem.sfx_trans e3 s1, by omega, fun hH B N w0 E w a x t tx ty cs k' H ha ht hk' hs hv h1 => ?_⟩
            rw [hk] at hk'
            cases hk'
            have hs := hs i z hi hz1 hik
            have hnl0 : cs.length = n * k := by rw [hs.newsLen, hik]
            have hcond := hc (hH.of s1)
            simp only [Bool.and_eq_true] at hcond
            have q1 := Nat.le_of_ble_eq_true hcond.1
            have q2 := Nat.le_of_ble_eq_true hcond.2.1
            have q3 := Nat.le_of_ble_eq_true hcond.2.2
            simp only [maxRow] at q2 q3
            unfold VR at ha
            subst ha
            have hnc := nextcap_le n 0 (by omega)
            have hfit : Builtin.nextslicecap (0 + n) 0 * i.bytes ≤ 281474976710656 := by
              rw [Nat.zero_add]
              exact Nat.le_trans (Nat.mul_le_mul (Nat.le_trans hnc (show 4 * n + 1024 ≤ 4195328 by omega)) (show i.bytes ≤ 1048576 by omega)) (by decide)
            have hrun := hs.grow none 0 0 [] (by simp [Builtin.firstCells]) (by omega) (by omega) hfit
            obtain ⟨g1, g2⟩ := grown_new (zs := Builtin.zeroCells z.cells (grownCap w (0 + n) 0 e - (0 + n))) (e := e) (c := 0) (k := 0) (H.re e1 e2) hr hv h1
            rw [e2] at g1 g2
            refine ⟨_, g1, _, _, hrun, ?_, by simpa using g2⟩
            have hcap := grownCap_ge w (0 + n) 0 e
            have hnl := hnl0
            unfold VR
            refine ⟨_, grownCap w (0 + n) 0 e, 0, by rw [e2]; exact Env.set_self, by simp, .inr rfl, Nat.le_refl _, by omega, ?_⟩
            simp only [Array.size_append, List.size_toArray, size_zeroCells, hzsz, hnl]
            have : (grownCap w (0 + n) 0 e - (0 + n)) * k = grownCap w (0 + n) 0 e * k - n * k := by rw [Nat.sub_mul, Nat.zero_add]
            have h2 : n * k ≤ grownCap w (0 + n) 0 e * k := Nat.mul_le_mul_right _ (by omega)
            omega
          · cases h
      · rename_i g o l m z0
        cases hkz : Nat.beq k z0 with
        | false => rw [hkz] at h; cases h
        | true =>
          rw [hkz] at h
          simp only [cond_true] at h
          have hkz := Nat.eq_of_beq_eq_true hkz
          subst hkz
          obtain ⟨M1, e1, e2, e3, h⟩ := cnd_ok h
          rcases h with ⟨h, hc⟩ | ⟨h, hc⟩
          · split at h
            · rename_i M2 hr
              obtain ⟨rfl, rfl⟩ := ret_ok h
              obtain ⟨s1, s2, _⟩ := wr_sfx hr
              refine ⟨Mem.sfx_trans e3 s1, by omega, fun hH B N w0 E w a x t tx ty cs k' H ha ht hk' hs hv h1 => ?_⟩
              rw [hk] at hk'
              cases hk'
              have hs := hs i z hi hz1 hik
              have hnl0 : cs.length = n * k := by rw [hs.newsLen, hik]
              have q1 := Nat.le_of_ble_eq_true (hc (hH.of s1))
              unfold VR at ha
              obtain ⟨L, c, p, hL, rfl, hp, r1, r2, r3⟩ := ha
              obtain ⟨j1, j2, j3, j4, j5⟩ := wr_ok (H.re e1 e2) hL hr hv h1
              rcases hp with hp | hp
              · have hn0 : n = 0 := by omega
                subst hn0
                have hc0 : cs = [] := by
                  apply List.eq_nil_of_length_eq_zero
                  simp [hnl0]
                subst hc0
                refine ⟨E, E.ex_refl, w, _, hs.nothing rfl _ l c (by omega), ?_, j3⟩
                unfold VR
                exact ⟨L, c, p, hL, rfl, .inl hp, by omega, r2, r3⟩
              · subst hp
                have hrun := hs.room L.g (L.o + p) l c (by omega) (by rw [hik]; intro j hj; have := j1 j hj; rwa [← Nat.add_assoc] at this) (by rw [hik]; intro j hj; have := j2 j hj; rwa [← Nat.add_assoc] at this)
                rw [hik, Nat.add_assoc L.o p (l * k)] at hrun
                refine ⟨E, E.ex_refl, _, _, hrun, ?_, j3⟩
                unfold VR
                exact ⟨L, c, p, hL, rfl, .inr rfl, by omega, r2, r3⟩
            · cases h
          · unfold growC0 at h
            split at h
            · rename_i old b hro hgb
              obtain ⟨M2, f1, f2, f3, h, hc2⟩ := chk_ok h
              split at h
              · rename_i M3 hr
                rw [Tr.setK_eq] at h
                obtain ⟨rfl, rfl⟩ := ret_ok h
                obtain ⟨s1, s2, s4⟩ := newC_sfx hr
                have s3 : M2.sfx ⟨M3.h.set g .dead, M3.nx, M3.ob, M3.hn⟩ := s1
                refine ⟨Mem.sfx_trans e3 (Mem.sfx_trans f3 s3), by show M.nx ≤ M3.nx; omega, fun hH B N w0 E w a x t tx ty cs k' H ha ht hk' hs hv h1 => ?_⟩
                rw [hk] at hk'
                cases hk'
                have hs := hs i z hi hz1 hik
                have hnl0 : cs.length = n * k := by rw [hs.newsLen, hik]
                have hcond := hc2 (hH.of s3)
                have hnm : ¬ (l + n ≤ m) := by
                  have := hc (hH.of (Mem.sfx_trans f3 s3))
                  intro hle
                  rw [Nat.ble_eq_true_of_le hle] at this
                  cases this
                simp only [Bool.and_eq_true] at hcond
                have q1 := Nat.le_of_ble_eq_true hcond.1
                have q2 := Nat.le_of_ble_eq_true hcond.2
                simp only [maxRow] at q1 q2
                unfold VR at ha
                obtain ⟨L, c, p, hL, rfl, hp, r1, r2, r3⟩ := ha
                have HM2 : HR B N w0 E M2 w := (H.re e1 e2).re f1 f2
                obtain ⟨vs, k1, k2, k3, k4⟩ := rd_ok (H.re e1 e2) hL hro
                have hall : VRL E (old ++ news) (vs ++ cs) := k1.append hv
                have hone : ∀ u ∈ vs ++ cs, u.oneCell' = true := fun u hu => by
                  rcases List.mem_append.1 hu with h | h
                  · exact k4 u h
                  · exact h1 u h
                have hnl := hnl0
                have hgn : g < M2.nx := Nat.lt_of_not_le fun hle => by
                  have := (HM2.fresh g hle).2
                  rw [hL] at this
                  cases this
                have hlive : RB.live (M2.h.get g) = true := by rw [f1, hgb]; rfl
                by_cases hroom : l + n ≤ c
                · -- in its place
                  have hpo : p = o := by omega
                  subst hpo
                  have hcells : CellsR E w L b := (H.re e1 e2).blk g L _ hL hgb
                  obtain ⟨c0, ee, fz, hc1, hc2', hc3, hc4, hc5⟩ := hcells
                  have hlk : (l + n) * k ≤ c * k := Nat.mul_le_mul_right _ hroom
                  rw [Nat.add_mul] at hlk
                  have hsome : ∀ j, j < cs.length → (w.cell? ⟨L.g, L.o + p + l * k + j, none⟩).isSome = true := fun j hj => by
                    unfold World.cell?
                    simp only [hc1, Option.isSome_none, Bool.false_eq_true, if_false]
                    rw [Array.getElem?_eq_getElem (by omega)]
                    rfl
                  have hfrz : ∀ j, j < cs.length → w.frozen? ⟨L.g, L.o + p + l * k + j, none⟩ = false := fun j hj => by
                    unfold World.frozen?
                    simp only [hc1]
                    have := hc4 (L.o + p + l * k + j) (by omega)
                    obtain ⟨lo, hi'⟩ := fz
                    simpa using this
                  have hrun := hs.room L.g (L.o + p) l c hroom (by rw [hik]; exact hsome) (by rw [hik]; exact hfrz)
                  rw [hik] at hrun
                  obtain ⟨t1, t2, t3, t4, t5⟩ := setCells_side L.g cs (L.o + p + l * k) w
                  obtain ⟨c', u1, u2⟩ := setCells_heap L.g cs (L.o + p + l * k) w hc1
                  have HK := HM2.kill hgn
                  have hfree : ∀ i K, E i = some K → RB.live ((M2.put g .dead).h.get i) = true → K.g ≠ L.g := fun i K hK hl => by
                    by_cases hig : i = g
                    · subst hig
                      simp only [Mem.put, Tr.get_set_self] at hl
                      cases hl
                    · simp only [Mem.put, Tr.get_set_ne _ hig] at hl
                      exact HM2.dis i g K L hig hK hL hl hlive
                  have hNg : ¬ N L.g := HM2.own g L hL hlive
                  have HC := HK.chg hNg hfree t5 ⟨t1, t2, t3⟩ t4
                  have hcellAt : ∀ (j : Nat) (u : Value), (vs ++ cs)[j]? = some u → c'[L.o + p + j]? = some u := fun j u hu => by
                    have hcell : ∀ v, (w.setCells L.g (L.o + p + l * k) cs).cell? ⟨L.g, L.o + p + j, none⟩ = some v → c'[L.o + p + j]? = some v := fun v hv => by
                      unfold World.cell? at hv
                      simp only [u1] at hv
                      exact hv
                    rw [List.getElem?_append] at hu
                    split at hu
                    · rename_i hj
                      refine hcell u ?_
                      rw [World.cell?_setCells_out L.g cs (L.o + p + l * k) w ⟨L.g, L.o + p + j, none⟩ (fun _ _ => by simp only; omega)]
                      exact k3 j u hu
                    · rename_i hj
                      have hj2 : j - vs.length < cs.length := by
                        rcases Nat.lt_or_ge (j - vs.length) cs.length with h | h
                        · exact h
                        · rw [List.getElem?_eq_none h] at hu; cases hu
                      have := World.cell?_setCells_in L.g cs (L.o + p + l * k) w hsome (j - vs.length) hj2
                      rw [show L.o + p + l * k + (j - vs.length) = L.o + p + j by omega] at this
                      rw [List.getElem?_eq_getElem hj2] at hu
                      cases hu
                      exact hcell _ this
                  have hlen2 : (vs ++ cs).length = l * k + n * k := by rw [List.length_append, k2, hnl]
                  obtain ⟨g1, g2⟩ := HC.newAt (b := .cells ⟨puts (old ++ news) 0 .e, (old ++ news).length, []⟩) (L := ⟨L.g, L.o + p, L.n⟩) (by show L.g < _; rw [t4]; exact HM2.lt g L hL) hNg hfree (fun c h => by cases h) fun E' hE hn => by
                    refine ⟨c', ee, fz, u1, u2.trans hc2', ?_, hc4, fun j hj => ?_⟩
                    · have := hall.len
                      show L.o + p + (old ++ news).length ≤ L.n
                      omega
                    · have hjl : j < (old ++ news).length := hj
                      have hjv : j < (vs ++ cs).length := by rw [hall.len]; exact hjl
                      refine ⟨(vs ++ cs)[j], hcellAt j _ (List.getElem?_eq_getElem hjv), ?_, hone _ (List.getElem_mem _)⟩
                      have hget : Blk.get ⟨puts (old ++ news) 0 .e, (old ++ news).length, []⟩ j = (old ++ news)[j] := by
                        unfold Blk.get
                        simp only [puts_get, if_pos (show 0 ≤ j ∧ j < 0 + (old ++ news).length by omega), Nat.sub_zero, List.getElem?_eq_getElem hjl]
                      rw [hget]
                      exact (hall.mono hE).get' (List.getElem?_eq_getElem hjl) (List.getElem?_eq_getElem hjv)
                  refine ⟨_, ⟨g1.1, fun j hj => g1.2 j (by show j < M2.nx; omega)⟩, _, _, hrun, ?_, ?_⟩
                  · unfold VR
                    exact ⟨⟨L.g, L.o + p, L.n⟩, c, 0, Env.set_self, rfl, .inr rfl, Nat.le_refl _, hroom, by simp only; omega⟩
                  · refine HR.ext g2 (fun i => ?_) ?_
                    · rw [Mem.newC_eq, Option.some.injEq] at hr
                      subst hr
                      show ((M2.h.set M2.nx _).set g .dead).get i = ((M2.h.set g .dead).set M2.nx _).get i
                      by_cases hi1 : i = g
                      · subst hi1
                        rw [Tr.get_set_self, Tr.get_set_ne _ (by omega), Tr.get_set_self]
                      · rw [Tr.get_set_ne _ hi1]
                        by_cases hi2 : i = M2.nx
                        · subst hi2
                          rw [Tr.get_set_self, Tr.get_set_self]
                        · rw [Tr.get_set_ne _ hi2, Tr.get_set_ne _ hi2, Tr.get_set_ne _ hi1]
                    · exact s2
                · -- a new row
                  have hfc : (Builtin.firstCells i.size l (.slice (some ⟨L.g, L.o + p, none⟩) l c)).run P w.drew = .ok vs.toArray w.drew := by
                    rw [hik]
                    refine run_firstCells_some w.drew k l _ l c vs k2 fun j u hu => ?_
                    have hj : j < vs.length := by
                      rcases Nat.lt_or_ge j vs.length with h | h
                      · exact h
                      · rw [List.getElem?_eq_none h] at hu; cases hu
                    have hl0 : 0 < l := Nat.pos_of_ne_zero fun e => by rw [k2, e] at hj; simp at hj
                    have hpo : p = o := by omega
                    subst hpo
                    rw [Addr.add_lit]
                    exact k3 j u hu
                  have hnc := nextcap_le (l + n) c (by omega)
                  have hfit : Builtin.nextslicecap (l + n) c * i.bytes ≤ 281474976710656 :=
                    Nat.le_trans (Nat.mul_le_mul (Nat.le_trans hnc (show 4 * (l + n) + 1024 ≤ 4195328 by omega)) (show i.bytes ≤ 1048576 by omega)) (by decide)
                  have hrun := hs.grow (some ⟨L.g, L.o + p, none⟩) l c vs hfc (by omega) (by omega) hfit
                  obtain ⟨g1, g2⟩ := grown_new (zs := Builtin.zeroCells z.cells (grownCap w (l + n) c e - (l + n))) (e := e) (c := 0) (k := 0) HM2 hr hall hone
                  refine ⟨_, ⟨g1.1, fun j hj => g1.2 j (by show j < M2.nx; omega)⟩, _, _, hrun, ?_, g2.kill (by omega)⟩
                  have hcap := grownCap_ge w (l + n) c e
                  have hlen2 : (vs ++ cs).length = (l + n) * k := by rw [List.length_append, k2, hnl, Nat.add_mul]
                  unfold VR
                  refine ⟨_, grownCap w (l + n) c e, 0, Env.set_self, by simp, .inr rfl, Nat.le_refl _, hcap, ?_⟩
                  simp only [Array.size_append, List.size_toArray, size_zeroCells, hzsz, hlen2]
                  have h3 : (grownCap w (l + n) c e - (l + n)) * k = grownCap w (l + n) c e * k - (l + n) * k := by rw [Nat.sub_mul]
                  have h2 : (l + n) * k ≤ grownCap w (l + n) c e * k := Nat.mul_le_mul_right _ hcap
                  omega
              · cases h
            · cases h
      · cases h
  · cases h
/-- memory of which the same is known -/
structure Alike (M M' : Mem) : Prop where
  nx : M'.nx = M.nx
  ob : M'.ob = M.ob
  get : ∀ i, M'.h.get i = M.h.get i ∨ ∃ b b', M.h.get i = some (.cells b) ∧ M'.h.get i = some (.cells b') ∧ b'.n = b.n ∧ ∀ k, k < b.n → b'.get k = b.get k
theorem Alike.refl (M : Mem) : Alike M M := ⟨rfl, rfl, fun i => .inl rfl⟩
theorem HR.alike {B : Nat} {N : Nat → Prop} {w0 : World} (H : HR B N w0 E M w) (A : Alike M M') : HR B N w0 E M' w := by
  have hlive : ∀ i, RB.live (M'.h.get i) = RB.live (M.h.get i) := fun i => by
    rcases A.get i with h | ⟨b, b', h1, h2, _⟩
    · rw [h]
    · rw [h1, h2]; rfl
  obtain ⟨a1, a2, a3, a4, a5, a6, a7, a8, a9⟩ := H
  refine ⟨a1, a2, a3, fun i L hi hl => a4 i L hi (by rw [← hlive]; exact hl), fun i b hb => ?_, a6, fun i L b hi hb => ?_, fun i j L K hij hL hK h1 h2 => a8 i j L K hij hL hK (by rw [← hlive]; exact h1) (by rw [← hlive]; exact h2), fun i hi => ?_⟩
  · rcases A.get i with h | ⟨b1, b2, h1, h2, _⟩
    · exact a5 i b (by rw [← h]; exact hb)
    · rw [h2] at hb; cases hb
  · rcases A.get i with h | ⟨b1, b2, h1, h2, h3, h4⟩
    · exact a7 i L b hi (by rw [← h]; exact hb)
    · rw [h2] at hb
      cases hb
      have hB : CellsR E w L b1 := a7 i L _ hi h1
      obtain ⟨c, e, fz, q1, q2, q3, q4, q5⟩ := hB
      show CellsR E w L b2
      refine ⟨c, e, fz, q1, q2, by rw [h3]; exact q3, q4, fun k hk => ?_⟩
      rw [h3] at hk
      rw [h4 k hk]
      exact q5 k hk
  · have h9 := a9 i (by rw [← A.nx]; exact hi)
    refine ⟨?_, h9.2⟩
    rcases A.get i with h | ⟨b1, b2, h1, h2, _⟩
    · rw [h]; exact h9.1
    · rw [h9.1] at h1; cases h1
theorem grow_alike {k by_ g o l n : Nat} {new : List CV} (h : growC md k by_ g o l n new M = some (v, M')) : ∃ M0, growC0 md k by_ g o l n new M = some (v, M0) ∧ Alike M0 M' := by
  unfold growC at h
  split at h
  · rename_i b hb
    cases hc : Nat.beq o 0 && Nat.ble (l * k) b.n with
    | false => rw [hc, cond_false] at h; exact ⟨M', h, Alike.refl M'⟩
    | true =>
      rw [hc, cond_true] at h
      rw [Bool.and_eq_true] at hc
      have ho := Nat.eq_of_beq_eq_true hc.1
      have hl := Nat.le_of_ble_eq_true hc.2
      subst ho
      have hrd : M.rd g 0 (l * k) = some (b.list 0 (l * k)) := by
        unfold Mem.rd Mem.blk
        rw [hb]
        simp only [Nat.zero_add, hc.2, cond_true]
      unfold growC0
      rw [hrd, hb]
      simp only
      simp only [fM_eq, putsK_eq, Mem.new_eq, Mem.newC_eq, Tr.setK_eq] at h ⊢
      have key : ∀ M1 : Mem, Alike ⟨(M1.push (.cells ⟨puts (b.list 0 (l * k) ++ new) 0 .e, (b.list 0 (l * k) ++ new).length, []⟩)).h.set g .dead, M1.nx + 1, M1.ob, M1.hn⟩ ⟨(M1.push (.cells ⟨puts new (l * k) b.c, l * k + new.length, b.z⟩)).h.set g .dead, M1.nx + 1, M1.ob, M1.hn⟩ := fun M1 => by
        refine ⟨rfl, rfl, fun i => ?_⟩
        by_cases hi : i = g
        · subst hi
          exact .inl (by simp only [Tr.get_set_self])
        · simp only [Tr.get_set_ne _ hi]
          by_cases hi' : i = M1.nx
          · subst hi'
            refine .inr ⟨_, _, Tr.get_set_self .., Tr.get_set_self .., ?_, fun j hj => ?_⟩
            · simp only [List.length_append, list_len]
            · have hj : j < l * k + new.length := by simpa only [List.length_append, list_len] using hj
              have hget : Blk.get ⟨puts (b.list 0 (l * k) ++ new) 0 .e, (b.list 0 (l * k) ++ new).length, []⟩ j = (b.list 0 (l * k) ++ new)[j]'(by simp only [List.length_append, list_len]; exact hj) := by
                unfold Blk.get
                simp only [puts_get, Nat.sub_zero, List.length_append, list_len]
                rw [if_pos (by omega), List.getElem?_eq_getElem (by simp only [List.length_append, list_len]; exact hj)]
              rw [hget]
              unfold Blk.get
              simp only [puts_get]
              by_cases hjl : j < l * k
              · rw [if_neg (by omega), List.getElem_append_left (by rw [list_len]; exact hjl)]
                have h2 := list_get b (l * k) 0 j
                rw [if_pos hjl, Nat.zero_add, List.getElem?_eq_getElem (by rw [list_len]; exact hjl)] at h2
                have h3 := Option.some.inj h2
                rw [h3]
                rfl
              · rw [if_pos (by omega), List.getElem_append_right (by rw [list_len]; omega)]
                simp only [list_len]
                rw [List.getElem?_eq_getElem (by omega)]
          · exact .inl (by unfold Mem.push; simp only [Tr.get_set_ne _ hi'])
      obtain ⟨M1, e1, e2, e3⟩ : ∃ M1 : Mem, M1.h = M.h ∧ ret (.sl M1.nx 0 (l + n) (l + n) k) ⟨(M1.push (.cells ⟨puts new (l * k) b.c, l * k + new.length, b.z⟩)).h.set g .dead, M1.nx + 1, M1.ob, M1.hn⟩ = some (v, M') ∧ chk md (Nat.ble (l + n) maxRow && Nat.ble by_ maxRow) M (fun M => ret (.sl M.nx 0 (l + n) (l + n) k) ⟨(M.push (.cells ⟨puts (b.list 0 (l * k) ++ new) 0 .e, (b.list 0 (l * k) ++ new).length, []⟩)).h.set g .dead, (M.push (.cells ⟨puts (b.list 0 (l * k) ++ new) 0 .e, (b.list 0 (l * k) ++ new).length, []⟩)).nx, M.ob, M.hn⟩) = ret (.sl M1.nx 0 (l + n) (l + n) k) ⟨(M1.push (.cells ⟨puts (b.list 0 (l * k) ++ new) 0 .e, (b.list 0 (l * k) ++ new).length, []⟩)).h.set g .dead, M1.nx + 1, M1.ob, M1.hn⟩ := by
        unfold chk at h ⊢
        cases md with
        | true => exact ⟨⟨M.h, M.nx, (Nat.ble (l + n) maxRow && Nat.ble by_ maxRow) :: M.ob, M.hn⟩, rfl, h, rfl⟩
        | false =>
          cases hb2 : Nat.ble (l + n) maxRow && Nat.ble by_ maxRow with
          | false => rw [hb2] at h; cases h
          | true => rw [hb2] at h; exact ⟨M, rfl, h, rfl⟩
      obtain ⟨rfl, rfl⟩ := ret_ok e2
      refine ⟨_, e3, ?_⟩
      exact key M1
  · cases h
theorem append_alike {e : TypeId} {s : CV} {n : Nat} {news : List CV} (h : appendC P md e s n news M = some (v, M')) : ∃ M0, appendW P md (growC0 md) e s n news M = some (v, M0) ∧ Alike M0 M' := by
  unfold appendC appendW at h
  unfold appendW
  split at h
  · rename_i k by_ zs hk hby hzs
    cases hz : Nat.beq zs.length k with
    | false => rw [hz] at h; cases h
    | true =>
      rw [hz] at h
      simp only [hz, cond_true] at h ⊢
      split at h
      · exact ⟨M', h, Alike.refl M'⟩
      · rename_i g o l m z
        cases hkz : Nat.beq k z with
        | false => rw [hkz] at h; cases h
        | true =>
          rw [hkz] at h
          simp only [hkz, cond_true] at h ⊢
          unfold cnd at h ⊢
          cases md with
          | true =>
            simp only [cond_true] at h ⊢
            split at h
            · cases h
            · exact ⟨M', h, Alike.refl M'⟩
            · exact grow_alike h
          | false =>
            simp only [cond_false] at h ⊢
            cases hc : Nat.ble (l + n) m with
            | true => rw [hc] at h; exact ⟨M', h, Alike.refl M'⟩
            | false => rw [hc] at h; exact grow_alike h
      · cases h
  · cases h
theorem appendC_ok {e : TypeId} {s : CV} {n : Nat} {news : List CV} (h : appendC P md e s n news M = some (v, M')) : M.sfx M' ∧ M.nx ≤ M'.nx ∧ (M'.Holds → ∀ {B : Nat} {N : Nat → Prop} {w0 : World} {E : Env} {w : World} {a x : Value} {t tx ty : TypeId} {cs : List Value} {k : Nat}, HR B N w0 E M w → VR E s a → P.underlying t = some (.slice e) → sz P e = some k → (∀ i z, P.info? e = some i → i.zero = some z → i.size = k → AppF P e i z t tx ty x n cs w) → VRL E news cs → (∀ v ∈ cs, v.oneCell' = true) →
    ∃ E', Env.ex M.nx E E' ∧ ∃ w' u, (Builtin.append_ #[t, tx] ty #[a, x]).run P w = .ok u w' ∧ VR E' v u ∧ HR B N w0 E' M' w') := by
  obtain ⟨M0, h0, A⟩ := append_alike h
  obtain ⟨s1, s2, s3⟩ := append0_ok h0
  refine ⟨by unfold Mem.sfx at s1 ⊢; rw [A.ob]; exact s1, by rw [A.nx]; exact s2, fun hH B N w0 E w a x t tx ty cs k H ha ht hk hs hv h1 => ?_⟩
  obtain ⟨E', k1, w', u, k2, k3, k4⟩ := s3 (by unfold Mem.Holds at hH ⊢; rw [← A.ob]; exact hH) H ha ht hk hs hv h1
  exact ⟨E', k1, w', u, k2, k3, k4.alike A⟩
end
end
end Mu.CI
end
section
/-
  Operations over known memory do what the model's do: calls of built-in functions.
  Conditions: none; generic.
-/
namespace Mu.CI
open Go Go.RowKit
noncomputable section
set_option linter.unusedVariables false
section
variable {M M' : Mem} {md : Bool} {P : Program} {E : Env} {w w' : World} {ρc : Operand → CV} {v : CV}
theorem EntR.len : ∀ {es : List (CV × CV × Nat)} {ms : List MapEntry}, EntR E es ms → ms.length = es.length
  | [], ms, h => by unfold EntR at h; subst h; rfl
  | (k, v, n) :: es, ms, h => by
    unfold EntR at h
    obtain ⟨e, r, rfl, _, _, _, h5⟩ := h
    simp [EntR.len h5]
theorem run_getObj_map' {r : Nat} {es : Array MapEntry} {clock : Nat} (h : w.heap[r]? = some (.map es clock)) : (getObj r).run P w = .ok (.map es clock) w := by simp [getObj, Sem.run, h]
/-- a call of a built-in function -/
theorem call_run {c : Call} {b : Builtin} {q : Oper} {ρ : Operand → Value} (hc : c.callee = .builtin b) (hq : q.op = .call c) : ∃ cs, (execOp ρ q).run P w = (builtin b c.argTypes q.type cs (c.args.map ρ)).run P w := by
  refine ⟨c.args.map fun | .const _ => true | _ => false, ?_⟩
  simp only [execOp, hq, resolve, hc]
  rw [Sem.run_bind]
  rfl
theorem builtin_of {c : Call} {b : Builtin} {tys : List TypeId} {vs : List Operand} (hc : c.callee = .builtin b) (ht : c.argTypes.toList = tys) (hv : c.args.toList = vs)
    (h : M.sfx M' ∧ M.nx ≤ M'.nx ∧ (M'.Holds → ∀ (B : Nat) (N : Nat → Prop) (w0 : World) (E : Env) (w : World) (ρ : Operand → Value) (ty : TypeId) (cs : Array Bool), HR B N w0 E M w → (∀ x ∈ vs, VR E (ρc x) (ρ x)) → ∃ E', Env.ex M.nx E E' ∧ ∃ w' u, (builtin b (List.toArray tys) ty cs (List.toArray (vs.map ρ))).run P w = .ok (.value u) w' ∧ VR E' v u ∧ HR B N w0 E' M' w')) :
    OK P ρc (.call c) M v M' := by
  refine ⟨h.1, h.2.1, fun hH B N w0 E w ρ q hq H hρ => ?_⟩
  have e1 : c.argTypes = List.toArray tys := by rw [← ht]
  have e2 : c.args.map ρ = List.toArray (vs.map ρ) := by rw [← hv, ← Array.toList_map]
  obtain ⟨cs, hcs⟩ := call_run (P := P) (w := w) (ρ := ρ) hc hq
  obtain ⟨E', k1, w', u, k2, k3, k4⟩ := h.2.2 hH B N w0 E w ρ q.type cs H fun x hx => hρ x (by
    simp only [Op.operands, Call.operands, Array.mem_append]
    exact .inr (by rw [← hv] at hx; simpa using hx))
  refine ⟨E', k1, w', k4, .inl ⟨u, ?_, k3⟩⟩
  rw [hcs, e1, e2]
  exact k2
theorem len_run {t ty : TypeId} {x : CV} {a : Value} {n : Nat} {B : Nat} {N : Nat → Prop} {w0 : World} (H : HR B N w0 E M w) (h : lenC P t x M = some n) (ha : VR E x a) : (Builtin.len_ #[t] ty #[a]).run P w = .ok (.int .i64 (n : Int)) w := by
  unfold lenC at h
  split at h <;> try simp only [Option.some.injEq, reduceCtorEq] at h
  · rename_i s hu
    subst h
    unfold VR at ha
    subst ha
    simp [Builtin.len_, run_underlying hu, goInt]
  · rename_i e hu
    subst h
    unfold VR at ha
    subst ha
    simp [Builtin.len_, run_underlying hu, goInt]
  · rename_i e g o n' m z hu
    subst h
    unfold VR at ha
    obtain ⟨L, c, p, hL, rfl, _⟩ := ha
    simp [Builtin.len_, run_underlying hu, goInt]
  · rename_i k e hu
    subst h
    unfold VR at ha
    subst ha
    simp [Builtin.len_, run_underlying hu, goInt]
  · rename_i k e g hu
    split at h
    · rename_i es c hg
      simp only [Option.some.injEq] at h
      subst h
      unfold VR at ha
      obtain ⟨L, hL, rfl⟩ := ha
      obtain ⟨ms, hm, he⟩ := H.blk g L _ hL hg
      have hlen := EntR.len he
      simp [Builtin.len_, run_underlying hu, goInt, run_getObj_map' hm, hlen]
    · cases h
  · rename_i n' e hu
    subst h
    simp [Builtin.len_, run_underlying hu, goInt]
theorem minC_run (mx : Bool) : ∀ {l : List CV} {x v : CV} {a : Value} {vs : List Value}, minC mx x l = some v → VR E x a → VRL E l vs → ∃ u, (vs.foldlM (if mx then Builtin.max2 else Builtin.min2) a).run P w = .ok u w ∧ VR E v u
  | [], x, v, a, vs, h, hx, hl => by
    unfold VRL at hl
    subst hl
    unfold minC at h
    split at h
    · cases h
      exact ⟨a, rfl, hx⟩
    · rename_i heq; cases heq
    · cases h
  | y :: l, x, v, a, vs, h, hx, hl => by
    unfold VRL at hl
    obtain ⟨b, r, rfl, hy, hr⟩ := hl
    unfold minC at h
    split at h
    · rename_i heq; cases heq
    · rename_i k p k' q l' heq
      cases heq
      cases hk : decide (k = k') with
      | false => rw [hk] at h; cases h
      | true =>
        rw [hk] at h
        simp only [cond_true] at h
        have hk := of_decide_eq_true hk
        subst hk
        unfold VR at hx hy
        subst hx hy
        have hstep : ((if mx then Builtin.max2 else Builtin.min2) (.int k p) (.int k q)).run P w = .ok (.int k (bif (bif mx then decide (p < q) else decide (q < p)) then q else p)) w := by
          cases mx
          · simp only [Bool.false_eq_true, if_false, Builtin.min2, cond_false, Bool.cond_decide]
            rfl
          · simp only [if_true, Builtin.max2, cond_true, Bool.cond_decide]
            rfl
        obtain ⟨u, h1, h2⟩ := minC_run mx (a := .int k (bif (bif mx then decide (p < q) else decide (q < p)) then q else p)) h (by unfold VR; rfl) hr
        refine ⟨u, ?_, h2⟩
        rw [List.foldlM_cons, Sem.run_bind, hstep, Result.andThen_ok]
        exact h1
    · cases h
theorem args_l {f : Operand → CV} {l : List Operand} {x : CV} {r : List CV} (h : l.map f = x :: r) : ∃ y s, l = y :: s ∧ f y = x ∧ s.map f = r := by
  cases l with
  | nil => simp at h
  | cons y s => simp at h; exact ⟨y, s, rfl, h.1, h.2⟩
theorem AppF.ofZeros {e : TypeId} {i : TypeInfo} {z : Value} {t tx ty : TypeId} {n : Nat} {k kn : IntKind} {cs : List Value} (ht : P.underlying t = some (.slice e)) (htn : P.underlying tx = some (.int kn)) (hi : P.info? e = some i) (hz : i.zero = some z) (hzs : z.cells.size = i.size) (hcs : Builtin.zeroCells z.cells n = cs.toArray) (h0 : 0 < n) (hs : 0 < i.size) (h63 : (n : Int) ≤ 9223372036854775807) (h48 : n * i.bytes ≤ 281474976710656) (h1 : ∀ v ∈ cs, v.oneCell' = true) : AppF P e i z t tx ty (.int k n) n cs w := by
  have hn : n ≠ 0 := by omega
  have hw : IntKind.i64.wrap (n : Int) = n := by rw [IntKind.wrap_i64]; omega
  have h48i : ¬ (281474976710656 < (n : Int) * (i.bytes : Int)) := by
    rw [← Int.natCast_mul]
    omega
  have hneg : ¬ ((n : Int) < 0) := by omega
  have hns : ¬ (n * i.size = 0) := Nat.mul_ne_zero hn (by omega)
  refine ⟨?_, fun h => absurd h hn, fun b off l c hr hc hf => ?_, fun base l c olds ho hg h6 hf => ?_⟩
  · have := congrArg Array.size hcs
    rw [size_zeroCells, hzs] at this
    simpa using this.symm
  · have hst := run_storeCells_cells (P := P) b (off + l * i.size) cs 0 w (by simpa using hc) (by simpa using hf) h1
    simp only [Nat.add_zero] at hst
    simp [Builtin.append_, run_underlying ht, run_underlying htn, Go.sizeOf, typeInfo, zeroValue, hi, hz, asInt, asIntOf, hw, hneg, hns, h48i, hr, hcs, Addr.add_lit, hst]
  · have hn' : ¬ (l + n ≤ c) := by omega
    have h63' : ¬ (9223372036854775807 < ((l : Int) + (n : Int))) := by omega
    have h48' : ¬ (281474976710656 < Builtin.nextslicecap (l + n) c * i.bytes) := by omega
    simp [Builtin.append_, run_underlying ht, run_underlying htn, Go.sizeOf, typeInfo, zeroValue, hi, hz, asInt, asIntOf, hw, hneg, hns, h48i, hn', h63', h48', Question.forced, ho, hcs, newRow, grownCap]
    congr 2
    apply Array.ext'
    simp [List.append_assoc]
theorem zeros_ok {t u e : TypeId} {d : TypeDesc} {k : Nat} {s x : CV} (hu : P.underlying t = some (.slice e)) (hd : P.underlying u = some d) (hk : sz P e = some k) (h : zerosC P md e d k s x M = some (v, M')) : M.sfx M' ∧ M.nx ≤ M'.nx ∧ (M'.Holds → ∀ {B : Nat} {N : Nat → Prop} {w0 : World} {E : Env} {w : World} {a b : Value} {ty : TypeId}, HR B N w0 E M w → VR E s a → VR E x b →
    ∃ E', Env.ex M.nx E E' ∧ ∃ w' u', (Builtin.append_ #[t, u] ty #[a, b]).run P w = .ok u' w' ∧ VR E' v u' ∧ HR B N w0 E' M' w') := by
  unfold zerosC at h
  split at h
  · rename_i kn k' n
    split at h
    · rename_i by_ zs hby hzs
      cases hb : Nat.beq zs.length k && (Nat.ble 1 k && (decide (1 ≤ n) && (Nat.ble n.toNat maxRow && Nat.ble by_ maxRow))) with
      | false => rw [hb] at h; cases h
      | true =>
        rw [hb, cond_true] at h
        simp only [Bool.and_eq_true, decide_eq_true_eq] at hb
        obtain ⟨b1, b2, b3, b4, b5⟩ := hb
        have b1 := Nat.eq_of_beq_eq_true b1
        have b2 := Nat.le_of_ble_eq_true b2
        have b4 := Nat.le_of_ble_eq_true b4
        have b5 := Nat.le_of_ble_eq_true b5
        simp only [maxRow] at b4 b5
        cases hr : M.newC md (repC n.toNat zs) with
        | none => rw [hr] at h; cases h
        | some M1 =>
          rw [hr] at h
          obtain ⟨rfl, rfl⟩ := ret_ok h
          have hs := newC_sfx hr
          refine ⟨hs.1, by omega, fun hH B N w0 E w a b ty H ha hbv => ?_⟩
          unfold VR at ha hbv
          subst ha hbv
          obtain ⟨i, z, hi, hz1, hz2⟩ := zero_of hzs
          have hib : i.bytes = by_ := by rw [hi] at hby; simpa using hby
          have hik : i.size = k := by
            obtain ⟨i', hi', hs'⟩ := info_of hk
            rw [hi] at hi'
            cases hi'
            exact hs'
          obtain ⟨k1, k2⟩ := VR.cells (cv_rel E z) hz2
          have hzsz : z.cells.size = k := by
            have := k1.len
            simp only [Array.length_toList] at this
            omega
          obtain ⟨m, hm⟩ : ∃ m : Nat, n = m := ⟨n.toNat, by omega⟩
          subst hm
          simp only [Int.toNat_natCast] at hr b4 ⊢
          have hrun := Lib.run_append_nil_zeros w t u ty e i z k' kn hu hd hi hz1 m (by omega) (by omega) (by omega) (by rw [hib]; exact Nat.le_trans (Nat.mul_le_mul b4 b5) (by decide))
          have hzc : Builtin.zeroCells z.cells m = ((List.replicate m z.cells.toList).flatten).toArray := rangeCells z.cells m
          rw [hzc] at hrun
          obtain ⟨g1, g2⟩ := grown_new (zs := Builtin.zeroCells z.cells (grownCap w m 0 e - m)) (e := e) (c := 0) (k := 0) H hr (repC_rel k1 m) (fun c hc => by
            obtain ⟨l', hl', hc'⟩ := List.mem_flatten.1 hc
            rw [List.eq_of_mem_replicate hl'] at hc'
            exact k2 c hc')
          refine ⟨_, g1, _, _, hrun, ?_, g2⟩
          have hcap := grownCap_ge w m 0 e
          unfold VR
          refine ⟨_, grownCap w m 0 e, 0, Env.set_self, by simp, .inr rfl, Nat.le_refl _, hcap, ?_⟩
          have hfl : ((List.replicate m z.cells.toList).flatten).length = m * k := by simp [hzsz]
          simp only [Array.size_append, List.size_toArray, size_zeroCells, hzsz, hfl]
          have h3 : (grownCap w m 0 e - m) * k = grownCap w m 0 e * k - m * k := by rw [Nat.sub_mul]
          have h2 : m * k ≤ grownCap w m 0 e * k := Nat.mul_le_mul_right _ hcap
          omega
    · cases h
  · rename_i kn g o l m z0 k' n
    split at h
    · rename_i by_ zs hby hzs
      cases hb : Nat.beq zs.length k && (Nat.ble 1 k && (decide (1 ≤ n) && (Nat.ble n.toNat maxRow && Nat.ble by_ maxRow))) with
      | false => rw [hb] at h; cases h
      | true =>
        rw [hb, cond_true] at h
        simp only [Bool.and_eq_true, decide_eq_true_eq] at hb
        obtain ⟨b1, b2, b3, b4, b5⟩ := hb
        have b1 := Nat.eq_of_beq_eq_true b1
        have b2 := Nat.le_of_ble_eq_true b2
        have b4 := Nat.le_of_ble_eq_true b4
        have b5 := Nat.le_of_ble_eq_true b5
        simp only [maxRow] at b4 b5
        obtain ⟨s1, s2, s3⟩ := appendC_ok h
        refine ⟨s1, s2, fun hH B N w0 E w a b ty H ha hbv => ?_⟩
        unfold VR at hbv
        subst hbv
        obtain ⟨i, z, hi, hz1, hz2⟩ := zero_of hzs
        have hib : i.bytes = by_ := by rw [hi] at hby; simpa using hby
        obtain ⟨k1, k2⟩ := VR.cells (cv_rel E z) hz2
        have hzsz : z.cells.size = k := by
          have := k1.len
          simp only [Array.length_toList] at this
          omega
        obtain ⟨m', hm⟩ : ∃ m : Nat, n = m := ⟨n.toNat, by omega⟩
        subst hm
        simp only [Int.toNat_natCast] at b4 s3 ⊢
        have hzc : Builtin.zeroCells z.cells m' = ((List.replicate m' z.cells.toList).flatten).toArray := rangeCells z.cells m'
        have hone : ∀ c ∈ (List.replicate m' z.cells.toList).flatten, c.oneCell' = true := fun c hc => by
          obtain ⟨l', hl', hc'⟩ := List.mem_flatten.1 hc
          rw [List.eq_of_mem_replicate hl'] at hc'
          exact k2 c hc'
        exact s3 hH H ha hu hk (fun i' z' hi' hz' hik => by
          rw [hi] at hi'
          cases hi'
          rw [hz1] at hz'
          cases hz'
          exact AppF.ofZeros hu hd hi hz1 (hzsz.trans hik.symm) hzc (by omega) (by omega) (by omega) (by rw [hib]; exact Nat.le_trans (Nat.mul_le_mul b4 b5) (by decide)) hone) (repC_rel k1 m') hone
    · cases h
  · cases h
theorem builtin_ok {c : Call} {b : Builtin} (hc : c.callee = .builtin b) (h : builtinC P md b c.argTypes.toList (c.args.toList.map ρc) M = some (v, M')) : OK P ρc (.call c) M v M' := by
  unfold builtinC at h
  split at h
  · rename_i t u s x hty hav
    obtain ⟨xs, xx, hl, rfl, rfl⟩ := map2 hav
    refine builtin_of hc hty hl ?_
    split at h
    · rename_i e d hu hd
      split at h
      · rename_i k hk
        split at h
        · rename_i n news hs
          obtain ⟨s1, s2, s3⟩ := appendC_ok h
          refine ⟨s1, s2, fun hH B N w0 E w ρ ty cs H hρ => ?_⟩
          obtain ⟨cells, g1, g2, g3⟩ := src_ok H hs hd (hρ xx (by simp))
          obtain ⟨E', k1, w', u', k2, k3, k4⟩ := s3 hH (ty := ty) H (hρ xs (by simp)) hu hk (fun i z hi hz hik => AppF.ofSrc hu hi hz hik g1) g2 g3
          exact ⟨E', k1, w', u', run_v k2, k3, k4⟩
        · obtain ⟨s1, s2, s3⟩ := zeros_ok hu hd hk h
          refine ⟨s1, s2, fun hH B N w0 E w ρ ty cs H hρ => ?_⟩
          obtain ⟨E', k1, w', u', k2, k3, k4⟩ := s3 hH (ty := ty) H (hρ xs (by simp)) (hρ xx (by simp))
          exact ⟨E', k1, w', u', run_v k2, k3, k4⟩
      · cases h
    · cases h
  · rename_i t x hty hav
    obtain ⟨xx, hl, rfl⟩ := map1 hav
    refine builtin_of hc hty hl ?_
    split at h
    · rename_i n hn
      obtain ⟨rfl, rfl⟩ := ret_ok h
      refine ⟨M'.sfx_refl, Nat.le_refl _, fun hH B N w0 E w ρ ty cs H hρ => ?_⟩
      exact ⟨E, E.ex_refl, w, _, run_v (len_run H hn (hρ xx (by simp))), by unfold VR; rfl, H⟩
    · cases h
  · rename_i tys x r hav
    obtain ⟨xx, s, hl, rfl, rfl⟩ := args_l hav
    refine builtin_of hc rfl hl ?_
    split at h
    · rename_i u hu
      obtain ⟨rfl, rfl⟩ := ret_ok h
      refine ⟨M'.sfx_refl, Nat.le_refl _, fun hH B N w0 E w ρ ty cs H hρ => ?_⟩
      obtain ⟨u', k1, k2⟩ := minC_run (P := P) (w := w) false hu (hρ xx (by simp)) (VRL.map fun y hy => hρ y (by simp [hy]))
      exact ⟨E, E.ex_refl, w, u', run_v (by simpa [Builtin.min_] using k1), k2, H⟩
    · cases h
  · rename_i tys x r hav
    obtain ⟨xx, s, hl, rfl, rfl⟩ := args_l hav
    refine builtin_of hc rfl hl ?_
    split at h
    · rename_i u hu
      obtain ⟨rfl, rfl⟩ := ret_ok h
      refine ⟨M'.sfx_refl, Nat.le_refl _, fun hH B N w0 E w ρ ty cs H hρ => ?_⟩
      obtain ⟨u', k1, k2⟩ := minC_run (P := P) (w := w) true hu (hρ xx (by simp)) (VRL.map fun y hy => hρ y (by simp [hy]))
      exact ⟨E, E.ex_refl, w, u', run_v (by simpa [Builtin.max_] using k1), k2, H⟩
    · cases h
  · rename_i t hty hav
    obtain ⟨xx, hl, hx⟩ := map1 hav
    refine builtin_of hc hty hl ?_
    split at h
    · rename_i e hu
      obtain ⟨rfl, rfl⟩ := ret_ok h
      refine ⟨M'.sfx_refl, Nat.le_refl _, fun hH B N w0 E w ρ ty cs H hρ => ?_⟩
      have h1 := hρ xx (by simp)
      rw [hx] at h1
      unfold VR at h1
      refine ⟨E, E.ex_refl, w, .int .i64 0, run_v ?_, by unfold VR; rfl, H⟩
      simp [Builtin.cap_, h1, run_underlying hu, goInt]
    · cases h
  · rename_i t x hty hav
    obtain ⟨xx, hl, rfl⟩ := map1 hav
    refine builtin_of hc hty hl ?_
    split at h
    · rename_i e hu hx
      obtain ⟨rfl, rfl⟩ := ret_ok h
      refine ⟨M'.sfx_refl, Nat.le_refl _, fun hH B N w0 E w ρ ty cs H hρ => ?_⟩
      have h1 := hρ xx (by simp)
      rw [hx] at h1
      unfold VR at h1
      refine ⟨E, E.ex_refl, w, .tuple #[], run_v ?_, by unfold VR; exact ⟨[], rfl, VRL.nil⟩, H⟩
      simp [Builtin.clear_, h1, run_underlying hu]
    · rename_i kt et hu hx
      obtain ⟨rfl, rfl⟩ := ret_ok h
      refine ⟨M'.sfx_refl, Nat.le_refl _, fun hH B N w0 E w ρ ty cs H hρ => ?_⟩
      have h1 := hρ xx (by simp)
      rw [hx] at h1
      unfold VR at h1
      refine ⟨E, E.ex_refl, w, .tuple #[], run_v ?_, by unfold VR; exact ⟨[], rfl, VRL.nil⟩, H⟩
      simp [Builtin.clear_, h1, run_underlying hu]
    · rename_i kt et g hu hx
      split at h
      · rename_i es c hg
        rw [Tr.setK_eq] at h
        obtain ⟨rfl, rfl⟩ := ret_ok h
        refine ⟨⟨[], rfl⟩, Nat.le_refl _, fun hH B N w0 E w ρ ty cs H hρ => ?_⟩
        have h1 := hρ xx (by simp)
        rw [hx] at h1
        unfold VR at h1
        obtain ⟨L, hL, h1⟩ := h1
        obtain ⟨ms, q1, q2⟩ := H.blk g L _ hL hg
        have H' : HR B N w0 E (M.put g (.map [] c)) (w.putObj L.g (.map (List.toArray []) c)) :=
          H.upd hL hg rfl (fun c h => by cases h) ⟨rfl, rfl, rfl⟩ (by simp [World.putObj]) (fun k _ hk => World.putObj_heap_other hk) ⟨[], World.putObj_heap_same (H.lt g L hL), by unfold EntR; rfl⟩
        refine ⟨E, E.ex_refl, _, .tuple #[], run_v ?_, by unfold VR; exact ⟨[], rfl, VRL.nil⟩, H'⟩
        have hs : (setObj L.g (.map #[] c)).run P w = .ok () (w.putObj L.g (.map #[] c)) := by simp [setObj, Sem.run, q1, World.putObj]
        simp [Builtin.clear_, h1, run_underlying hu, run_getObj_map' q1, hs]
      · cases h
    · rename_i e g o n m z hu hx
      split at h
      · rename_i k zs hk hzs
        cases hcnd : (Nat.beq k z && (Nat.beq zs.length k && Nat.ble 1 n)) with
        | true =>
          rw [hcnd] at h
          simp only [cond_true] at h
          split at h
          · rename_i M2 hr
            obtain ⟨rfl, rfl⟩ := ret_ok h
            obtain ⟨s1, s2, _⟩ := wr_sfx hr
            refine ⟨s1, Nat.le_of_eq s2.symm, fun hH B N w0 E w ρ ty cs H hρ => ?_⟩
            simp only [Bool.and_eq_true] at hcnd
            have q1 := Nat.eq_of_beq_eq_true hcnd.1
            have q2 := Nat.eq_of_beq_eq_true hcnd.2.1
            have q3 := Nat.le_of_ble_eq_true hcnd.2.2
            subst q1
            have h1 := hρ xx (by simp)
            rw [hx] at h1
            unfold VR at h1
            obtain ⟨L, c', p, hL, hxx, hp, r1, r2, r3⟩ := h1
            obtain ⟨i, z', hi, hz1, hz2⟩ := zero_of hzs
            obtain ⟨k1, k2⟩ := VR.cells (cv_rel E z') hz2
            have hzz : z'.cells.size = k := by
              have := k1.len
              simp only [Array.length_toList] at this
              omega
            have hone : ∀ u ∈ (List.replicate n z'.cells.toList).flatten, u.oneCell' = true := fun u hu => by
              obtain ⟨l', hl', hc'⟩ := List.mem_flatten.1 hu
              rw [List.eq_of_mem_replicate hl'] at hc'
              exact k2 u hc'
            obtain ⟨j1, j2, j3, j4, j5⟩ := wr_ok H hL hr (repC_rel k1 n) hone
            have hpo : p = o := by omega
            subst hpo
            have hst := run_storeCells_cells (P := P) L.g (L.o + p) _ 0 w (by simpa using j1) (by simpa using j2) hone
            simp only [Nat.add_zero] at hst
            have hzc : (Builtin.zeroCells z'.cells n).toList = (List.replicate n z'.cells.toList).flatten := by
              unfold Builtin.zeroCells
              rw [rangeCells]
            refine ⟨E, E.ex_refl, _, .tuple #[], run_v ?_, by unfold VR; exact ⟨[], rfl, VRL.nil⟩, j3⟩
            obtain ⟨n', rfl⟩ : ∃ n', n = n' + 1 := ⟨n - 1, by omega⟩
            simp [Builtin.clear_, hxx, run_underlying hu, run_zero hi hz1, hzc, hst]
          · cases h
        | false =>
          rw [hcnd] at h
          simp only [cond_false] at h
          cases hn : Nat.beq n 0 with
          | false => rw [hn] at h; cases h
          | true =>
            rw [hn] at h
            obtain ⟨rfl, rfl⟩ := ret_ok h
            have hn := Nat.eq_of_beq_eq_true hn
            subst hn
            refine ⟨M'.sfx_refl, Nat.le_refl _, fun hH B N w0 E w ρ ty cs H hρ => ?_⟩
            have h1 := hρ xx (by simp)
            rw [hx] at h1
            unfold VR at h1
            obtain ⟨L, c', p, hL, hxx, hp, r1, r2, r3⟩ := h1
            refine ⟨E, E.ex_refl, w, .tuple #[], run_v ?_, by unfold VR; exact ⟨[], rfl, VRL.nil⟩, H⟩
            simp [Builtin.clear_, hxx, run_underlying hu]
      · cases h
    · cases h
  · cases h
end
end
end Mu.CI
end
section
/-
  Operations over known memory do what the model's do: maps.
  Conditions: none; generic.
-/
namespace Mu.CI
open Go Go.RowKit
noncomputable section
set_option linter.unusedVariables false
section
variable {M M' : Mem} {md : Bool} {P : Program} {E : Env} {w w' : World} {ρc : Operand → CV} {v : CV}
theorem EntR.get : ∀ {es : List (CV × CV × Nat)} {ms : List MapEntry}, EntR E es ms → ∀ {i : Nat} {k v : CV} {n : Nat}, es[i]? = some (k, v, n) → ∃ e, ms[i]? = some e ∧ VR E k e.key ∧ VR E v e.val ∧ e.born = n
  | [], ms, h, i, k, v, n, hi => by simp at hi
  | (k', v', n') :: es, ms, h, i, k, v, n, hi => by
    unfold EntR at h
    obtain ⟨e, r, rfl, h1, h2, h3, h4⟩ := h
    cases i with
    | zero =>
      simp at hi
      obtain ⟨rfl, rfl, rfl⟩ := hi
      exact ⟨e, rfl, h1, h2, h3⟩
    | succ i => simpa using EntR.get h4 (i := i) (by simpa using hi)
theorem EntR.nil : EntR E [] [] := by unfold EntR; rfl
theorem EntR.cons {k v : CV} {n : Nat} {e : MapEntry} {es : List (CV × CV × Nat)} {ms : List MapEntry} (h1 : VR E k e.key) (h2 : VR E v e.val) (h3 : e.born = n) (h4 : EntR E es ms) : EntR E ((k, v, n) :: es) (e :: ms) := by
  unfold EntR
  exact ⟨e, ms, rfl, h1, h2, h3, h4⟩
theorem EntR.set {k v : CV} {n : Nat} {e : MapEntry} (h1 : VR E k e.key) (h2 : VR E v e.val) (h3 : e.born = n) : ∀ {es : List (CV × CV × Nat)} {ms : List MapEntry} (i : Nat), EntR E es ms → EntR E (es.set i (k, v, n)) (ms.set i e)
  | [], ms, i, h => by unfold EntR at h; subst h; exact EntR.nil
  | (k', v', n') :: es, ms, i, h => by
    unfold EntR at h
    obtain ⟨e', r, rfl, g1, g2, g3, g4⟩ := h
    cases i with
    | zero => exact EntR.cons h1 h2 h3 g4
    | succ i => exact EntR.cons g1 g2 g3 (EntR.set h1 h2 h3 i g4)
theorem EntR.push {k v : CV} {n : Nat} {e : MapEntry} (h1 : VR E k e.key) (h2 : VR E v e.val) (h3 : e.born = n) : ∀ {es : List (CV × CV × Nat)} {ms : List MapEntry}, EntR E es ms → EntR E (es ++ [(k, v, n)]) (ms ++ [e])
  | [], ms, h => by unfold EntR at h; subst h; exact EntR.cons h1 h2 h3 EntR.nil
  | (k', v', n') :: es, ms, h => by
    unfold EntR at h
    obtain ⟨e', r, rfl, g1, g2, g3, g4⟩ := h
    exact EntR.cons g1 g2 g3 (EntR.push h1 h2 h3 g4)
theorem EntR.erase : ∀ {es : List (CV × CV × Nat)} {ms : List MapEntry} (i : Nat), EntR E es ms → EntR E (es.eraseIdx i) (ms.eraseIdx i)
  | [], ms, i, h => by unfold EntR at h; subst h; exact EntR.nil
  | (k', v', n') :: es, ms, i, h => by
    unfold EntR at h
    obtain ⟨e', r, rfl, g1, g2, g3, g4⟩ := h
    cases i with
    | zero => exact g4
    | succ i => exact EntR.cons g1 g2 g3 (EntR.erase i g4)
theorem bytes_beq (a b : ByteArray) : (a == b) = bEq a.data.toList b.data.toList := by rw [beq_toListBytes, ByteArray.toList_eq, ByteArray.toList_eq, bEq_eq]
theorem bytes_eq {a b : ByteArray} (h : bEq a.data.toList b.data.toList = true) : a = b := by
  rw [bEq_eq] at h
  have h := eq_of_beq h
  cases a
  cases b
  simp only [ByteArray.mk.injEq]
  exact Array.ext' h
theorem sameNow_ok {d : TypeDesc} {k k' : CV} {a b : Value} {c : Bool} (hd : keyC d k = true) (h : eqC d k k' = some c) (ha : VR E k a) (hb : VR E k' b) : Instr.sameNow d a b = some c ∧ (c = true → b = a) := by
  cases d <;> cases k <;> simp only [keyC, reduceCtorEq] at hd
  case bool.bo p =>
    cases k' <;> simp only [eqC, reduceCtorEq, Option.some.injEq] at h
    rename_i q
    unfold VR at ha hb
    subst ha hb h
    exact ⟨rfl, fun e => by rw [eq_of_beq e]⟩
  case int.it ki kk p =>
    cases k' <;> simp only [eqC, reduceCtorEq] at h
    rename_i kk' q
    cases hk : decide (kk = kk') with
    | false => rw [hk] at h; cases h
    | true =>
      rw [hk] at h
      have hk := of_decide_eq_true hk
      subst hk
      simp only [cond_true, Option.some.injEq] at h
      unfold VR at ha hb
      subst ha hb h
      refine ⟨by simp only [Instr.sameNow, if_true]; rfl, fun e => ?_⟩
      have := of_decide_eq_true e
      rw [this]
  case string.st p =>
    cases k' <;> simp only [eqC, reduceCtorEq, Option.some.injEq] at h
    rename_i q
    unfold VR at ha hb
    subst ha hb h
    refine ⟨by simp only [Instr.sameNow, bytes_beq], fun e => ?_⟩
    rw [bytes_eq e]
theorem keyC_desc {d : TypeDesc} {k : CV} (hd : keyC d k = true) : (∃ kk, d = .int kk) ∨ d = .string ∨ d = .bool := by
  cases d <;> cases k <;> simp [keyC] at hd ⊢
theorem findC_ok {d : TypeDesc} {k : CV} {a : Value} (hd : keyC d k = true) (ha : VR E k a) : ∀ {es : List (CV × CV × Nat)} {ms : List MapEntry} {i : Nat} {r : Option (Nat × CV × Nat)}, EntR E es ms → findC d k es i = some r →
    (r = none ∧ Instr.findNow d a ms i = some none) ∨ ∃ j v n e, r = some (j, v, n) ∧ i ≤ j ∧ ms[j - i]? = some e ∧ Instr.findNow d a ms i = some (some (j, e.val)) ∧ VR E v e.val ∧ e.born = n ∧ e.key = a
  | [], ms, i, r, hE, h => by
    unfold EntR at hE
    subst hE
    simp only [findC, Option.some.injEq] at h
    exact .inl ⟨h.symm, rfl⟩
  | (k', v', n') :: es, ms, i, r, hE, h => by
    unfold EntR at hE
    obtain ⟨e, rr, rfl, g1, g2, g3, g4⟩ := hE
    have h : (match eqC d k k' with
      | some b => bif b then some (some (i, v', n')) else findC d k es (i + 1)
      | none => none) = some r := by
      unfold findC at h
      rcases keyC_desc hd with ⟨kk, rfl⟩ | rfl | rfl <;> exact h
    cases he : eqC d k k' with
    | none => rw [he] at h; cases h
    | some b =>
      rw [he] at h
      simp only at h
      obtain ⟨s1, s2⟩ := sameNow_ok hd he ha g1
      cases b with
      | true =>
        simp only [cond_true, Option.some.injEq] at h
        subst h
        refine .inr ⟨i, v', n', e, rfl, Nat.le_refl _, by simp, ?_, g2, g3, s2 rfl⟩
        simp only [Instr.findNow, s1]
      | false =>
        simp only [cond_false] at h
        rcases findC_ok hd ha g4 h with ⟨rfl, h2⟩ | ⟨j, v, n, e', rfl, h2, h3, h4, h5⟩
        · exact .inl ⟨rfl, by simp only [Instr.findNow, s1, h2]⟩
        · refine .inr ⟨j, v, n, e', rfl, by omega, ?_, by simp only [Instr.findNow, s1, h4], h5⟩
          rw [show j - i = (j - (i + 1)) + 1 by omega]
          simpa using h3
theorem run_findNow {kt : TypeId} {d : TypeDesc} {a : Value} {ms : List MapEntry} {r : Option (Nat × Value)} (hu : P.underlying kt = some d) (h : Instr.findNow d a ms 0 = some r) : (Instr.findKey kt a ms).run P w = .ok r w := by
  unfold Instr.findKey
  rw [Sem.run_bind, run_underlying hu, Result.andThen_ok, h]
  rfl
theorem run_findKey {kt : TypeId} {d : TypeDesc} {a : Value} {ms : List MapEntry} {r : Option (Nat × Value)} (hu : P.underlying kt = some d) (h : ∀ w : World, (Instr.findKey kt a ms).run P w = .ok r w) : (Instr.findKey kt a ms).run P w = .ok r w := h w
theorem allK_same {l : List CV} {asx bs : List Value} (h : allK l = true) (ha : VRL E l asx) (hb : VRL E l bs) : asx = bs ∧ ∀ c ∈ asx, ∀ n, Instr.sameBits n c c = true := by
  induction l generalizing asx bs with
  | nil =>
    unfold VRL at ha hb
    subst ha hb
    exact ⟨rfl, fun c hc => by cases hc⟩
  | cons v l ih =>
    unfold VRL at ha hb
    obtain ⟨u, r, rfl, h1, h2⟩ := ha
    obtain ⟨u', r', rfl, h3, h4⟩ := hb
    simp only [allK, Bool.and_eq_true] at h
    obtain ⟨rfl, h5⟩ := ih h.2 h2 h4
    have hv : u = u' ∧ ∀ n, Instr.sameBits n u u = true := by
      cases v <;> simp only [oneK, Bool.false_eq_true, false_and] at h <;> (unfold VR at h1 h3; subst h1 h3; refine ⟨rfl, fun n => ?_⟩)
      · cases n <;> simp [Instr.sameBits]
      · cases n <;> simp [Instr.sameBits]
      · cases n <;> simp only [Instr.sameBits, bytes_beq, bEq_eq, beq_self_eq_true]
    obtain ⟨rfl, h6⟩ := hv
    refine ⟨rfl, fun c hc => ?_⟩
    rcases List.mem_cons.1 hc with rfl | hc
    · exact h6
    · exact h5 c hc
theorem keyG_cases {d : TypeDesc} {k : CV} (h : keyG P d k = true) : (∃ fs l, d = .struct fs ∧ k = .ag l ∧ keyFs P l fs.toList = true ∧ allK l = true) ∨ ((∀ fs, d ≠ .struct fs) ∧ keyC d k = true) := by
  unfold keyG at h
  split at h
  · rename_i fs l
    rw [Bool.and_eq_true] at h
    exact .inl ⟨fs, l, rfl, rfl, h.1, h.2⟩
  · rename_i hn
    refine .inr ⟨fun fs e => ?_, h⟩
    subst e
    cases k <;> simp [keyC] at h
theorem findG_ok {kt : TypeId} {d : TypeDesc} {k : CV} {a : Value} (hu : P.underlying kt = some d) (hd : keyG P d k = true) (ha : VR E k a) {es : List (CV × CV × Nat)} {ms : List MapEntry} {r : Option (Nat × CV × Nat)} (hE : EntR E es ms) (h : findG P kt d k es = some r) :
    (r = none ∧ ∀ w : World, (Instr.findKey kt a ms).run P w = .ok none w) ∨ ∃ j v n e, r = some (j, v, n) ∧ 0 ≤ j ∧ ms[j - 0]? = some e ∧ (∀ w : World, (Instr.findKey kt a ms).run P w = .ok (some (j, e.val)) w) ∧ VR E v e.val ∧ e.born = n ∧ e.key = a := by
  rcases keyG_cases hd with ⟨fs, l, rfl, rfl, h1, h2⟩ | ⟨hn, hc⟩
  · have hl : ∀ w : World, (Instr.findKey kt a ms).run P w = (Instr.findAsking kt a ms 0).run P w := fun w => run_findKey_eq w (by rw [hu]) a ms
    have key : ∀ (es : List (CV × CV × Nat)) (ms : List MapEntry) (i : Nat) (r : Option (Nat × CV × Nat)), EntR E es ms → findS (fun k' => eqT P 8 kt (.ag l) k') (.ag l) es i = some r →
        (r = none ∧ ∀ w : World, (Instr.findAsking kt a ms i).run P w = .ok none w) ∨ ∃ j v n e, r = some (j, v, n) ∧ i ≤ j ∧ ms[j - i]? = some e ∧ (∀ w : World, (Instr.findAsking kt a ms i).run P w = .ok (some (j, e.val)) w) ∧ VR E v e.val ∧ e.born = n ∧ e.key = a := by
      intro es
      induction es with
      | nil =>
        intro ms i r hE h
        unfold EntR at hE
        subst hE
        simp only [findS, Option.some.injEq] at h
        exact .inl ⟨h.symm, fun w => rfl⟩
      | cons p es ih =>
        obtain ⟨k', v', n'⟩ := p
        intro ms i r hE h
        unfold EntR at hE
        obtain ⟨e, rr, rfl, g1, g2, g3, g4⟩ := hE
        simp only [findS] at h
        cases he : eqT P 8 kt (.ag l) k' with
        | none => rw [he] at h; cases h
        | some b =>
          rw [he] at h
          have hr : ∀ w : World, (Op.equal kt a e.key).run P w = .ok b w := fun w => eqT_run (P := P) (w := w) 9992 8 kt _ _ _ _ _ he ha g1
          cases b with
          | true =>
            simp only at h
            cases hv : eqv (.ag l) k' with
            | false => rw [hv] at h; cases h
            | true =>
              rw [hv] at h
              have hk := eqv_eq hv
              subst hk
              simp only [cond_true, Option.some.injEq] at h
              subst h
              refine .inr ⟨i, v', n', e, rfl, Nat.le_refl _, by simp, fun w => ?_, g2, g3, ?_⟩
              · unfold Instr.findAsking
                rw [Sem.run_bind, hr w, Result.andThen_ok]
                rfl
              · unfold VR at ha g1
                obtain ⟨cs, rfl, q1, _⟩ := ha
                obtain ⟨ds, hds, q2, _⟩ := g1
                rw [hds, (allK_same h2 q1 q2).1]
          | false =>
            simp only at h
            rcases ih _ _ _ g4 h with ⟨rfl, k1⟩ | ⟨j, v, n, e', rfl, k2, k3, k4, k5⟩
            · refine .inl ⟨rfl, fun w => ?_⟩
              unfold Instr.findAsking
              rw [Sem.run_bind, hr w, Result.andThen_ok]
              exact k1 w
            · refine .inr ⟨j, v, n, e', rfl, by omega, ?_, fun w => ?_, k5⟩
              · rw [show j - i = (j - (i + 1)) + 1 by omega]
                simpa using k3
              · unfold Instr.findAsking
                rw [Sem.run_bind, hr w, Result.andThen_ok]
                exact k4 w
    simp only [findG] at h
    rcases key _ _ _ _ hE h with ⟨k1, k2⟩ | ⟨j, v, n, e, k1, k2, k3, k4, k5⟩
    · exact .inl ⟨k1, fun w => by rw [hl w]; exact k2 w⟩
    · exact .inr ⟨j, v, n, e, k1, k2, k3, fun w => by rw [hl w]; exact k4 w, k5⟩
  · have h : findC d k es 0 = some r := by
      unfold findG at h
      split at h
      · exact absurd rfl (hn _)
      · exact h
    rcases findC_ok hc ha hE h with ⟨k1, k2⟩ | ⟨j, v, n, e, k1, k2, k3, k4, k5⟩
    · exact .inl ⟨k1, fun w => run_findNow hu k2⟩
    · exact .inr ⟨j, v, n, e, k1, k2, k3, fun w => run_findNow hu k4, k5⟩
theorem checkFs {l : List CV} {cs : List Value} (hl : VRL E l cs) (b : Bool) (n : Nat) : ∀ (fs : List Field), keyFs P l fs = true → (forIn fs PUnit.unit fun f _ => do
      if f.name ≠ "_" then Instr.checkKey b (n + 1) f.type (← part f.type (List.toArray cs) f.offset)
      pure (ForInStep.yield PUnit.unit) : Sem PUnit).run P w = .ok PUnit.unit w
  | [], h => rfl
  | f :: fs, h => by
    simp only [keyFs, Bool.and_eq_true] at h
    obtain ⟨h1, h2⟩ := h
    have ih := checkFs hl b n fs h2
    split at h1
    · rename_i d v hd hv
      obtain ⟨u, k1, k2⟩ := hl.get hv
      have hp : (part f.type (List.toArray cs) f.offset).run P w = .ok u w := by
        have ha : isAg P f.type = some false := by
          unfold isAg
          rw [hd]
          cases d <;> cases v <;> simp only [fldK, Bool.false_eq_true] at h1 <;> rfl
        unfold part
        rw [Sem.run_bind, run_agg ha, Result.andThen_ok]
        simp [k1]
      have hc : (Instr.checkKey b (n + 1) f.type u).run P w = .ok () w := by
        unfold Instr.checkKey
        rw [Sem.run_bind, run_underlying hd, Result.andThen_ok]
        cases d <;> cases v <;> simp only [fldK, Bool.false_eq_true] at h1 <;> (unfold VR at k2; subst k2; rfl)
      simp only [List.forIn_cons, Sem.run_bind]
      by_cases hn : f.name = "_"
      · simp only [hn, ne_eq, not_true_eq_false, if_false, Sem.run_pure, Result.andThen_ok]
        exact ih
      · simp only [hn, ne_eq, not_false_eq_true, if_true, Sem.run_bind, hp, hc, Sem.run_pure, Result.andThen_ok]
        exact ih
    · cases h1
theorem run_checkKey {kt : TypeId} {d : TypeDesc} {k : CV} {a : Value} {b : Bool} (hu : P.underlying kt = some d) (hd : keyG P d k = true) (ha : VR E k a) : (Instr.checkKey b 10000 kt a).run P w = .ok () w := by
  show (Instr.checkKey b (9998 + 1 + 1) kt a).run P w = .ok () w
  unfold Instr.checkKey
  rw [Sem.run_bind, run_underlying hu, Result.andThen_ok]
  rcases keyG_cases hd with ⟨fs, l, rfl, rfl, h1, h2⟩ | ⟨hn, hc⟩
  · unfold VR at ha
    obtain ⟨cs, rfl, q1, _⟩ := ha
    simp only []
    rw [← Array.forIn_toList]
    have := checkFs (P := P) (w := w) q1 b 9998 fs.toList h1
    simpa using this
  · cases d <;> cases k <;> simp only [keyC, reduceCtorEq] at hc <;> (unfold VR at ha; subst ha; rfl)
theorem run_stays {d : TypeDesc} {k : CV} {a : Value} (hd : keyG P d k = true) (ha : VR E k a) : (Instr.keyThatStays a a).run P w = .ok a w := by
  have h : Instr.sameBits 10000 a a = true := by
    rcases keyG_cases hd with ⟨fs, l, rfl, rfl, h1, h2⟩ | ⟨hn, hc⟩
    · unfold VR at ha
      obtain ⟨cs, rfl, q1, _⟩ := ha
      have := (allK_same h2 q1 q1).2
      simp only [Instr.sameBits, beq_self_eq_true, Bool.true_and, List.all_eq_true]
      intro p hp
      obtain ⟨c, hc, rfl⟩ : ∃ c, c ∈ cs ∧ p = (c, c) := by
        have : ∀ (l : List Value), p ∈ l.zip l → ∃ c, c ∈ l ∧ p = (c, c) := by
          intro l
          induction l with
          | nil => intro h; simp at h
          | cons x l ih =>
            intro h
            simp only [List.zip_cons_cons, List.mem_cons] at h
            rcases h with rfl | h
            · exact ⟨x, by simp, rfl⟩
            · obtain ⟨c, hc, e⟩ := ih h
              exact ⟨c, by simp [hc], e⟩
        exact this cs (by simpa using hp)
      exact this c hc _
    · cases d <;> cases k <;> simp only [keyC, reduceCtorEq] at hc <;> (unfold VR at ha; subst ha)
      · simp [Instr.sameBits]
      · simp [Instr.sameBits]
      · simp only [Instr.sameBits, bytes_beq, bEq_eq, beq_self_eq_true]
  unfold Instr.keyThatStays
  rw [if_pos h]
  rfl
theorem zv_of {t : TypeId} {z : CV} (h : zv P t = some z) : ∃ i z', P.info? t = some i ∧ i.zero = some z' ∧ z = cv z' := by
  unfold zv at h
  cases hi : P.info? t with
  | none => rw [hi] at h; cases h
  | some i =>
    rw [hi] at h
    simp only at h
    cases hz : i.zero with
    | none => rw [hz] at h; cases h
    | some z' => rw [hz] at h; exact ⟨i, z', rfl, hz, by simpa using h.symm⟩
theorem entC_ok {B : Nat} {N : Nat → Prop} {w0 : World} {x : CV} {es : List (CV × CV × Nat)} {a : Value} (H : HR B N w0 E M w) (h : entC M x = some es) (ha : VR E x a) : (a = .map none ∧ es = []) ∨ ∃ L g ms clock, x = .mp g ∧ E g = some L ∧ a = .map (some L.g) ∧ w.heap[L.g]? = some (.map (List.toArray ms) clock) ∧ EntR E es ms ∧ M.h.get g = some (.map es clock) := by
  unfold entC at h
  split at h
  · cases h
    unfold VR at ha
    exact .inl ⟨ha, rfl⟩
  · rename_i g
    split at h
    · rename_i es' clock hg
      cases h
      unfold VR at ha
      obtain ⟨L, hL, rfl⟩ := ha
      obtain ⟨ms, h1, h2⟩ := H.blk g L _ hL hg
      exact .inr ⟨L, g, ms, clock, rfl, hL, rfl, h1, h2, hg⟩
    · cases h
  · cases h
theorem lookup_ok {t : TypeId} {x k : Operand} {ok : Bool} (h : exOp P md ρc (.lookup t x k ok) M = some (v, M')) : OK P ρc (.lookup t x k ok) M v M' := by
  simp only [exOp] at h
  unfold lookupC at h
  split at h
  · rename_i kt et hu
    split at h
    · rename_i d es z hkt hent hz
      cases hd : keyG P d (ρc k) with
      | false => rw [hd] at h; cases h
      | true =>
        rw [hd] at h
        simp only [cond_true] at h
        have key : ∀ r, findG P kt d (ρc k) es = some r → v = (match r with
            | some (_, v, _) => bif ok then .tu [v, .bo true] else v
            | none => bif ok then .tu [z, .bo false] else z) → M' = M → OK P ρc (.lookup t x k ok) M v M' := by
          rintro r hr rfl rfl
          refine ⟨M'.sfx_refl, Nat.le_refl _, fun hH B N w0 E w ρ q hq H hρ => ?_⟩
          have h1 := hρ x (by simp [Op.operands])
          have h2 := hρ k (by simp [Op.operands])
          obtain ⟨i, z', hi, hz1, rfl⟩ := zv_of hz
          have hes : ∃ ms : List MapEntry, EntR E es ms ∧ ∀ (u : Value) (b : Bool), ((do
              let (v, ok') ← match ← Instr.findKey kt (ρ k) ms with
                | some (_, v) => pure (v, true)
                | none => pure (← zeroValue et, false)
              pure (if ok then .tuple #[v, .bool ok'] else v) : Sem Value)).run P w = .ok (if ok then .tuple #[u, .bool b] else u) w → (execOp ρ q).run P w = .ok (.value (if ok then .tuple #[u, .bool b] else u)) w := by
            rcases entC_ok H hent h1 with ⟨e1, rfl⟩ | ⟨L, g, ms, clock, _, hL, e1, e2, e3, _⟩
            · refine ⟨[], EntR.nil, fun u b hf => ?_⟩
              simp only [execOp, hq]
              refine run_v ?_
              unfold Instr.lookup
              rw [Sem.run_bind, run_underlying hu, Result.andThen_ok, e1]
              simp only []
              rw [Sem.run_bind]
              simp only [Sem.run_pure, Result.andThen_ok]
              rw [Sem.run_bind, run_checkKey hkt hd h2, Result.andThen_ok]
              exact hf
            · refine ⟨ms, e3, fun u b hf => ?_⟩
              simp only [execOp, hq]
              refine run_v ?_
              unfold Instr.lookup
              rw [Sem.run_bind, run_underlying hu, Result.andThen_ok, e1]
              simp only []
              rw [Sem.run_bind, run_getObj_map' e2, Result.andThen_ok]
              simp only []
              rw [Sem.run_bind]
              simp only [Sem.run_pure, Result.andThen_ok]
              rw [Sem.run_bind, run_checkKey hkt hd h2, Result.andThen_ok]
              exact hf
          obtain ⟨ms, m2, hrun⟩ := hes
          have fin : ∀ (u : Value) (b : Bool) (cu : CV), VR E cu u → Out M'.nx B N w0 E M' (bif ok then .tu [cu, .bo b] else cu) (.ok (.value (if ok then .tuple #[u, .bool b] else u)) w) := fun u b cu hu => by
            refine Out.same H rfl ?_
            cases ok
            · simpa using hu
            · simp only [cond_true, if_true]
              unfold VR
              exact ⟨[u, .bool b], rfl, VRL.cons hu (VRL.cons (by unfold VR; rfl) VRL.nil)⟩
          rcases findG_ok hkt hd h2 m2 hr with ⟨rfl, f1⟩ | ⟨j, v', n, e, rfl, f0, f1, f2, f3, f4, f5⟩
          · rw [hrun z' false (by
              rw [Sem.run_bind, run_findKey hkt f1, Result.andThen_ok]
              simp only []
              rw [Sem.run_bind, run_zero hi hz1]
              rfl)]
            exact fin z' false _ (cv_rel E z')
          · rw [hrun e.val true (by
              rw [Sem.run_bind, run_findKey hkt f2, Result.andThen_ok]
              rfl)]
            exact fin e.val true v' f3
        split at h
        · rename_i i vv nn hf
          obtain ⟨rfl, rfl⟩ := ret_ok h
          exact key _ hf rfl rfl
        · rename_i hf
          obtain ⟨rfl, rfl⟩ := ret_ok h
          exact key _ hf rfl rfl
        · cases h
    · cases h
  · cases h
theorem forceE_eq (md : Bool) : ∀ (l : List (CV × CV × Nat)) (K : List (CV × CV × Nat) → Res), forceE md l K = K l
  | [], K => rfl
  | (a, b, n) :: l, K => by simp only [forceE, fW_eq, fM_eq, forceE_eq md l]
theorem setH_eq {g : Nat} {b : RB} {u : CV} : setH M g b u = some (u, M.put g b) := by
  unfold setH
  rw [Tr.setK_eq]
  rfl
theorem run_setObj_map {r : Nat} {es es' : Array MapEntry} {c c' : Nat} (h : w.heap[r]? = some (.map es c)) : (setObj r (.map es' c')).run P w = .ok () (w.putObj r (.map es' c')) := by simp [setObj, Sem.run, h, World.putObj]
/-- a map changes -/
theorem map_put {B : Nat} {N : Nat → Prop} {w0 : World} {g : Nat} {L : Loc} {es es' : List (CV × CV × Nat)} {ms' : List MapEntry} {c c' : Nat} (H : HR B N w0 E M w) (hL : E g = some L) (hg : M.h.get g = some (.map es c)) (h' : EntR E es' ms') : HR B N w0 E (M.put g (.map es' c')) (w.putObj L.g (.map (List.toArray ms') c')) := by
  refine H.upd hL hg rfl (fun c h => by cases h) ⟨rfl, rfl, rfl⟩ (by simp [World.putObj]) (fun k _ hk => World.putObj_heap_other hk) ⟨ms', World.putObj_heap_same (H.lt g L hL), h'⟩
theorem modify_toList (ms : List MapEntry) (i : Nat) (f : MapEntry → MapEntry) (e : MapEntry) (h : ms[i]? = some e) : (List.toArray ms).modify i f = List.toArray (ms.set i (f e)) := by
  apply Array.ext'
  rw [Array.toList_modify]
  apply List.ext_getElem?
  intro j
  rw [List.getElem?_modify, List.getElem?_set]
  by_cases hj : i = j
  · subst hj
    simp only [if_true]
    have hlt := (List.getElem?_eq_some_iff.1 h).1
    rw [if_pos hlt, h]
    rfl
  · simp [hj]
theorem update_core {t : TypeId} {m k x : CV} (h : updateC P md t m k x M = some (v, M')) : M.sfx M' ∧ M.nx ≤ M'.nx ∧ (M'.Holds → ∀ {B : Nat} {N : Nat → Prop} {w0 : World} {E : Env} {w : World} {a b c : Value}, HR B N w0 E M w → VR E m a → VR E k b → VR E x c →
    v = .ud ∧ ∃ w', (Instr.mapUpdate t a b c).run P w = .ok () w' ∧ HR B N w0 E M' w') := by
  unfold updateC at h
  split at h
  · rename_i kt et g hu
    split at h
    · rename_i d es clock hkt hg
      cases hd : keyG P d k with
      | false => rw [hd] at h; cases h
      | true =>
        rw [hd] at h
        simp only [cond_true] at h
        have start : ∀ {B : Nat} {N : Nat → Prop} {w0 : World} {E : Env} {w : World} {a b c : Value}, HR B N w0 E M w → VR E (.mp g) a → VR E k b → ∃ L ms, E g = some L ∧ a = .map (some L.g) ∧ w.heap[L.g]? = some (.map (List.toArray ms) clock) ∧ EntR E es ms := by
          intro B N w0 E w a b c H ha hb
          unfold VR at ha
          obtain ⟨L, hL, rfl⟩ := ha
          obtain ⟨ms, h1, h2⟩ := H.blk g L _ hL hg
          exact ⟨L, ms, hL, rfl, h1, h2⟩
        split at h
        · rename_i i vv n hf
          rw [forceE_eq, setH_eq] at h
          cases h
          refine ⟨⟨[], rfl⟩, Nat.le_refl _, fun hH B N w0 E w a b c H ha hb hc => ⟨rfl, ?_⟩⟩
          obtain ⟨L, ms, hL, rfl, h1, h2⟩ := start (c := c) H ha hb
          rcases findG_ok hkt hd hb h2 hf with ⟨e, _⟩ | ⟨j, v', n', e, he, f0, f1, f2, f3, f4, f5⟩
          · cases e
          · cases he
            simp only [Nat.sub_zero] at f1
            refine ⟨_, ?_, map_put H hL hg (EntR.set (e := { e with key := b, val := c }) hb hc f4 i h2)⟩
            unfold Instr.mapUpdate
            rw [Sem.run_bind, run_underlying hu, Result.andThen_ok]
            simp only []
            rw [Sem.run_bind, run_getObj_map' h1, Result.andThen_ok]
            simp only []
            rw [Sem.run_bind, run_checkKey hkt hd hb, Result.andThen_ok, Sem.run_bind, run_findKey hkt f2, Result.andThen_ok]
            simp only []
            have hk : (((List.toArray ms)[i]?).map (·.key)).getD b = b := by
              simp only [List.getElem?_toArray, f1, Option.map_some, Option.getD_some, f5]
            rw [Sem.run_bind, hk, run_stays hd hb, Result.andThen_ok, modify_toList ms i _ e f1]
            exact run_setObj_map h1
        · rename_i hf
          rw [forceE_eq, fN_eq, setH_eq] at h
          cases h
          refine ⟨⟨[], rfl⟩, Nat.le_refl _, fun hH B N w0 E w a b c H ha hb hc => ⟨rfl, ?_⟩⟩
          obtain ⟨L, ms, hL, rfl, h1, h2⟩ := start (c := c) H ha hb
          rcases findG_ok hkt hd hb h2 hf with ⟨_, f2⟩ | ⟨j, v', n', e, he, _⟩
          · refine ⟨_, ?_, map_put H hL hg (EntR.push (e := { key := b, val := c, born := clock }) hb hc rfl h2)⟩
            unfold Instr.mapUpdate
            rw [Sem.run_bind, run_underlying hu, Result.andThen_ok]
            simp only []
            rw [Sem.run_bind, run_getObj_map' h1, Result.andThen_ok]
            simp only []
            rw [Sem.run_bind, run_checkKey hkt hd hb, Result.andThen_ok, Sem.run_bind, run_findKey hkt f2, Result.andThen_ok]
            simp only [List.push_toArray]
            exact run_setObj_map h1
          · cases he
        · cases h
    · cases h
  · cases h
theorem mapUpdate_ok {t : TypeId} {m k x : Operand} (h : exOp P md ρc (.mapUpdate t m k x) M = some (v, M')) : OK P ρc (.mapUpdate t m k x) M v M' := by
  simp only [exOp] at h
  obtain ⟨s1, s2, s3⟩ := update_core h
  refine ⟨s1, s2, fun hH B N w0 E w ρ q hq H hρ => ?_⟩
  obtain ⟨rfl, w', k1, k2⟩ := s3 hH H (hρ m (by simp [Op.operands])) (hρ k (by simp [Op.operands])) (hρ x (by simp [Op.operands]))
  exact ⟨E, E.ex_refl, w', k2, .inr ⟨by simp only [execOp, hq]; exact run_u k1, rfl⟩⟩
theorem insert_ok {t : TypeId} {m k x : Operand} (h : exOp P md ρc (.insert t m k x) M = some (v, M')) : OK P ρc (.insert t m k x) M v M' := by
  simp only [exOp] at h
  obtain ⟨s1, s2, s3⟩ := update_core h
  refine ⟨s1, s2, fun hH B N w0 E w ρ q hq H hρ => ?_⟩
  obtain ⟨rfl, w', k1, k2⟩ := s3 hH H (hρ m (by simp [Op.operands])) (hρ k (by simp [Op.operands])) (hρ x (by simp [Op.operands]))
  exact ⟨E, E.ex_refl, w', k2, .inr ⟨by simp only [execOp, hq]; exact run_u k1, rfl⟩⟩
theorem mapEntry_ok {t : TypeId} {m k : Operand} (h : exOp P md ρc (.mapEntry t m k) M = some (v, M')) : OK P ρc (.mapEntry t m k) M v M' := by
  simp only [exOp] at h
  unfold entryC at h
  split at h
  · rename_i kt et g hu hmv
    split at h
    · rename_i d es clock z hkt hg hz
      cases hd : keyG P d (ρc k) with
      | false => rw [hd] at h; cases h
      | true =>
        rw [hd] at h
        simp only [cond_true] at h
        split at h
        · rename_i i vv n hf
          rw [forceE_eq, setH_eq] at h
          cases h
          refine ⟨⟨[], rfl⟩, Nat.le_refl _, fun hH B N w0 E w ρ q hq H hρ => ?_⟩
          have ha := hρ m (by simp [Op.operands])
          have hb := hρ k (by simp [Op.operands])
          rw [hmv] at ha
          unfold VR at ha
          obtain ⟨L, hL, ea⟩ := ha
          obtain ⟨ms, h1, h2⟩ := H.blk g L _ hL hg
          rcases findG_ok hkt hd hb h2 hf with ⟨e, _⟩ | ⟨j, v', n', e, he, f0, f1, f2, f3, f4, f5⟩
          · cases e
          · cases he
            simp only [Nat.sub_zero] at f1
            refine ⟨E, E.ex_refl, _, map_put H hL hg (EntR.set (e := { e with key := ρ k }) hb f3 f4 i h2), .inl ⟨.tuple #[e.val, goInt e.born], ?_, ?_⟩⟩
            · simp only [execOp, hq]
              refine run_v ?_
              unfold Instr.mapEntry
              rw [Sem.run_bind, run_underlying hu, Result.andThen_ok, ea]
              simp only []
              rw [Sem.run_bind, run_getObj_map' h1, Result.andThen_ok]
              simp only []
              rw [Sem.run_bind, run_checkKey hkt hd hb, Result.andThen_ok, Sem.run_bind, run_findKey hkt f2, Result.andThen_ok]
              simp only []
              have hk : (((List.toArray ms)[i]?).map (·.key)).getD (ρ k) = ρ k := by
                simp only [List.getElem?_toArray, f1, Option.map_some, Option.getD_some, f5]
              have hbn : (((List.toArray ms)[i]?).map (fun x => (x.born : Int))).getD 0 = (e.born : Int) := by
                simp only [List.getElem?_toArray, f1, Option.map_some, Option.getD_some]
              rw [Sem.run_bind, hk, run_stays hd hb, Result.andThen_ok, modify_toList ms i _ e f1, Sem.run_bind, run_setObj_map h1, hbn]
              rfl
            · unfold VR
              exact ⟨[e.val, goInt e.born], rfl, VRL.cons f3 (VRL.cons (by unfold VR; rw [← f4]; rfl) VRL.nil)⟩
        · rename_i hf
          rw [forceE_eq, fN_eq, setH_eq] at h
          cases h
          refine ⟨⟨[], rfl⟩, Nat.le_refl _, fun hH B N w0 E w ρ q hq H hρ => ?_⟩
          have ha := hρ m (by simp [Op.operands])
          have hb := hρ k (by simp [Op.operands])
          rw [hmv] at ha
          unfold VR at ha
          obtain ⟨L, hL, ea⟩ := ha
          obtain ⟨ms, h1, h2⟩ := H.blk g L _ hL hg
          obtain ⟨i, z', hi, hz1, rfl⟩ := zv_of hz
          rcases findG_ok hkt hd hb h2 hf with ⟨_, f2⟩ | ⟨j, v', n', e, he, _⟩
          · refine ⟨E, E.ex_refl, _, map_put H hL hg (EntR.push (e := { key := ρ k, val := z', born := clock }) hb (cv_rel E z') rfl h2), .inl ⟨.tuple #[z', goInt clock], ?_, ?_⟩⟩
            · simp only [execOp, hq]
              refine run_v ?_
              unfold Instr.mapEntry
              rw [Sem.run_bind, run_underlying hu, Result.andThen_ok, ea]
              simp only []
              rw [Sem.run_bind, run_getObj_map' h1, Result.andThen_ok]
              simp only []
              rw [Sem.run_bind, run_checkKey hkt hd hb, Result.andThen_ok, Sem.run_bind, run_findKey hkt f2, Result.andThen_ok]
              simp only [List.push_toArray]
              rw [Sem.run_bind, run_zero hi hz1, Result.andThen_ok, Sem.run_bind, run_setObj_map h1]
              rfl
            · unfold VR
              exact ⟨[z', goInt clock], rfl, VRL.cons (cv_rel E z') (VRL.cons (by unfold VR; rfl) VRL.nil)⟩
          · cases he
        · cases h
    · cases h
  · cases h
theorem bornAt_ok {n : Int} : ∀ {es : List (CV × CV × Nat)} {ms : List MapEntry} {i j : Nat} {k : CV}, EntR E es ms → bornAt n es i = some (j, k) → i ≤ j ∧ ∃ e, ms[j - i]? = some e ∧ VR E k e.key ∧ (e.born : Int) = n ∧ (ms.findIdx? fun e => (e.born : Int) == n) = some (j - i)
  | [], ms, i, j, k, hE, h => by simp [bornAt] at h
  | (k', v', b) :: es, ms, i, j, k, hE, h => by
    unfold EntR at hE
    obtain ⟨e, r, rfl, g1, g2, g3, g4⟩ := hE
    unfold bornAt at h
    cases hb : decide ((b : Int) = n) with
    | true =>
      rw [hb] at h
      cases h
      have hb := of_decide_eq_true hb
      refine ⟨Nat.le_refl _, e, by simp, g1, by rw [g3]; exact hb, ?_⟩
      simp [List.findIdx?_cons, g3, hb]
    | false =>
      rw [hb] at h
      have hb := of_decide_eq_false hb
      obtain ⟨h1, e', h2, h3, h4, h5⟩ := bornAt_ok g4 h
      refine ⟨by omega, e', ?_, h3, h4, ?_⟩
      · rw [show j - i = (j - (i + 1)) + 1 by omega]
        simpa using h2
      · rw [List.findIdx?_cons, h5]
        have : ((e.born : Int) == n) = false := by rw [g3]; simpa using hb
        rw [this]
        simp only [Bool.false_eq_true, if_false, Option.map_some, Option.some.injEq]
        omega
theorem entryStore_ok {t : TypeId} {m st x : Operand} (h : exOp P md ρc (.entryStore t m st x) M = some (v, M')) : OK P ρc (.entryStore t m st x) M v M' := by
  simp only [exOp] at h
  unfold entryStC at h
  split at h
  · rename_i g ik n hmv hst
    split at h
    · rename_i es clock hg
      split at h
      · rename_i i kk hb
        rw [forceE_eq, setH_eq] at h
        cases h
        refine ⟨⟨[], rfl⟩, Nat.le_refl _, fun hH B N w0 E w ρ q hq H hρ => ?_⟩
        have ha := hρ m (by simp [Op.operands])
        have hs := hρ st (by simp [Op.operands])
        have hx := hρ x (by simp [Op.operands])
        rw [hmv] at ha
        rw [hst] at hs
        unfold VR at ha hs
        obtain ⟨L, hL, ea⟩ := ha
        obtain ⟨ms, h1, h2⟩ := H.blk g L _ hL hg
        obtain ⟨_, e, b1, b2, b3, b4⟩ := bornAt_ok h2 hb
        simp only [Nat.sub_zero] at b1 b4
        refine ⟨E, E.ex_refl, _, map_put H hL hg (EntR.set (e := { e with val := ρ x }) b2 hx (by show e.born = n.toNat; omega) i h2), .inr ⟨?_, rfl⟩⟩
        simp only [execOp, hq]
        refine run_u ?_
        unfold Instr.entryStore
        rw [ea]
        simp only []
        rw [Sem.run_bind, run_getObj_map' h1, Result.andThen_ok]
        simp only []
        rw [hs]
        simp only [asInt, asIntOf, Sem.run_bind, Sem.run_pure, Result.andThen_ok, List.findIdx?_toArray, b4]
        rw [modify_toList ms i _ e b1]
        exact run_setObj_map h1
      · cases h
    · cases h
  · cases h
theorem delete_ok {c : Call} {t u : TypeId} {cm ck : CV} (hc : c.callee = .builtin .delete) (ht : c.argTypes.toList = [t, u]) (ha : c.args.toList.map ρc = [cm, ck]) (h : deleteC P md t cm ck M = some (v, M')) : OK P ρc (.call c) M v M' := by
  obtain ⟨m, k, hl, rfl, rfl⟩ := map2 ha
  refine builtin_of hc ht hl ?_
  unfold deleteC at h
  split at h
  · rename_i kt et hu hm
    split at h
    · rename_i d hkt
      cases hd : keyG P d (ρc k) with
      | false => rw [hd] at h; cases h
      | true =>
        rw [hd] at h
        obtain ⟨rfl, rfl⟩ := ret_ok h
        refine ⟨M'.sfx_refl, Nat.le_refl _, fun hH B N w0 E w ρ ty cs H hρ => ?_⟩
        have ha := hρ m (by simp)
        have hb := hρ k (by simp)
        rw [hm] at ha
        unfold VR at ha
        refine ⟨E, E.ex_refl, w, .tuple #[], run_v ?_, by unfold VR; exact ⟨[], rfl, VRL.nil⟩, H⟩
        unfold Builtin.delete_
        simp only [List.map_cons, List.map_nil, List.getElem?_toArray, List.getElem?_cons_zero, List.getElem?_cons_succ]
        rw [Sem.run_bind, run_underlying hu, Result.andThen_ok, ha]
        simp only []
        rw [Sem.run_bind, run_checkKey hkt hd hb]
        rfl
    · cases h
  · rename_i kt et g hu hm
    split at h
    · rename_i d es clock hkt hg
      cases hd : keyG P d (ρc k) with
      | false => rw [hd] at h; cases h
      | true =>
        rw [hd] at h
        simp only [cond_true] at h
        split at h
        · rename_i i vv n hf
          rw [forceE_eq, setH_eq] at h
          cases h
          refine ⟨⟨[], rfl⟩, Nat.le_refl _, fun hH B N w0 E w ρ ty cs H hρ => ?_⟩
          have ha := hρ m (by simp)
          have hb := hρ k (by simp)
          rw [hm] at ha
          unfold VR at ha
          obtain ⟨L, hL, ea⟩ := ha
          obtain ⟨ms, h1, h2⟩ := H.blk g L _ hL hg
          rcases findG_ok hkt hd hb h2 hf with ⟨e, _⟩ | ⟨j, v', n', e, he, f0, f1, f2, f3, f4, f5⟩
          · cases e
          · cases he
            refine ⟨E, E.ex_refl, _, .tuple #[], run_v ?_, by unfold VR; exact ⟨[], rfl, VRL.nil⟩, map_put H hL hg (EntR.erase i h2)⟩
            unfold Builtin.delete_
            simp only [List.map_cons, List.map_nil, List.getElem?_toArray, List.getElem?_cons_zero, List.getElem?_cons_succ]
            rw [Sem.run_bind, run_underlying hu, Result.andThen_ok, ea]
            simp only []
            rw [Sem.run_bind, run_getObj_map' h1, Result.andThen_ok]
            simp only []
            rw [Sem.run_bind, run_checkKey hkt hd hb, Result.andThen_ok, Sem.run_bind, run_findKey hkt f2, Result.andThen_ok]
            simp only []
            rw [Sem.run_bind]
            have her : (List.toArray ms).eraseIdxIfInBounds i = List.toArray (ms.eraseIdx i) := by simp
            rw [her, run_setObj_map h1]
            rfl
        · rename_i hf
          obtain ⟨rfl, rfl⟩ := ret_ok h
          refine ⟨M'.sfx_refl, Nat.le_refl _, fun hH B N w0 E w ρ ty cs H hρ => ?_⟩
          have ha := hρ m (by simp)
          have hb := hρ k (by simp)
          rw [hm] at ha
          unfold VR at ha
          obtain ⟨L, hL, ea⟩ := ha
          obtain ⟨ms, h1, h2⟩ := H.blk g L _ hL hg
          rcases findG_ok hkt hd hb h2 hf with ⟨_, f2⟩ | ⟨j, v', n', e, he, _⟩
          · have hp := map_put (c' := clock) H hL hg h2
            have hsame : w.putObj L.g (.map (List.toArray ms) clock) = w := by
              obtain ⟨h3, h4⟩ := Array.getElem?_eq_some_iff.1 h1
              have : w.heap.setIfInBounds L.g (.map (List.toArray ms) clock) = w.heap := by
                apply Array.ext_getElem?
                intro i
                rw [Array.getElem?_setIfInBounds]
                split
                · rename_i e
                  subst e
                  exact h1.symm
                · rfl
              unfold World.putObj
              rw [this]
            refine ⟨E, E.ex_refl, w, .tuple #[], run_v ?_, by unfold VR; exact ⟨[], rfl, VRL.nil⟩, H⟩
            unfold Builtin.delete_
            simp only [List.map_cons, List.map_nil, List.getElem?_toArray, List.getElem?_cons_zero, List.getElem?_cons_succ]
            rw [Sem.run_bind, run_underlying hu, Result.andThen_ok, ea]
            simp only []
            rw [Sem.run_bind, run_getObj_map' h1, Result.andThen_ok]
            simp only []
            rw [Sem.run_bind, run_checkKey hkt hd hb, Result.andThen_ok, Sem.run_bind, run_findKey hkt f2, Result.andThen_ok]
            rw [Sem.run_bind, run_setObj_map h1, hsame]
            rfl
          · cases he
        · cases h
    · cases h
  · cases h
end
end
end Mu.CI
end
section
/-
  Operations over known memory do what the model's do: ranges; all operations that call nobody.
  Conditions: none; generic.
-/
namespace Mu.CI
open Go Go.RowKit
noncomputable section
set_option linter.unusedVariables false
section
variable {M M' : Mem} {md : Bool} {P : Program} {E : Env} {w w' : World} {ρc : Operand → CV} {v : CV}
/-- an iterator is made -/
theorem iter_new {B : Nat} {N : Nat → Prop} {w0 : World} {b : RB} {o : Obj} (H : HR B N w0 E M w) (hr : ∀ c, b ≠ .ro c) (hb : ∀ (E' : Env) (w' : World), E.le E' → w'.heap[w.heap.size]? = some o → BR E' w' ⟨w.heap.size, 0, 0⟩ b) :
    ∃ E', Env.ex M.nx E E' ∧ VR E' (.pt M.nx 0) (.pointer (some ⟨w.heap.size, 0, none⟩)) ∧ HR B N w0 E' (M.push b) (w.alloc o) := by
  obtain ⟨k1, k2⟩ := H.new (b := b) (L := ⟨w.heap.size, 0, 0⟩) (below_alloc w o) (Nat.le_refl _) (by show _ < (w.alloc o).heap.size; rw [alloc_size]; exact Nat.lt_succ_self _) hr fun E' hE hn => hb E' _ hE (alloc_get _ _)
  exact ⟨_, k1, by unfold VR; exact ⟨_, Env.set_self, rfl⟩, k2⟩
theorem range_ok {t : TypeId} {x : Operand} (h : exOp P md ρc (.range t x) M = some (v, M')) : OK P ρc (.range t x) M v M' := by
  simp only [exOp] at h
  split at h
  · rename_i d hu
    unfold rangeC at h
    split at h
    · rename_i k e hx
      rw [Mem.new_eq] at h
      obtain ⟨rfl, rfl⟩ := ret_ok h
      refine ⟨⟨[], rfl⟩, Nat.le_succ _, fun hH B N w0 E w ρ q hq H hρ => ?_⟩
      have h1 := hρ x (by simp [Op.operands])
      rw [hx] at h1
      unfold VR at h1
      obtain ⟨E', k1, k2, k3⟩ := iter_new (b := .iter none 0 [] 0) (o := .mapIter none 0 #[] 0) H (fun c h => by cases h) fun E' w' hE hw => ⟨rfl, none, hw, rfl⟩
      refine ⟨E', k1, _, k3, .inl ⟨_, ?_, k2⟩⟩
      simp only [execOp, hq]
      refine run_v ?_
      simp [Instr.range, run_underlying hu, h1, newObj, Sem.run]
    · rename_i k e g hx
      split at h
      · rename_i es c hg
        rw [Mem.new_eq] at h
        obtain ⟨rfl, rfl⟩ := ret_ok h
        refine ⟨⟨[], rfl⟩, Nat.le_succ _, fun hH B N w0 E w ρ q hq H hρ => ?_⟩
        have h1 := hρ x (by simp [Op.operands])
        rw [hx] at h1
        unfold VR at h1
        obtain ⟨L, hL, ex⟩ := h1
        obtain ⟨ms, m1, m2⟩ := H.blk g L _ hL hg
        obtain ⟨E', k1, k2, k3⟩ := iter_new (b := .iter (some g) c [] c) (o := .mapIter (some L.g) c #[] c) H (fun c h => by cases h) fun E' w' hE hw => ⟨rfl, some L.g, hw, L, hE _ _ hL, rfl⟩
        refine ⟨E', k1, _, k3, .inl ⟨_, ?_, k2⟩⟩
        simp only [execOp, hq]
        refine run_v ?_
        simp [Instr.range, run_underlying hu, ex, run_getObj_map' m1, newObj, Sem.run]
      · cases h
    · rename_i s hx
      rw [Mem.new_eq] at h
      obtain ⟨rfl, rfl⟩ := ret_ok h
      refine ⟨⟨[], rfl⟩, Nat.le_succ _, fun hH B N w0 E w ρ q hq H hρ => ?_⟩
      have h1 := hρ x (by simp [Op.operands])
      rw [hx] at h1
      unfold VR at h1
      obtain ⟨E', k1, k2, k3⟩ := iter_new (b := .siter s 0) (o := .stringIter s 0) H (fun c h => by cases h) fun E' w' hE hw => ⟨rfl, hw⟩
      refine ⟨E', k1, _, k3, .inl ⟨_, ?_, k2⟩⟩
      simp only [execOp, hq]
      refine run_v ?_
      simp [Instr.range, run_underlying hu, h1, newObj, Sem.run]
    · cases h
  · cases h
theorem run_getObj_iter {r : Nat} {m : Option Nat} {s l : Nat} {sn : Array Nat} (h : w.heap[r]? = some (.mapIter m s sn l)) : (getObj r).run P w = .ok (.mapIter m s sn l) w := by simp [getObj, Sem.run, h]
theorem memN_eq : ∀ (n : Nat) (l : List Nat), memN n l = l.contains n
  | n, [] => rfl
  | n, m :: l => by
    unfold memN
    rw [memN_eq n l, List.contains_cons]
    congr 1
    rw [Bool.eq_iff_iff]
    exact ⟨fun h => beq_iff_eq.2 (Nat.eq_of_beq_eq_true h), fun h => by rw [beq_iff_eq.1 h]; exact Nat.beq_refl m⟩
theorem leftC_ok {seen : List Nat} : ∀ {es : List (CV × CV × Nat)} {ms : List MapEntry}, EntR E es ms → EntR E (leftC seen es) (ms.filter fun e => !(List.toArray seen).contains e.born)
  | [], ms, h => by unfold EntR at h; subst h; exact EntR.nil
  | (k, v, n) :: es, ms, h => by
    unfold EntR at h
    obtain ⟨e, r, rfl, h1, h2, h3, h4⟩ := h
    unfold leftC
    rw [memN_eq, List.filter_cons, List.contains_toArray, h3]
    cases seen.contains n with
    | true => simpa using leftC_ok h4
    | false =>
      simp only [cond_false, Bool.not_false, if_true]
      exact EntR.cons h1 h2 h3 (leftC_ok h4)
theorem allGe_ok {last : Nat} : ∀ {es : List (CV × CV × Nat)} {ms : List MapEntry}, EntR E es ms → (ms.all fun e => decide (e.born ≥ last)) = allGe last es
  | [], ms, h => by unfold EntR at h; subst h; rfl
  | (k, v, n) :: es, ms, h => by
    unfold EntR at h
    obtain ⟨e, r, rfl, h1, h2, h3, h4⟩ := h
    rw [List.all_cons, allGe_ok h4, h3]
    have : decide (n ≥ last) = Nat.ble last n := by
      rw [Bool.eq_iff_iff, decide_eq_true_eq]
      exact ⟨fun h => Nat.ble_eq_true_of_le h, fun h => Nat.le_of_ble_eq_true h⟩
    rw [this]
    rfl
theorem next_ok {it : Operand} {s : Bool} (h : exOp P md ρc (.next it s) M = some (v, M')) : OK P ρc (.next it s) M v M' := by
  simp only [exOp] at h
  split at h
  · rename_i g hit
    unfold nextC at h
    split at h
    · rename_i a b c hg
      obtain ⟨rfl, rfl⟩ := ret_ok h
      refine ⟨M'.sfx_refl, Nat.le_refl _, fun hH B N w0 E w ρ q hq H hρ => ?_⟩
      have h1 := hρ it (by simp [Op.operands])
      rw [hit] at h1
      unfold VR at h1
      obtain ⟨L, hL, ex⟩ := h1
      obtain ⟨m0, mo, m1, m2⟩ := H.blk g L _ hL hg
      subst m2
      refine Out.same (u := .tuple #[.bool false]) H ?_ (by unfold VR; exact ⟨_, rfl, VRL.cons (by unfold VR; rfl) VRL.nil⟩)
      simp only [execOp, hq]
      refine run_v ?_
      rw [ex, m0]
      unfold Instr.next
      simp only [Nat.add_zero]
      rw [Sem.run_bind, run_getObj_iter m1]
      rfl
    · rename_i m since seen last hg
      split at h
      · rename_i es clock hm
        cases hc : (!seen.isEmpty && (!es.isEmpty && allGe last es)) with
        | true => rw [hc] at h; cases h
        | false =>
          rw [hc] at h
          simp only [cond_false] at h
          have start : ∀ {B : Nat} {N : Nat → Prop} {w0 : World} {E : Env} {w : World} {a : Value}, HR B N w0 E M w → VR E (.pt g 0) a → ∃ L K ms, E g = some L ∧ E m = some K ∧ a = .pointer (some ⟨L.g, 0, none⟩) ∧ L.o = 0 ∧ w.heap[L.g]? = some (.mapIter (some K.g) since (List.toArray seen) last) ∧ w.heap[K.g]? = some (.map (List.toArray ms) clock) ∧ EntR E es ms := by
            intro B N w0 E w a H ha
            unfold VR at ha
            obtain ⟨L, hL, rfl⟩ := ha
            obtain ⟨m0, mo, m1, m2⟩ := H.blk g L _ hL hg
            obtain ⟨K, hK, rfl⟩ := m2
            obtain ⟨ms, n1, n2⟩ := H.blk m K _ hK hm
            exact ⟨L, K, ms, hL, hK, by rw [m0], m0, m1, n1, n2⟩
          have guard : ∀ {E : Env} {ms : List MapEntry}, EntR E es ms → (!(List.toArray seen).isEmpty && !(List.toArray ms).isEmpty && (List.toArray ms).all fun e => decide (e.born ≥ last)) = false := by
            intro E ms hE
            have h1 : (List.toArray seen).isEmpty = seen.isEmpty := by cases seen <;> rfl
            have h2 : (List.toArray ms).isEmpty = es.isEmpty := by
              have := hE.len
              cases ms <;> cases es <;> simp at this ⊢
            rw [h1, h2, List.all_toArray, allGe_ok hE, Bool.and_assoc]
            exact hc
          split at h
          · rename_i hleft
            obtain ⟨rfl, rfl⟩ := ret_ok h
            refine ⟨M'.sfx_refl, Nat.le_refl _, fun hH B N w0 E w ρ q hq H hρ => ?_⟩
            have h1 := hρ it (by simp [Op.operands])
            rw [hit] at h1
            obtain ⟨L, K, ms, hL, hK, ex, m0, m1, n1, n2⟩ := start H h1
            have hl := leftC_ok (seen := seen) n2
            rw [hleft] at hl
            unfold EntR at hl
            refine Out.same (u := .tuple #[.bool false]) H ?_ (by unfold VR; exact ⟨_, rfl, VRL.cons (by unfold VR; rfl) VRL.nil⟩)
            simp only [execOp, hq]
            refine run_v ?_
            rw [ex]
            unfold Instr.next
            simp only []
            rw [Sem.run_bind, run_getObj_iter m1, Result.andThen_ok]
            simp only []
            rw [Sem.run_bind, run_getObj_map' n1, Result.andThen_ok]
            have hA : Array.filter (fun e : MapEntry => !(List.toArray seen).contains e.born) (List.toArray ms) = #[] := by
              rw [List.filter_toArray, hl]
            simp only [guard n2, Bool.false_eq_true, if_false, hA]
            simp [choose, Sem.run, Question.forced]
          · rename_i k v n hleft
            cases hn : Nat.blt n since with
            | false => rw [hn] at h; cases h
            | true =>
              rw [hn] at h
              simp only [cond_true, fN_eq, setH_eq, Option.some.injEq, Prod.mk.injEq] at h
              obtain ⟨rfl, rfl⟩ := h
              refine ⟨⟨[], rfl⟩, Nat.le_refl _, fun hH B N w0 E w ρ q hq H hρ => ?_⟩
              have h1 := hρ it (by simp [Op.operands])
              rw [hit] at h1
              obtain ⟨L, K, ms, hL, hK, ex, m0, m1, n1, n2⟩ := start H h1
              have hl := leftC_ok (seen := seen) n2
              rw [hleft] at hl
              unfold EntR at hl
              obtain ⟨e, r, hl, e1, e2, e3, e4⟩ := hl
              unfold EntR at e4
              subst e4
              have hlt : n < since := by simpa using hn
              have hA : Array.filter (fun e : MapEntry => !(List.toArray seen).contains e.born) (List.toArray ms) = #[e] := by
                rw [List.filter_toArray, hl]
              have hb1 : decide (e.born < since) = true := by rw [e3]; simpa using hlt
              have hb2 : decide (e.born ≥ since) = false := by rw [e3]; simp; omega
              have hF1 : Array.filter (fun x : MapEntry => decide (x.born < since)) #[e] = #[e] := by
                rw [show (#[e] : Array MapEntry) = List.toArray [e] from rfl, List.filter_toArray, List.filter_cons, hb1]
                rfl
              have hF2 : Array.filter (fun x : MapEntry => decide (x.born ≥ since)) #[e] = #[] := by
                rw [show (#[e] : Array MapEntry) = List.toArray [e] from rfl, List.filter_toArray, List.filter_cons, hb2]
                rfl
              have hset : ∀ a : Array Nat, (setObj L.g (.mapIter (some K.g) since a clock)).run P w = .ok () (w.putObj L.g (.mapIter (some K.g) since a clock)) := fun a => by simp [setObj, Sem.run, m1, World.putObj]
              refine ⟨E, E.ex_refl, w.putObj L.g (.mapIter (some K.g) since ((List.toArray seen).push e.born) clock), ?_, .inl ⟨.tuple #[.bool true, e.key, e.val], ?_, ?_⟩⟩
              · refine H.upd hL hg rfl (fun c h => by cases h) ⟨rfl, rfl, rfl⟩ (by simp [World.putObj]) (fun k _ hk => World.putObj_heap_other hk) ⟨m0, some K.g, ?_, K, hK, rfl⟩
                rw [World.putObj_heap_same (H.lt g L hL), e3]
                simp
              · simp only [execOp, hq]
                refine run_v ?_
                rw [ex]
                unfold Instr.next
                simp only []
                rw [Sem.run_bind, run_getObj_iter m1, Result.andThen_ok]
                simp only []
                rw [Sem.run_bind, run_getObj_map' n1, Result.andThen_ok]
                simp only [guard n2, Bool.false_eq_true, if_false, hA, hF1, hF2]
                simp only [Array.isEmpty, List.size_toArray, List.length_cons, List.length_nil]
                simp [choose, Sem.run, Question.forced, hset]
              · unfold VR
                exact ⟨_, rfl, VRL.cons (by unfold VR; rfl) (VRL.cons e1 (VRL.cons e2 VRL.nil))⟩
          · cases h
      · cases h
    · cases h
  · cases h
theorem entry_ok {it : Operand} (h : exOp P md ρc (.entry it) M = some (v, M')) : OK P ρc (.entry it) M v M' := by
  simp only [exOp] at h
  split at h
  · rename_i g hit
    unfold entryAt at h
    split at h
    · rename_i m since seen last hg
      split at h
      · rename_i es clock n hm hn
        cases hc : Nat.beq clock last with
        | false => rw [hc] at h; cases h
        | true =>
          rw [hc] at h
          simp only [cond_true] at h
          have hc := Nat.eq_of_beq_eq_true hc
          split at h
          · rename_i i k0 hb
            split at h
            · rename_i k vv nn hi
              obtain ⟨rfl, rfl⟩ := ret_ok h
              refine ⟨M'.sfx_refl, Nat.le_refl _, fun hH B N w0 E w ρ q hq H hρ => ?_⟩
              have h1 := hρ it (by simp [Op.operands])
              rw [hit] at h1
              unfold VR at h1
              obtain ⟨L, hL, ex⟩ := h1
              obtain ⟨m0, mo, m1, m2⟩ := H.blk g L _ hL hg
              obtain ⟨K, hK, rfl⟩ := m2
              obtain ⟨ms, n1, n2⟩ := H.blk m K _ hK hm
              obtain ⟨_, e, b1, b2, b3, b4⟩ := bornAt_ok n2 hb
              simp only [Nat.sub_zero] at b1 b4
              obtain ⟨e', g1, g2, g3, g4⟩ := n2.get hi
              rw [b1] at g1
              cases g1
              refine Out.same (u := .tuple #[e.key, e.val]) H ?_ (by unfold VR; exact ⟨_, rfl, VRL.cons g2 (VRL.cons g3 VRL.nil)⟩)
              simp only [execOp, hq]
              refine run_v ?_
              rw [ex, m0]
              unfold Instr.entry
              simp only [Nat.add_zero]
              rw [Sem.run_bind, run_getObj_iter m1, Result.andThen_ok]
              simp only []
              have hbk : (List.toArray seen).back? = some n := by rw [← hn]; simp
              simp only [hbk]
              rw [Sem.run_bind, run_getObj_map' n1, Result.andThen_ok]
              have hf : (List.toArray ms).find? (fun e => e.born == n) = some e := by
                rw [List.find?_toArray]
                obtain ⟨hlt, hp, hmin⟩ := List.findIdx?_eq_some_iff_getElem.1 b4
                rw [List.find?_eq_some_iff_getElem]
                have he : ms[i] = e := by
                  have := List.getElem?_eq_getElem hlt
                  rw [b1] at this
                  cases this
                  rfl
                refine ⟨by simp; omega, i, hlt, he, fun j hj => ?_⟩
                have := hmin j hj
                simp at this ⊢
                omega
              simp [hc, hf]
            · cases h
          · cases h
      · cases h
    · cases h
  · cases h
theorem run_zT {t : TypeId} {v : CV} (h : zT P t = some v) : ∃ z, (zeroValue t).run P w = .ok z w ∧ VR E v (.tuple #[z, .bool false]) := by
  unfold zT at h
  cases hz : zv P t with
  | none => rw [hz] at h; cases h
  | some z =>
    rw [hz] at h
    cases h
    obtain ⟨i, z', hi, hz1, rfl⟩ := zv_of hz
    refine ⟨z', run_zero hi hz1, ?_⟩
    unfold VR
    exact ⟨[z', .bool false], rfl, VRL.cons (cv_rel E z') (VRL.cons (by unfold VR; rfl) VRL.nil)⟩
theorem typeAssert_ok {a t : TypeId} {x : Operand} {ok : Bool} (h : exOp P md ρc (.typeAssert x a t ok) M = some (v, M')) : OK P ρc (.typeAssert x a t ok) M v M' := by
  simp only [exOp] at h
  cases hc : assC P (ρc x) t ok with
  | none => rw [hc] at h; cases h
  | some u =>
    rw [hc] at h
    obtain ⟨rfl, rfl⟩ := ret_ok h
    refine ok_pure fun E ρ w q hq hρ => ?_
    have hx := hρ x (by simp [Op.operands])
    unfold assC at hc
    split at hc
    · cases hc
    · rename_i d hd hu
      have hni : ∀ ms, d ≠ .interface ms := fun ms e => hd ms e
      split at hc
      · rename_i u0 v0 hxe
        rw [hxe] at hx
        unfold VR at hx
        obtain ⟨y, hy, hv⟩ := hx
        cases hb : Nat.beq u0 t with
        | true =>
          rw [hb, cond_true] at hc
          have := Nat.eq_of_beq_eq_true hb
          subst this
          cases hc
          refine ⟨if ok then .tuple #[y, .bool true] else y, ?_, ?_⟩
          · simp only [execOp, hq]
            refine run_v ?_
            unfold Instr.typeAssert
            rw [Sem.run_bind, run_underlying hu, Result.andThen_ok, hy]
            cases d <;> first | (exact absurd rfl (hni _)) | (simp only [if_true]; cases ok <;> rfl)
          · cases ok
            · simpa using hv
            · simp only [cond_true, if_true]
              unfold VR
              exact ⟨[y, .bool true], rfl, VRL.cons hv (VRL.cons (by unfold VR; rfl) VRL.nil)⟩
        | false =>
          rw [hb, cond_false] at hc
          cases ok with
          | false => cases hc
          | true =>
            rw [cond_true] at hc
            obtain ⟨z, k1, k2⟩ := run_zT (P := P) (E := E) (w := w) hc
            have hne : ¬ u0 = t := Nat.ne_of_beq_eq_false hb
            refine ⟨_, ?_, k2⟩
            simp only [execOp, hq]
            refine run_v ?_
            unfold Instr.typeAssert
            rw [Sem.run_bind, run_underlying hu, Result.andThen_ok, hy]
            cases d <;> first | (exact absurd rfl (hni _)) | (simp only [if_neg hne, if_true]; rw [Sem.run_bind, k1]; rfl)
      · rename_i hxe
        rw [hxe] at hx
        unfold VR at hx
        cases ok with
        | false => cases hc
        | true =>
          rw [cond_true] at hc
          obtain ⟨z, k1, k2⟩ := run_zT (P := P) (E := E) (w := w) hc
          refine ⟨_, ?_, k2⟩
          simp only [execOp, hq]
          refine run_v ?_
          unfold Instr.typeAssert
          rw [Sem.run_bind, run_underlying hu, Result.andThen_ok, hx]
          cases d <;> first | (exact absurd rfl (hni _)) | (simp only [if_true]; rw [Sem.run_bind, k1]; rfl)
      · cases hc
    · cases hc
theorem exOp_ok {o : Op} (h : exOp P md ρc o M = some (v, M')) : OK P ρc o M v M' := by
  cases o with
  | move x => simp only [exOp] at h; obtain ⟨rfl, rfl⟩ := ret_ok h; exact move_ok
  | assign x => simp only [exOp] at h; obtain ⟨rfl, rfl⟩ := ret_ok h; exact assign_ok
  | pick c a b =>
    simp only [exOp] at h
    split at h
    · rename_i y hy; obtain ⟨rfl, rfl⟩ := ret_ok h; exact pick_ok hy
    · cases h
  | alloc t => exact alloc_ok h
  | box t x => exact box_ok h
  | build t ps => exact build_ok h
  | buildSlice t n ps => exact buildSlice_ok h
  | insert t m k x => exact insert_ok h
  | load t x => exact load_ok h
  | store t x y => exact store_ok h
  | nilCheck x =>
    simp only [exOp] at h
    split at h
    · rename_i hx; obtain ⟨rfl, rfl⟩ := ret_ok h; exact nilPt_ok hx
    · rename_i hx; obtain ⟨rfl, rfl⟩ := ret_ok h; exact nilFn_ok hx
    · rename_i hx; obtain ⟨rfl, rfl⟩ := ret_ok h; exact nilYl_ok hx
    · cases h
  | binOp op t x y yt => exact binOp_ok h
  | typeAssert x a t ok => exact typeAssert_ok h
  | unOp op t x => exact unOp_ok h
  | convert a b x => exact convert_ok h
  | makeInterface t x => exact makeIface_ok h
  | makeFunc f a b =>
    cases f with
    | func f => simp only [exOp] at h; obtain ⟨rfl, rfl⟩ := ret_ok h; exact makeFunc_ok
    | _ => simp [exOp] at h
  | makeMap t r => exact makeMap_ok h
  | makeSlice t x y => exact makeSlice_ok h
  | slice t x lo hi mx => exact slice_ok h
  | fieldAddr t x i => exact fieldAddr_ok h
  | field t x i => exact field_ok h
  | indexAddr t x i => exact indexAddr_ok h
  | index t x i => exact index_ok h
  | lookup t x k ok => exact lookup_ok h
  | mapUpdate t m k x => exact mapUpdate_ok h
  | mapEntry t m k => exact mapEntry_ok h
  | entryStore t m s x => exact entryStore_ok h
  | range t x => exact range_ok h
  | next it s => exact next_ok h
  | entry it => exact entry_ok h
  | extract t i =>
    simp only [exOp] at h
    split at h
    · rename_i l ht
      split at h
      · rename_i u hu; obtain ⟨rfl, rfl⟩ := ret_ok h; exact extract_ok ht hu
      · cases h
    · cases h
  | call c =>
    simp only [exOp] at h
    split at h
    · rename_i hc
      split at h
      · rename_i t u m k ht ha; exact delete_ok hc ht ha h
      · cases h
    · rename_i b hb hc; exact builtin_ok hc h
    · cases h
  | _ => simp [exOp] at h
end
end
end Mu.CI
end
section
/-
  A run of code over known values and known memory: regions, control, calls, ranges over functions.
  Conditions: none; generic.
-/
namespace Mu.CI
open Go Go.RowKit
noncomputable section

/-- what is put off: the calls of a loop over a function (its block), or a call -/
inductive DI where
  | lp (d : Nat)
  | cl (g : FuncId) (asx cs : List CV)
abbrev Ds := List DI
/-- a frame: its slots; what is put off, the newest first -/
structure Fr where
  s : Sl
  ds : Ds
inductive Xt where
  | nm
  | ex (id : Nat)
  | gt (l : Nat)
  | rt
structure Lev where
  call : FuncId → List CV → Mem → Res
  yld : Nat → List CV → Mem → Res
  dfr : FuncId → List CV → Mem → Option Mem

/-! ### a region's order -/
/-- 0: it looks at no memory; 1: it reads; 2: it makes new memory; 3: it acts -/
def clsO (P : Program) : Op → Nat
  | .alloc _ | .box .. | .buildSlice .. | .makeSlice .. | .makeMap .. => 2
  | .load .. | .lookup .. | .entry _ => 1
  | .move _ | .assign _ | .pick .. | .nilCheck _ | .binOp .. | .unOp .. | .makeFunc .. | .build .. | .makeInterface .. | .fieldAddr .. | .field .. | .indexAddr .. | .index .. | .extract .. | .typeAssert .. => 0
  | .convert s d _ => bif toBt P s d then 2 else 1
  | .slice .. => 1
  | .call c => (match c.callee with
    | .builtin .len => 1
    | .builtin .min | .builtin .max | .builtin .cap => 0
    | _ => 3)
  | _ => 3
/-- what each waits for, as numbers' bits, transitively -/
def waitsOf (o : Oper) (pre : List Nat) : Nat := o.after.toList.foldl (fun m e => bif Region.binds .any e then Nat.lor m (Nat.lor (2 ^ e.on) ((pre[e.on]?).getD 0)) else m) 0
def preOf : List Oper → List Nat → List Nat
  | [], pre => pre
  | o :: l, pre => preOf l (pre ++ [waitsOf o pre])
def tb (m i : Nat) : Bool := Nat.beq (Nat.mod (Nat.div m (2 ^ i)) 2) 1
/-- how many of some it waits for -/
def cnt (m : Nat) : List Nat → Nat
  | [] => 0
  | f :: l => bif tb m f then cnt m l + 1 else cnt m l
/-- how many of them do not wait for it -/
def cntN (pre : List Nat) (i : Nat) : List Nat → Nat
  | [] => 0
  | f :: l => bif tb ((pre[f]?).getD 0) i then cntN pre i l else cntN pre i l + 1
structure Step where
  i : Nat
  o : Oper
  c : Nat
  lo : Nat
  hi : Nat
def stepsOf (P : Program) (pre fs : List Nat) : List Oper → Nat → List Step
  | [], _ => []
  | o :: l, i => ⟨i, o, clsO P o.op, cnt ((pre[i]?).getD 0) fs, cntN pre i fs⟩ :: stepsOf P pre fs l (i + 1)
def actsOf (P : Program) : List Oper → Nat → List Nat
  | [], _ => []
  | o :: l, i => bif Nat.beq (clsO P o.op) 3 then i :: actsOf P l (i + 1) else actsOf P l (i + 1)
/-- those of a level that do not act; then the one that does -/
def level (k : Nat) : List Step → List Step
  | [] => []
  | p :: l => bif Nat.beq p.lo k && !Nat.beq p.c 3 then p :: level k l else level k l
def actor (k : Nat) : List Step → List Step
  | [] => []
  | p :: l => bif Nat.beq p.lo k && Nat.beq p.c 3 then [p] else actor k l
def planOf (ss : List Step) : Nat → Nat → List Step
  | 0, k => level k ss
  | n + 1, k => level k ss ++ (actor k ss ++ planOf ss n (k + 1))
def plan (P : Program) (l : List Oper) : List Step :=
  let pre := preOf l []
  let fs := actsOf P l 0
  planOf (stepsOf P pre fs l 0) fs.length 0

section
variable {R : Type} (P : Program) (md : Bool) (G n : Nat) (LV : Lev)
def evG (s : Sl) : Operand → CV
  | .global g => bif Nat.blt g G then .pt g 0 else .un
  | x => ev s x
/-- functions that the model itself answers for: which one -/
def nameK (s : String) : Nat := bif decide (s = "maps.clone") then 1 else bif decide (s = "internal/bytealg.IndexByteString") then 2 else bif decide (s = "sync/atomic.LoadUint32") then 3 else bif decide (s = "sync/atomic.StoreUint32") then 4 else bif decide (s = "sync/atomic.CompareAndSwapInt32") then 5 else bif decide (s = "sync/atomic.AddInt32") then 6 else bif decide (s = "internal/race.Disable") then 7 else bif decide (s = "internal/race.Enable") then 8 else bif decide (s = "internal/race.Acquire") then 9 else bif decide (s = "internal/race.ReleaseMerge") then 10 else 0
def extK (g : FuncId) : Nat := match P.funcs[g]? with
  | some fn => bif fn.body.isNone && (decide (fn.origin = "") || decide (fn.origin = fn.name)) then nameK fn.name else 0
  | none => 0
def isExt (g : FuncId) : Bool := !Nat.beq (extK P g) 0
def idxB (c : Nat) : List UInt8 → Nat → Int
  | [], _ => -1
  | b :: l, i => bif Nat.beq b.toNat c then (i : Nat) else idxB c l (i + 1)
def extC (k : Nat) (args : List CV) (M : Mem) : Res := match k, args with
  | 1, [.iv t (.mp m)] => (match M.h.get m with
    | some (.map es clock) => (match M.new (.map es clock) with | some M' => some (.iv t (.mp M.nx), M') | none => none)
    | _ => none)
  | 2, [.st s, .it .u8 c] => bif decide (0 ≤ c) && decide (c < 256) then some (.it .i64 (idxB c.toNat s.data.toList 0), M) else none
  | 3, [.pt g o] => (match M.rd g o 1 with
    | some [.it .u32 n] => some (.it .u32 n, M)
    | _ => none)
  | 4, [.pt g o, .it k n] => (match M.wr false g o [.it k n] with
    | some M' => some (.tu [], M')
    | none => none)
  | 5, [.pt g o, .it .i32 a, .it .i32 b] => (match M.rd g o 1 with
    | some [.it .i32 x] => bif decide (x = a) then (match M.wr false g o [.it .i32 b] with
      | some M' => some (.bo true, M')
      | none => none) else none
    | _ => none)
  | 6, [.pt g o, .it .i32 d] => (match M.rd g o 1 with
    | some [.it .i32 x] => (match M.wr false g o [.it .i32 (IntKind.wrap .i32 (x + d))] with
      | some M' => some (.it .i32 (IntKind.wrap .i32 (x + d)), M')
      | none => none)
    | _ => none)
  | 7, _ => some (.tu [], M)
  | 8, _ => some (.tu [], M)
  | 9, [.pt _ _] => some (.tu [], M)
  | 10, [.pt _ _] => some (.tu [], M)
  | _, _ => none
def extX (g : FuncId) (args : List CV) (M : Mem) : Res := extC (extK P g) args M
def callX (g : FuncId) (args : List CV) (M : Mem) : Res := bif isExt P g then extX P g args M else LV.call g args M
/-- an operation -/
def op1 (ρ : Operand → CV) (o : Op) (M : Mem) : Res := match o with
  | .call c => (match c.callee with
    | .value f => (match ρ f with
      | .fn g q l => callX P LV g (q ++ (c.args.toList.map ρ ++ l)) M
      | .yl g => LV.yld g (c.args.toList.map ρ) M
      | _ => none)
    | _ => exOp P md ρ (.call c) M)
  | o => exOp P md ρ o M
def putK (s : Sl) (d : Option Tmp) (v : CV) (K : Sl → Option R) : Option R := match d with
  | none => K s
  | some d => bif Nat.blt d n then fW md v fun v => s.setK d v K else none
def gdO (ops : Array Oper) (s : Sl) (o : Oper) : Option Bool := match o.guard with
  | none => some true
  | some (j, want) => (match (ops[j]?).bind (·.dst) with
    | some d => (match s.get d with
      | some (.bo y) => some (bif want then y else !y)
      | some .ud => some false
      | none => some false
      | _ => none)
    | none => none)
def stepK (ops : Array Oper) (s : Sl) (o : Oper) (M : Mem) (K : CV → Sl → Mem → Option R) : Option R := match o.guard with
  | none => (match op1 P md LV (evG G s) o.op M with
    | some (v, M) => putK md n s o.dst v fun s => K v s M
    | none => none)
  | some _ => (match gdO ops s o with
    | some b => cnd md b M (fun M => match op1 P md LV (evG G s) o.op M with
        | some (v, M) => putK md n s o.dst v fun s => K v s M
        | none => none)
      (fun M => putK md n s o.dst .ud fun s => K .ud s M)
    | none => none)
def seqR (ops : Array Oper) : List Oper → Sl → Mem → (Sl → Mem → Option R) → Option R
  | [], s, M, K => K s M
  | o :: l, s, M, K => stepK P md G n LV ops s o M fun _ s M => seqR ops l s M K
/-- a step that was taken: its slots, what came of it, the block that it made -/
structure Ev where
  p : Step
  s : Sl
  v : CV
  id : Nat
  nx : Nat
  b : Option RB
open Classical in
def same (v u : CV) : Bool := bif md then decide (v = u) else eqv v u
def eqtO : Option CV → Option CV → Bool
  | none, none => true
  | some x, some y => eqv x y
  | _, _ => false
def eqS : (d : Nat) → S8 CV d → S8 CV d → Bool
  | 0, x, y => eqtO x y
  | d + 1, x, y => N8.casesOn (motive := fun _ => Bool) x fun a0 a1 a2 a3 a4 a5 a6 a7 => N8.casesOn (motive := fun _ => Bool) y fun b0 b1 b2 b3 b4 b5 b6 b7 =>
    eqS d a0 b0 && (eqS d a1 b1 && (eqS d a2 b2 && (eqS d a3 b3 && (eqS d a4 b4 && (eqS d a5 b5 && (eqS d a6 b6 && eqS d a7 b7))))))
def eqt (t u : Tr CV) : Bool := match t, u with
  | ⟨d, t⟩, ⟨d', u⟩ => if h : d' = d then eqS d t (h ▸ u) else false
def eqb : RB → RB → Bool
  | .cells b, .cells c => Nat.beq b.n c.n && (eqvL b.z c.z && eqt b.c c.c)
  | .map [] a, .map [] b => Nat.beq a b
  | .iter none a [] b, .iter none a' [] b' => Nat.beq a a' && Nat.beq b b'
  | .iter (some m) a [] b, .iter (some m') a' [] b' => Nat.beq m m' && (Nat.beq a a' && Nat.beq b b')
  | _, _ => false
open Classical in
def sameB (a b : RB) : Bool := bif md then decide (a = b) else eqb a b
/-- in the plan's order; what was taken, and the memory ahead of each that acts -/
def runD (ops : Array Oper) : List Step → Sl → Mem → List Ev → List Mem → (Sl → Mem → List Ev → List Mem → Option R) → Option R
  | [], s, M, es, Vs, K => K s M es Vs
  | p :: l, s, M, es, Vs, K => stepK P md G n LV ops s p.o M fun v s' M' => runD ops l s' M' (⟨p, s, v, M.nx, M'.nx, M'.h.get M.nx⟩ :: es) (bif Nat.beq p.c 3 then M :: Vs else Vs) K
def allT : List Bool → Bool
  | [] => true
  | c :: l => c && allT l
/-- at another time it comes to the same -/
def atV (e : Ev) (V : Mem) : Bool := bif Nat.beq e.p.c 1 then (match exOp P md (evG G e.s) e.p.o.op ⟨V.h, V.nx, [], V.hn⟩ with
    | some (v, M') => allT M'.ob && same md v e.v
    | none => false)
  else (match V.h.get e.id, e.b with
    | some b', some b => sameB md b' b
    | _, _ => false)
def atVs (e : Ev) : List Mem → Nat → Bool
  | [], _ => true
  | V :: l, k => bif Nat.ble e.p.lo k && Nat.ble k e.p.hi then atV P md G e V && atVs e l (k + 1) else atVs e l (k + 1)
def chkEs (ops : Array Oper) (Vs : List Mem) : List Ev → Bool
  | [] => true
  | e :: es => (bif Nat.beq e.p.c 1 || Nat.beq e.p.c 2 then (match gdO ops e.s e.p.o with
      | some g => !g || atVs P md G e Vs 0
      | none => false) else true) && chkEs ops Vs es
def tmpsOf (ops : Array Oper) (o : Oper) : List Tmp :=
  (match o.guard with | some (j, _) => (match (ops[j]?).bind (·.dst) with | some d => [d] | none => []) | none => []) ++
  o.op.operands.toList.filterMap fun x => match x with | .tmp t => some t | _ => none
/-- one operation against another -/
def okPair (pre : List Nat) (ts : List Tmp) (p : Step) (inD : Bool) (j : Nat) (oj : Oper) (cj qj : Nat) : Bool :=
  let w := tb ((pre[p.i]?).getD 0) j
  let r := tb ((pre[j]?).getD 0) p.i
  (match oj.dst with
    | some t => (match p.o.dst with | some u => !Nat.beq t u | none => true) && (!memN t ts || (bif inD then w else r))
    | none => true) &&
  (!Nat.beq cj 3 || (bif Nat.beq p.c 3 then (bif inD then w else r) else (!Nat.blt qj p.lo || w) && (!Nat.ble p.hi qj || r)))
def okJs (ops : Array Oper) (pre : List Nat) (ts : List Tmp) (p : Step) (D : Nat) : List Step → Bool
  | [] => true
  | q :: l => (Nat.beq q.i p.i || okPair pre ts p (tb D q.i) q.i q.o q.c q.lo) && okJs ops pre ts p D l
/-- a plan that holds: nothing is taken twice; what is read is there in each order or in none -/
def okPl (ops : Array Oper) (pre : List Nat) (all : List Step) : List Step → Nat → Nat → Bool
  | [], D, _ => Nat.beq D (2 ^ ops.size - 1)
  | p :: l, D, k => !tb D p.i && (p.o.after.toList.all (fun e => !Region.binds .any e || (tb D e.on && Nat.blt e.on p.i)) &&
      (Nat.beq p.lo k && (Nat.beq p.c (clsO P p.o.op) && (okJs ops pre (tmpsOf ops p.o) p D all &&
      okPl ops pre all l (Nat.lor D (2 ^ p.i)) (bif Nat.beq p.c 3 then k + 1 else k)))))
def okR (ops : Array Oper) (l : List Step) : Bool   := okPl P ops (preOf ops.toList []) l l 0 0
def drawR (ops : Array Oper) (s : Sl) (M : Mem) (K : Sl → Mem → Option R) : Option R :=
  let pl := plan P ops.toList
  bif okR P ops pl then runD P md G n LV ops pl s M [] [] fun s' M' es Vs => chk md (chkEs P md G ops (M' :: Vs).reverse es) M' fun M' => K s' M' else none
end

section
variable (P : Program) (md : Bool) (G n : Nat) (LV : Lev) (fn : FuncId) (rd : Option Nat) (LF : Nat)
abbrev Ret := Option (Xt × Fr × Mem)
def loopN (step : Fr → Mem → Ret) : Nat → Fr → Mem → Ret := fun n => Nat.rec (motive := fun _ => Fr → Mem → Ret) (fun _ _ => none)
  (fun _ ih f M => match step f M with
    | some (.nm, f, M) => ih f M
    | some (x, f, M) => some (x, f, M)
    | none => none) n
def jumpX : Option Code → Option Xt
  | none => some .nm
  | some .ret => some .rt
  | some (.exit i) => some (.ex i)
  | some (.goto l) => some (.gt l)
  | _ => none
def rngEnd (y : Nat) (s : Sl) (ds : Ds) (M3 : Mem) : Ret := match M3.h.get y with
  | some (.loop fn' s' n' ps' as' bd' st pend d') => (match st with
    | .busy => none
    | _ => (match jumpX pend with
      | some x => M3.h.setK y (.loop fn' s' n' ps' as' bd' .exhausted pend d') fun h => some (x, ⟨s, ds⟩, ⟨h, M3.nx, M3.ob, M3.hn⟩)
      | none => none))
  | _ => none
/-- a region that ends in a call that is put off -/
def isDf (o : Oper) : Bool := match o.op with
  | .defer _ => true
  | _ => false
def lastD : List Oper → Option (List Oper × Oper)
  | [] => none
  | [o] => bif isDf o then some ([], o) else none
  | o :: l => (match lastD l with
    | some (pre, d) => some (o :: pre, d)
    | none => none)
def splitD (rd : Option Nat) (l : List Oper) : Option (List Oper × Oper) := match rd with
  | none => lastD l
  | some _ => none
def dfrI (s : Sl) (o : Oper) : Option DI := match o.op, o.guard, o.dst with
  | .defer c, none, none => (match c.callee with
    | .value f => (match evG G s f with
      | .fn g q l => some (.cl g (q ++ c.args.toList.map (evG G s)) l)
      | _ => none)
    | _ => none)
  | _, _, _ => none
def exC : Code → Fr → Mem → Ret
  | .skip, f, M => some (.nm, f, M)
  | .label _, f, M => some (.nm, f, M)
  | .region _ ops draw, f, M => bif draw then drawR P md G n LV ops f.s M fun s M => some (.nm, ⟨s, f.ds⟩, M)
      else (match splitD rd ops.toList with
        | some (pre, o) => seqR P md G n LV ops pre f.s M fun s M => (match dfrI G s o with
          | some i => some (.nm, ⟨s, i :: f.ds⟩, M)
          | none => none)
        | none => seqR P md G n LV ops ops.toList f.s M fun s M => some (.nm, ⟨s, f.ds⟩, M))
  | .seq a b, f, M => (match exC a f M with
    | some (.nm, f, M) => exC b f M
    | some (x, f, M) => some (x, f, M)
    | none => none)
  | .cond c a b, f, M => (match evG G f.s c with
    | .bo y => cnd md y M (fun M => exC a f M) (fun M => exC b f M)
    | _ => none)
  | .block id c, f, M => (match exC c f M with
    | some (.ex i, f, M) => bif Nat.beq i id then some (.nm, f, M) else some (.ex i, f, M)
    | some (x, f, M) => some (x, f, M)
    | none => none)
  | .loop c, f, M => loopN (fun f M => exC c f M) LF f M
  | .scope c, f, M => (match exC c f M with
    | some (.gt _, _, _) => none
    | some (x, f, M) => some (x, f, M)
    | none => none)
  | .exit i, f, M => some (.ex i, f, M)
  | .goto l, f, M => some (.gt l, f, M)
  | .ret, f, M => some (.rt, f, M)
  | .refuse _, _, _ => none
  | .rangeFunc g ps assign body, f, M => (match evG G f.s g with
    | .fn h q l =>
      (match rd with
      | none => M.new .dfr
      | some _ => some M) |>.bind fun M1 =>
      (match (match rd with
        | none => some (M.nx, DI.lp M.nx :: f.ds)
        | some r => (match M.h.get r with | some (.loop _ _ _ _ _ _ _ _ d) => some (d, f.ds) | _ => none)) with
      | none => none
      | some (d, ds) =>
      (match M1.new (.loop fn f.s n ps assign body .ready none d) with
      | none => none
      | some M2 => (match LV.call h (q ++ (CV.yl M1.nx :: l)) M2 with
        | none => none
        | some (_, M3) => rngEnd M1.nx f.s ds M3)))
    | _ => none)
end

section
variable (P : Program) (md : Bool) (G LF : Nat)
def putAllK {R : Type} : List Tmp → List CV → Nat → Sl → (Sl → Option R) → Option R
  | [], [], _, s, K => K s
  | t :: ts, v :: vs, n, s, K => bif Nat.blt t n then fW md v fun v => s.setK t v fun s => putAllK ts vs n s K else none
  | _, _, _, _, _ => none
def argsK {R : Type} : List CV → Nat → Sl → (Sl → Option R) → Option R
  | [], _, s, K => K s
  | v :: vs, i, s, K => fW md v fun v => s.setK i v fun s => fN (i + 1) fun i => argsK vs i s K
def resC (s : Sl) (M : Mem) : List ResultVar → Option (List CV)
  | [] => some []
  | .tmp t :: r => (match resC s M r with | some l => some ((s.get t).getD .ud :: l) | none => none)
  | .cell a ty :: r => (match (s.get a).getD .ud, sz P ty, resC s M r with
    | .pt g o, some k, some l => (match M.rd g o k with
      | some cs => (match isAg P ty, cs with
        | some true, cs => some (.ag cs :: l)
        | some false, [v] => some (v :: l)
        | _, _ => none)
      | none => none)
    | _, _, _ => none)
/-- the calls that are put off are done: each of a loop's block, of which there are none -/
def closeD (LV : Lev) : Ds → Mem → Option Mem
  | [], M => some M
  | .lp d :: ds, M => (match M.h.get d with
    | some .dfr => M.h.setK d .dead fun h => closeD LV ds ⟨h, M.nx, M.ob, M.hn⟩
    | _ => none)
  | .cl g asx cs :: ds, M => (match LV.dfr g (asx ++ cs) M with
    | some M => closeD LV ds M
    | none => none)
def callC (LV : Lev) (g : FuncId) (args : List CV) (M : Mem) : Res := match P.funcs[g]? with
    | none => none
    | some fn => bif decide (fn.name = "runtime.NumGoroutine") then none else (match fn.body with
      | none => none
      | some c => bif Nat.ble args.length fn.ntmps then argsK md args 0 .e fun s => (match exC P md G fn.ntmps LV g none LF c ⟨s, []⟩ M with
          | some (.nm, f, M) => (match closeD LV f.ds M with
            | some M => (match resC P f.s M fn.results.toList with
              | some [v] => some (v, M)
              | some l => some (.tu l, M)
              | none => none)
            | none => none)
          | some (.rt, f, M) => (match closeD LV f.ds M with
            | some M => (match resC P f.s M fn.results.toList with
              | some [v] => some (v, M)
              | some l => some (.tu l, M)
              | none => none)
            | none => none)
          | _ => none) else none)
/-- a deferred call, of a frame that returns -/
def recO (o : Oper) : Bool := match o.op with
  | .call c => (match c.callee with
    | .builtin .recover => true
    | _ => false)
  | _ => false
def seqS (n : Nat) : List Oper → Sl → Mem → (Sl → Mem → Ret) → Ret
  | [], s, M, K => K s M
  | o :: l, s, M, K => (match o.guard with
    | some _ => none
    | none => bif recO o then putK md n s o.dst .n0 fun s => seqS n l s M K else (match exOp P md (evG G s) o.op M with
      | some (v, M) => putK md n s o.dst v fun s => seqS n l s M K
      | none => none))
def exS (n : Nat) (LV : Lev) (fn : FuncId) : Code → Fr → Mem → Ret
  | .seq a b, f, M => (match exS n LV fn a f M with
    | some (.nm, f, M) => exS n LV fn b f M
    | some (x, f, M) => some (x, f, M)
    | none => none)
  | .region id ops draw, f, M => bif !draw && ops.toList.any recO then seqS P md G n ops.toList f.s M fun s M => some (.nm, ⟨s, f.ds⟩, M)
      else exC P md G n LV fn none LF (.region id ops draw) f M
  | c, f, M => exC P md G n LV fn none LF c f M
def isEnd : Xt → Bool
  | .nm => true
  | .rt => true
  | _ => false
def dfrC (LV : Lev) (g : FuncId) (args : List CV) (M : Mem) : Option Mem := match P.funcs[g]? with
    | none => none
    | some fn => bif decide (fn.name = "runtime.NumGoroutine") then none else (match fn.body with
      | none => none
      | some c => bif Nat.ble args.length fn.ntmps then argsK md args 0 .e fun s => (match exS P md G LF fn.ntmps LV g c ⟨s, []⟩ M with
          | some (x, f, M) => (match f.ds, isEnd x, resC P f.s M fn.results.toList with
            | [], true, some _ => some M
            | _, _, _ => none)
          | none => none) else none)
def pendOf : Xt → Option Code
  | .nm => none
  | .rt => some .ret
  | .ex i => some (.exit i)
  | .gt l => some (.goto l)
def stOf : Xt → LoopState
  | .nm => .ready
  | _ => .done
def isNm : Xt → Bool
  | .nm => true
  | _ => false
def yldC (LV : Lev) (l : Nat) (args : List CV) (M : Mem) : Res := match M.h.get l with
  | some (.loop fn s n ps assign body .ready none d) => putAllK md ps.toList args n s fun s1 =>
    (match exC P md G n LV fn (some l) LF assign ⟨s1, []⟩ M with
    | some (.nm, f, M) => (match M.h.get l with
      | some (.loop fn1 s1 n1 ps1 as1 bd1 .ready none d1) => M.h.setK l (.loop fn1 s1 n1 ps1 as1 bd1 .busy none d1) fun h =>
        (match exC P md G n LV fn (some l) LF body f ⟨h, M.nx, M.ob, M.hn⟩ with
        | some (x, _, M) => (match M.h.get l with
          | some (.loop fn2 s2 n2 ps2 as2 bd2 .busy none d2) => M.h.setK l (.loop fn2 s2 n2 ps2 as2 bd2 (stOf x) (pendOf x) d2) fun h => some (.bo (isNm x), ⟨h, M.nx, M.ob, M.hn⟩)
          | _ => none)
        | none => none)
      | _ => none)
    | _ => none)
  | _ => none
/-- functions that are known otherwise -/
abbrev Lib := FuncId → Option (List CV → Mem → Res)
/-- by what is known of it, or by its code -/
def libC (f : Option (List CV → Mem → Res)) (asx : List CV) (M : Mem) (K : List CV → Mem → Res) : Res := match f with
  | some f => (match f asx M with | some r => some r | none => K asx M)
  | none => K asx M
def lev (X : Lib) : Nat → Lev := fun d => Nat.rec (motive := fun _ => Lev) ⟨fun _ _ _ => none, fun _ _ _ => none, fun _ _ _ => none⟩ (fun _ ih => ⟨fun g asx M => libC (X g) asx M (callC P md G LF ih g), fun l asx M => yldC P md G LF ih l asx M, fun g asx M => dfrC P md G LF ih g asx M⟩) d
end
end
end Mu.CI
end
section
/-
  A run of code over known memory: functions that the model itself answers for.
  Conditions: none; generic.
-/
namespace Mu.CI
open Go Go.RowKit
noncomputable section
set_option linter.unusedVariables false
section
variable {P : Program} {B : Nat} {N : Nat → Prop} {w0 w w' : World} {E E' : Env} {M M' : Mem} {md : Bool} {v : CV}
theorem find_of {fn : Func} {s : String} {e : Array Value → Sem Value} (h : fn.name = s) (e1 : Extern.allGenericRows.lookup s = none) (e2 : Extern.allTypedRows.lookup s = none) (e3 : Extern.allRows.lookup s = some e) : Extern.find fn = some e := by
  unfold Extern.find
  simp only [h, e1, e2, e3]
  rfl
theorem next_of {fn : Func} {s : String} (h : fn.name = s) (ho : fn.origin = "" ∨ fn.origin = fn.name) (e1 : Extern.allNextRows.lookup s = none) : Extern.findNext fn = none := by
  have e2 : Extern.allNextRows.lookup "" = none := by kernel_rfl
  unfold Extern.findNext
  rcases ho with ho | ho
  · simp only [h, ho, e1, e2]; rfl
  · simp only [ho, h, e1]; rfl
theorem run_clone {r : Nat} {es : Array MapEntry} {clock : Nat} (t : TypeId) (hb : w.heap[r]? = some (.map es clock)) :
    (Extern.MapsClone.clone #[.iface t (.map (some r))]).run P w = .ok (.iface t (.map (some w.heap.size))) (w.alloc (.map es clock)) := by
  have e : Extern.MapsClone.clone #[.iface t (.map (some r))] = (getObj r >>= fun o => match o with
      | .map entries clock => do pure (.iface t (.map (some (← newObj (.map entries clock)))))
      | _ => stuck "maps.clone: a map expected") := rfl
  rw [e, Sem.run_bind, run_getObj_map' hb, Result.andThen_ok]
  simp [newObj, Sem.run]
/-- what such a function does, of known values -/
def ExtP (P : Program) (e : Array Value → Sem Value) (args : List CV) (M : Mem) (v : CV) (M' : Mem) : Prop := M.sfx M' ∧ M.nx ≤ M'.nx ∧ ∀ (B : Nat) (N : Nat → Prop) (w0 : World) (E : Env) (w : World) (vs : List Value),
    HR B N w0 E M w → VRL E args vs → ∃ u w' E', (e vs.toArray).run P w = .ok u w' ∧ Env.ex M.nx E E' ∧ HR B N w0 E' M' w' ∧ VR E' v u
theorem vrl1 {x : CV} {vs : List Value} (h : VRL E [x] vs) : ∃ u, vs = [u] ∧ VR E x u := by
  unfold VRL at h
  obtain ⟨u, r, rfl, hu, hr⟩ := h
  unfold VRL at hr
  subst hr
  exact ⟨u, rfl, hu⟩
theorem vrl2 {x y : CV} {vs : List Value} (h : VRL E [x, y] vs) : ∃ u v, vs = [u, v] ∧ VR E x u ∧ VR E y v := by
  unfold VRL at h
  obtain ⟨u, r, rfl, hu, hr⟩ := h
  obtain ⟨v, rfl, hv⟩ := vrl1 hr
  exact ⟨u, v, rfl, hu, hv⟩
theorem vrl3 {x y z : CV} {vs : List Value} (h : VRL E [x, y, z] vs) : ∃ u v t, vs = [u, v, t] ∧ VR E x u ∧ VR E y v ∧ VR E z t := by
  unfold VRL at h
  obtain ⟨u, r, rfl, hu, hr⟩ := h
  obtain ⟨v, t, rfl, hv, ht⟩ := vrl2 hr
  exact ⟨u, v, t, rfl, hu, hv, ht⟩
theorem clone_ext {t : TypeId} {m : Nat} (h : extC 1 [.iv t (.mp m)] M = some (v, M')) : ExtP P Extern.MapsClone.clone [.iv t (.mp m)] M v M' := by
  simp only [extC] at h
  split at h
  · rename_i es clock hm
    rw [Mem.new_eq] at h
    simp only [Option.some.injEq, Prod.mk.injEq] at h
    obtain ⟨rfl, rfl⟩ := h
    refine ⟨⟨[], rfl⟩, Nat.le_succ _, fun B N w0 E w vs H hv => ?_⟩
    obtain ⟨u, rfl, hu⟩ := vrl1 hv
    unfold VR at hu
    obtain ⟨u', rfl, hu'⟩ := hu
    unfold VR at hu'
    obtain ⟨L, hL, rfl⟩ := hu'
    obtain ⟨ms, h1, h2⟩ := H.blk m L _ hL hm
    obtain ⟨k1, k2⟩ := H.new (b := .map es clock) (L := ⟨w.heap.size, 0, 0⟩) (below_alloc w (.map ms.toArray clock)) (Nat.le_refl _) (by show _ < (w.alloc (.map ms.toArray clock)).heap.size; rw [alloc_size]; exact Nat.lt_succ_self _) (fun c h => by cases h) fun E' hE hn => ⟨ms, alloc_get _ _, h2.mono hE⟩
    refine ⟨.iface t (.map (some w.heap.size)), _, _, run_clone t h1, k1, k2, ?_⟩
    unfold VR
    refine ⟨_, rfl, ?_⟩
    unfold VR
    exact ⟨_, Env.set_self, rfl⟩
  · cases h
theorem find_range {p : Nat → Bool} : ∀ (n a : Nat), (List.range' a n).find? p = (match (List.range n).find? fun i => p (a + i) with | some i => some (a + i) | none => none) := by
  intro n a
  rw [List.range'_eq_map_range, List.find?_map]
  cases h : (List.range n).find? (p ∘ fun i => a + i) with
  | none =>
    have : ((List.range n).find? fun i => p (a + i)) = none := h
    rw [this]; rfl
  | some i =>
    have : ((List.range n).find? fun i => p (a + i)) = some i := h
    rw [this]; rfl
theorem idxB_eq (c : Nat) : ∀ (l : List UInt8) (i : Nat), idxB c l i = (match l.findIdx? (fun b => Nat.beq b.toNat c) with | some k => ((i + k : Nat) : Int) | none => -1)
  | [], i => rfl
  | b :: l, i => by
    unfold idxB
    rw [List.findIdx?_cons]
    cases Nat.beq b.toNat c with
    | true => simp
    | false =>
      rw [cond_false, idxB_eq c l (i + 1)]
      simp only [Bool.false_eq_true, if_false]
      cases l.findIdx? (fun b => Nat.beq b.toNat c) with
      | none => rfl
      | some k => simp only [Option.map_some]; congr 1; omega
def getP {α : Type} (p : α → Bool) (l : List α) (i : Nat) : Bool := match l[i]? with
  | some x => p x
  | none => false
theorem find_idx {α : Type} (p : α → Bool) : ∀ (l : List α), (List.range l.length).find? (getP p l) = l.findIdx? p
  | [] => rfl
  | x :: l => by
    rw [List.length_cons, List.range_succ_eq_map, List.find?_cons, List.findIdx?_cons]
    have h0 : getP p (x :: l) 0 = p x := rfl
    rw [h0]
    cases p x with
    | true => rfl
    | false =>
      simp only [Bool.false_eq_true, if_false]
      rw [List.find?_map, ← find_idx p l]
      rfl
theorem find_congr {α : Type} {p q : α → Bool} : ∀ {l : List α}, (∀ x ∈ l, p x = q x) → l.find? p = l.find? q
  | [], _ => rfl
  | x :: l, h => by
    rw [List.find?_cons, List.find?_cons, h x (by simp), find_congr fun y hy => h y (by simp [hy])]
theorem firstIdx_eq (s : ByteArray) (c : Int) (h : 0 ≤ c ∧ c < 256) : firstIdx s c.toNat.toUInt8 = idxB c.toNat s.data.toList 0 := by
  rw [idxB_eq, ← find_idx]
  unfold firstIdx
  have hl : s.data.toList.length = s.size := by simp
  have e : (List.range s.size).find? (fun i => s[i]! == c.toNat.toUInt8) = (List.range s.size).find? (getP (fun b => Nat.beq b.toNat c.toNat) s.data.toList) := by
    refine find_congr fun i hi => ?_
    have hi : i < s.size := List.mem_range.1 hi
    have h1 : s[i]! = s.data[i]'hi := by
      rw [getElem!_pos s i hi]
      rfl
    unfold getP
    rw [h1, Array.getElem?_toList, Array.getElem?_eq_getElem hi]
    simp only
    rw [Bool.eq_iff_iff, beq_iff_eq, Nat.beq_eq]
    constructor
    · intro e
      rw [e]
      show (UInt8.ofNat c.toNat).toNat = _
      rw [UInt8.toNat_ofNat']
      omega
    · intro e
      apply UInt8.toNat_inj.mp
      rw [e]
      show _ = (UInt8.ofNat c.toNat).toNat
      rw [UInt8.toNat_ofNat']
      omega
  rw [e, hl]
  cases (List.range s.size).find? (getP (fun b => Nat.beq b.toNat c.toNat) s.data.toList) with
  | none => rfl
  | some k => simp
theorem index_ext {s : ByteArray} {c : Int} (h : extC 2 [.st s, .it .u8 c] M = some (v, M')) : ExtP P Extern.BytealgIndexByte.indexByte [.st s, .it .u8 c] M v M' := by
  simp only [extC] at h
  cases hb : decide (0 ≤ c) && decide (c < 256) with
  | false => rw [hb] at h; cases h
  | true =>
    rw [hb] at h
    simp only [cond_true, Option.some.injEq, Prod.mk.injEq] at h
    obtain ⟨rfl, rfl⟩ := h
    simp only [Bool.and_eq_true, decide_eq_true_eq] at hb
    refine ⟨M.sfx_refl, Nat.le_refl _, fun B N w0 E w vs H hv => ?_⟩
    obtain ⟨u, u2, rfl, hu, hu2⟩ := vrl2 hv
    unfold VR at hu hu2
    subst hu hu2
    exact ⟨_, w, E, run_indexByte_string s c w, E.ex_refl, H, by unfold VR; rw [firstIdx_eq s c hb]⟩
theorem read1 (H : HR B N w0 E M w) {g o : Nat} {L : Loc} {k : IntKind} {n : Int} (hg : E g = some L) (hr : M.rd g o 1 = some [.it k n]) : w.cell? ⟨L.g, L.o + o, none⟩ = some (.int k n) := by
  obtain ⟨vs, h1, h2, h3, h4⟩ := rd_ok H hg hr
  obtain ⟨u, rfl, hu⟩ := vrl1 h1
  unfold VR at hu
  subst hu
  exact h3 0 _ rfl
theorem write1 (H : HR B N w0 E M w) {g o : Nat} {L : Loc} {k : IntKind} {n : Int} (hg : E g = some L) (hr : M.wr false g o [.it k n] = some M') :
    (∀ m, (store ⟨L.g, L.o + o, none⟩ (.int k n) m).run P w = .ok () (w.setCell ⟨L.g, L.o + o, none⟩ (.int k n))) ∧ w.frozen? ⟨L.g, L.o + o, none⟩ = false ∧ HR B N w0 E M' (w.setCell ⟨L.g, L.o + o, none⟩ (.int k n)) ∧ M'.nx = M.nx ∧ M.sfx M' := by
  obtain ⟨j1, j2, j3, j4, j5⟩ := wr_ok (vs := [.int k n]) H hg hr (VRL.cons (by unfold VR; rfl) VRL.nil) (fun v hv => by rcases List.mem_singleton.1 hv with rfl; rfl)
  have a1 := j1 0 (by simp)
  have a2 := j2 0 (by simp)
  simp only [Nat.add_zero] at a1 a2
  refine ⟨fun m => ?_, a2, j3, j4, j5⟩
  cases hc : w.cell? ⟨L.g, L.o + o, none⟩ with
  | none => rw [hc] at a1; cases a1
  | some u => simp [store, Sem.run, hc, a2]
theorem load_ext {g o : Nat} (h : extC 3 [.pt g o] M = some (v, M')) : ExtP P (Extern.Atomic.loadT (.int .u32)) [.pt g o] M v M' := by
  simp only [extC] at h
  split at h
  · rename_i n hr
    cases h
    refine ⟨M.sfx_refl, Nat.le_refl _, fun B N w0 E w vs H hv => ?_⟩
    obtain ⟨u, rfl, hu⟩ := vrl1 hv
    unfold VR at hu
    obtain ⟨L, hL, rfl⟩ := hu
    have hc := read1 H hL hr
    refine ⟨.int .u32 n, w, E, ?_, E.ex_refl, H, by unfold VR; rfl⟩
    show (do Extern.Atomic.read (.int .u32) (← asAddr (.pointer (some ⟨L.g, L.o + o, none⟩))) : Sem Value).run P w = _
    simp [asAddr, Extern.Atomic.read, load, Sem.run, hc]
  · cases h
theorem store_ext {g o : Nat} {k : IntKind} {n : Int} (h : extC 4 [.pt g o, .it k n] M = some (v, M')) : ExtP P Extern.Atomic.storeT [.pt g o, .it k n] M v M' := by
  simp only [extC] at h
  split at h
  · rename_i M1 hr
    cases h
    have hs := wr_sfx hr
    refine ⟨hs.1, Nat.le_of_eq hs.2.1.symm, fun B N w0 E w vs H hv => ?_⟩
    obtain ⟨u, u2, rfl, hu, hu2⟩ := vrl2 hv
    unfold VR at hu hu2
    obtain ⟨L, hL, rfl⟩ := hu
    subst hu2
    obtain ⟨k1, _, k3, _, _⟩ := write1 (P := P) H hL hr
    refine ⟨.tuple #[], _, E, ?_, E.ex_refl, k3, by unfold VR; exact ⟨[], rfl, VRL.nil⟩⟩
    show (do store (← asAddr (.pointer (some ⟨L.g, L.o + o, none⟩))) (.int k n) .atomic; pure Extern.Atomic.none_ : Sem Value).run P w = _
    rw [Sem.run_bind]
    simp only [asAddr, Sem.run_pure, Result.andThen_ok]
    rw [Sem.run_bind, k1]
    rfl
  · cases h
theorem cas_ext {g o : Nat} {a b : Int} (h : extC 5 [.pt g o, .it .i32 a, .it .i32 b] M = some (v, M')) : ExtP P (Extern.Atomic.casT (.int .i32)) [.pt g o, .it .i32 a, .it .i32 b] M v M' := by
  simp only [extC] at h
  split at h
  · rename_i x hr
    cases hx : decide (x = a) with
    | true =>
      rw [hx, cond_true] at h
      have hxa := of_decide_eq_true hx
      subst hxa
      split at h
      · rename_i M1 hw
        cases h
        have hs := wr_sfx hw
        refine ⟨hs.1, Nat.le_of_eq hs.2.1.symm, fun B N w0 E w vs H hv => ?_⟩
        obtain ⟨u, u2, u3, rfl, hu, hu2, hu3⟩ := vrl3 hv
        unfold VR at hu hu2 hu3
        obtain ⟨L, hL, rfl⟩ := hu
        subst hu2 hu3
        obtain ⟨j1, j2, j3, _, _⟩ := write1 (P := P) H hL hw
        have hc := read1 H hL hr
        exact ⟨.bool true, _, E, Conc.run_cas_hit_entry hc j2, E.ex_refl, j3, by unfold VR; rfl⟩
      · cases h
    | false =>
      rw [hx, cond_false] at h
      cases h
  · cases h
theorem add_ext {g o : Nat} {d : Int} (h : extC 6 [.pt g o, .it .i32 d] M = some (v, M')) : ExtP P (Extern.Atomic.update (Op.intArith .add) .i32 true) [.pt g o, .it .i32 d] M v M' := by
  simp only [extC] at h
  split at h
  · rename_i x hr
    split at h
    · rename_i M1 hw
      cases h
      have hs := wr_sfx hw
      refine ⟨hs.1, Nat.le_of_eq hs.2.1.symm, fun B N w0 E w vs H hv => ?_⟩
      obtain ⟨u, u2, rfl, hu, hu2⟩ := vrl2 hv
      unfold VR at hu hu2
      obtain ⟨L, hL, rfl⟩ := hu
      subst hu2
      have hc := read1 H hL hr
      obtain ⟨j1, j2, j3, _, _⟩ := write1 (P := P) H hL hw
      exact ⟨.int .i32 (IntKind.wrap .i32 (x + d)), _, E, Conc.run_add_entry hc j2, E.ex_refl, j3, by unfold VR; rfl⟩
    · cases h
  · cases h
theorem race_ext {e : Array Value → Sem Value} {args : List CV} (he : ∀ (vs : Array Value) (w : World), (e vs).run P w = .ok (.tuple #[]) w) : ExtP P e args M (.tu []) M :=
  ⟨M.sfx_refl, Nat.le_refl _, fun B N w0 E w vs H hv => ⟨.tuple #[], w, E, he _ _, E.ex_refl, H, by unfold VR; exact ⟨[], rfl, VRL.nil⟩⟩⟩
theorem mark_ext {m : Addr → Mark} {g o : Nat} : ExtP P (Extern.Race.marked m) [.pt g o] M (.tu []) M :=
  ⟨M.sfx_refl, Nat.le_refl _, fun B N w0 E w vs H hv => by
    obtain ⟨u, rfl, hu⟩ := vrl1 hv
    unfold VR at hu
    obtain ⟨L, hL, rfl⟩ := hu
    exact ⟨.tuple #[], w, E, by simp [Extern.Race.marked, Extern.Race.at_, Extern.Race.none_, mark, Sem.run], E.ex_refl, H, by unfold VR; exact ⟨[], rfl, VRL.nil⟩⟩⟩
theorem ext1_args {args : List CV} (h : extC 1 args M = some (v, M')) : ∃ t m, args = [.iv t (.mp m)] := by
  match args, h with
  | [.iv t (.mp m)], _ => exact ⟨t, m, rfl⟩
theorem ext2_args {args : List CV} (h : extC 2 args M = some (v, M')) : ∃ s c, args = [.st s, .it .u8 c] := by
  match args, h with
  | [.st s, .it .u8 c], _ => exact ⟨s, c, rfl⟩
theorem ext3_args {args : List CV} (h : extC 3 args M = some (v, M')) : ∃ g o, args = [.pt g o] := by
  match args, h with
  | [.pt g o], _ => exact ⟨g, o, rfl⟩
theorem ext4_args {args : List CV} (h : extC 4 args M = some (v, M')) : ∃ g o k n, args = [.pt g o, .it k n] := by
  match args, h with
  | [.pt g o, .it k n], _ => exact ⟨g, o, k, n, rfl⟩
theorem ext5_args {args : List CV} (h : extC 5 args M = some (v, M')) : ∃ g o a b, args = [.pt g o, .it .i32 a, .it .i32 b] := by
  match args, h with
  | [.pt g o, .it .i32 a, .it .i32 b], _ => exact ⟨g, o, a, b, rfl⟩
theorem ext6_args {args : List CV} (h : extC 6 args M = some (v, M')) : ∃ g o d, args = [.pt g o, .it .i32 d] := by
  match args, h with
  | [.pt g o, .it .i32 d], _ => exact ⟨g, o, d, rfl⟩
theorem ext9_args {args : List CV} (h : extC 9 args M = some (v, M')) : ∃ g o, args = [.pt g o] ∧ v = .tu [] ∧ M' = M := by
  match args, h with
  | [.pt g o], h => cases h; exact ⟨g, o, rfl, rfl, rfl⟩
theorem ext10_args {args : List CV} (h : extC 10 args M = some (v, M')) : ∃ g o, args = [.pt g o] ∧ v = .tu [] ∧ M' = M := by
  match args, h with
  | [.pt g o], h => cases h; exact ⟨g, o, rfl, rfl, rfl⟩
theorem nameK_of {s : String} {k : Nat} (h : nameK s = k) : (k = 1 ∧ s = "maps.clone") ∨ (k = 2 ∧ s = "internal/bytealg.IndexByteString") ∨ (k = 3 ∧ s = "sync/atomic.LoadUint32") ∨ (k = 4 ∧ s = "sync/atomic.StoreUint32") ∨ (k = 5 ∧ s = "sync/atomic.CompareAndSwapInt32") ∨ (k = 6 ∧ s = "sync/atomic.AddInt32") ∨
    (k = 7 ∧ s = "internal/race.Disable") ∨ (k = 8 ∧ s = "internal/race.Enable") ∨ (k = 9 ∧ s = "internal/race.Acquire") ∨ (k = 10 ∧ s = "internal/race.ReleaseMerge") ∨ k = 0 := by
  unfold nameK at h
  simp only [Bool.cond_decide] at h
  repeat (split at h; · (rename_i hs; subst h; simp [hs]))
  subst h
  simp
theorem ext_ok {g : FuncId} {args : List CV} (hE : isExt P g = true) (h : extX P g args M = some (v, M')) : M.sfx M' ∧ M.nx ≤ M'.nx ∧ ∀ (B : Nat) (N : Nat → Prop) (w0 : World) (E : Env) (w : World) (vs : List Value),
    HR B N w0 E M w → VRL E args vs → ∃ u w' E', (callFunc g vs.toArray).run P w = .ok (.value u) w' ∧ Env.ex M.nx E E' ∧ HR B N w0 E' M' w' ∧ VR E' v u := by
  unfold extX at h
  unfold isExt at hE
  have hk : extK P g ≠ 0 := fun e => by rw [e] at hE; cases hE
  clear hE
  unfold extK at h hk
  cases hf : P.funcs[g]? with
  | none => rw [hf] at hk; exact absurd rfl hk
  | some fn =>
    rw [hf] at h hk
    simp only at h hk
    cases hc : fn.body.isNone && (decide (fn.origin = "") || decide (fn.origin = fn.name)) with
    | false => rw [hc] at hk; exact absurd rfl hk
    | true =>
      rw [hc] at h hk
      simp only [cond_true] at h hk
      simp only [Bool.and_eq_true, Bool.or_eq_true, decide_eq_true_eq] at hc
      obtain ⟨hb, ho⟩ := hc
      have fin : ∀ (s : String) (e : Array Value → Sem Value), fn.name = s → (s == "runtime.NumGoroutine") = false → Extern.allGenericRows.lookup s = none → Extern.allTypedRows.lookup s = none → Extern.allRows.lookup s = some e → Extern.allNextRows.lookup s = none → ExtP P e args M v M' →
          M.sfx M' ∧ M.nx ≤ M'.nx ∧ ∀ (B : Nat) (N : Nat → Prop) (w0 : World) (E : Env) (w : World) (vs : List Value),
          HR B N w0 E M w → VRL E args vs → ∃ u w' E', (callFunc g vs.toArray).run P w = .ok (.value u) w' ∧ Env.ex M.nx E E' ∧ HR B N w0 E' M' w' ∧ VR E' v u := by
        intro s e hs hg e1 e2 e3 e4 hP
        obtain ⟨p1, p2, p3⟩ := hP
        refine ⟨p1, p2, fun B N w0 E w vs H hv => ?_⟩
        obtain ⟨u, w', E', q1, q2, q3, q4⟩ := p3 B N w0 E w vs H hv
        refine ⟨u, w', E', ?_, q2, q3, q4⟩
        rw [run_callFunc_extern hf (by rw [hs]; exact hg) hb (next_of hs ho e4) (find_of hs e1 e2 e3), q1]
        rfl
      obtain ⟨k, hkk⟩ : ∃ k, nameK fn.name = k := ⟨_, rfl⟩
      rw [hkk] at h hk
      rcases nameK_of hkk with ⟨rfl, hs⟩ | ⟨rfl, hs⟩ | ⟨rfl, hs⟩ | ⟨rfl, hs⟩ | ⟨rfl, hs⟩ | ⟨rfl, hs⟩ | ⟨rfl, hs⟩ | ⟨rfl, hs⟩ | ⟨rfl, hs⟩ | ⟨rfl, hs⟩ | rfl
      · refine fin _ Extern.MapsClone.clone hs rfl (by kernel_rfl) (by kernel_rfl) (by kernel_rfl) (by kernel_rfl) ?_
        obtain ⟨t, m, rfl⟩ := ext1_args h
        exact clone_ext h
      · refine fin _ Extern.BytealgIndexByte.indexByte hs rfl (by kernel_rfl) (by kernel_rfl) (by kernel_rfl) (by kernel_rfl) ?_
        obtain ⟨t, m, rfl⟩ := ext2_args h
        exact index_ext h
      · refine fin _ (Extern.Atomic.loadT (.int .u32)) hs rfl (by kernel_rfl) (by kernel_rfl) (by kernel_rfl) (by kernel_rfl) ?_
        obtain ⟨t, m, rfl⟩ := ext3_args h
        exact load_ext h
      · refine fin _ Extern.Atomic.storeT hs rfl (by kernel_rfl) (by kernel_rfl) (by kernel_rfl) (by kernel_rfl) ?_
        obtain ⟨t, m, k, n, rfl⟩ := ext4_args h
        exact store_ext h
      · refine fin _ (Extern.Atomic.casT (.int .i32)) hs rfl (by kernel_rfl) (by kernel_rfl) (by kernel_rfl) (by kernel_rfl) ?_
        obtain ⟨t, m, k, n, rfl⟩ := ext5_args h
        exact cas_ext h
      · refine fin _ (Extern.Atomic.update (Op.intArith .add) .i32 true) hs rfl (by kernel_rfl) (by kernel_rfl) (by kernel_rfl) (by kernel_rfl) ?_
        obtain ⟨t, m, k, rfl⟩ := ext6_args h
        exact add_ext h
      · refine fin _ (fun _ => do Go.mark .disable; pure Extern.Race.none_) hs rfl (by kernel_rfl) (by kernel_rfl) (by kernel_rfl) (by kernel_rfl) ?_
        have h : some (CV.tu [], M) = some (v, M') := h
        cases h
        exact race_ext fun _ _ => rfl
      · refine fin _ (fun _ => do Go.mark .enable; pure Extern.Race.none_) hs rfl (by kernel_rfl) (by kernel_rfl) (by kernel_rfl) (by kernel_rfl) ?_
        have h : some (CV.tu [], M) = some (v, M') := h
        cases h
        exact race_ext fun _ _ => rfl
      · refine fin _ (Extern.Race.marked .acquire) hs rfl (by kernel_rfl) (by kernel_rfl) (by kernel_rfl) (by kernel_rfl) ?_
        obtain ⟨t, m, rfl, rfl, rfl⟩ := ext9_args h
        exact mark_ext
      · refine fin _ (Extern.Race.marked .releaseMerge) hs rfl (by kernel_rfl) (by kernel_rfl) (by kernel_rfl) (by kernel_rfl) ?_
        obtain ⟨t, m, rfl, rfl, rfl⟩ := ext10_args h
        exact mark_ext
      · exact absurd rfl hk
end
end
end Mu.CI
end
section
/-
  A run of code over known memory: what a frame is; fences; operations that call.
  Conditions: none; generic.
-/
namespace Mu.CI
open Go Go.RowKit
noncomputable section
set_option linter.unusedVariables false

section
variable {P : Program} {l n : Nat}
theorem callsIn_of {f : FuncId} {args : Array Value} {w : World} {R : Ending → World → Prop} (h : Calls P f args w R) : CallsIn (Fence.wide.inRound l) n P f args w R :=
  CallsIn.inRound l (callsIn_wide.2 h)

/-- no bounds; in a round, or not -/
def fnc : Option Nat → Fence
  | none => Fence.wide
  | some l => Fence.wide.inRound l
theorem fnc_fn (rd : Option Nat) (f : FuncId) : (fnc rd).fn f := by cases rd <;> trivial
theorem fnc_room (rd : Option Nat) (n : Nat) : (fnc rd).room n := by cases rd <;> exact fun _ h => by simp [fnc, Fence.wide, Fence.inRound] at h
theorem fnc_depth (rd : Option Nat) : (fnc rd).depth = none := by cases rd <;> rfl
theorem fnc_n {rd : Option Nat} {n m : Nat} {c : Code} {Q : Exit → Act → World → Prop} {a : Act} {w : World} (h : c.wpIn (fnc rd) n P Q a w) : c.wpIn (fnc rd) m P Q a w := fun b k cs h1 h2 _ => h b k cs h1 h2 (fnc_room _ _)
theorem fnc_calls {rd : Option Nat} {n : Nat} {f : FuncId} {args : Array Value} {w : World} {R : Ending → World → Prop} (h : Calls P f args w R) : CallsIn (fnc rd) n P f args w R := by
  cases rd with
  | none => exact callsIn_wide.2 h
  | some l => exact callsIn_of h
theorem wpIn_scope_straight {F : Fence} {n : Nat} {c : Code} {Q : Exit → Act → World → Prop} {a : Act} {w : World} (h : c.wpIn F n P (Exit.noGoto Q) a w) : (Code.scope c).wpIn F n P Q a w := by
  intro b k cs hro hb hr
  obtain ⟨e, a₁, w₁, hq, harr⟩ := h b (.inScope c :: k) cs hro hb hr
  have h0 : (lone (b.atR a (.code (.scope c) :: k)) cs w).fenced P F := fenced_calm hb hr rfl
  have s0 : step P (lone (b.atR a (.code (.scope c) :: k)) cs w) = .next (lone (b.atR a (.code c :: .inScope c :: k)) cs w) := step_lone_go (by simp [stepG, stepG.exec, Frame.atR])
  have s1 : step P (lone (b.atR a₁ (.inScope c :: k)) cs w₁) = .next (lone (b.atR a₁ k) cs w₁) := step_lone_go (by simp [stepG, stepG.exec, Frame.atR])
  have h1 : (lone (b.atR a₁ (.inScope c :: k)) cs w₁).fenced P F := fenced_calm hb hr rfl
  cases e with
  | normal => exact ⟨.normal, a₁, w₁, hq, .head h0 s0 (StepsIn.trans harr (.one h1 s1))⟩
  | exit id =>
    refine ⟨.exit id, a₁, w₁, hq, fun k' hk => .head h0 s0 (harr.1 k' (by simp [exitTo, hk])), fun hr' hk => ?_⟩
    obtain ⟨k₁, h2, h3⟩ := harr.2 hr' (by simp [exitTo, hk])
    exact ⟨k₁, h2, .head h0 s0 h3⟩
  | goto l => exact hq.elim
  | ret => exact ⟨_, a₁, w₁, hq, .of_steps (.one h0 s0) harr⟩
  | panic ch => exact ⟨_, a₁, w₁, hq, .of_steps (.one h0 s0) harr⟩
  | outgrown => exact ⟨_, a₁, w₁, hq, .of_steps (.one h0 s0) harr⟩

end
def xOf : Xt → Exit
  | .nm => .normal
  | .ex i => .exit i
  | .gt l => .goto l
  | .rt => .ret
def DfR (E : Env) : Ds → List Deferred → Prop
  | [], l => l = []
  | .lp d :: ds, l => ∃ L r, E d = some L ∧ l = { target := .collected L.g, args := #[] } :: r ∧ DfR E ds r
  | .cl g asx cs :: ds, l => ∃ (vs us : List Value) (r : List Deferred), VRL E asx vs ∧ VRL E cs us ∧ l = { target := .fn (.func g) us.toArray, args := vs.toArray } :: r ∧ DfR E ds r
def GR (E : Env) (G : Nat) : Prop := ∀ g, g < G → ∃ L, E g = some L ∧ L.g = g ∧ L.o = 0
def RdR (E : Env) : Option Nat → Option Nat → Prop
  | none, none => True
  | some r, some l => ∃ L, E r = some L ∧ L.g = l
  | _, _ => False
structure AR (E : Env) (n : Nat) (f : Fr) (a : Act) : Prop where
  sl : SlotsR E f.s a.tmps
  sz : a.tmps.size = n
  df : DfR E f.ds a.defers
section
variable {P : Program} {B : Nat} {N : Nat → Prop} {w0 w w' : World} {E E' : Env} {M M' : Mem} {md : Bool} {G n : Nat} {f : Fr} {a : Act} {s : Sl}
theorem DfR.mono (h : E.le E') : ∀ {ds : Ds} {l : List Deferred}, DfR E ds l → DfR E' ds l
  | [], _, H => H
  | .lp d :: ds, _, ⟨L, r, h1, h2, h3⟩ => ⟨L, r, h _ _ h1, h2, DfR.mono h h3⟩
  | .cl g asx cs :: ds, _, ⟨vs, us, r, h1, h2, h3, h4⟩ => ⟨vs, us, r, h1.mono h, h2.mono h, h3, DfR.mono h h4⟩
theorem GR.mono (h : E.le E') (H : GR E G) : GR E' G := fun g hg => let ⟨L, h1, h2⟩ := H g hg; ⟨L, h _ _ h1, h2⟩
theorem RdR.mono (h : E.le E') : ∀ {r l : Option Nat}, RdR E r l → RdR E' r l
  | none, none, _ => trivial
  | some _, some _, ⟨L, h1, h2⟩ => ⟨L, h _ _ h1, h2⟩
  | none, some _, H => H.elim
  | some _, none, H => H.elim
theorem SlotsR.mono (h : E.le E') (H : SlotsR E s a.tmps) : SlotsR E' s a.tmps := fun k => (H k).mono h
theorem AR.mono (h : E.le E') (H : AR E n f a) : AR E' n f a := ⟨fun k => (H.sl k).mono h, H.sz, H.df.mono h⟩
theorem ud_rel (E : Env) : VR E .ud undef := by unfold VR; rfl
theorem evG_ok (H : SlotsR E s a.tmps) (HG : GR E G) (x : Operand) : VR E (evG G s x) (a.eval x) := by
  cases x with
  | tmp i =>
    have h : evG G s (.tmp i) = (s.get i).getD .ud := by
      show (match s.get i with | some v => v | none => CV.ud) = _
      cases s.get i <;> rfl
    rw [h]
    exact H i
  | const v => exact cv_rel E v
  | global g =>
    show VR E (bif Nat.blt g G then .pt g 0 else .un) _
    cases hb : Nat.blt g G with
    | false => rw [cond_false]; unfold VR; trivial
    | true =>
      rw [cond_true]
      obtain ⟨L, h1, h2, h3⟩ := HG g (Nat.blt_eq.mp hb)
      unfold VR
      exact ⟨L, h1, by simp [Act.eval, h2, h3]⟩
  | func f =>
    show VR E (.fn f [] []) _
    unfold VR
    exact ⟨[], [], rfl, VRL.nil, VRL.nil⟩
theorem AR.put (H : AR E n f a) {d : Tmp} (hd : d < n) {x : CV} {v : Value} (hv : VR E x v) : AR E n ⟨f.s.set d x, f.ds⟩ (a.put (some d) v) := by
  refine ⟨fun k => ?_, by simp [Act.put, H.sz], H.df⟩
  show VR E (((f.s.set d x).get k).getD .ud) ((a.tmps.setIfInBounds d v).getD k undef)
  rw [Tr.get_set]
  by_cases hk : k = d
  · subst hk
    rw [if_pos rfl]
    have : (a.tmps.setIfInBounds k v).getD k undef = v := by simp [Array.getD_eq_getD_getElem?, H.sz, hd]
    rw [this]
    exact hv
  · rw [if_neg hk]
    have : (a.tmps.setIfInBounds d v).getD k undef = a.tmps.getD k undef := by simp [Array.getD_eq_getD_getElem?, Ne.symm hk]
    rw [this]
    exact H.sl k
theorem putK_ok {R : Type} {d : Option Tmp} {x : CV} {K : Sl → Option R} {r : R} (h : putK md n f.s d x K = some r) : ∃ s', K s' = some r ∧
    ∀ (E : Env) (a : Act) (v : Value), AR E n f a → VR E x v → AR E n ⟨s', f.ds⟩ (a.put d v) := by
  unfold putK at h
  cases d with
  | none => exact ⟨f.s, h, fun E a v H _ => H⟩
  | some d =>
    cases hb : Nat.blt d n with
    | false => simp only [hb, cond_false] at h; cases h
    | true =>
      simp only [hb, cond_true, fW_eq, Tr.setK_eq] at h
      exact ⟨_, h, fun E a v H hv => H.put (Nat.blt_eq.mp hb) hv⟩
/-! ### calls -/
def lp (R : Value → World → Prop) : Ending → World → Prop := fun e w => ∃ u, e = .returned u ∧ R u w
def Enters (P : Program) (f : FuncId) : Bool := match P.funcs[f]? with
  | some fn => !(fn.name == "runtime.NumGoroutine") && fn.body.isSome
  | none => false
/-- how a deferred call ends, of a frame that returns -/
def dfrP (B : Nat) (N : Nat → Prop) (w0 : World) (E : Env) (m : Nat) (M' : Mem) : Ending → FrameMode → World → Prop := fun e u w' => u = .returning ∧ (∃ v, e = .returned v) ∧ ∃ E', Env.ex m E E' ∧ HR B N w0 E' M' w'
structure LevOK (P : Program) (G : Nat) (LV : Lev) : Prop where
  call : ∀ (g : FuncId) (args : List CV) (M : Mem) (v : CV) (M' : Mem), LV.call g args M = some (v, M') → M.sfx M' ∧ M.nx ≤ M'.nx ∧ (M'.Holds → ∀ (B : Nat) (N : Nat → Prop) (w0 : World) (E : Env) (w : World) (vs : List Value),
    HR B N w0 E M w → GR E G → VRL E args vs → Enters P g = true ∧ Calls P g vs.toArray w (lp fun u w' => ∃ E', Env.ex M.nx E E' ∧ HR B N w0 E' M' w' ∧ VR E' v u))
  yld : ∀ (y : Nat) (args : List CV) (M : Mem) (v : CV) (M' : Mem), LV.yld y args M = some (v, M') → M.sfx M' ∧ M.nx ≤ M'.nx ∧ (M'.Holds → ∀ (B : Nat) (N : Nat → Prop) (w0 : World) (E : Env) (w : World) (vs : List Value) (L : Loc),
    HR B N w0 E M w → GR E G → VRL E args vs → E y = some L → ∃ fn tmps assign body, (Instr.yield L.g vs.toArray).run P w = .ok (.round L.g fn tmps assign body) w ∧
      ∀ m, RoundIn Fence.wide m P L.g fn tmps assign body w (lp fun u w' => ∃ E', Env.ex M.nx E E' ∧ HR B N w0 E' M' w' ∧ VR E' v u))
  dfr : ∀ (g : FuncId) (args : List CV) (M : Mem) (M' : Mem), LV.dfr g args M = some M' → M.sfx M' ∧ M.nx ≤ M'.nx ∧ (M'.Holds → ∀ (B : Nat) (N : Nat → Prop) (w0 : World) (E : Env) (w : World) (vs : List Value),
    HR B N w0 E M w → GR E G → VRL E args vs → Enters P g = true ∧ ∀ n, CallsDIn Fence.wide n P g vs.toArray .returning w (dfrP B N w0 E M.nx M'))
theorem run_callV {q : Oper} {f : FuncId} {x : Operand} {args : Array Operand} {tys : Array TypeId} {fs cs : Array Value} (ho : q.op = .call { callee := .value x, args := args, argTypes := tys }) (hE : Enters P f = true) (ρ : Operand → Value) (w : World) (hρ : ρ x = .func (.func f) fs cs) :
    (execOp ρ q).run P w = .ok (.enter f (fs ++ args.map ρ ++ cs)) w := by
  unfold Enters at hE
  cases hf : P.funcs[f]? with
  | none => rw [hf] at hE; cases hE
  | some fn =>
    rw [hf] at hE
    simp only [Bool.and_eq_true, Bool.not_eq_true'] at hE
    have h1 : ¬ fn.name = "runtime.NumGoroutine" := by simpa using hE.1
    have h2 : ¬ fn.body = none := fun e => by have := hE.2; rw [e] at this; cases this
    simp [execOp, ho, resolve, Deferred.ofValue, hρ, invoke, callFunc, hf, h1, h2]
theorem run_callE {q : Oper} {f : FuncId} {x : Operand} {args : Array Operand} {tys : Array TypeId} (ho : q.op = .call { callee := .value x, args := args, argTypes := tys }) (ρ : Operand → Value) (w : World) {fs cs : Array Value} (hρ : ρ x = .func (.func f) fs cs) :
    (execOp ρ q).run P w = (callFunc f (fs ++ args.map ρ ++ cs)).run P w := by
  simp [execOp, ho, resolve, Deferred.ofValue, hρ, invoke]
theorem run_callY {q : Oper} {l : Nat} {x : Operand} {args : Array Operand} {tys : Array TypeId} (ho : q.op = .call { callee := .value x, args := args, argTypes := tys }) (ρ : Operand → Value) (w : World) (hρ : ρ x = .func (.yield l) #[] #[]) :
    (execOp ρ q).run P w = (Instr.yield l (args.map ρ)).run P w := by
  simp [execOp, ho, resolve, Deferred.ofValue, hρ, invoke]
def OpOK (P : Program) (G : Nat) (s : Sl) (o : Op) (M : Mem) (v : CV) (M' : Mem) : Prop := M.sfx M' ∧ M.nx ≤ M'.nx ∧ (M'.Holds → ∀ (B : Nat) (N : Nat → Prop) (w0 : World) (E : Env) (w : World) (a : Act) (q : Oper) (rd : Option Nat) (K : Act → World → Prop) (Q : Exit → Act → World → Prop),
  q.op = o → HR B N w0 E M w → GR E G → SlotsR E s a.tmps → (∀ u w' E', Env.ex M.nx E E' → HR B N w0 E' M' w' → VR E' v u → K (a.put q.dst u) w') → q.wpIn (fnc rd) 4 P a w K Q)
theorem exOpOK {o : Op} {v : CV} (h : exOp P md (evG G s) o M = some (v, M')) : OpOK P G s o M v M' := by
  obtain ⟨s1, s2, s3⟩ := exOp_ok h
  refine ⟨s1, s2, fun hH B N w0 E w a q rd K Q hq H HG HS HK => ?_⟩
  have hd : ∀ c, q.op ≠ .defer c := fun c e => by
    rw [← hq, e] at h
    simp only [exOp, reduceCtorEq] at h
  obtain ⟨E', hle, w', H', ho⟩ := s3 hH B N w0 E w a.eval q hq H fun x _ => evG_ok HS HG x
  refine ⟨fun _ _ => fnc_fn _ _, ?_⟩
  rw [Oper.semAt_eq _ _ _ hd]
  rcases ho with ⟨u, e, hu⟩ | ⟨e, hv⟩
  · rw [e]
    exact HK u w' E' hle H' hu
  · rw [e]
    subst hv
    exact HK undef w' E' hle H' (ud_rel E')
theorem op1_ok {LV : Lev} (HL : LevOK P G LV) {o : Op} {v : CV} (h : op1 P md LV (evG G s) o M = some (v, M')) : OpOK P G s o M v M' := by
  cases o with
  | call c =>
    obtain ⟨cl, asx, tys⟩ := c
    cases cl with
    | value x =>
      simp only [op1] at h
      have hargs : ∀ (E : Env) (a : Act), SlotsR E s a.tmps → GR E G → VRL E (asx.toList.map (evG G s)) (asx.toList.map a.eval) := fun E a HS HG => by
        generalize asx.toList = l
        induction l with
        | nil => exact VRL.nil
        | cons y l ih => exact VRL.cons (evG_ok HS HG y) ih
      split at h
      · rename_i g q l hx
        unfold callX at h
        cases hE : isExt P g with
        | true =>
        rw [hE, cond_true] at h
        obtain ⟨s1, s2, s3⟩ := ext_ok hE h
        refine ⟨s1, s2, fun hH B N w0 E w a qq rd K Q hq H HG HS HK => ?_⟩
        have hv := evG_ok HS HG x
        rw [hx] at hv
        unfold VR at hv
        obtain ⟨fs, cs, e1, e2, e3⟩ := hv
        obtain ⟨u, w', E', c1, c2, c3, c4⟩ := s3 B N w0 E w (fs ++ (asx.toList.map a.eval ++ cs)) H (e2.append ((hargs E a HS HG).append e3))
        refine ⟨fun _ _ => fnc_fn _ _, ?_⟩
        rw [Oper.semAt_eq _ _ _ (fun c e => by rw [hq] at e; cases e), run_callE hq a.eval w e1, show fs.toArray ++ asx.map a.eval ++ cs.toArray = (fs ++ (asx.toList.map a.eval ++ cs)).toArray by simp, c1]
        exact HK u w' E' c2 c3 c4
        | false =>
        rw [hE, cond_false] at h
        obtain ⟨s1, s2, s3⟩ := HL.call _ _ _ _ _ h
        refine ⟨s1, s2, fun hH B N w0 E w a qq rd K Q hq H HG HS HK => ?_⟩
        have hv := evG_ok HS HG x
        rw [hx] at hv
        unfold VR at hv
        obtain ⟨fs, cs, e1, e2, e3⟩ := hv
        obtain ⟨hE, hC⟩ := s3 hH B N w0 E w (fs ++ (asx.toList.map a.eval ++ cs)) H HG (e2.append ((hargs E a HS HG).append e3))
        refine ⟨fun _ _ => fnc_fn _ _, ?_⟩
        rw [Oper.semAt_eq _ _ _ (fun c e => by rw [hq] at e; cases e), run_callV hq hE a.eval w e1]
        refine ⟨fun h => by (rw [fnc_depth] at h; cases h), (fnc_calls (R := lp fun u w' => ∃ E', Env.ex M.nx E E' ∧ HR B N w0 E' M' w' ∧ VR E' v u) (?_ : Calls P g _ w _)).mono ?_⟩
        · rw [show fs.toArray ++ asx.map a.eval ++ cs.toArray = (fs ++ (asx.toList.map a.eval ++ cs)).toArray by simp]
          exact hC
        · rintro e w' ⟨u, rfl, E', hle, H', hu⟩
          exact HK u w' E' hle H' hu
      · rename_i g hx
        obtain ⟨s1, s2, s3⟩ := HL.yld _ _ _ _ _ h
        refine ⟨s1, s2, fun hH B N w0 E w a qq rd K Q hq H HG HS HK => ?_⟩
        have hv := evG_ok HS HG x
        rw [hx] at hv
        unfold VR at hv
        obtain ⟨L, e1, e2⟩ := hv
        obtain ⟨fn, tmps, assign, body, r1, r2⟩ := s3 hH B N w0 E w (asx.toList.map a.eval) L H HG (hargs E a HS HG) e1
        refine ⟨fun _ _ => fnc_fn _ _, ?_⟩
        rw [Oper.semAt_eq _ _ _ (fun c e => by rw [hq] at e; cases e), run_callY hq a.eval w e2, show asx.map a.eval = (asx.toList.map a.eval).toArray from (Array.toArray_toList (xs := asx.map a.eval)).symm.trans (by rw [Array.toList_map]), r1]
        refine ⟨fun h => by (rw [fnc_depth] at h; cases h), RoundIn.mono (R := lp fun u w' => ∃ E', Env.ex M.nx E E' ∧ HR B N w0 E' M' w' ∧ VR E' v u) ?_ ?_⟩
        · cases rd with
          | none => exact r2 _
          | some l => exact r2 _
        · rintro e w' ⟨u, rfl, E', hle, H', hu⟩
          exact HK u w' E' hle H' hu
      · cases h
    | _ => exact exOpOK (md := md) h
  | _ => exact exOpOK (md := md) h
end
end
end Mu.CI
end
section
/-
  A run of code over known memory: operations under guards, regions in order.
  Conditions: none; generic.
-/
namespace Mu.CI
open Go Go.RowKit
noncomputable section
set_option linter.unusedVariables false

section
variable {P : Program} {B : Nat} {N : Nat → Prop} {w0 w w' : World} {E E' : Env} {M M' : Mem} {md : Bool} {G n : Nat} {f : Fr} {a : Act} {s : Sl} {LV : Lev} {R : Type}
theorem gdO_ok {ops : Array Oper} {o : Oper} {b : Bool} (h : gdO ops s o = some b) (HS : SlotsR E s a.tmps) : Region.wanted o (yielded ops a.tmps) = b := by
  unfold gdO at h
  unfold Region.wanted
  cases ho : o.guard with
  | none => rw [ho] at h; simpa using h
  | some p =>
    obtain ⟨j, want⟩ := p
    rw [ho] at h
    simp only at h ⊢
    unfold yielded
    cases hd : (ops[j]?).bind (·.dst) with
    | none => rw [hd] at h; simp at h
    | some d =>
      rw [hd] at h
      simp only [Option.bind_some] at h ⊢
      have hv := HS d
      have hg : ∀ v, a.tmps.getD d undef = v → (v = undef → a.tmps[d]? = none ∨ a.tmps[d]? = some undef) ∧ (v ≠ undef → a.tmps[d]? = some v) := fun v e => by
        rw [Array.getD_eq_getD_getElem?] at e
        cases hx : a.tmps[d]? with
        | none => rw [hx] at e; simp at e; exact ⟨fun _ => .inl rfl, fun h => absurd e.symm h⟩
        | some y => rw [hx] at e; simp at e; subst e; exact ⟨fun h => .inr (by rw [h]), fun _ => rfl⟩
      have hud : ∀ x : CV, x = .ud → VR E x (a.tmps.getD d undef) → some false = some b → ((match a.tmps[d]? with | some (.bool y) => some y | _ => none) == some want) = b := fun x hx hv hb => by
        subst hx
        unfold VR at hv
        cases hb
        rcases (hg _ rfl).1 hv with e | e <;> rw [e] <;> rfl
      cases hsd : s.get d with
      | none =>
        rw [hsd] at h hv
        exact hud _ rfl hv h
      | some x =>
        rw [hsd] at h hv
        cases x with
        | ud => exact hud _ rfl hv h
        | bo y =>
          simp only [Option.getD_some] at hv
          unfold VR at hv
          have := (hg _ hv).2 (by simp [undef])
          rw [this]
          simp only [Option.some.injEq] at h
          rw [← h]
          cases want <;> cases y <;> rfl
        | _ => cases h
/-- an operation, under its guard -/
def StepOK (P : Program) (G n : Nat) (ops : Array Oper) (f : Fr) (o : Oper) (M : Mem) (s' : Sl) (M' : Mem) : Prop := M.sfx M' ∧ M.nx ≤ M'.nx ∧ (M'.Holds → ∀ (B : Nat) (N : Nat → Prop) (w0 : World) (E : Env) (w : World) (a : Act) (rd : Option Nat) (K : Act → World → Prop) (Q : Exit → Act → World → Prop),
  HR B N w0 E M w → GR E G → AR E n f a → (∀ a' w' E', Env.ex M.nx E E' → HR B N w0 E' M' w' → AR E' n ⟨s', f.ds⟩ a' → K a' w') →
  if Region.wanted o (yielded ops a.tmps) then o.wpIn (fnc rd) 4 P a w K Q else (∀ f, o.about P w a.eval = some f → (fnc rd).fn f) ∧ K (a.put o.dst undef) w)
theorem stepK_ok (HL : LevOK P G LV) {ops : Array Oper} {o : Oper} {K : CV → Sl → Mem → Option R} {r : R} (h : stepK P md G n LV ops f.s o M K = some r) : ∃ v s' M', K v s' M' = some r ∧ StepOK P G n ops f o M s' M' := by
  have run : ∀ M1 : Mem, (match op1 P md LV (evG G f.s) o.op M1 with
      | some (v, M) => putK md n f.s o.dst v fun s => K v s M
      | none => none) = some r → ∃ v s' M', K v s' M' = some r ∧ OpOK P G f.s o.op M1 v M' ∧ ∀ (E : Env) (a : Act) (u : Value), AR E n f a → VR E v u → AR E n ⟨s', f.ds⟩ (a.put o.dst u) := fun M1 h => by
    cases hx : op1 P md LV (evG G f.s) o.op M1 with
    | none => rw [hx] at h; cases h
    | some p =>
      obtain ⟨v, M'⟩ := p
      rw [hx] at h
      obtain ⟨s', h1, h2⟩ := putK_ok h
      exact ⟨v, s', M', h1, op1_ok HL hx, h2⟩
  unfold stepK at h
  cases hg : o.guard with
  | none =>
    rw [hg] at h
    obtain ⟨v, s', M', h1, ⟨k1, k2, k3⟩, h3⟩ := run M h
    refine ⟨v, s', M', h1, k1, k2, fun hH B N w0 E w a rd K Q H HG HA HK => ?_⟩
    rw [if_pos (by simp [Region.wanted, hg])]
    exact k3 hH B N w0 E w a o rd K Q rfl H HG HA.sl fun u w' E' hle H' hu => HK _ _ _ hle H' (h3 E' a u (HA.mono hle.1) hu)
  | some p =>
    rw [hg] at h
    simp only at h
    cases hb : gdO ops f.s o with
    | none => rw [hb] at h; cases h
    | some b =>
      rw [hb] at h
      obtain ⟨M1, e1, e2, e3, h⟩ := cnd_ok h
      rcases h with ⟨h, hc⟩ | ⟨h, hc⟩
      · obtain ⟨v, s', M', h1, ⟨k1, k2, k3⟩, h3⟩ := run M1 h
        refine ⟨v, s', M', h1, Mem.sfx_trans e3 k1, by rw [← e2]; exact k2, fun hH B N w0 E w a rd K Q H HG HA HK => ?_⟩
        rw [if_pos (by rw [gdO_ok hb HA.sl]; exact hc (hH.of k1))]
        exact k3 hH B N w0 E w a o rd K Q rfl (H.re e1 e2) HG HA.sl fun u w' E' hle H' hu => HK _ _ _ (e2 ▸ hle) H' (h3 E' a u (HA.mono hle.1) hu)
      · obtain ⟨s', h1, h3⟩ := putK_ok h
        refine ⟨.ud, s', M1, h1, e3, by rw [e2]; exact Nat.le_refl _, fun hH B N w0 E w a rd K Q H HG HA HK => ?_⟩
        rw [if_neg (by rw [gdO_ok hb HA.sl, hc hH]; simp)]
        exact ⟨fun _ _ => fnc_fn _ _, HK _ _ E (Env.ex_refl E) (H.re e1 e2) (h3 E a undef HA (ud_rel E))⟩
/-- how a piece of code ends -/
def Post (m B : Nat) (N : Nat → Prop) (w0 : World) (E : Env) (n : Nat) (x : Xt) (f : Fr) (M : Mem) : Exit → Act → World → Prop := fun e a w => e = xOf x ∧ ∃ E', Env.ex m E E' ∧ HR B N w0 E' M w ∧ AR E' n f a
/-- operations ahead of others -/
theorem seqR_pre (HL : LevOK P G LV) {ops : Array Oper} {ds : Ds} {K : Sl → Mem → Option R} {r : R} : ∀ (l : List Oper) (s : Sl) (M : Mem), seqR P md G n LV ops l s M K = some r → ∃ s' M', K s' M' = some r ∧ M.sfx M' ∧ M.nx ≤ M'.nx ∧
    (M'.Holds → ∀ (m B : Nat) (N : Nat → Prop) (w0 : World) (E0 E : Env) (w : World) (a : Act) (rd : Option Nat) (rest : List Oper) (Q : Exit → Act → World → Prop), Env.ex m E0 E → m ≤ M.nx → HR B N w0 E M w → GR E G → AR E n ⟨s, ds⟩ a →
      (∀ a' w' E', Env.ex m E0 E' → m ≤ M'.nx → HR B N w0 E' M' w' → GR E' G → AR E' n ⟨s', ds⟩ a' → wpListIn (fnc rd) 4 P ops Q rest a' w') → wpListIn (fnc rd) 4 P ops Q (l ++ rest) a w)
  | [], s, M, h => ⟨s, M, h, M.sfx_refl, Nat.le_refl _, fun _ m B N w0 E0 E w a rd rest Q h0 hm H HG HA HK => HK a w E h0 hm H HG HA⟩
  | o :: l, s, M, h => by
    obtain ⟨v, s1, M1, h1, k1, k2, k3⟩ := stepK_ok (f := ⟨s, ds⟩) HL h
    obtain ⟨s', M', h2, j1, j2, j3⟩ := seqR_pre HL l s1 M1 h1
    refine ⟨s', M', h2, Mem.sfx_trans k1 j1, Nat.le_trans k2 j2, fun hH m B N w0 E0 E w a rd rest Q h0 hm H HG HA HK => ?_⟩
    exact k3 (hH.of j1) B N w0 E w a rd _ _ H HG HA fun a' w' E' hle H' HA' => j3 hH m B N w0 E0 E' w' a' rd rest Q (Env.ex_trans h0 hm hle) (Nat.le_trans hm k2) H' (HG.mono hle.1) HA' HK
/-- a call is put off -/
theorem dfrI_ok {ops : Array Oper} {o : Oper} {s : Sl} {ds : Ds} {i : DI} {E : Env} {a : Act} {w : World} {Q : Exit → Act → World → Prop} (h : dfrI G s o = some i) (HG : GR E G) (HA : AR E n ⟨s, ds⟩ a)
    (HK : ∀ a', AR E n ⟨s, i :: ds⟩ a' → Q .normal a' w) : wpListIn (fnc none) 4 P ops Q [o] a w := by
  unfold dfrI at h
  split at h
  · rename_i c hop hgd hdst
    split at h
    · rename_i f hcal
      split at h
      · rename_i g q l hf
        cases h
        have hv := evG_ok HA.sl HG f
        rw [hf] at hv
        unfold VR at hv
        obtain ⟨fs, cs, e1, e2, e3⟩ := hv
        have hargs : VRL E (c.args.toList.map (evG G s)) (c.args.toList.map a.eval) := by
          generalize c.args.toList = l
          induction l with
          | nil => exact VRL.nil
          | cons y l ih => exact VRL.cons (evG_ok HA.sl HG y) ih
        have hrun : ((Oper.semAt none a.eval o)).run P w = .ok (.defer { target := .fn (.func g) cs.toArray, args := (fs ++ c.args.toList.map a.eval).toArray }) w := by
          rw [Oper.semAt_none]
          simp [execOp, hop, resolve, hcal, e1, Deferred.ofValue]
        show (if Region.wanted o (yielded ops a.tmps) then o.wpIn (fnc none) 4 P a w _ Q else _)
        rw [if_pos (by simp [Region.wanted, hgd])]
        refine ⟨fun _ _ => fnc_fn _ _, ?_⟩
        have hround : (fnc none).round = none := rfl
        rw [hround, hrun]
        show wpListIn (fnc none) 4 P ops Q [] ({ a with defers := _ :: a.defers }.put o.dst undef) w
        rw [hdst]
        exact wpListIn_nil (HK _ ⟨HA.sl, HA.sz, ⟨_, _, _, e2.append hargs, e3, rfl, HA.df⟩⟩)
      · cases h
    · cases h
  · cases h
theorem lastD_eq : ∀ {l pre : List Oper} {o : Oper}, lastD l = some (pre, o) → l = pre ++ [o]
  | [], _, _, h => by cases h
  | [o'], pre, o, h => by
    simp only [lastD] at h
    cases hb : isDf o' with
    | true => rw [hb] at h; cases h; rfl
    | false => rw [hb] at h; cases h
  | o' :: o'' :: l, pre, o, h => by
    simp only [lastD] at h
    split at h
    · rename_i p d hp
      cases h
      rw [lastD_eq hp]
      rfl
    · cases h
theorem seqR_ok (HL : LevOK P G LV) {ops : Array Oper} {ds : Ds} {K : Sl → Mem → Option R} {r : R} : ∀ (l : List Oper) (s : Sl) (M : Mem), seqR P md G n LV ops l s M K = some r → ∃ s' M', K s' M' = some r ∧ M.sfx M' ∧ M.nx ≤ M'.nx ∧
    (M'.Holds → ∀ (m B : Nat) (N : Nat → Prop) (w0 : World) (E0 E : Env) (w : World) (a : Act) (rd : Option Nat), Env.ex m E0 E → m ≤ M.nx → HR B N w0 E M w → GR E G → AR E n ⟨s, ds⟩ a → wpListIn (fnc rd) 4 P ops (Post m B N w0 E0 n .nm ⟨s', ds⟩ M') l a w)
  | [], s, M, h => ⟨s, M, h, M.sfx_refl, Nat.le_refl _, fun _ m B N w0 E0 E w a rd h0 hm H HG HA => wpListIn_nil ⟨rfl, E, h0, H, HA⟩⟩
  | o :: l, s, M, h => by
    obtain ⟨v, s1, M1, h1, k1, k2, k3⟩ := stepK_ok (f := ⟨s, ds⟩) HL h
    obtain ⟨s', M', h2, j1, j2, j3⟩ := seqR_ok HL l s1 M1 h1
    refine ⟨s', M', h2, Mem.sfx_trans k1 j1, Nat.le_trans k2 j2, fun hH m B N w0 E0 E w a rd h0 hm H HG HA => ?_⟩
    exact k3 (hH.of j1) B N w0 E w a rd _ _ H HG HA fun a' w' E' hle H' HA' => j3 hH m B N w0 E0 E' w' a' rd (Env.ex_trans h0 hm hle) (Nat.le_trans hm k2) H' (HG.mono hle.1) HA'
end
end
end Mu.CI
end
section
/-
  A run of code over known memory: control.
  Conditions: none; generic.
-/
namespace Mu.CI
open Go Go.RowKit
noncomputable section
set_option linter.unusedVariables false

section
variable {P : Program} {md : Bool} {G n LF : Nat} {LV : Lev} {fn : FuncId} {rd : Option Nat}
/-- drawn regions -/
def DrawOK (P : Program) (md : Bool) (G n : Nat) (LV : Lev) : Prop := ∀ {R : Type} (ops : Array Oper) (f : Fr) (M : Mem) (K : Sl → Mem → Option R) (r : R), drawR P md G n LV ops f.s M K = some r → ∃ s' M', K s' M' = some r ∧ M.sfx M' ∧ M.nx ≤ M'.nx ∧
  (M'.Holds → ∀ (id m B : Nat) (N : Nat → Prop) (w0 : World) (E0 E : Env) (w : World) (a : Act) (rd : Option Nat), Env.ex m E0 E → m ≤ M.nx → HR B N w0 E M w → GR E G → AR E n f a → (Code.region id ops true).wpIn (fnc rd) 4 P (Post m B N w0 E0 n .nm ⟨s', f.ds⟩ M') a w)
def CodeOK (P : Program) (G n : Nat) (rd : Option Nat) (c : Code) (f : Fr) (M : Mem) (x : Xt) (f' : Fr) (M' : Mem) : Prop := M.sfx M' ∧ M.nx ≤ M'.nx ∧
  (M'.Holds → ∀ (m B : Nat) (N : Nat → Prop) (w0 : World) (E0 E : Env) (w : World) (a : Act) (rl : Option Nat), Env.ex m E0 E → m ≤ M.nx → HR B N w0 E M w → GR E G → RdR E rd rl → AR E n f a → c.wpIn (fnc rl) 4 P (Post m B N w0 E0 n x f' M') a w)
theorem CodeOK.here {c : Code} {x : Xt} {f : Fr} {M : Mem} (h : ∀ (rl : Option Nat) (Q : Exit → Act → World → Prop) (a : Act) (w : World), Q (xOf x) a w → c.wpIn (fnc rl) 4 P Q a w) : CodeOK P G n rd c f M x f M :=
  ⟨M.sfx_refl, Nat.le_refl _, fun _ m B N w0 E0 E w a rl h0 hm H HG HR HA => h rl _ a w ⟨rfl, E, h0, H, HA⟩⟩
theorem CodeOK.seq {a b : Code} {f f1 f2 : Fr} {M M1 M2 : Mem} {x : Xt} (h : CodeOK P G n rd a f M .nm f1 M1) (k : CodeOK P G n rd b f1 M1 x f2 M2) : CodeOK P G n rd (.seq a b) f M x f2 M2 := by
  obtain ⟨h1, h2, h3⟩ := h
  obtain ⟨k1, k2, k3⟩ := k
  refine ⟨Mem.sfx_trans h1 k1, Nat.le_trans h2 k2, fun hH m B N w0 E0 E w ac rl h0 hm H HG HR HA => ?_⟩
  refine wpIn_seq (wpIn_mono (h3 (hH.of k1) M.nx B N w0 E E w ac rl (Env.ex_refl E) (Nat.le_refl _) H HG HR HA) ?_)
  rintro e a' w' ⟨rfl, E', hle, H', HA'⟩
  exact k3 hH m B N w0 E0 E' w' a' rl (Env.ex_trans h0 hm hle) (Nat.le_trans hm h2) H' (HG.mono hle.1) (HR.mono hle.1) HA'
theorem CodeOK.stop {a b : Code} {f f1 : Fr} {M M1 : Mem} {x : Xt} (hx : x ≠ .nm) (h : CodeOK P G n rd a f M x f1 M1) : CodeOK P G n rd (.seq a b) f M x f1 M1 := by
  obtain ⟨h1, h2, h3⟩ := h
  refine ⟨h1, h2, fun hH m B N w0 E0 E w ac rl h0 hm H HG HR HA => ?_⟩
  refine wpIn_seq (wpIn_mono (h3 hH m B N w0 E0 E w ac rl h0 hm H HG HR HA) ?_)
  rintro e a' w' ⟨rfl, hh⟩
  cases x with
  | nm => exact absurd rfl hx
  | _ => exact ⟨rfl, hh⟩
theorem CodeOK.cond {c : Operand} {a b : Code} {f f1 : Fr} {M M0 M1 : Mem} {x : Xt} {y z : Bool} (hc : evG G f.s c = .bo y) (e1 : M0.h = M.h) (e2 : M0.nx = M.nx) (e3 : M.sfx M0) (hz : M0.Holds → y = z)
    (h : CodeOK P G n rd (bif z then a else b) f M0 x f1 M1) : CodeOK P G n rd (.cond c a b) f M x f1 M1 := by
  obtain ⟨h1, h2, h3⟩ := h
  refine ⟨Mem.sfx_trans e3 h1, by rw [← e2]; exact h2, fun hH m B N w0 E0 E w ac rl h0 hm H HG HR HA => ?_⟩
  have hv := evG_ok HA.sl HG c
  rw [hc] at hv
  unfold VR at hv
  have hyz := hz (hH.of h1)
  have hw := h3 hH m B N w0 E0 E w ac rl h0 (e2 ▸ hm) (H.re e1 e2) HG HR HA
  refine wpIn_cond_split hv (fun e => ?_) fun e => ?_
  · rw [← hyz, e] at hw; exact hw
  · rw [← hyz, e] at hw; exact hw
theorem CodeOK.block {id : Nat} {c : Code} {f f1 : Fr} {M M1 : Mem} {x y : Xt} (hy : y = (match x with | .ex i => bif Nat.beq i id then .nm else .ex i | x => x)) (h : CodeOK P G n rd c f M x f1 M1) : CodeOK P G n rd (.block id c) f M y f1 M1 := by
  obtain ⟨h1, h2, h3⟩ := h
  refine ⟨h1, h2, fun hH m B N w0 E0 E w ac rl h0 hm H HG HR HA => ?_⟩
  refine wpIn_block (wpIn_mono (h3 hH m B N w0 E0 E w ac rl h0 hm H HG HR HA) ?_)
  rintro e a' w' ⟨rfl, hh⟩
  subst hy
  cases x with
  | ex i =>
    simp only [xOf, Exit.inBlock]
    cases hb : Nat.beq i id with
    | true => rw [if_pos (Nat.eq_of_beq_eq_true hb)]; exact ⟨rfl, hh⟩
    | false => rw [if_neg (Nat.ne_of_beq_eq_false hb)]; exact ⟨rfl, hh⟩
  | _ => exact ⟨rfl, hh⟩
theorem CodeOK.scope {c : Code} {f f1 : Fr} {M M1 : Mem} {x : Xt} (hx : ∀ l, x ≠ .gt l) (h : CodeOK P G n rd c f M x f1 M1) : CodeOK P G n rd (.scope c) f M x f1 M1 := by
  obtain ⟨h1, h2, h3⟩ := h
  refine ⟨h1, h2, fun hH m B N w0 E0 E w ac rl h0 hm H HG HR HA => ?_⟩
  refine wpIn_scope_straight (wpIn_mono (h3 hH m B N w0 E0 E w ac rl h0 hm H HG HR HA) ?_)
  rintro e a' w' ⟨rfl, hh⟩
  cases x with
  | gt l => exact absurd rfl (hx l)
  | _ => exact ⟨rfl, hh⟩
theorem loopN_ok {c : Code} {step : Fr → Mem → Ret} (hs : ∀ f M x f' M', step f M = some (x, f', M') → CodeOK P G n rd c f M x f' M') : ∀ (k : Nat) (f : Fr) (M : Mem) (x : Xt) (f' : Fr) (M' : Mem), loopN step k f M = some (x, f', M') →
    M.sfx M' ∧ M.nx ≤ M'.nx ∧ (M'.Holds → ∀ (m B : Nat) (N : Nat → Prop) (w0 : World) (E0 E : Env) (w : World) (a : Act) (rl : Option Nat), Env.ex m E0 E → m ≤ M.nx → HR B N w0 E M w → GR E G → RdR E rd rl → AR E n f a → Code.roundsIn (fnc rl) 4 P c (Post m B N w0 E0 n x f' M') k a w)
  | 0, f, M, x, f', M', h => by cases h
  | k + 1, f, M, x, f', M', h => by
    have h : (match step f M with
      | some (.nm, f, M) => loopN step k f M
      | some (x, f, M) => some (x, f, M)
      | none => none) = some (x, f', M') := h
    cases he : step f M with
    | none => rw [he] at h; cases h
    | some p =>
      obtain ⟨y, f1, M1⟩ := p
      rw [he] at h
      obtain ⟨h1, h2, h3⟩ := hs _ _ _ _ _ he
      by_cases hy : y = .nm
      · subst hy
        obtain ⟨k1, k2, k3⟩ := loopN_ok hs k f1 M1 x f' M' h
        refine ⟨Mem.sfx_trans h1 k1, Nat.le_trans h2 k2, fun hH m B N w0 E0 E w ac rl h0 hm H HG HR HA => ?_⟩
        rw [roundsIn_succ]
        refine wpIn_mono (h3 (hH.of k1) M.nx B N w0 E E w ac rl (Env.ex_refl E) (Nat.le_refl _) H HG HR HA) ?_
        rintro e a' w' ⟨rfl, E', hle, H', HA'⟩
        exact k3 hH m B N w0 E0 E' w' a' rl (Env.ex_trans h0 hm hle) (Nat.le_trans hm h2) H' (HG.mono hle.1) (HR.mono hle.1) HA'
      · have h' : some (y, f1, M1) = some (x, f', M') := by
          cases y with
          | nm => exact absurd rfl hy
          | _ => exact h
        cases h'
        refine ⟨h1, h2, fun hH m B N w0 E0 E w ac rl h0 hm H HG HR HA => ?_⟩
        rw [roundsIn_succ]
        refine wpIn_mono (h3 hH m B N w0 E0 E w ac rl h0 hm H HG HR HA) ?_
        rintro e a' w' ⟨rfl, hh⟩
        cases x with
        | nm => exact absurd rfl hy
        | _ => exact ⟨rfl, hh⟩
/-- what ranges over functions come to -/
def RangeOK (P : Program) (md : Bool) (G n LF : Nat) (LV : Lev) (fn : FuncId) : Prop := ∀ (rd : Option Nat) (g : Operand) (ps : Array Tmp) (asx bd : Code) (f : Fr) (M : Mem) (x : Xt) (f' : Fr) (M' : Mem), exC P md G n LV fn rd LF (.rangeFunc g ps asx bd) f M = some (x, f', M') → CodeOK P G n rd (.rangeFunc g ps asx bd) f M x f' M'
theorem exC_ok (HL : LevOK P G LV) (HD : DrawOK P md G n LV) (HRg : RangeOK P md G n LF LV fn) : ∀ (c : Code) (f : Fr) (M : Mem) (x : Xt) (f' : Fr) (M' : Mem), exC P md G n LV fn rd LF c f M = some (x, f', M') → CodeOK P G n rd c f M x f' M'
  | .skip, f, M, x, f', M', h => by cases h; exact CodeOK.here fun _ _ _ _ h => wpIn_skip h
  | .label l, f, M, x, f', M', h => by cases h; exact CodeOK.here fun _ _ _ _ h => wpIn_label h
  | .exit i, f, M, x, f', M', h => by cases h; exact CodeOK.here fun _ _ _ _ h => wpIn_exit h
  | .goto i, f, M, x, f', M', h => by cases h; exact CodeOK.here fun _ _ _ _ h => wpIn_goto h
  | .ret, f, M, x, f', M', h => by cases h; exact CodeOK.here fun _ _ _ _ h => wpIn_ret h
  | .refuse m, f, M, x, f', M', h => by cases h
  | .rangeFunc g ps asx bd, f, M, x, f', M', h => HRg rd g ps asx bd f M x f' M' h
  | .region id ops draw, f, M, x, f', M', h => by
    simp only [exC] at h
    cases draw with
    | true =>
      rw [cond_true] at h
      obtain ⟨s', M1, h1, k1, k2, k3⟩ := HD ops f M _ _ h
      cases h1
      exact ⟨k1, k2, fun hH m B N w0 E0 E w a rl h0 hm H HG HR HA => k3 hH id m B N w0 E0 E w a rl h0 hm H HG HA⟩
    | false =>
      rw [cond_false] at h
      cases hsp : splitD rd ops.toList with
      | none =>
        rw [hsp] at h
        obtain ⟨s', M1, h1, k1, k2, k3⟩ := seqR_ok (ds := f.ds) HL _ _ _ h
        cases h1
        exact ⟨k1, k2, fun hH m B N w0 E0 E w a rl h0 hm H HG HR HA => wpIn_region_list (k3 hH m B N w0 E0 E w a rl h0 hm H HG HA)⟩
      | some p =>
        obtain ⟨pre, o⟩ := p
        rw [hsp] at h
        simp only at h
        cases rd with
        | some r => cases hsp
        | none =>
          have hsp : lastD ops.toList = some (pre, o) := hsp
          obtain ⟨s', M1, h1, k1, k2, k3⟩ := seqR_pre (ds := f.ds) HL _ _ _ h
          cases hi : dfrI G s' o with
          | none => rw [hi] at h1; cases h1
          | some i =>
            rw [hi] at h1
            cases h1
            refine ⟨k1, k2, fun hH m B N w0 E0 E w a rl h0 hm H HG HR HA => wpIn_region_list ?_⟩
            cases rl with
            | some l0 => exact HR.elim
            | none =>
              rw [lastD_eq hsp]
              refine k3 hH m B N w0 E0 E w a none [o] _ h0 hm H HG HA fun a' w' E' hx hm' H' HG' HA' => ?_
              exact dfrI_ok hi HG' HA' fun a2 HA2 => ⟨rfl, E', hx, H', HA2⟩
  | .seq a b, f, M, x, f', M', h => by
    simp only [exC] at h
    cases ha : exC P md G n LV fn rd LF a f M with
    | none => rw [ha] at h; cases h
    | some p =>
      obtain ⟨y, f1, M1⟩ := p
      rw [ha] at h
      have ih := exC_ok HL HD HRg a f M y f1 M1 ha
      cases y with
      | nm => exact ih.seq (exC_ok HL HD HRg b f1 M1 x f' M' h)
      | _ => cases h; exact ih.stop (by simp)
  | .cond c a b, f, M, x, f', M', h => by
    simp only [exC] at h
    split at h
    · rename_i y hy
      obtain ⟨M0, e1, e2, e3, h⟩ := cnd_ok h
      rcases h with ⟨h, hc⟩ | ⟨h, hc⟩
      · exact CodeOK.cond hy e1 e2 e3 hc (exC_ok HL HD HRg a f M0 x f' M' h)
      · exact CodeOK.cond hy e1 e2 e3 hc (exC_ok HL HD HRg b f M0 x f' M' h)
    · cases h
  | .block id c, f, M, x, f', M', h => by
    simp only [exC] at h
    cases ha : exC P md G n LV fn rd LF c f M with
    | none => rw [ha] at h; cases h
    | some p =>
      obtain ⟨y, f1, M1⟩ := p
      rw [ha] at h
      have ih := exC_ok HL HD HRg c f M y f1 M1 ha
      cases y with
      | ex i =>
        simp only at h
        cases hb : Nat.beq i id with
        | true => rw [hb] at h; cases h; exact ih.block (by simp [hb])
        | false => rw [hb] at h; cases h; exact ih.block (by simp [hb])
      | _ => cases h; exact ih.block rfl
  | .loop c, f, M, x, f', M', h => by
    simp only [exC] at h
    obtain ⟨k1, k2, k3⟩ := loopN_ok (rd := rd) (P := P) (G := G) (n := n) (c := c) (fun f M x f' M' h => exC_ok HL HD HRg c f M x f' M' h) LF f M x f' M' h
    exact ⟨k1, k2, fun hH m B N w0 E0 E w a rl h0 hm H HG HR HA => wpIn_loop_rounds LF (k3 hH m B N w0 E0 E w a rl h0 hm H HG HR HA)⟩
  | .scope c, f, M, x, f', M', h => by
    simp only [exC] at h
    cases ha : exC P md G n LV fn rd LF c f M with
    | none => rw [ha] at h; cases h
    | some p =>
      obtain ⟨y, f1, M1⟩ := p
      rw [ha] at h
      have ih := exC_ok HL HD HRg c f M y f1 M1 ha
      cases y with
      | gt l => cases h
      | _ => cases h; exact ih.scope (by simp)
end
end
end Mu.CI
end
section
/-
  A run of code over known memory: ranges over functions, rounds, calls.
  Conditions: none; generic.
-/
namespace Mu.CI
open Go Go.RowKit
noncomputable section
set_option linter.unusedVariables false

section
variable {P : Program} {md : Bool} {G n LF : Nat} {LV : Lev} {fn : FuncId} {rd : Option Nat} {B : Nat} {N : Nat → Prop} {w0 w w' : World} {E E' E0 : Env} {M M' : Mem} {a : Act}
theorem upd_loop {y : Nat} {L : Loc} {b0 b : RB} {o : Obj} (H : HR B N w0 E M w) (hy : E y = some L) (hg : M.h.get y = some b0) (hl : RB.live (some b0) = true) (hr : ∀ c, b ≠ .ro c) (hb : BR E (w.putObj L.g o) L b) : HR B N w0 E (M.put y b) (w.putObj L.g o) :=
  H.upd hy hg hl hr ⟨rfl, rfl, rfl⟩ (by simp [World.putObj]) (fun k _ hk => World.putObj_heap_other hk) hb
theorem range_end {f : Fr} {ds : Ds} {y : Nat} {L : Loc} {x : Xt} {rl : Option Nat} {u : Value} {fn' n' d' : Nat} {s' : Sl} {ps' : Array Tmp} {as' bd' : Code} {st : LoopState} {pend : Option Code} (hx : jumpX pend = some x) (hst : st ≠ .busy)
    (hg : M.h.get y = some (.loop fn' s' n' ps' as' bd' st pend d')) (H : HR B N w0 E M w) (hy : E y = some L) (HA : AR E n ⟨f.s, ds⟩ a) {m : Nat} (h0 : Env.ex m E0 E) :
    rangePost (fnc rl) 4 P L.g (Post m B N w0 E0 n x ⟨f.s, ds⟩ (M.put y (.loop fn' s' n' ps' as' bd' .exhausted pend d'))) a (.returned u) w := by
  obtain ⟨D, tmps, fm, b1, b2, b3, b4⟩ := H.blk y L _ hy hg
  have hlt := H.lt y L hy
  refine ⟨_, _, run_endLoop b2 hst, ?_⟩
  have H' : HR B N w0 E (M.put y (.loop fn' s' n' ps' as' bd' .exhausted pend d')) (w.putObj L.g (.loop { state := .exhausted, pending := pend, fn := fm, tmps, params := ps', assign := as', body := bd', defers := D.g })) :=
    upd_loop H hy hg rfl (fun c h => by cases h) ⟨D, tmps, fm, b1, World.putObj_heap_same hlt, b3, b4⟩
  have hP : Post m B N w0 E0 n x ⟨f.s, ds⟩ (M.put y (.loop fn' s' n' ps' as' bd' .exhausted pend d')) (xOf x) a _ := ⟨rfl, E, h0, H', HA⟩
  cases pend with
  | none => cases hx; exact hP
  | some c =>
    cases c with
    | ret => cases hx; exact wpIn_ret hP
    | exit i => cases hx; exact wpIn_exit hP
    | goto l => cases hx; exact wpIn_goto hP
    | _ => cases hx
theorem run_invokeE {h : FuncId} {args caps : Array Value} (hE : Enters P h = true) (w : World) : (invoke (.fn (.func h) caps) args).run P w = .ok (.enter h (args ++ caps)) w := by
  unfold Enters at hE
  cases hf : P.funcs[h]? with
  | none => rw [hf] at hE; cases hE
  | some fn =>
    rw [hf] at hE
    simp only [Bool.and_eq_true, Bool.not_eq_true'] at hE
    have h1 : ¬ fn.name = "runtime.NumGoroutine" := by simpa using hE.1
    have h2 : ¬ fn.body = none := fun e => by have := hE.2; rw [e] at this; cases this
    simp [invoke, callFunc, hf, h1, h2]
theorem run_resolveR {g : Operand} {h : FuncId} {fs cs : Array Value} {l : Nat} (hv : a.eval g = .func (.func h) fs cs) (w : World) :
    (resolve a.eval (rangeCall g l) 0).run P w = .ok { target := .fn (.func h) cs, args := fs ++ #[.func (.yield l) #[] #[]] } w := by
  simp only [resolve, hv]
  simp [Deferred.ofValue, Act.eval]
theorem rngEnd_ok {y : Nat} {s : Sl} {ds : Ds} {x : Xt} {f' : Fr} (h : rngEnd y s ds M = some (x, f', M')) : ∃ fn' s' n' ps' as' bd' st pend d', M.h.get y = some (.loop fn' s' n' ps' as' bd' st pend d') ∧ st ≠ .busy ∧ jumpX pend = some x ∧ f' = ⟨s, ds⟩ ∧ M' = M.put y (.loop fn' s' n' ps' as' bd' .exhausted pend d') := by
  unfold rngEnd at h
  split at h
  · rename_i fn' s' n' ps' as' bd' st pend d' hg
    split at h
    · cases h
    · rename_i hst
      cases hj : jumpX pend with
      | none => rw [hj] at h; cases h
      | some x' =>
        rw [hj] at h
        simp only [Tr.setK_eq] at h
        cases h
        exact ⟨fn', s', n', ps', as', bd', st, pend, d', hg, fun e => hst e, hj, rfl, rfl⟩
  · cases h
theorem rangeF_ok (HL : LevOK P G LV) : RangeOK P md G n LF LV fn := by
  intro rd g ps asx bd f M x f' M' hx
  simp only [exC] at hx
  split at hx
  · rename_i h q l hgv
    cases rd with
    | none =>
      simp only [Mem.new_eq, Option.bind_some] at hx
      split at hx
      · cases hx
      · rename_i v M3 hc
        obtain ⟨c1, c2, c3⟩ := HL.call _ _ _ _ _ hc
        obtain ⟨fn', s', n', ps', as', bd', st, pend, d', hg, hst, hj, rfl, rfl⟩ := rngEnd_ok hx
        refine ⟨c1, Nat.le_trans (by show M.nx ≤ M.nx + 1 + 1; omega) c2, fun hH m B N w0 E0 E w a rl h0 hm H HG HR HA => ?_⟩
        cases rl with
        | some l0 => exact HR.elim
        | none =>
          have hv := evG_ok HA.sl HG g
          rw [hgv] at hv
          unfold VR at hv
          obtain ⟨fs, cs, e1, e2, e3⟩ := hv
          refine wpIn_rangeFunc fun fm _ => ?_
          obtain ⟨W1, hW1⟩ : ∃ W1, W1 = w.alloc (.deferred (some [])) := ⟨_, rfl⟩
          obtain ⟨W2, hW2⟩ : ∃ W2, W2 = W1.alloc (.loop { state := .ready, pending := none, fn := fm, tmps := a.tmps, params := ps, assign := asx, body := bd, defers := w.heap.size }) := ⟨_, rfl⟩
          have hs1 : W1.heap.size = w.heap.size + 1 := by rw [hW1, World.size_alloc]
          have hs2 : W2.heap.size = W1.heap.size + 1 := by rw [hW2, World.size_alloc]
          have hd1 : W1.heap[w.heap.size]? = some (.deferred (some [])) := by rw [hW1]; exact World.alloc_heap_new w _
          have hd2 : W2.heap[W1.heap.size]? = some (.loop { state := .ready, pending := none, fn := fm, tmps := a.tmps, params := ps, assign := asx, body := bd, defers := w.heap.size }) := by rw [hW2]; exact World.alloc_heap_new W1 _
          obtain ⟨g1, H1⟩ := H.new (w' := W1) (b := .dfr) (L := ⟨w.heap.size, 0, 0⟩) (by rw [hW1]; exact (Below.refl _ w).alloc (Nat.le_refl _) _) (Nat.le_refl _) (by show w.heap.size < _; omega) (fun c h => by cases h) fun E' _ _ => hd1
          obtain ⟨g2, H2⟩ := H1.new (w' := W2) (b := .loop fn f.s n ps asx bd .ready none M.nx) (L := ⟨W1.heap.size, 0, 0⟩) (by rw [hW2]; exact (Below.refl _ W1).alloc (Nat.le_refl _) _) (Nat.le_refl _) (by show W1.heap.size < _; omega) (fun c h => by cases h) fun E' hle hE' =>
            ⟨⟨w.heap.size, 0, 0⟩, a.tmps, fm, hle _ _ Env.set_self, hd2, HA.sz, fun k => (HA.sl k).mono (Env.le_trans g1.1 hle)⟩
          have gx := Env.ex_trans g1 (Nat.le_succ _) g2
          have g12 := gx.1
          obtain ⟨hE, hC⟩ := c3 (hH) B N w0 _ W2 (fs ++ (.func (.yield W1.heap.size) #[] #[] :: cs)) H2 (HG.mono g12) ((e2.mono g12).append (VRL.cons (by unfold VR; exact ⟨⟨W1.heap.size, 0, 0⟩, Env.set_self, rfl⟩) (e3.mono g12)))
          refine ⟨W1.heap.size, [{ target := .collected w.heap.size, args := #[] }], W2, { target := .fn (.func h) cs.toArray, args := fs.toArray ++ #[.func (.yield W1.heap.size) #[] #[]] }, W2, h, fs.toArray ++ #[.func (.yield W1.heap.size) #[] #[]] ++ cs.toArray, W2, ?_, run_resolveR e1 _, fun _ _ => trivial, run_invokeE hE _, fun _ => by omega, ?_⟩
          · rw [hs1, hW2, hW1]; exact run_enterLoop_outer _ _ _ _ _
          · rw [show fs.toArray ++ #[.func (.yield W1.heap.size) #[] #[]] ++ cs.toArray = (fs ++ (.func (.yield W1.heap.size) #[] #[] :: cs)).toArray by simp]
            refine (fnc_calls (rd := none) hC).mono ?_
            rintro e w3 ⟨u, rfl, E3, hle, H3, _⟩
            exact range_end (f := f) (a := { a with defers := [{ target := .collected w.heap.size, args := #[] }] ++ a.defers }) (ds := .lp M.nx :: f.ds) hj hst hg H3 (hle.1 _ _ Env.set_self) ⟨fun k => (HA.sl k).mono (Env.le_trans g12 hle.1), HA.sz, ⟨⟨w.heap.size, 0, 0⟩, a.defers, hle.1 _ _ (g2.1 _ _ Env.set_self), rfl, HA.df.mono (Env.le_trans g12 hle.1)⟩⟩ (Env.ex_trans h0 hm (Env.ex_trans gx (by show M.nx ≤ M.nx + 1 + 1; omega) hle))
    | some r =>
      simp only [Option.bind_some] at hx
      cases hr : M.h.get r with
      | none => rw [hr] at hx; cases hx
      | some rb =>
        rw [hr] at hx
        cases rb with
        | loop fn0 s0 n0 ps0 as0 bd0 st0 pend0 d0 =>
          simp only [Mem.new_eq] at hx
          split at hx
          · cases hx
          · rename_i v M3 hc
            obtain ⟨c1, c2, c3⟩ := HL.call _ _ _ _ _ hc
            obtain ⟨fn', s', n', ps', as', bd', st, pend, d', hg, hst, hj, rfl, rfl⟩ := rngEnd_ok hx
            refine ⟨c1, Nat.le_trans (by show M.nx ≤ M.nx + 1; omega) c2, fun hH m B N w0 E0 E w a rl h0 hm H HG HR HA => ?_⟩
            cases rl with
            | none => exact HR.elim
            | some l0 =>
              obtain ⟨L0, hL0, rfl⟩ := HR
              obtain ⟨D, tmps0, fm0, b1, b2, b3, b4⟩ := H.blk r L0 _ hL0 hr
              have hv := evG_ok HA.sl HG g
              rw [hgv] at hv
              unfold VR at hv
              obtain ⟨fs, cs, e1, e2, e3⟩ := hv
              refine wpIn_rangeFunc fun fm _ => ?_
              obtain ⟨W2, hW2⟩ : ∃ W2, W2 = w.alloc (.loop { state := .ready, pending := none, fn := fm, tmps := a.tmps, params := ps, assign := asx, body := bd, defers := D.g }) := ⟨_, rfl⟩
              have hs2 : W2.heap.size = w.heap.size + 1 := by rw [hW2, World.size_alloc]
              have hd2 : W2.heap[w.heap.size]? = some (.loop { state := .ready, pending := none, fn := fm, tmps := a.tmps, params := ps, assign := asx, body := bd, defers := D.g }) := by rw [hW2]; exact World.alloc_heap_new w _
              obtain ⟨g2, H2⟩ := H.new (w' := W2) (b := .loop fn f.s n ps asx bd .ready none d0) (L := ⟨w.heap.size, 0, 0⟩) (by rw [hW2]; exact (Below.refl _ w).alloc (Nat.le_refl _) _) (Nat.le_refl _) (by show w.heap.size < _; omega) (fun c h => by cases h) fun E' hle hE' =>
                ⟨D, a.tmps, fm, hle _ _ b1, hd2, HA.sz, fun k => (HA.sl k).mono hle⟩
              obtain ⟨hE, hC⟩ := c3 (hH) B N w0 _ W2 (fs ++ (.func (.yield w.heap.size) #[] #[] :: cs)) H2 (HG.mono g2.1) ((e2.mono g2.1).append (VRL.cons (by unfold VR; exact ⟨⟨w.heap.size, 0, 0⟩, Env.set_self, rfl⟩) (e3.mono g2.1)))
              refine ⟨w.heap.size, [], W2, { target := .fn (.func h) cs.toArray, args := fs.toArray ++ #[.func (.yield w.heap.size) #[] #[]] }, W2, h, fs.toArray ++ #[.func (.yield w.heap.size) #[] #[]] ++ cs.toArray, W2, ?_, run_resolveR e1 _, fun _ _ => trivial, run_invokeE hE _, fun _ => by omega, ?_⟩
              · rw [hW2]; exact run_enterLoop_inner b2 _ _ _ _ _
              · rw [show fs.toArray ++ #[.func (.yield w.heap.size) #[] #[]] ++ cs.toArray = (fs ++ (.func (.yield w.heap.size) #[] #[] :: cs)).toArray by simp]
                refine (fnc_calls (rd := some L0.g) hC).mono ?_
                rintro e w3 ⟨u, rfl, E3, hle, H3, _⟩
                exact range_end (f := f) (ds := f.ds) hj hst hg H3 (hle.1 _ _ Env.set_self) (HA.mono (Env.le_trans g2.1 hle.1)) (Env.ex_trans h0 hm (Env.ex_trans g2 (Nat.le_succ _) hle))
        | _ => cases hx
  · cases hx
end
end
end Mu.CI
end
section
/-
  A run of code over known memory: rounds, calls, levels.
  Conditions: none; generic.
-/
namespace Mu.CI
open Go Go.RowKit
noncomputable section
set_option linter.unusedVariables false

section
variable {P : Program} {md : Bool} {G n LF : Nat} {LV : Lev} {fn : FuncId} {rd : Option Nat} {B : Nat} {N : Nat → Prop} {w0 w w' : World} {E E' E0 : Env} {M M' : Mem} {a : Act} {R : Type}
theorem putAllK_ok : ∀ (ts : List Tmp) (vs : List CV) (s : Sl) (K : Sl → Option R) (r : R), putAllK md ts vs n s K = some r → ∃ s', K s' = some r ∧ ts.length = vs.length ∧
    ∀ (E : Env) (tmps : Array Value) (us : List Value), tmps.size = n → SlotsR E s tmps → VRL E vs us → ((ts.zip us).foldl (fun t p => t.setIfInBounds p.1 p.2) tmps).size = n ∧ SlotsR E s' ((ts.zip us).foldl (fun t p => t.setIfInBounds p.1 p.2) tmps)
  | [], [], s, K, r, h => ⟨s, h, rfl, fun E tmps us hn HS hv => ⟨hn, HS⟩⟩
  | t :: ts, v :: vs, s, K, r, h => by
    simp only [putAllK] at h
    cases hb : Nat.blt t n with
    | false => rw [hb] at h; cases h
    | true =>
      simp only [hb, cond_true, fW_eq, Tr.setK_eq] at h
      obtain ⟨s', h1, h2, h3⟩ := putAllK_ok ts vs _ K r h
      refine ⟨s', h1, by simp [h2], fun E tmps us hn HS hv => ?_⟩
      unfold VRL at hv
      obtain ⟨u, us', rfl, hu, hus⟩ := hv
      have hA : AR E n ⟨s, []⟩ { tmps := tmps, defers := [] } := ⟨HS, hn, rfl⟩
      have hA' := hA.put (Nat.blt_eq.mp hb) hu
      exact h3 E _ us' hA'.sz hA'.sl hus
  | [], _ :: _, s, K, r, h => by cases h
  | _ :: _, [], s, K, r, h => by cases h
theorem yld_ok (HL : LevOK P G LV) (HD : ∀ n, DrawOK P md G n LV) {y : Nat} {args : List CV} {v : CV} (h : yldC P md G LF LV y args M = some (v, M')) : M.sfx M' ∧ M.nx ≤ M'.nx ∧ (M'.Holds → ∀ (B : Nat) (N : Nat → Prop) (w0 : World) (E : Env) (w : World) (vs : List Value) (L : Loc),
    HR B N w0 E M w → GR E G → VRL E args vs → E y = some L → ∃ fn tmps assign body, (Instr.yield L.g vs.toArray).run P w = .ok (.round L.g fn tmps assign body) w ∧
      ∀ m, RoundIn Fence.wide m P L.g fn tmps assign body w (lp fun u w' => ∃ E', Env.ex M.nx E E' ∧ HR B N w0 E' M' w' ∧ VR E' v u)) := by
  unfold yldC at h
  split at h
  · rename_i fn s n ps assign body d hg
    obtain ⟨s1, h, hlen, hS⟩ := putAllK_ok _ _ _ _ _ h
    split at h
    · rename_i f1 M1 ha
      obtain ⟨a1, a2, a3⟩ := exC_ok HL (HD n) (rangeF_ok HL) _ _ _ _ _ _ ha
      split at h
      · rename_i fn1 s1' n1 ps1 as1 bd1 d1 hg1
        simp only [Tr.setK_eq] at h
        split at h
        · rename_i x f2 M2 hb
          obtain ⟨b1, b2, b3⟩ := exC_ok HL (HD n) (rangeF_ok HL) _ _ _ _ _ _ hb
          split at h
          · rename_i fn2 s2 n2 ps2 as2 bd2 d2 hg2
            simp only [Tr.setK_eq, Option.some.injEq, Prod.mk.injEq] at h
            obtain ⟨rfl, rfl⟩ := h
            refine ⟨Mem.sfx_trans a1 b1, Nat.le_trans a2 b2, fun hH B N w0 E w vs L H HG hv hy => ?_⟩
            obtain ⟨D, tmps, fm, c1, c2, c3, c4⟩ := H.blk y L _ hy hg
            have hvl : vs.toArray.size = ps.size := by simp [hv.len, ← hlen]
            have hrun := run_yield (P := P) c2 hvl
            refine ⟨_, _, _, _, hrun, fun m => ?_⟩
            obtain ⟨hz, hS'⟩ := hS E tmps vs c3 c4 hv
            have e1 : (ps.zip vs.toArray).foldl (fun tmps (t, a) => tmps.setIfInBounds t a) tmps = (ps.toList.zip vs).foldl (fun t p => t.setIfInBounds p.1 p.2) tmps := by
              rw [← Array.foldl_toList, Array.toList_zip]
            simp only [e1]
            refine roundIn_of_wpIn trivial ?_
            refine fnc_n (rd := some L.g) (wpIn_mono (a3 (Mem.Holds.of (M := M1) hH b1) M.nx B N w0 E E w _ (some L.g) (Env.ex_refl E) (Nat.le_refl _) H HG ⟨L, hy, rfl⟩ ⟨hS', hz, rfl⟩) ?_)
            rintro e a' w1 ⟨rfl, E1, hle1, H1, HA1⟩
            obtain ⟨D1, tm1, fm1, k1, k2, k3, k4⟩ := H1.blk y L _ (hle1.1 _ _ hy) hg1
            refine ⟨_, run_beginRound k2 rfl, ?_⟩
            have H1' : HR B N w0 E1 (M1.put y (.loop fn1 s1' n1 ps1 as1 bd1 .busy none d1)) (w1.putObj L.g (.loop { state := .busy, pending := none, fn := fm1, tmps := tm1, params := ps1, assign := as1, body := bd1, defers := D1.g })) :=
              upd_loop H1 (hle1.1 _ _ hy) hg1 rfl (fun c h => by cases h) ⟨D1, tm1, fm1, k1, World.putObj_heap_same (H1.lt y L (hle1.1 _ _ hy)), k3, k4⟩
            refine fnc_n (rd := some L.g) (wpIn_mono (b3 hH M1.nx B N w0 E1 E1 _ a' (some L.g) (Env.ex_refl E1) (Nat.le_refl _) H1' (HG.mono hle1.1) ⟨L, hle1.1 _ _ hy, rfl⟩ HA1) ?_)
            rintro e a2' w2 ⟨rfl, E2, hle2, H2, HA2⟩
            have hy2 := hle2.1 _ _ (hle1.1 _ _ hy)
            obtain ⟨D2, tm2, fm2, j1, j2, j3, j4⟩ := H2.blk y L _ hy2 hg2
            have fin : ∀ (jump : Option Code), (stOf x = if jump.isNone then .ready else .done) → pendOf x = jump → isNm x = jump.isNone →
                ∃ v w', (Instr.endRound L.g jump).run P w2 = .ok v w' ∧ lp (fun u w' => ∃ E', Env.ex M.nx E E' ∧ HR B N w0 E' (M2.put y (.loop fn2 s2 n2 ps2 as2 bd2 (stOf x) (pendOf x) d2)) w' ∧ VR E' (.bo (isNm x)) u) (.returned v) w' := fun jump p1 p2 p3 => by
              refine ⟨_, _, run_endRound jump j2, _, rfl, E2, Env.ex_trans hle1 a2 hle2, ?_, by unfold VR; rw [p3]⟩
              refine upd_loop H2 hy2 hg2 rfl (fun c h => by cases h) ⟨D2, tm2, fm2, j1, ?_, j3, j4⟩
              rw [World.putObj_heap_same (H2.lt y L hy2), p1, p2]
            cases x with
            | nm => exact fin none rfl rfl rfl
            | ex i => exact fin (some (.exit i)) rfl rfl rfl
            | gt l => exact fin (some (.goto l)) rfl rfl rfl
            | rt => exact fin (some .ret) rfl rfl rfl
          · cases h
        · cases h
      · cases h
    · cases h
  · cases h
/-! ### calls -/
theorem argsK_ok : ∀ (vs : List CV) (i : Nat) (s : Sl) (K : Sl → Option R) (r : R), argsK md vs i s K = some r → ∃ s', K s' = some r ∧ ∀ k, s'.get k = if i ≤ k ∧ k < i + vs.length then vs[k - i]? else s.get k
  | [], i, s, K, r, h => ⟨s, h, fun k => by simp only [List.length_nil]; rw [if_neg (by omega)]⟩
  | v :: vs, i, s, K, r, h => by
    simp only [argsK, fW_eq, Tr.setK_eq, fN_eq] at h
    obtain ⟨s', h1, h2⟩ := argsK_ok vs (i + 1) _ K r h
    refine ⟨s', h1, fun k => ?_⟩
    rw [h2]
    simp only [List.length_cons]
    by_cases h0 : k = i
    · subst h0
      rw [if_neg (by omega), if_pos (by omega), Tr.get_set_self]
      simp
    · by_cases h1 : i + 1 ≤ k ∧ k < i + 1 + vs.length
      · rw [if_pos h1, if_pos (by omega), show k - i = (k - (i + 1)) + 1 by omega]
        rfl
      · rw [if_neg h1, if_neg (by omega), Tr.get_set_ne _ h0]
theorem args_rel {args : List CV} {vs : List Value} {s : Sl} (hs : ∀ k, s.get k = if 0 ≤ k ∧ k < 0 + args.length then args[k - 0]? else (Tr.e : Sl).get k) (hv : VRL E args vs) (m : Nat) :
    SlotsR E s (vs.toArray ++ Array.replicate m undef) := fun k => by
  rw [hs k]
  by_cases hk : k < args.length
  · rw [if_pos (by omega)]
    obtain ⟨x, hx⟩ : ∃ x, args[k]? = some x := ⟨_, List.getElem?_eq_getElem hk⟩
    obtain ⟨u, h1, h2⟩ := hv.get hx
    rw [Nat.sub_zero, hx]
    have : (vs.toArray ++ Array.replicate m undef).getD k undef = u := by
      rw [Array.getD_eq_getD_getElem?, Array.getElem?_append_left (by simpa [hv.len] using hk)]
      simp [h1]
    rw [this]
    exact h2
  · rw [if_neg (by omega), Tr.get_e]
    have : (vs.toArray ++ Array.replicate m undef).getD k undef = undef := by
      rw [Array.getD_eq_getD_getElem?, Array.getElem?_append_right (by simpa [hv.len] using hk), Array.getElem?_replicate]
      split <;> rfl
    rw [this]
    exact ud_rel E
theorem callsD_mono {n : Nat} {f : FuncId} {args : Array Value} {u : FrameMode} {w : World} {R R' : Ending → FrameMode → World → Prop} (h : CallsDIn Fence.wide n P f args u w R) (hr : ∀ e u' w', R e u' w' → R' e u' w') : CallsDIn Fence.wide n P f args u w R' :=
  ⟨h.1, fun c cs hm hroom => let ⟨e, u', w', fr, r, x⟩ := h.2 c cs hm hroom; ⟨e, u', w', fr, hr _ _ _ r, x⟩⟩
theorem closeD_ok (HL : LevOK P G LV) {fnc' : Go.Func} {tmps : Array Value} {Rr : Ending → World → Prop} : ∀ (ds : Ds) (M : Mem), closeD LV ds M = some M' → M.sfx M' ∧ M.nx ≤ M'.nx ∧ (M'.Holds → ∀ (B : Nat) (N : Nat → Prop) (w0 : World) (E : Env) (w : World) (l : List Deferred), HR B N w0 E M w → GR E G → DfR E ds l →
    (∀ w' E', Env.ex M.nx E E' → HR B N w0 E' M' w' → ∃ v, (results fnc' tmps).run P w' = .ok v w' ∧ Rr (.returned v) w') → LeavesInM Fence.wide 4 P fnc' tmps Rr l .returning w)
  | [], M, h => by
    cases h
    refine ⟨Mem.sfx_refl _, Nat.le_refl _, fun _ B N w0 E w l H HG hd hf => ?_⟩
    cases hd
    exact hf w E (Env.ex_refl E) H
  | .lp d :: ds, M, h => by
    simp only [closeD] at h
    split at h
    · rename_i hg
      rw [Tr.setK_eq] at h
      obtain ⟨k1, k2, k3⟩ := closeD_ok HL ds _ h
      refine ⟨k1, k2, fun hH B N w0 E w l H HG hd hf => ?_⟩
      obtain ⟨L, r, hL, rfl, hr⟩ := hd
      have hb : w.heap[L.g]? = some (.deferred (some [])) := H.blk d L _ hL hg
      refine ⟨by simp, .inl ⟨L.g, w.putObj L.g (.deferred none), rfl, run_takeDeferred hb, ?_⟩⟩
      exact k3 hH B N w0 E _ r (upd_loop (b := .dead) H hL hg rfl (fun c h => by cases h) trivial) HG hr hf
    · cases h
  | .cl g asx cs :: ds, M, h => by
    simp only [closeD] at h
    cases hx : LV.dfr g (asx ++ cs) M with
    | none => rw [hx] at h; cases h
    | some M1 =>
      rw [hx] at h
      obtain ⟨j1, j2, j3⟩ := HL.dfr _ _ _ _ hx
      obtain ⟨k1, k2, k3⟩ := closeD_ok HL ds M1 h
      refine ⟨Mem.sfx_trans j1 k1, Nat.le_trans j2 k2, fun hH B N w0 E w l H HG hd hf => ?_⟩
      obtain ⟨vs, us, r, hv, hu, rfl, hr⟩ := hd
      obtain ⟨hE, hC⟩ := j3 (hH.of k1) B N w0 E w (vs ++ us) H HG (hv.append hu)
      refine ⟨by simp, .inr ⟨fun h => (by cases h), .func g, us.toArray, g, vs.toArray ++ us.toArray, rfl, run_invokeE hE w, fun _ _ => trivial, ?_⟩⟩
      have hC := hC (4 - 1)
      rw [show (vs ++ us).toArray = vs.toArray ++ us.toArray by simp] at hC
      refine callsD_mono hC ?_
      rintro e u w' ⟨rfl, ⟨v, rfl⟩, E', hx', H'⟩
      exact k3 hH B N w0 E' w' r H' (HG.mono hx'.1) (hr.mono hx'.1) fun w2 E2 hx2 H2 => hf w2 E2 (Env.ex_trans hx' j2 hx2) H2
def resF (tmps : Array Value) : ResultVar → Sem Value
  | .tmp t => pure (tmps.getD t undef)
  | .cell a t => do loadVar t (← asAddr (tmps.getD a undef))
theorem resC_ok {s : Sl} (H : HR B N w0 E M w) {tmps : Array Value} (HS : SlotsR E s tmps) : ∀ (rs : List ResultVar) (l : List CV), resC P s M rs = some l → ∃ vs, (rs.mapM (resF tmps)).run P w = .ok vs w ∧ VRL E l vs
  | [], l, h => by cases h; exact ⟨[], rfl, VRL.nil⟩
  | .tmp t :: r, l, h => by
    simp only [resC] at h
    split at h
    · rename_i l' hl
      cases h
      obtain ⟨vs, h1, h2⟩ := resC_ok H HS r l' hl
      refine ⟨tmps.getD t undef :: vs, ?_, VRL.cons (HS t) h2⟩
      simp [List.mapM_cons, resF, Sem.run_bind, Result.andThen, h1]
    · cases h
  | .cell a ty :: r, l, h => by
    simp only [resC] at h
    split at h
    · rename_i g o k l' hx hs hl
      obtain ⟨vs, h1, h2⟩ := resC_ok H HS r l' hl
      cases hr : M.rd g o k with
      | none => rw [hr] at h; cases h
      | some cs =>
        rw [hr] at h
        have ha := HS a
        rw [hx] at ha
        unfold VR at ha
        obtain ⟨L, hL, he⟩ := ha
        obtain ⟨us, k1, k2, k3, k4⟩ := rd_ok H hL hr
        have hload : (loadCells ⟨L.g, L.o + o, none⟩ k).run P w = .ok us.toArray w := by
          rw [← k2]
          exact run_loadCells_list w ⟨L.g, L.o + o, none⟩ us fun j v hv => by
            rw [Addr.add_lit]
            exact k3 j v hv
        simp only at h
        split at h
        · rename_i hag
          cases h
          refine ⟨.agg us.toArray :: vs, ?_, VRL.cons (by unfold VR; exact ⟨us, rfl, k1, k4⟩) h2⟩
          have hv : (loadVar ty ⟨L.g, L.o + o, none⟩).run P w = .ok (.agg us.toArray) w := by
            unfold loadVar
            simp [run_agg hag, run_size hs, hload]
          simp [List.mapM_cons, resF, Sem.run_bind, Result.andThen, h1, he, asAddr, hv]
        · rename_i v hag
          cases h
          unfold VRL at k1
          obtain ⟨u, r', rfl, hu, hr'⟩ := k1
          have hc := k3 0 u rfl
          refine ⟨u :: vs, ?_, VRL.cons hu h2⟩
          have hv : (loadVar ty ⟨L.g, L.o + o, none⟩).run P w = .ok u w := by
            unfold loadVar
            simp only [Nat.add_zero] at hc
            simp [run_agg hag, load, Sem.run, hc]
          simp [List.mapM_cons, resF, Sem.run_bind, Result.andThen, h1, he, asAddr, hv]
        · cases h
    · cases h
def tuC : List CV → CV
  | [v] => v
  | l => .tu l
theorem results_ok {fnc' : Go.Func} {tmps : Array Value} {l : List CV} {vs : List Value} (h : (fnc'.results.toList.mapM (resF tmps)).run P w = .ok vs w) (hv : VRL E l vs) : ∃ u, (results fnc' tmps).run P w = .ok u w ∧ VR E (tuC l) u := by
  have hm : (fnc'.results.mapM (resF tmps)).run P w = .ok vs.toArray w := by
    rw [Array.mapM_eq_mapM_toList]
    simp [Sem.run_bind, h, Result.andThen]
  have hr : results fnc' tmps = (do
      let vs ← fnc'.results.mapM (resF tmps)
      pure (if h : vs.size = 1 then vs[0] else .tuple vs)) := by
    unfold results
    congr 2
  rw [hr]
  simp only [Sem.run_bind, hm, Result.andThen, Sem.run_pure]
  refine ⟨_, rfl, ?_⟩
  cases l with
  | nil =>
    unfold VRL at hv
    subst hv
    unfold tuC VR
    exact ⟨[], rfl, VRL.nil⟩
  | cons x l =>
    cases l with
    | nil =>
      unfold VRL at hv
      obtain ⟨u, r, rfl, hu, hr⟩ := hv
      unfold VRL at hr
      subst hr
      exact hu
    | cons y l =>
      have hl := hv.len
      rw [dif_neg (by simp [hl])]
      show VR E (.tu (x :: y :: l)) _
      unfold VR
      exact ⟨vs, rfl, hv⟩
theorem call_ok (HL : LevOK P G LV) (HD : ∀ n, DrawOK P md G n LV) {g : FuncId} {args : List CV} {v : CV} (h : callC P md G LF LV g args M = some (v, M')) : M.sfx M' ∧ M.nx ≤ M'.nx ∧ (M'.Holds → ∀ (B : Nat) (N : Nat → Prop) (w0 : World) (E : Env) (w : World) (vs : List Value),
    HR B N w0 E M w → GR E G → VRL E args vs → Enters P g = true ∧ Calls P g vs.toArray w (lp fun u w' => ∃ E', Env.ex M.nx E E' ∧ HR B N w0 E' M' w' ∧ VR E' v u)) := by
  unfold callC at h
  cases hf : P.funcs[g]? with
  | none => rw [hf] at h; cases h
  | some fn =>
    rw [hf] at h
    simp only at h
    cases hn : decide (fn.name = "runtime.NumGoroutine") with
    | true => rw [hn] at h; cases h
    | false =>
      rw [hn, cond_false] at h
      cases hb : fn.body with
      | none => rw [hb] at h; cases h
      | some c =>
        rw [hb] at h
        simp only at h
        cases ha : Nat.ble args.length fn.ntmps with
        | false => rw [ha] at h; cases h
        | true =>
          rw [ha, cond_true] at h
          obtain ⟨s, h, hs⟩ := argsK_ok _ _ _ _ _ h
          have hE : Enters P g = true := by
            unfold Enters
            rw [hf]
            simp [hb]
            simpa using hn
          have key : ∀ (x : Xt) (f : Fr) (M1 : Mem), (x = .nm ∨ x = .rt) → exC P md G fn.ntmps LV g none LF c ⟨s, []⟩ M = some (x, f, M1) →
              (match closeD LV f.ds M1 with
              | some M => (match resC P f.s M fn.results.toList with
                | some [v] => some (v, M)
                | some l => some (.tu l, M)
                | none => none)
              | none => none) = some (v, M') → M.sfx M' ∧ M.nx ≤ M'.nx ∧ (M'.Holds → ∀ (B : Nat) (N : Nat → Prop) (w0 : World) (E : Env) (w : World) (vs : List Value),
              HR B N w0 E M w → GR E G → VRL E args vs → Enters P g = true ∧ Calls P g vs.toArray w (lp fun u w' => ∃ E', Env.ex M.nx E E' ∧ HR B N w0 E' M' w' ∧ VR E' v u)) := fun x f M1 hx he h => by
            obtain ⟨a1, a2, a3⟩ := exC_ok HL (HD fn.ntmps) (rangeF_ok HL) _ _ _ _ _ _ he
            cases hc : closeD LV f.ds M1 with
            | none => rw [hc] at h; cases h
            | some M2 =>
              rw [hc] at h
              simp only at h
              cases hr : resC P f.s M2 fn.results.toList with
              | none => rw [hr] at h; cases h
              | some l =>
                rw [hr] at h
                have hvl : v = tuC l ∧ M' = M2 := by
                  match l, h with
                  | [], h => cases h; exact ⟨rfl, rfl⟩
                  | [x], h => cases h; exact ⟨rfl, rfl⟩
                  | x :: y :: r, h => cases h; exact ⟨rfl, rfl⟩
                obtain ⟨rfl, rfl⟩ := hvl
                obtain ⟨q1, q2, q3⟩ := closeD_ok (P := P) HL (fnc' := fn) (tmps := #[]) (Rr := fun _ _ => True) _ _ hc
                refine ⟨Mem.sfx_trans a1 q1, Nat.le_trans a2 q2, fun hH B N w0 E w vs H HG hv => ⟨hE, ?_⟩⟩
                · have hH1 : M1.Holds := hH.of q1
                  refine callsIn_wide.1 (callsIn_of_wp_marks (n := 4) hf hb trivial ?_)
                  have hlen := Nat.le_of_ble_eq_true ha
                  have hA : AR E fn.ntmps ⟨s, []⟩ { tmps := vs.toArray ++ Array.replicate (fn.ntmps - vs.toArray.size) undef, defers := [] } :=
                    ⟨args_rel hs hv _, by simp [hv.len]; omega, rfl⟩
                  refine wpIn_mono (a3 hH1 M.nx B N w0 E E w _ none (Env.ex_refl E) (Nat.le_refl _) H HG trivial hA) ?_
                  rintro e a' w' ⟨rfl, E', hle, H', HA'⟩
                  obtain ⟨q1, q2, q3⟩ := closeD_ok (P := P) HL (fnc' := fn) (tmps := a'.tmps) (Rr := lp fun u w' => ∃ E', Env.ex M.nx E E' ∧ HR B N w0 E' M' w' ∧ VR E' (tuC l) u) _ _ hc
                  have := q3 hH B N w0 E' w' a'.defers H' (HG.mono hle.1) HA'.df fun w2 E2 hx2 H2 => by
                    obtain ⟨us, r1, r2⟩ := resC_ok H2 (HA'.sl.mono hx2.1) _ _ hr
                    obtain ⟨u, u1, u2⟩ := results_ok r1 r2
                    exact ⟨u, u1, u, rfl, E2, Env.ex_trans hle a2 hx2, H2, u2⟩
                  rcases hx with rfl | rfl
                  · exact this
                  · exact this
          split at h
          · rename_i f M1 he; exact key .nm f M1 (.inl rfl) he h
          · rename_i f M1 he; exact key .rt f M1 (.inr rfl) he h
          · cases h
theorem seqS_ok {ops : Array Oper} {ds : Ds} {K : Sl → Mem → Ret} {r : Xt × Fr × Mem} : ∀ (l : List Nat) (lo : List Oper) (s : Sl) (M : Mem), l.map (ops[·]?) = lo.map some → seqS P md G n lo s M K = some r → ∃ s' M', K s' M' = some r ∧ M.sfx M' ∧ M.nx ≤ M'.nx ∧
    (M'.Holds → ∀ (k m B : Nat) (N : Nat → Prop) (w0 : World) (E0 E : Env) (w : World) (a : Act) (cs : List Frame) (Q : Exit → Act → List Frame → World → Prop), recoverD cs = none → Env.ex m E0 E → m ≤ M.nx → HR B N w0 E M w → GR E G → AR E n ⟨s, ds⟩ a →
      (∀ a' w' E', Env.ex m E0 E' → HR B N w0 E' M' w' → AR E' n ⟨s', ds⟩ a' → Q .normal a' cs w') → wpOpsSIn Fence.wide k P ops Q l a cs w)
  | [], [], s, M, _, h => ⟨s, M, h, M.sfx_refl, Nat.le_refl _, fun _ k m B N w0 E0 E w a cs Q hc h0 hm H HG HA HK => HK a w E h0 H HA⟩
  | [], _ :: _, _, _, hl, _ => by simp at hl
  | _ :: _, [], _, _, hl, _ => by simp at hl
  | i :: l, o :: lo, s, M, hl, h => by
    simp only [List.map_cons, List.cons.injEq] at hl
    obtain ⟨ho, hl⟩ := hl
    unfold seqS at h
    cases hg : o.guard with
    | some g => rw [hg] at h; cases h
    | none =>
      rw [hg] at h
      simp only at h
      have hw : ∀ t : Array Value, Region.wanted o (yielded ops t) = true := fun t => by simp [Region.wanted, hg]
      cases hr : recO o with
      | true =>
        rw [hr, cond_true] at h
        obtain ⟨s1, h, hput⟩ := putK_ok (f := ⟨s, ds⟩) h
        obtain ⟨s', M', k1, k2, k3, k4⟩ := seqS_ok l lo s1 M hl h
        refine ⟨s', M', k1, k2, k3, fun hH k m B N w0 E0 E w a cs Q hc h0 hm H HG HA HK => ?_⟩
        have hop : ∃ c tys args, o.op = .call { callee := .builtin .recover, args := args, argTypes := tys } ∧ c = () := by
          unfold recO at hr
          split at hr
          · rename_i c hc'
            obtain ⟨cl, asx, tys⟩ := c
            simp only at hr
            split at hr
            · exact ⟨(), tys, asx, hc', rfl⟩
            · cases hr
          · cases hr
        obtain ⟨_, tys, args, hop, _⟩ := hop
        have hrun : (execOp a.eval o).run P w = .ok .recover w := by
          simp [execOp, hop, resolve, invoke, builtin]
        show (match ops[i]? with | none => _ | some o => _)
        rw [ho]
        refine ⟨fun _ _ => trivial, ?_⟩
        rw [if_pos (hw _), hrun]
        show (match recoverD cs with | some (v, cs') => _ | none => _)
        rw [hc]
        exact k4 hH k m B N w0 E0 E w _ cs Q hc h0 hm H HG (hput E a .nilIface HA (by unfold VR; rfl)) HK
      | false =>
        rw [hr, cond_false] at h
        cases hx : exOp P md (evG G s) o.op M with
        | none => rw [hx] at h; cases h
        | some q =>
          obtain ⟨v, M1⟩ := q
          rw [hx] at h
          simp only at h
          obtain ⟨s1, h, hput⟩ := putK_ok (f := ⟨s, ds⟩) h
          obtain ⟨e1, e2, e3⟩ := exOp_ok hx
          obtain ⟨s', M', k1, k2, k3, k4⟩ := seqS_ok l lo s1 M1 hl h
          refine ⟨s', M', k1, Mem.sfx_trans e1 k2, Nat.le_trans e2 k3, fun hH k m B N w0 E0 E w a cs Q hc h0 hm H HG HA HK => ?_⟩
          obtain ⟨E', hle, w', H', hout⟩ := e3 (hH.of k2) B N w0 E w a.eval o rfl H fun x _ => evG_ok HA.sl HG x
          show (match ops[i]? with | none => _ | some o => _)
          rw [ho]
          refine ⟨fun _ _ => trivial, ?_⟩
          rw [if_pos (hw _)]
          rcases hout with ⟨u, hrun, hu⟩ | ⟨hrun, hv⟩
          · rw [hrun]
            exact k4 hH k m B N w0 E0 E' w' _ cs Q hc (Env.ex_trans h0 hm hle) (Nat.le_trans hm e2) H' (HG.mono hle.1) (hput E' a u (HA.mono hle.1) hu) HK
          · rw [hrun]
            subst hv
            exact k4 hH k m B N w0 E0 E' w' _ cs Q hc (Env.ex_trans h0 hm hle) (Nat.le_trans hm e2) H' (HG.mono hle.1) (hput E' a undef (HA.mono hle.1) (ud_rel E')) HK
/-- how a piece of a deferred call's code ends -/
def CodeS (P : Program) (G n : Nat) (c : Code) (f : Fr) (M : Mem) (x : Xt) (f' : Fr) (M' : Mem) : Prop := M.sfx M' ∧ M.nx ≤ M'.nx ∧
  (M'.Holds → ∀ (k m B : Nat) (N : Nat → Prop) (w0 : World) (E0 E : Env) (w : World) (a : Act) (cs : List Frame), recoverD cs = none → Env.ex m E0 E → m ≤ M.nx → HR B N w0 E M w → GR E G → AR E n f a → c.wpSIn Fence.wide k P (fun e a cs' w => cs' = cs ∧ Post m B N w0 E0 n x f' M' e a w) a cs w)
theorem wpSIn_mono {F : Fence} {k : Nat} {c : Code} {Q Q' : Exit → Act → List Frame → World → Prop} {a : Act} {cs : List Frame} {w : World} (h : c.wpSIn F k P Q a cs w) (hq : ∀ e a cs w, Q e a cs w → Q' e a cs w) : c.wpSIn F k P Q' a cs w :=
  fun b kk h1 h2 h3 h4 => let ⟨e, a', cs', w', l, q, r⟩ := h b kk h1 h2 h3 h4; ⟨e, a', cs', w', l, hq _ _ _ _ q, r⟩
theorem exS_ok (HL : LevOK P G LV) (HD : DrawOK P md G n LV) : ∀ (c : Code) (f : Fr) (M : Mem) (x : Xt) (f' : Fr) (M' : Mem), exS P md G LF n LV fn c f M = some (x, f', M') → CodeS P G n c f M x f' M' := by
  have base : ∀ (c : Code) (f : Fr) (M : Mem) (x : Xt) (f' : Fr) (M' : Mem), exC P md G n LV fn none LF c f M = some (x, f', M') → CodeS P G n c f M x f' M' := fun c f M x f' M' h => by
    obtain ⟨k1, k2, k3⟩ := exC_ok HL HD (rangeF_ok HL) _ _ _ _ _ _ h
    refine ⟨k1, k2, fun hH k m B N w0 E0 E w a cs hc h0 hm H HG HA => ?_⟩
    refine wpSIn_of_wpIn rfl (fnc_n (rd := none) (wpIn_mono (k3 hH m B N w0 E0 E w a none h0 hm H HG trivial HA) ?_))
    exact fun e a w hp => ⟨rfl, hp⟩
  intro c
  induction c with
  | seq a b iha ihb =>
    intro f M x f' M' h
    simp only [exS] at h
    cases ha : exS P md G LF n LV fn a f M with
    | none => rw [ha] at h; cases h
    | some p =>
      obtain ⟨y, f1, M1⟩ := p
      rw [ha] at h
      obtain ⟨h1, h2, h3⟩ := iha f M y f1 M1 ha
      cases y with
      | nm =>
        obtain ⟨k1, k2, k3⟩ := ihb f1 M1 x f' M' h
        refine ⟨Mem.sfx_trans h1 k1, Nat.le_trans h2 k2, fun hH k m B N w0 E0 E w ac cs hc h0 hm H HG HA => ?_⟩
        refine wpSIn_seq (wpSIn_mono (h3 (hH.of k1) k M.nx B N w0 E E w ac cs hc (Env.ex_refl E) (Nat.le_refl _) H HG HA) ?_)
        rintro e a' cs' w' ⟨rfl, rfl, E', hle, H', HA'⟩
        exact k3 hH k m B N w0 E0 E' w' a' _ hc (Env.ex_trans h0 hm hle) (Nat.le_trans hm h2) H' (HG.mono hle.1) HA'
      | ex i =>
        cases h
        refine ⟨h1, h2, fun hH k m B N w0 E0 E w ac cs hc h0 hm H HG HA => wpSIn_seq (wpSIn_mono (h3 hH k m B N w0 E0 E w ac cs hc h0 hm H HG HA) ?_)⟩
        rintro e a' cs' w' ⟨rfl, rfl, hh⟩
        exact ⟨rfl, rfl, hh⟩
      | gt i =>
        cases h
        refine ⟨h1, h2, fun hH k m B N w0 E0 E w ac cs hc h0 hm H HG HA => wpSIn_seq (wpSIn_mono (h3 hH k m B N w0 E0 E w ac cs hc h0 hm H HG HA) ?_)⟩
        rintro e a' cs' w' ⟨rfl, rfl, hh⟩
        exact ⟨rfl, rfl, hh⟩
      | rt =>
        cases h
        refine ⟨h1, h2, fun hH k m B N w0 E0 E w ac cs hc h0 hm H HG HA => wpSIn_seq (wpSIn_mono (h3 hH k m B N w0 E0 E w ac cs hc h0 hm H HG HA) ?_)⟩
        rintro e a' cs' w' ⟨rfl, rfl, hh⟩
        exact ⟨rfl, rfl, hh⟩
  | region id ops draw =>
    intro f M x f' M' h
    simp only [exS] at h
    cases hb : !draw && ops.toList.any recO with
    | false => rw [hb, cond_false] at h; exact base _ _ _ _ _ _ h
    | true =>
      rw [hb, cond_true] at h
      rw [Bool.and_eq_true, Bool.not_eq_true'] at hb
      have hd := hb.1
      subst hd
      obtain ⟨s', M1, h1, k1, k2, k3⟩ := seqS_ok (ops := ops) (ds := f.ds) (List.range ops.size) ops.toList f.s M (by
        apply List.ext_getElem?
        intro i
        by_cases hi : i < ops.size
        · simp [List.getElem?_map, List.getElem?_range hi, Array.getElem?_eq_getElem hi]
        · simp [List.getElem?_eq_none, Nat.le_of_not_lt hi]) h
      cases h1
      refine ⟨k1, k2, fun hH k m B N w0 E0 E w a cs hc h0 hm H HG HA => wpSIn_region (k3 hH k m B N w0 E0 E w a cs _ hc h0 hm H HG HA fun a' w' E' hx H' HA' => ⟨rfl, rfl, E', hx, H', HA'⟩)⟩
  | _ => exact fun f M x f' M' h => base _ _ _ _ _ _ h
theorem dfr_ok (HL : LevOK P G LV) (HD : ∀ n, DrawOK P md G n LV) {g : FuncId} {args : List CV} (h : dfrC P md G LF LV g args M = some M') : M.sfx M' ∧ M.nx ≤ M'.nx ∧ (M'.Holds → ∀ (B : Nat) (N : Nat → Prop) (w0 : World) (E : Env) (w : World) (vs : List Value),
    HR B N w0 E M w → GR E G → VRL E args vs → Enters P g = true ∧ ∀ n, CallsDIn Fence.wide n P g vs.toArray .returning w (dfrP B N w0 E M.nx M')) := by
  unfold dfrC at h
  cases hf : P.funcs[g]? with
  | none => rw [hf] at h; cases h
  | some fn =>
    rw [hf] at h
    simp only at h
    cases hn : decide (fn.name = "runtime.NumGoroutine") with
    | true => rw [hn] at h; cases h
    | false =>
      rw [hn, cond_false] at h
      cases hb : fn.body with
      | none => rw [hb] at h; cases h
      | some c =>
        rw [hb] at h
        simp only at h
        cases ha : Nat.ble args.length fn.ntmps with
        | false => rw [ha] at h; cases h
        | true =>
          rw [ha, cond_true] at h
          obtain ⟨s, h, hs⟩ := argsK_ok _ _ _ _ _ h
          have hE : Enters P g = true := by
            unfold Enters
            rw [hf]
            simp [hb]
            simpa using hn
          cases he : exS P md G LF fn.ntmps LV g c ⟨s, []⟩ M with
          | none => rw [he] at h; cases h
          | some q =>
            obtain ⟨x, f, M1⟩ := q
            rw [he] at h
            simp only at h
            split at h
            · rename_i l hds hend hres
              cases h
              obtain ⟨a1, a2, a3⟩ := exS_ok HL (HD fn.ntmps) _ _ _ _ _ _ he
              refine ⟨a1, a2, fun hH B N w0 E w vs H HG hv => ⟨hE, fun k => ?_⟩⟩
              refine callsDIn_of_wpSIn hf hb trivial fun c₀ cs hm => ?_
              have hlen := Nat.le_of_ble_eq_true ha
              have hA : AR E fn.ntmps ⟨s, []⟩ { tmps := vs.toArray ++ Array.replicate (fn.ntmps - vs.toArray.size) undef, defers := [] } :=
                ⟨args_rel hs hv _, by simp [hv.len]; omega, rfl⟩
              have hrec : recoverD (c₀ :: cs) = none := by simp [recoverD, hm]
              refine wpSIn_mono (a3 hH k M.nx B N w0 E E w _ (c₀ :: cs) hrec (Env.ex_refl E) (Nat.le_refl _) H HG hA) ?_
              rintro e a' cs' w' ⟨rfl, rfl, E', hle, H', HA'⟩
              obtain ⟨us, r1, r2⟩ := resC_ok H' HA'.sl _ _ hres
              obtain ⟨u, u1, u2⟩ := results_ok r1 r2
              have hdf := HA'.df
              rw [hds] at hdf
              have fin : a'.defers = [] ∧ ∃ u', c₀ :: cs = { c₀ with mode := u' } :: cs ∧ ∃ v, (results fn a'.tmps).run P w' = .ok v w' ∧ dfrP B N w0 E M.nx M' (.returned v) u' w' := ⟨hdf, .returning, by rw [← hm], u, u1, rfl, ⟨u, rfl⟩, E', hle, H'⟩
              cases x with
              | nm => exact fin
              | rt => exact fin
              | ex i => cases hend
              | gt i => cases hend
            · cases h
/-- what is known of them is so -/
def LibOK (P : Program) (G : Nat) (X : Lib) : Prop := ∀ (g : FuncId) (f : List CV → Mem → Res), X g = some f → ∀ (args : List CV) (M : Mem) (v : CV) (M' : Mem), f args M = some (v, M') → M.sfx M' ∧ M.nx ≤ M'.nx ∧ (M'.Holds → ∀ (B : Nat) (N : Nat → Prop) (w0 : World) (E : Env) (w : World) (vs : List Value),
    HR B N w0 E M w → GR E G → VRL E args vs → Enters P g = true ∧ Calls P g vs.toArray w (lp fun u w' => ∃ E', Env.ex M.nx E E' ∧ HR B N w0 E' M' w' ∧ VR E' v u))
theorem lev_ok {X : Lib} (HX : LibOK P G X) (HD : ∀ n LV, LevOK P G LV → DrawOK P md G n LV) : ∀ d, LevOK P G (lev P md G LF X d)
  | 0 => ⟨fun _ _ _ _ _ h => (by cases h), fun _ _ _ _ _ h => (by cases h), fun _ _ _ _ h => (by cases h)⟩
  | d + 1 => ⟨fun g args M v M' h => by
      have h : libC (X g) args M (callC P md G LF (lev P md G LF X d) g) = some (v, M') := h
      cases hx : X g with
      | some f =>
        rw [hx] at h
        simp only [libC] at h
        cases hf : f args M with
        | some r => rw [hf] at h; cases h; exact HX g f hx args M v M' hf
        | none => rw [hf] at h; exact call_ok (lev_ok HX HD d) (fun n => HD n _ (lev_ok HX HD d)) h
      | none => rw [hx] at h; exact call_ok (lev_ok HX HD d) (fun n => HD n _ (lev_ok HX HD d)) h, fun y args M v M' h => yld_ok (lev_ok HX HD d) (fun n => HD n _ (lev_ok HX HD d)) h, fun g args M M' h => dfr_ok (lev_ok HX HD d) (fun n => HD n _ (lev_ok HX HD d)) h⟩
end
end
end Mu.CI
end
section
/-
  A run of code over known memory: new memory, wherever it is made; what does not hang on how much memory is known.
  Conditions: none; generic.
-/
namespace Mu.CI
open Go Go.RowKit
noncomputable section
set_option linter.unusedVariables false

section
variable {M M' : Mem} {md : Bool} {P : Program} {E : Env} {w w' : World} {ρc : Operand → CV} {v : CV}
/-- what new memory is -/
def NewOK (P : Program) (ρc : Operand → CV) (o : Op) (b : RB) (mk : Nat → CV) : Prop := ∀ (E : Env) (w : World) (ρ : Operand → Value) (q : Oper), q.op = o → (∀ x ∈ o.operands, VR E (ρc x) (ρ x)) → ∃ u w' L, (execOp ρ q).run P w = .ok (.value u) w' ∧ Below w.heap.size w w' ∧ w.heap.size ≤ L.g ∧ L.g < w'.heap.size ∧
  ∀ i E', E.le E' → E' i = some L → BR E' w' L b ∧ VR E' (mk i) u
def NewAt (P : Program) (ρc : Operand → CV) (o : Op) (M : Mem) (v : CV) (M' : Mem) : Prop := ∃ b mk M1, (∀ c, b ≠ .ro c) ∧ v = mk M.nx ∧ M1.h = M.h ∧ M1.nx = M.nx ∧ M.sfx M1 ∧ M' = M1.push b ∧ (M1.Holds → NewOK P ρc o b mk)
theorem newC_new {l : List CV} {vs : List Value} (hv : VRL E l vs) (h1 : ∀ v ∈ vs, v.oneCell' = true) (e : TypeId) {E' : Env} (hE : E.le E') : BR E' (w.alloc (.cells vs.toArray e)) ⟨w.heap.size, 0, vs.length⟩ (.cells ⟨puts l 0 .e, l.length, []⟩) := by
  have := cells_new (w := w.alloc (.cells vs.toArray e)) (g := w.heap.size) (c := vs.toArray) (e := e) (fz := (0, 0)) (l := l) (vs := vs) (E := E') (alloc_get _ _) (fun k _ => by simp) (fun j v h => by simpa using h) (by simp) (hv.mono hE) h1
  show CellsR _ _ _ _
  simpa using this
theorem new_at {o : Op} {l : List CV} {mk : Nat → CV} (hr : M.newC md l = some M') (hv : v = mk M.nx) (h : ∀ (E : Env) (w : World) (ρ : Operand → Value) (q : Oper), q.op = o → (∀ x ∈ o.operands, VR E (ρc x) (ρ x)) → ∃ u vs e, VRL E l vs ∧ (∀ v ∈ vs, v.oneCell' = true) ∧
    (execOp ρ q).run P w = .ok (.value u) (w.alloc (.cells vs.toArray e)) ∧ ∀ i E', E.le E' → E' i = some ⟨w.heap.size, 0, vs.length⟩ → VR E' (mk i) u) : NewAt P ρc o M v M' := by
  rw [Mem.newC_eq, Option.some.injEq] at hr
  subst hr
  refine ⟨_, mk, M, fun c h => (by cases h), hv, rfl, rfl, M.sfx_refl, rfl, fun _ E w ρ q hq hρ => ?_⟩
  obtain ⟨u, vs, e, h1, h2, h3, h4⟩ := h E w ρ q hq hρ
  exact ⟨u, _, ⟨w.heap.size, 0, vs.length⟩, h3, below_alloc _ _, Nat.le_refl _, by show _ < (w.alloc _).heap.size; rw [alloc_size]; exact Nat.lt_succ_self _, fun i E' hE hi => ⟨newC_new h1 h2 e hE, h4 i E' hE hi⟩⟩
theorem alloc_at {t : TypeId} (h : exOp P md ρc (.alloc t) M = some (v, M')) : NewAt P ρc (.alloc t) M v M' := by
  simp only [exOp] at h
  cases hz : zc P t with
  | none => rw [hz] at h; cases h
  | some l =>
    rw [hz] at h
    simp only at h
    cases hr : M.newC md l with
    | none => rw [hr] at h; cases h
    | some M1 =>
      rw [hr] at h
      obtain ⟨rfl, rfl⟩ := ret_ok h
      refine new_at (mk := fun i => .pt i 0) hr rfl fun E w ρ q hq hρ => ?_
      obtain ⟨i, z, hi, hz1, hz2⟩ := zero_of hz
      obtain ⟨k1, k2⟩ := VR.cells (cv_rel E z) hz2
      refine ⟨.pointer (some ⟨w.heap.size, 0, none⟩), _, t, k1, k2, ?_, fun i E' hE hi => by unfold VR; exact ⟨_, hi, rfl⟩⟩
      simp only [execOp, hq]
      refine run_v ?_
      simp [Instr.alloc, run_zero hi hz1, Go.newVar, Go.newRow]
theorem box_at {t : TypeId} {x : Operand} (h : exOp P md ρc (.box t x) M = some (v, M')) : NewAt P ρc (.box t x) M v M' := by
  simp only [exOp] at h
  cases hz : (ρc x).cells with
  | none => rw [hz] at h; cases h
  | some l =>
    rw [hz] at h
    simp only at h
    cases hr : M.newC md l with
    | none => rw [hr] at h; cases h
    | some M1 =>
      rw [hr] at h
      obtain ⟨rfl, rfl⟩ := ret_ok h
      refine new_at (mk := fun i => .pt i 0) hr rfl fun E w ρ q hq hρ => ?_
      obtain ⟨k1, k2⟩ := VR.cells (hρ x (by simp [Op.operands])) hz
      refine ⟨.pointer (some ⟨w.heap.size, 0, none⟩), _, t, k1, k2, ?_, fun i E' hE hi => by unfold VR; exact ⟨_, hi, rfl⟩⟩
      simp only [execOp, hq]
      refine run_v ?_
      simp [Instr.box, Go.newVar, Go.newRow]
theorem buildSlice_at {t : TypeId} {n : Nat} {ps : Array (Nat × Operand)} (h : exOp P md ρc (.buildSlice t n ps) M = some (v, M')) : NewAt P ρc (.buildSlice t n ps) M v M' := by
  simp only [exOp] at h
  split at h
  · rename_i e hu
    split at h
    · rename_i k z hk hz
      cases hb : Nat.ble (n * k) 16777216 && Nat.beq z.length k with
      | false => rw [hb] at h; cases h
      | true =>
        rw [hb] at h
        simp only [cond_true] at h
        rw [Bool.and_eq_true] at hb
        have hb1 := Nat.le_of_ble_eq_true hb.1
        have hb2 := Nat.eq_of_beq_eq_true hb.2
        split at h
        · rename_i l hl
          cases hr : M.newC md l with
          | none => rw [hr] at h; cases h
          | some M1 =>
            rw [hr] at h
            obtain ⟨rfl, rfl⟩ := ret_ok h
            refine new_at (mk := fun i => .sl i 0 n n k) hr rfl fun E w ρ q hq hρ => ?_
            obtain ⟨i, z', hi, hz1, hz2⟩ := zero_of hz
            obtain ⟨k1, k2⟩ := VR.cells (cv_rel E z') hz2
            have hzs : z'.cells.size = k := by
              have := k1.len
              simp only [Array.length_toList] at this
              omega
            obtain ⟨ds, j1, j2, j3⟩ := fillC_run (ρ := ρ) (cs := (List.replicate n z'.cells.toList).flatten) hl (fun p hp => hρ p.2 (by
              simp only [Op.operands, List.mem_toArray, List.mem_map]
              exact ⟨p, hp, rfl⟩)) (repC_rel k1 n) (fun c hc => by
                obtain ⟨l', hl', hc'⟩ := List.mem_flatten.1 hc
                rw [List.eq_of_mem_replicate hl'] at hc'
                exact k2 c hc')
            have hlen : ds.length = n * k := by
              have h1 := Instr_fill_size j1
              simp only [List.size_toArray] at h1
              rw [h1]
              simp [hzs]
            refine ⟨.slice (some ⟨w.heap.size, 0, none⟩) n n, ds, e, j2, j3, ?_, fun i E' hE hi => ?_⟩
            · simp only [execOp, hq]
              refine run_v ?_
              unfold Instr.buildSlice
              rw [Sem.run_bind, run_underlying hu, Result.andThen_ok]
              simp only []
              rw [Sem.run_bind, run_size hk, Result.andThen_ok, if_neg (by omega)]
              have fin : ∀ zero : Array Value, (Array.range (n * k)).map (fun i => zero[i % zero.size]!) = ((List.replicate n z'.cells.toList).flatten).toArray →
                  Sem.run P (match Instr.fill (fun i => some (i * k, k)) (Array.map (fun x => zero[x % zero.size]!) (Array.range (n * k))) (Array.map (fun x => (x.fst, ρ x.snd)) ps).toList with
                    | some cells => do
                      let a ← newRow e cells
                      pure (Value.slice (some a) n n)
                    | x => stuck "buildSlice: a part of the wrong size") w = .ok (.slice (some ⟨w.heap.size, 0, none⟩) n n) (w.alloc (.cells ds.toArray e)) := fun zero hz => by
                have hfn : (fun i => some (i * k, k)) = placeE k := rfl
                rw [hz, hfn]
                simp only [Array.toList_map] at j1 ⊢
                rw [j1]
                simp [Go.newRow]
              by_cases h0 : n * k = 0
              · rw [if_pos h0, Sem.run_bind]
                refine fin #[] ?_
                have : ((List.replicate n z'.cells.toList).flatten) = [] := by
                  apply List.eq_nil_of_length_eq_zero
                  simp [hzs, h0]
                rw [this, h0]
                simp
              · rw [if_neg h0, Sem.run_bind, run_zero hi hz1, Result.andThen_ok, Sem.run_bind]
                refine fin z'.cells ?_
                rw [← hzs]
                exact rangeCells z'.cells n
            · unfold VR
              exact ⟨_, n, 0, hi, rfl, .inr rfl, Nat.le_refl _, Nat.le_refl _, by simp; omega⟩
        · cases h
    · cases h
  · cases h

theorem bytes_at {src dst : TypeId} {x : Operand} (hb : toBt P src dst = true) (h : exOp P md ρc (.convert src dst x) M = some (v, M')) : NewAt P ρc (.convert src dst x) M v M' := by
  simp only [exOp, hb, cond_true] at h
  obtain ⟨e, hs, hd, he⟩ := toBt_of hb
  unfold bytesN at h
  split at h
  · rename_i s hx
    cases hc : Nat.ble s.size 16777216 with
    | false => rw [hc] at h; cases h
    | true =>
      rw [hc, cond_true, Mem.newC_eq] at h
      obtain ⟨rfl, rfl⟩ := ret_ok h
      refine ⟨_, fun i => .sl i 0 s.size s.size 1, M, fun c h => (by cases h), rfl, rfl, rfl, M.sfx_refl, rfl, fun _ E w ρ q hq hρ => ?_⟩
      have h1 := hρ x (by simp [Op.operands])
      rw [hx] at h1
      unfold VR at h1
      have hrun := run_bytes_of_string (P := P) w src dst e s hs hd he
      have hbel : Below w.heap.size w (w.drew.alloc (.cells (bytesRow s (grownCap w s.size 0 e)) e ((bytesRow s (grownCap w s.size 0 e)).size, (bytesRow s (grownCap w s.size 0 e)).size + 1))) := (below_drew w).trans (below_alloc w.drew _)
      refine ⟨.slice (some ⟨w.heap.size, 0, none⟩) s.size (grownCap w s.size 0 e), _, ⟨w.heap.size, 0, (bytesRow s (grownCap w s.size 0 e)).size⟩, ?_, hbel, Nat.le_refl _, by show _ < (w.drew.alloc _).heap.size; rw [alloc_size]; exact Nat.lt_succ_self _, fun i E' hE hi => ⟨bytes_cells rfl, ?_⟩⟩
      · simp only [execOp, hq]
        exact run_v (by rw [h1]; exact hrun)
      · have hcap := grownCap_ge w s.size 0 e
        unfold VR
        refine ⟨_, grownCap w s.size 0 e, 0, hi, rfl, .inr rfl, Nat.le_refl _, hcap, ?_⟩
        have : s.data.size = s.size := rfl
        simp [bytesRow, this]
        omega
  · cases h
theorem makeMap_at {t : TypeId} {r : Option Operand} (h : exOp P md ρc (.makeMap t r) M = some (v, M')) : NewAt P ρc (.makeMap t r) M v M' := by
  have key : (match M.new (.map [] 0) with | some M' => ret (.mp M.nx) M' | none => none) = some (v, M') → (∀ (ρ : Operand → Value) (w : World) (E : Env), (∀ x ∈ (Op.makeMap t r).operands, VR E (ρc x) (ρ x)) → (Instr.makeMap t (r.map ρ)).run P w = .ok (.map (some w.heap.size)) (w.alloc (.map #[] 0))) → NewAt P ρc (.makeMap t r) M v M' := by
    intro h hrun
    rw [Mem.new_eq] at h
    obtain ⟨rfl, rfl⟩ := ret_ok h
    refine ⟨.map [] 0, fun i => .mp i, M, fun c h => (by cases h), rfl, rfl, rfl, M.sfx_refl, rfl, fun _ E w ρ q hq hρ => ?_⟩
    refine ⟨.map (some w.heap.size), _, ⟨w.heap.size, 0, 0⟩, ?_, below_alloc w (.map #[] 0), Nat.le_refl _, by show _ < (w.alloc (.map #[] 0)).heap.size; rw [alloc_size]; exact Nat.lt_succ_self _, fun i E' hE hi => ⟨⟨[], alloc_get _ _, by unfold EntR; rfl⟩, by unfold VR; exact ⟨_, hi, rfl⟩⟩⟩
    simp only [execOp, hq]
    exact run_v (hrun ρ w E hρ)
  cases r with
  | none =>
    simp only [exOp] at h
    exact key h fun ρ w E hρ => by simp [Instr.makeMap, newObj, Sem.run]
  | some x =>
    simp only [exOp] at h
    split at h
    · rename_i a b k n hu hx
      refine key h fun ρ w E hρ => ?_
      have h1 := hρ x (by simp [Op.operands])
      rw [hx] at h1
      unfold VR at h1
      simp [Instr.makeMap, run_underlying hu, h1, asInt, asIntOf, newObj, Sem.run]
    · cases h
theorem makeSlice_at {t : TypeId} {x y : Operand} (h : exOp P md ρc (.makeSlice t x y) M = some (v, M')) : NewAt P ρc (.makeSlice t x y) M v M' := by
  simp only [exOp] at h
  split at h
  · rename_i e b1 l b2 c hu hl hc
    split at h
    · rename_i k by_ z hk hby hz
      cases hb : Nat.beq z.length k && Nat.ble 1 k with
      | false => rw [hb] at h; cases h
      | true =>
        rw [hb] at h
        simp only [cond_true] at h
        rw [Bool.and_eq_true] at hb
        have hzk := Nat.eq_of_beq_eq_true hb.1
        have hk1 := Nat.le_of_ble_eq_true hb.2
        obtain ⟨M1, e1, e2, e3, h, hcc⟩ := chk_ok h
        rw [fM_eq, Mem.new_eq] at h
        obtain ⟨rfl, rfl⟩ := ret_ok h
        have hpush : M1.sfx (M1.push (.cells ⟨.e, c * k, z⟩)) := ⟨[], rfl⟩
        refine ⟨.cells ⟨.e, c * k, z⟩, fun i => .sl i 0 l c k, M1, fun c h => (by cases h), by rw [e2], e1, e2, e3, rfl, fun hH E w ρ q hq hρ => ?_⟩
        have hcond := hcc hH
        simp only [Bool.and_eq_true] at hcond
        have q1 := Nat.le_of_ble_eq_true hcond.2.2.1
        have q2 := Nat.le_of_ble_eq_true hcond.2.2.2.1
        have q3 := Nat.le_of_ble_eq_true hcond.2.2.2.2
        obtain ⟨kx, hx⟩ := nat_ok hl hcond.1 (hρ x (by simp [Op.operands]))
        obtain ⟨ky, hy⟩ := nat_ok hc hcond.2.1 (hρ y (by simp [Op.operands]))
        obtain ⟨i, z', hi, hz1, hz2⟩ := zero_of hz
        obtain ⟨k1, k2⟩ := VR.cells (cv_rel E z') hz2
        have hzs : z'.cells.size = k := by
          have := k1.len
          simp only [Array.length_toList] at this
          omega
        have hib : i.bytes = by_ := by
          rw [hi] at hby
          simpa using hby
        have hik : i.size = k := by
          obtain ⟨i', hi', hs'⟩ := info_of hk
          rw [hi] at hi'
          cases hi'
          exact hs'
        have hbytes : (i.bytes : Int) * (c : Int) ≤ 281474976710656 := by
          have : i.bytes * c ≤ 1048576 * 16777216 := Nat.mul_le_mul (by omega) q2
          have : ((i.bytes * c : Nat) : Int) ≤ 281474976710656 := by omega
          rwa [Int.natCast_mul] at this
        have hrun := run_make (P := P) w t e i z' hu hi hz1 kx ky (l : Int) (c : Int) (by omega) (by omega) hbytes (by omega)
        simp only [Int.toNat_natCast, hik] at hrun
        refine ⟨.slice (some ⟨w.heap.size, 0, none⟩) l c, _, ⟨w.heap.size, 0, c * k⟩, ?_, below_alloc w (.cells (madeCells z'.cells (c * k)) e), Nat.le_refl _, by show _ < (w.alloc _).heap.size; rw [alloc_size]; exact Nat.lt_succ_self _, fun i E' hE hi => ⟨?_, ?_⟩⟩
        · simp only [execOp, hq]
          refine run_v ?_
          rw [hx, hy]
          exact hrun
        · show CellsR _ _ _ _
          refine ⟨madeCells z'.cells (c * k), e, (0, 0), alloc_get _ _, size_madeCells _ _, by simp, fun _ _ => by simp, fun j hj => ?_⟩
          have hj' : j < c * k := hj
          have hm : j % k < k := Nat.mod_lt _ hk1
          have hm2 : j % z'.cells.size < z'.cells.size := by rw [hzs]; exact hm
          refine ⟨z'.cells[j % z'.cells.size], ?_, ?_, k2 _ (by simp)⟩
          · simp only [Nat.zero_add, madeCells, Array.getElem?_map, Array.getElem?_range, hj', if_true, Option.map_some]
            simp [hm2]
          · have hget : Blk.get ⟨.e, c * k, z⟩ j = z[j % k]'(by omega) := by
              unfold Blk.get
              simp only [Tr.get_e, hzk]
              rw [List.getElem?_eq_getElem (by omega)]
              rfl
            rw [hget]
            refine (k1.mono hE).get' (i := j % k) (List.getElem?_eq_getElem (by omega)) ?_
            rw [Array.getElem?_toList, Array.getElem?_eq_getElem (by omega)]
            simp only [hzs]
        · unfold VR
          exact ⟨⟨w.heap.size, 0, c * k⟩, c, 0, hi, rfl, .inr rfl, q1, Nat.le_refl _, by simp⟩
    · cases h
  · cases h

end
end
end Mu.CI
end
