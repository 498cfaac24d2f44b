/-
  Own texts laid together, part 2: MuEqS, MuLiftA, MuPair, MuBodyP, MuDrawG, MuTurnW, MuLiftG, MuRaw, MuRawB, MuBodyA, MuBodyB, MuBodyC, MuBodyD, MuBodyE, MuCiV, MuCiM.
  Conditions: as each part says.
-/
import Derived.Test.YtphbknmjnoeheaaGreatBo1
import Derived.Laws.StructEq
import Derived.Deep.AppendSrc
import Derived.Lib.SliceRun
import Derived.Laws.MakeOwn
import Derived.Below
section
/-
  Records of numbers and bools that are compared.
  Conditions: none; generic.
-/
namespace Mu
open Go Go.RowKit Go.Proofs

/-- fields of one cell each: numbers (true) and bools (false) -/
def fldsOk (P : Program) : List Field → Nat → List Bool → Bool
  | [], _, [] => true
  | f :: fs, j, b :: bs => f.name != "_" && f.offset == j && (match P.underlying f.type with | some (.int _) => b | some .bool => !b | _ => false) && fldsOk P fs (j + 1) bs
  | _, _, _ => false
def scEq : List Bool → List Value → List Value → Option Bool
  | [], [], [] => some true
  | true :: bs, .int k a :: vs, .int k' b :: ws => if k = k' then (scEq bs vs ws).map fun r => a == b && r else none
  | false :: bs, .bool a :: vs, .bool b :: ws => (scEq bs vs ws).map fun r => a == b && r
  | _, _, _ => none
/-- a record type of such fields, as '==' reads it -/
def recT (P : Program) (ty : TypeId) (bs : List Bool) : Bool :=
  (match P.underlying ty with
    | some (.struct fs) => fldsOk P fs.toList 0 bs
    | _ => false) && !P.stoodInHeld ty && !P.eqGuardType P.depth ty
section
variable {P : Program} {w : World}
theorem run_part_num {e : TypeId} {k : IntKind} {xs : Array Value} {off : Nat} {v : Value} (he : P.underlying e = some (.int k)) (hx : xs[off]? = some v) : (part e xs off).run P w = .ok v w := by
  simp [part, isAgg, run_underlying he, hx]
theorem run_part_bit {e : TypeId} {xs : Array Value} {off : Nat} {v : Value} (he : P.underlying e = some .bool) (hx : xs[off]? = some v) : (part e xs off).run P w = .ok v w := by
  simp [part, isAgg, run_underlying he, hx]
theorem scEq_cons {b : Bool} {bs : List Bool} {vs ws : List Value} {r : Bool} (h : scEq (b :: bs) vs ws = some r) :
    (∃ k a c vs' ws' r', b = true ∧ vs = .int k a :: vs' ∧ ws = .int k c :: ws' ∧ scEq bs vs' ws' = some r' ∧ r = (a == c && r')) ∨
    (∃ a c vs' ws' r', b = false ∧ vs = .bool a :: vs' ∧ ws = .bool c :: ws' ∧ scEq bs vs' ws' = some r' ∧ r = (a == c && r')) := by
  cases vs with
  | nil => cases b <;> simp [scEq] at h
  | cons v vs =>
    cases ws with
    | nil => cases b <;> cases v <;> simp [scEq] at h
    | cons u ws =>
      cases b <;> cases v <;> cases u <;> simp only [scEq, reduceCtorEq] at h
      · obtain ⟨r', hr', rfl⟩ := Option.map_eq_some_iff.1 h
        exact .inr ⟨_, _, _, _, r', rfl, rfl, rfl, hr', rfl⟩
      · split at h
        · rename_i hk
          subst hk
          obtain ⟨r', hr', rfl⟩ := Option.map_eq_some_iff.1 h
          exact .inl ⟨_, _, _, _, _, r', rfl, rfl, rfl, hr', rfl⟩
        · cases h
theorem run_flds {d : Nat} {xs ys : Array Value} : ∀ (fs : List Field) (j : Nat) (bs : List Bool) (vs ws : List Value) (r : Bool), fldsOk P fs j bs = true → scEq bs vs ws = some r → (∀ i, xs[j + i]? = vs[i]?) → (∀ i, ys[j + i]? = ws[i]?) → (Op.eqFields (d + 1) xs ys fs).run P w = .ok r w
  | [], j, bs, vs, ws, r, h, hr, hx, hy => by
    cases bs with
    | nil =>
      cases vs <;> cases ws <;> simp [scEq] at hr
      subst hr
      rfl
    | cons b bs => simp [fldsOk] at h
  | f :: fs, j, bs, vs, ws, r, h, hr, hx, hy => by
    cases bs with
    | nil => simp [fldsOk] at h
    | cons b bs =>
      simp only [fldsOk, Bool.and_eq_true, bne_iff_ne, ne_eq, beq_iff_eq] at h
      obtain ⟨⟨⟨hn, ho⟩, ht⟩, hrest⟩ := h
      have shift : ∀ {zs : Array Value} {u : Value} {us : List Value}, (∀ i, zs[j + i]? = (u :: us)[i]?) → zs[f.offset]? = some u ∧ ∀ i, zs[j + 1 + i]? = us[i]? := fun hz => by
        refine ⟨by rw [ho]; simpa using hz 0, fun i => ?_⟩
        have := hz (i + 1)
        rw [List.getElem?_cons_succ] at this
        rw [← this]
        congr 1
        omega
      rcases scEq_cons hr with ⟨k, a, c, vs', ws', r', rfl, rfl, rfl, hr', rfl⟩ | ⟨a, c, vs', ws', r', rfl, rfl, rfl, hr', rfl⟩
      · obtain ⟨hx0, hx1⟩ := shift hx
        obtain ⟨hy0, hy1⟩ := shift hy
        have ih := run_flds (d := d) (xs := xs) (ys := ys) fs (j + 1) bs vs' ws' r' hrest hr' hx1 hy1
        cases hu : P.underlying f.type with
        | none => rw [hu] at ht; cases ht
        | some td =>
          rw [hu] at ht
          cases td <;> simp at ht
          rename_i ik
          have q : (Op.equalIn (d + 1) f.type (.int k a) (.int k c)).run P w = .ok (a == c) w := run_equalIn_int (P := P) w d f.type k ik a c hu
          simp only [Op.eqFields, hn, ne_eq, not_false_eq_true, if_true, Sem.run_bind]
          rw [run_part_num hu hx0, Result.andThen_ok, run_part_num hu hy0, Result.andThen_ok, q, Result.andThen_ok]
          cases (a == c)
          · rfl
          · simpa using ih
      · obtain ⟨hx0, hx1⟩ := shift hx
        obtain ⟨hy0, hy1⟩ := shift hy
        have ih := run_flds (d := d) (xs := xs) (ys := ys) fs (j + 1) bs vs' ws' r' hrest hr' hx1 hy1
        cases hu : P.underlying f.type with
        | none => rw [hu] at ht; cases ht
        | some td =>
          rw [hu] at ht
          cases td <;> simp at ht
          have q : (Op.equalIn (d + 1) f.type (.bool a) (.bool c)).run P w = .ok (a == c) w := run_equalIn_bool' (P := P) w d f.type a c hu
          simp only [Op.eqFields, hn, ne_eq, not_false_eq_true, if_true, Sem.run_bind]
          rw [run_part_bit hu hx0, Result.andThen_ok, run_part_bit hu hy0, Result.andThen_ok, q, Result.andThen_ok]
          cases (a == c)
          · rfl
          · simpa using ih
theorem run_sameS {ty : TypeId} {bs : List Bool} {vs ws : List Value} {r : Bool} (h : recT P ty bs = true) (hr : scEq bs vs ws = some r) : (Op.equalIn 10000 ty (.agg vs.toArray) (.agg ws.toArray)).run P w = .ok r w ∧ P.eqGuardType P.depth ty = false := by
  unfold recT at h
  simp only [Bool.and_eq_true, Bool.not_eq_true'] at h
  obtain ⟨⟨h1, h2⟩, h3⟩ := h
  refine ⟨?_, h3⟩
  split at h1
  · rename_i fs hfs
    have hF : P.fieldsOf ty = fs := by unfold Program.fieldsOf; rw [hfs]
    rw [show (10000 : Nat) = 9999 + 1 from rfl, run_equalIn_struct w 9999 ty _ _ (by rw [hF]; exact hfs) h2, hF]
    exact run_flds (d := 9998) fs.toList 0 bs vs ws r h1 hr (fun i => by simp) (fun i => by simp)
  · cases h1
end
theorem relL_litR {w : World} {S : Nat → Prop} {h : List ABlk} {ψ : Nat → Value} : ∀ (vs : List Value) {us : List Value}, AV.relL w S h ψ (vs.map .lit) us → us = vs
  | [], us, H => by
    unfold AV.relL at H
    exact H
  | v :: vs, us, H => by
    unfold List.map AV.relL at H
    obtain ⟨u, us', rfl, h1, h2⟩ := H
    unfold AV.rel at h1
    rw [h1, relL_litR vs h2]
section
variable {P : Program} {C : Ctx} {t : List AV} {h : List ABlk} {o : Oper}
theorem Quiet.eqRec {xt yt : TypeId} {x y : Operand} {bs : List Bool} {vs ws : List Value} {r : Bool} (hT : recT P xt bs = true) (ho : o.op = .binOp .eql xt x y yt) (hx : evA t x = .agg (vs.map .lit)) (hy : evA t y = .agg (ws.map .lit)) (hr : scEq bs vs ws = some r) : Quiet P C t h o (.lit (.bool r)) :=
  Quiet.of_run fun S ψ w ρ _ hρ => by
    have h1 := hρ x (by simp [ho, Op.operands])
    have h2 := hρ y (by simp [ho, Op.operands])
    rw [hx] at h1
    rw [hy] at h2
    unfold AV.rel at h1 h2
    obtain ⟨us, h1, h3⟩ := h1
    obtain ⟨us', h2, h4⟩ := h2
    rw [relL_litR _ h3] at h1
    rw [relL_litR _ h4] at h2
    obtain ⟨e1, e2⟩ := run_sameS (w := w) hT hr
    refine ⟨_, ?_, by unfold AV.rel; rfl⟩
    simp only [execOp, ho, h1, h2, Sem.run_bind]
    rw [run_eqGuard_agg w .eql xt x y _ _ e2, Result.andThen_ok, run_eql_struct, e1, Result.andThen_ok]
    rfl
end
end Mu
end
section
/-
  Walks that show M: arrays of numbers.
  Conditions: none; generic.
-/
namespace Mu
open Go Go.RowKit Go.Proofs Go.ChangeShapes Go.WideShapes

section
variable {P : Program} {C : Ctx} {t : List AV} {h : List ABlk} {o : Oper}
theorem Fit.aggL {α : Type} {T : Ty α} {enc : α → List AV} {x : α} (hp : ∀ w S cs ψ, AV.relL w S h ψ (enc x) cs → T.RS w S cs x) : Fit h T (.agg (enc x)) x := fun C S ψ w v H hv => by
  unfold AV.rel at hv
  obtain ⟨cs, rfl, hl⟩ := hv
  exact hp w S cs ψ hl
theorem Quiet.neRec {xt yt : TypeId} {x y : Operand} {bs : List Bool} {vs ws : List Value} {r : Bool} (hT : recT P xt bs = true) (ho : o.op = .binOp .neq xt x y yt) (hx : evA t x = .agg (vs.map .lit)) (hy : evA t y = .agg (ws.map .lit)) (hr : scEq bs vs ws = some r) : Quiet P C t h o (.lit (.bool (!r))) :=
  Quiet.of_run fun S ψ w ρ _ hρ => by
    have h1 := hρ x (by simp [ho, Op.operands])
    have h2 := hρ y (by simp [ho, Op.operands])
    rw [hx] at h1
    rw [hy] at h2
    unfold AV.rel at h1 h2
    obtain ⟨us, h1, h3⟩ := h1
    obtain ⟨us', h2, h4⟩ := h2
    rw [relL_litR _ h3] at h1
    rw [relL_litR _ h4] at h2
    obtain ⟨e1, e2⟩ := run_sameS (w := w) hT hr
    refine ⟨_, ?_, by unfold AV.rel; rfl⟩
    simp only [execOp, ho, h1, h2, Sem.run_bind]
    rw [run_eqGuard_agg w .neq xt x y _ _ e2, Result.andThen_ok, run_neq_struct, e1, Result.andThen_ok]
    rfl
end
end Mu
end
section
/-
  Pairs of registers as data.
  Conditions: none; the types' numbers are this translation's.
-/
namespace Mu
open Go Go.RowKit Go.Proofs

structure Pair where
  a : Int
  b : Int
def tPair : Ty Pair := (tInt.cons (tInt.cons Ty.none_)).via (fun x => ⟨x.1, x.2.1⟩) (fun d => (d.a, d.b, ()))
theorem tPair_R {w : World} {S : Nat → Prop} {cs : List Value} {x : Pair} : tPair.RS w S cs x ↔ cs = [.int .i64 x.a, .int .i64 x.b] ∧ wfI .i64 x.a ∧ wfI .i64 x.b := by
  constructor
  · rintro ⟨⟨_, _, rfl, ⟨rfl, h0⟩, _, _, rfl, ⟨rfl, h1⟩, rfl⟩, _⟩
    exact ⟨rfl, h0, h1⟩
  · rintro ⟨rfl, h0, h1⟩
    exact ⟨⟨[_], _, rfl, ⟨rfl, h0⟩, [_], _, rfl, ⟨rfl, h1⟩, rfl⟩, rfl⟩
theorem opens_tPair : Opens Tryz.prog 28 tPair := opens_struct Tryz.underlying28 (by kernel_rfl) (opensF_cons rfl (by kernel_rfl) (opens_int Tryz.underlying3) (opensF_cons rfl (by kernel_rfl) (opens_int Tryz.underlying3) opensF_nil)) (fun _ => rfl)
def encPair (x : Pair) : List AV := [.lit (.int .i64 x.a), .lit (.int .i64 x.b)]
theorem enc_Pair : Enc tPair encPair := by
  intro w S h ψ cs d H
  obtain ⟨rfl, h0, h1⟩ := tPair_R.1 H
  simp only [encPair, AV.relL, AV.rel]
  exact ⟨_, _, rfl, rfl, _, _, rfl, rfl, rfl⟩
theorem one1_Pair : One1 tPair := one1_of_enc enc_Pair fun d x hx => by
  simp only [encPair, List.mem_cons, List.not_mem_nil, or_false] at hx
  rcases hx with rfl | rfl <;> first | exact .inl ⟨_, rfl, rfl⟩ | exact .inr ⟨_, _, _, rfl⟩
instance inMuPair1 : EncOf tPair encPair := ⟨enc_Pair, one1_Pair, by decide⟩
structure okPair (x : Pair) : Prop where
  a : wfI .i64 x.a
  b : wfI .i64 x.b
theorem ok_Pair {w : World} {S : Nat → Prop} {cs : List Value} {x : Pair} (H : tPair.RS w S cs x) : okPair x := by
  obtain ⟨rfl, h0, h1⟩ := tPair_R.1 H
  exact ⟨h0, h1⟩
theorem put_Pair {w : World} {S : Nat → Prop} {cs : List Value} {h : List ABlk} {ψ : Nat → Value} {x : Pair} (ho : okPair x) (H : AV.relL w S h ψ (encPair x) cs) : tPair.RS w S cs x := by
  simp only [encPair, AV.relL, AV.rel] at H
  obtain ⟨_, _, rfl, rfl, _, _, rfl, rfl, rfl⟩ := H
  exact tPair_R.2 ⟨rfl, ho.a, ho.b⟩
instance inMuPair2 : Inhabited Pair := ⟨⟨0, 0⟩⟩
def okPairB (x : Pair) : Bool := wfB .i64 x.a && wfB .i64 x.b
theorem okPairB_ok {x : Pair} (h : okPairB x = true) : okPair x := by
  unfold okPairB at h
  simp only [Bool.and_eq_true] at h
  exact ⟨h.1, h.2⟩
theorem fit_Pair {h : List ABlk} {x : Pair} (hk : okPairB x = true) : Fit h tPair (.agg (encPair x)) x := Fit.aggL (enc := encPair) fun _ _ _ _ H => put_Pair (okPairB_ok hk) H
theorem plPair : places? Tryz.prog 28 = some [(0, 1), (1, 1)] := by kernel_rfl
instance inMuPair3 : AG Tryz.prog 28 true 2 := ⟨by kernel_rfl⟩
instance inMuPair4 : SZ Tryz.prog 28 2 := ⟨by kernel_rfl⟩
instance inMuPair5 : FO Tryz.prog 28 0 0 := ⟨by kernel_rfl⟩
instance inMuPair6 : FO Tryz.prog 28 1 1 := ⟨by kernel_rfl⟩
instance inMuPair7 : ZC Tryz.prog 28 [.int .i64 0, .int .i64 0] := ⟨by kernel_rfl⟩
instance inMuPair8 : TyOf Tryz.prog 28 _ tPair := ⟨trivial⟩
instance inMuPair9 : AG Tryz.prog 22 false 1 := ⟨by kernel_rfl⟩
instance inMuPair10 : SZ Tryz.prog 22 1 := ⟨by kernel_rfl⟩
instance inMuPair11 : ES Tryz.prog 22 2 := ⟨by kernel_rfl⟩
instance inMuPair12 : SL Tryz.prog 22 := ⟨by kernel_rfl⟩
instance inMuPair13 : RT Tryz.prog 22 28 2 16 := ⟨by kernel_rfl⟩
end Mu
end
section
/-
  Moves at once, one by one: plainly.
  Conditions: none; plain Lean.
-/
namespace Mu

/-- does a pair differ from another one? -/
def neP (x y : Pair) : Bool := !(decide (x.a = y.a) && decide (x.b = y.b))
/-- is no other one from the place into which that goes? -/
def fr23 (left : List Pair) (x : Pair) : Bool := !left.any fun y => neP y x && decide (y.b = x.a)
def unblock (left : List Pair) (p : Int) : List Pair := left.map fun x => if x.b = p then ⟨x.a, 3⟩ else x
/-- moves that are left, and what is made of them one by one -/
inductive AtO : Nat → List Pair → List Pair → Prop
  | nil : AtO 0 [] []
  | out {n k : Nat} {left r : List Pair} {x : Pair} (h1 : left.findIdx? (fr23 left) = some k) (h2 : left[k]? = some x) (h3 : AtO n (left.eraseIdx k) r) : AtO (n + 1) left (x :: r)
  | via {n : Nat} {y : Pair} {l r : List Pair} (h1 : (y :: l).findIdx? (fr23 (y :: l)) = none) (h3 : AtO n (unblock (y :: l) y.a) r) : AtO (n + 1) (y :: l) (⟨3, y.a⟩ :: r)
structure InvP (left : List Pair) : Prop where
  nd : (left.map (·.a)).Nodup
  n3 : ∀ x ∈ left, x.a ≠ 3
theorem neP_iff {x y : Pair} : neP x y = true ↔ x ≠ y := by
  obtain ⟨a, b⟩ := x
  obtain ⟨c, d⟩ := y
  unfold neP
  simp only [Bool.not_eq_true', Bool.and_eq_false_iff, decide_eq_false_iff_not, ne_eq, Pair.mk.injEq, not_and]
  constructor
  · rintro (h | h) h1
    · exact absurd h1 h
    · exact h
  · intro h
    by_cases h1 : a = c
    · exact .inr (h h1)
    · exact .inl h1
theorem map_unblock (left : List Pair) (p : Int) : (unblock left p).map (·.a) = left.map (·.a) := by
  unfold unblock
  rw [List.map_map]
  refine List.map_congr_left fun x _ => ?_
  simp only [Function.comp]
  split <;> rfl
theorem len_unblock (left : List Pair) (p : Int) : (unblock left p).length = left.length := by unfold unblock; simp
theorem InvP.unblock {left : List Pair} (h : InvP left) (p : Int) : InvP (unblock left p) := by
  refine ⟨by rw [map_unblock]; exact h.nd, fun x hx => ?_⟩
  unfold Mu.unblock at hx
  obtain ⟨y, hy, rfl⟩ := List.mem_map.1 hx
  split
  · exact h.n3 y hy
  · exact h.n3 y hy
theorem InvP.erase {left : List Pair} (h : InvP left) (k : Nat) : InvP (left.eraseIdx k) :=
  ⟨h.nd.sublist ((List.eraseIdx_sublist left k).map _), fun x hx => h.n3 x ((List.eraseIdx_sublist left k).subset hx)⟩
/-- one that goes round is broken -/
theorem free_unblock {y : Pair} {l : List Pair} (h : InvP (y :: l)) : ((unblock (y :: l) y.a).findIdx? (fr23 (unblock (y :: l) y.a))).isSome = true := by
  rw [List.findIdx?_isSome]
  refine List.any_eq_true.2 ⟨if y.b = y.a then ⟨y.a, 3⟩ else y, ?_, ?_⟩
  · unfold unblock
    simp
  · have ha : (if y.b = y.a then (⟨y.a, 3⟩ : Pair) else y).a = y.a := by split <;> rfl
    unfold fr23
    rw [Bool.not_eq_true', ha]
    refine List.any_eq_false.2 fun x hx => ?_
    simp only [Bool.and_eq_true, decide_eq_true_eq, not_and]
    rintro - hb
    unfold unblock at hx
    obtain ⟨z, hz, rfl⟩ := List.mem_map.1 hx
    split at hb
    · exact h.n3 y (by simp) hb.symm
    · rename_i hzb
      exact hzb hb
theorem atO_some (m : Nat) : ∀ left : List Pair, InvP left → left.length ≤ m → ∃ n r, AtO n left r ∧ n ≤ 2 * left.length ∧ r.length = n := by
  induction m with
  | zero =>
    intro left _ hl
    obtain rfl : left = [] := List.eq_nil_of_length_eq_zero (by omega)
    exact ⟨0, [], .nil, by simp, rfl⟩
  | succ m ih =>
    intro left hI hl
    have step : ∀ left : List Pair, InvP left → left.length ≤ m + 1 → ∀ k, left.findIdx? (fr23 left) = some k → ∃ n r, AtO n left r ∧ n ≤ 2 * left.length - 1 ∧ r.length = n := by
      intro left hI hl k hk
      obtain ⟨hlt, -⟩ := List.findIdx?_eq_some_iff_getElem.1 hk
      have hel : (left.eraseIdx k).length = left.length - 1 := List.length_eraseIdx_of_lt hlt
      obtain ⟨n, r, h1, h2, h3⟩ := ih (left.eraseIdx k) (hI.erase k) (by omega)
      exact ⟨n + 1, _, .out hk (List.getElem?_eq_getElem hlt) h1, by omega, by simp [h3]⟩
    cases left with
    | nil => exact ⟨0, [], .nil, by simp, rfl⟩
    | cons y l =>
      cases hk : (y :: l).findIdx? (fr23 (y :: l)) with
      | some k =>
        obtain ⟨n, r, h1, h2, h3⟩ := step _ hI hl k hk
        exact ⟨n, r, h1, by omega, h3⟩
      | none =>
        obtain ⟨k, hk'⟩ := Option.isSome_iff_exists.1 (free_unblock hI)
        obtain ⟨n, r, h1, h2, h3⟩ := step _ (hI.unblock y.a) (by rw [len_unblock]; exact hl) k hk'
        rw [len_unblock] at h2
        have : (y :: l).length = l.length + 1 := rfl
        exact ⟨n + 1, _, .via hk h1, by omega, by simp [h3]⟩
/-- moves that are not left out -/
def keepB (x : Pair) : Bool := !(decide (x.a = x.b) || decide (x.a = 3) || decide (x.b = 3))
/-- the first ones into their places -/
def firsts : List Pair → List Pair → List Pair
  | _, [] => []
  | seen, x :: l => if seen.any (fun y => decide (y.a = x.a)) then firsts (seen ++ [x]) l else x :: firsts (seen ++ [x]) l
def singleL (l : List Pair) : List Pair := (firsts [] l).filter keepB
theorem firsts_mem {x : Pair} : ∀ {l seen : List Pair}, x ∈ firsts seen l → x ∈ l ∧ ∀ y ∈ seen, y.a ≠ x.a
  | [], _, h => by simp [firsts] at h
  | z :: l, seen, h => by
    unfold firsts at h
    split at h
    · obtain ⟨h1, h2⟩ := firsts_mem h
      exact ⟨by simp [h1], fun y hy => h2 y (by simp [hy])⟩
    · rename_i hn
      rcases List.mem_cons.1 h with rfl | h
      · refine ⟨by simp, fun y hy e => hn ?_⟩
        exact List.any_eq_true.2 ⟨y, hy, by simp [e]⟩
      · obtain ⟨h1, h2⟩ := firsts_mem h
        exact ⟨by simp [h1], fun y hy => h2 y (by simp [hy])⟩
theorem firsts_nd : ∀ (l seen : List Pair), ((firsts seen l).map (·.a)).Nodup
  | [], _ => by simp [firsts]
  | z :: l, seen => by
    unfold firsts
    split
    · exact firsts_nd l _
    · rw [List.map_cons, List.nodup_cons]
      refine ⟨fun h => ?_, firsts_nd l _⟩
      obtain ⟨x, hx, e⟩ := List.mem_map.1 h
      exact (firsts_mem hx).2 z (by simp) e.symm
theorem firsts_len : ∀ (l seen : List Pair), (firsts seen l).length ≤ l.length
  | [], _ => by simp [firsts]
  | z :: l, seen => by
    unfold firsts
    have := firsts_len l (seen ++ [z])
    split
    · simp; omega
    · simp; omega
theorem single_inv (l : List Pair) : InvP (singleL l) := by
  unfold singleL
  refine ⟨(firsts_nd l []).sublist (List.filter_sublist.map _), fun x hx => ?_⟩
  have := (List.mem_filter.1 hx).2
  unfold keepB at this
  simp only [Bool.not_eq_true', Bool.or_eq_false_iff, decide_eq_false_iff_not] at this
  exact this.1.2
theorem single_len (l : List Pair) : (singleL l).length ≤ l.length := Nat.le_trans (List.length_filter_le _ _) (firsts_len l [])
theorem atOnce_some (l : List Pair) : ∃ n r, AtO n (singleL l) r ∧ n ≤ 2 * l.length ∧ r.length = n := by
  obtain ⟨n, r, h1, h2, h3⟩ := atO_some _ (singleL l) (single_inv l) (Nat.le_refl _)
  have := single_len l
  exact ⟨n, r, h1, by omega, h3⟩
theorem firsts_snoc (l : List Pair) (x : Pair) : ∀ seen, firsts seen (l ++ [x]) = firsts seen l ++ (if (seen ++ l).any (fun y => decide (y.a = x.a)) then [] else [x]) := by
  induction l with
  | nil => intro seen; simp [firsts]
  | cons z l ih =>
    intro seen
    rw [List.cons_append]
    unfold firsts
    have e : seen ++ [z] ++ l = seen ++ z :: l := by simp
    split <;> simp [ih, e]
end Mu
end
section
/-
  Regions that draw their order, whatever they do: the state is told by what is done so far.
  Conditions: none; generic.
-/
namespace Mu
open Go Go.RowKit

section
variable {P : Program} {C : Ctx}
def upd (b : Nat → Bool) (i : Nat) : Nat → Bool := fun j => if j = i then true else b j
/-- what an operation waits for is done -/
def aftD (b : Nat → Bool) (o : Oper) : Prop := ∀ (k : Nat) (e : Edge), o.after[k]? = some e → Region.binds .any e = true → b e.on = true
def clsD (ops : Array Oper) (b : Nat → Bool) : Prop := ∀ (j : Nat) (o : Oper), ops[j]? = some o → b j = true → aftD b o
def gS (P : Program) (C : Ctx) (F : (Nat → Bool) → St) (ops : Array Oper) : Nat → List Oper → Prop
  | _, [] => True
  | k, o :: rest => (∀ b, b k = false → aftD b o → clsD ops b → AOp P C o (F b) fun s => St.le C s (F (upd b k))) ∧ gS P C F ops (k + 1) rest
theorem gS_get {F : (Nat → Bool) → St} {ops : Array Oper} : ∀ {l : List Oper} {k j : Nat} {o : Oper}, gS P C F ops k l → l[j]? = some o → ∀ b, b (k + j) = false → aftD b o → clsD ops b → AOp P C o (F b) fun s => St.le C s (F (upd b (k + j)))
  | [], _, _, _, _, hj => by simp at hj
  | o' :: l, k, 0, o, h, hj => by
    simp at hj
    subst hj
    exact h.1
  | o' :: l, k, j + 1, o, h, hj => by
    have := gS_get (l := l) (k := k + 1) (j := j) h.2 (by simpa using hj)
    rwa [show k + 1 + j = k + (j + 1) by omega] at this
def fwdB (ops : Array Oper) : Bool := (List.range ops.size).all fun i => match ops[i]? with
  | none => true
  | some o => o.guard.isNone && o.after.all fun e => !Region.binds .any e || decide (e.on < i)
theorem fwd_get {ops : Array Oper} (hf : fwdB ops = true) {i : Nat} {o : Oper} (ho : ops[i]? = some o) : o.guard = none ∧ ∀ e ∈ o.after, Region.binds .any e = true → e.on < i := by
  have h1 := List.all_eq_true.1 hf i (List.mem_range.2 (Array.getElem?_eq_some_iff.1 ho).1)
  simp only [ho, Bool.and_eq_true] at h1
  refine ⟨by simpa using h1.1, fun e he hb => ?_⟩
  have h2 := Array.all_eq_true_iff_forall_mem.1 h1.2 e he
  rw [hb] at h2
  simpa using h2
theorem aftD_mono {b : Nat → Bool} {i : Nat} {o : Oper} (h : aftD b o) : aftD (upd b i) o := fun k e he hb => by
  unfold upd
  split
  · rfl
  · exact h k e he hb
theorem getD_t {listed : Array Bool} {j : Nat} (h : listed.getD j false = true) : listed.getD j true = true := by
  rcases Nat.lt_or_ge j listed.size with h' | h'
  · simp [h'] at h ⊢; exact h
  · simp [Array.getElem?_eq_none h'] at h
theorem upd_set {listed : Array Bool} {i : Nat} (hi : i < listed.size) : (fun j => (listed.setIfInBounds i true).getD j true) = upd (fun j => listed.getD j true) i := by
  funext j
  unfold upd
  by_cases h : j = i
  · subst h
    rw [if_pos rfl]
    simp [Array.getD_eq_getD_getElem?, hi]
  · rw [if_neg h, getD_set_ne true (Ne.symm h)]
theorem wpAny_of_G {ops : Array Oper} {F : (Nat → Bool) → St} {Q' : Exit → Act → World → Prop} (hf : fwdB ops = true)
    (hs : ∀ (j : Nat) (o : Oper), ops[j]? = some o → ∀ b, b j = false → aftD b o → clsD ops b → AOp P C o (F b) fun s => St.le C s (F (upd b j)))
    (hQ : ∀ a w, (F fun _ => true).rel C a w → Q' .normal a w) :
    ∀ (f : Nat) (listed : Array Bool) (a : Act) (w : World), listed.size = ops.size → listed.toList.count false = f → clsD ops (fun j => listed.getD j true) → (F fun j => listed.getD j true).rel C a w → wpAny P .any ops Q' f listed a w := by
  intro f
  induction f with
  | zero =>
    intro listed a w hsz hc hcl H
    have hall : ∀ j, listed.getD j true = true := fun j => by
      rcases Nat.lt_or_ge j listed.size with h' | h'
      · have hm := List.count_eq_zero.1 hc
        simp only [Array.getD_eq_getD_getElem?, Array.getElem?_eq_getElem h', Option.getD_some]
        rcases hx : listed[j] with _ | _
        · exact absurd (by rw [← hx]; simp) hm
        · rfl
      · simp [Array.getD_eq_getD_getElem?, Array.getElem?_eq_none h']
    refine ⟨List.eq_nil_iff_forall_not_mem.2 fun i hi => ?_, hQ a w ?_⟩
    · have := (mem_ready.1 hi).1
      rw [hall i] at this
      cases this
    · have e : (fun j => listed.getD j true) = fun _ => true := funext hall
      rwa [e] at H
  | succ f ih =>
    intro listed a w hsz hc hcl H
    refine ⟨fun h0 => ?_, fun i hi => ?_⟩
    · exfalso
      have hex : ∃ j, listed.getD j true = false := by
        have hm : false ∈ listed.toList := List.count_pos_iff.1 (by omega)
        obtain ⟨j, hj, he⟩ := List.getElem_of_mem hm
        exact ⟨j, by simp only [Array.length_toList] at hj; simp only [Array.getElem_toList] at he; simp [Array.getD_eq_getD_getElem?, hj, he]⟩
      obtain ⟨j, hj, hmin⟩ := least_of hex
      have hjs : j < ops.size := by
        rcases Nat.lt_or_ge j listed.size with h' | h'
        · omega
        · simp [Array.getElem?_eq_none h'] at hj
      have hmem : j ∈ Region.ready .any ops listed := mem_ready.2 ⟨hj, _, Array.getElem?_eq_getElem hjs, fun e he hb => by
        have hlt := (fwd_get hf (Array.getElem?_eq_getElem hjs)).2 e he hb
        cases hx : listed.getD e.on false with
        | true => rfl
        | false =>
          have hin : e.on < listed.size := by omega
          have := hmin e.on (getD_in hin hx)
          omega⟩
      rw [h0] at hmem
      cases hmem
    · obtain ⟨hun, o, ho, hall⟩ := mem_ready.1 hi
      have his : i < listed.size := by rw [hsz]; exact (Array.getElem?_eq_some_iff.1 ho).1
      obtain ⟨hg, hfw⟩ := fwd_get hf ho
      have haft : aftD (fun j => listed.getD j true) o := fun k e he hb => getD_t (hall e (Array.mem_of_getElem? he) hb)
      have hcnt : (listed.setIfInBounds i true).toList.count false = f := by
        have hfalse : listed.toList[i]'(by simpa using his) = false := by
          have := hun
          simp [Array.getD_eq_getD_getElem?, his] at this
          simpa using this
        rw [Array.toList_setIfInBounds, List.count_set (by simpa using his), hfalse, hc]
        simp
      unfold wpOp
      simp only [ho]
      have hw : Region.wanted o (yielded ops a.tmps) = true := by unfold Region.wanted; rw [hg]
      rw [hw, if_pos rfl]
      refine .inl (Oper.wp_mono (fun a' w' ⟨s', hle, hr⟩ => ?_) (hs i o ho _ hun haft hcl Q' a w H).2)
      refine ih _ a' w' (by simpa using hsz) hcnt ?_ ?_
      · rw [upd_set his]
        intro j o' hj hbj
        by_cases hji : j = i
        · subst hji
          rw [ho] at hj
          cases hj
          exact aftD_mono haft
        · exact aftD_mono (hcl j o' hj (by unfold upd at hbj; rwa [if_neg hji] at hbj))
      · rw [upd_set his]
        exact hle a' w' hr
theorem Awp.drawG {id n : Nat} {l : List Oper} {Q : Exit → St → Prop} (F : (Nat → Bool) → St) (hn : l.length = n) (hm : P.follows .mixedOrders = true) (hB : (Region.noSelect l.toArray && noDefer l.toArray && fwdB l.toArray) = true)
    (hs : gS P C F l.toArray 0 l) (hQ : Q .normal (F fun _ => true)) : Awp P C (.region id l.toArray true) Q (F fun j => decide (n ≤ j)) := fun a w H => by
  simp only [Bool.and_eq_true] at hB
  obtain ⟨⟨hsel, hnd⟩, hf⟩ := hB
  refine fnc_region hm hnd ?_
  have e0 : (fun j => (Array.replicate l.toArray.size false).getD j true) = fun j => decide (n ≤ j) := by
    funext j
    simp only [Array.getD_eq_getD_getElem?, Array.getElem?_replicate, List.size_toArray, hn]
    by_cases h : j < n
    · rw [if_pos h, decide_eq_false (by omega)]; rfl
    · rw [if_neg h, decide_eq_true (by omega)]; rfl
  refine wpAny_of_G (Q' := fun e a' w' => e = .normal ∧ ∃ s', Q e s' ∧ s'.rel C a' w') hf (fun j o ho b h1 h2 h3 => ?_) (fun a' w' h => ⟨rfl, _, hQ, h⟩) _ _ a _ (by simp) (by simp) ?_ ?_
  · have := gS_get (l := l) (k := 0) (j := j) hs (by simpa using ho) b (by rwa [Nat.zero_add]) h2 h3
    rwa [Nat.zero_add] at this
  · intro j o ho hb
    have hj : j < l.toArray.size := (Array.getElem?_eq_some_iff.1 ho).1
    have : (Array.replicate l.toArray.size false).getD j true = true := hb
    rw [Array.getD_eq_getD_getElem?, Array.getElem?_replicate, if_pos hj] at this
    cases this
  · rw [e0]
    obtain ⟨hd, S, ψ, hh', hl⟩ := H
    have hb : Below w.heap.size w { w with drawn := w.drawn + 1 } := ⟨rfl, rfl, rfl, Nat.le_refl _, fun _ _ => rfl⟩
    exact ⟨hd, S, ψ, hh'.grow hb (fun _ h => h) (fun _ h => .inl h) hh'.lt, AV.relL_ext (show Ext w S _ ψ { w with drawn := w.drawn + 1 } S _ ψ from Ext.grow _ ψ (fun k hk => rfl) fun _ h => h) _ _ hl⟩

/-! ### a variable's memory at a place that is kept for it -/
theorem nrL_nil {p : Nat} : AV.nrL p [] = true := rfl
theorem nrL_cons {p : Nat} {x : AV} {l : List AV} (hx : AV.nr p x = true) (hl : AV.nrL p l = true) : AV.nrL p (x :: l) = true := by unfold AV.nrL; rw [hx, hl]; rfl
theorem nr_c {p : Nat} {c : Bool} {x y : AV} (hx : AV.nr p x = true) (hy : AV.nr p y = true) : AV.nr p (bif c then x else y) = true := by cases c; exact hy; exact hx
theorem nr_f {p : Nat} {c : Bool} {x y : AV} (hc : c = false) (hy : AV.nr p y = true) : AV.nr p (bif c then x else y) = true := by subst hc; exact hy
theorem nrH_nil {p : Nat} : List.all [] (nrB p) = true := rfl
theorem nrH_cons {p : Nat} {x : ABlk} {l : List ABlk} (hx : nrB p x = true) (hl : l.all (nrB p) = true) : (x :: l).all (nrB p) = true := by rw [List.all_cons, hx, hl]; rfl
theorem nrB_c {p : Nat} {c : Bool} {x y : ABlk} (hx : nrB p x = true) (hy : nrB p y = true) : nrB p (bif c then x else y) = true := by cases c; exact hy; exact hx
theorem St.le_deads {t : List AV} {h h' : List ABlk} (k : Nat) (e : h ++ List.replicate k .dead = h') : St.le C ⟨t, h⟩ ⟨t, h'⟩ := by
  subst e
  induction k with
  | zero => simpa using St.le.refl
  | succ k ih =>
    refine ih.trans ?_
    have := St.le_dead (C := C) (t := t) (h := h ++ List.replicate k .dead)
    rwa [List.append_assoc, ← List.replicate_succ'] at this
theorem cndBT {b : Bool} (h : b = true) (x y : ABlk) : (bif b then x else y) = x := by subst h; rfl
theorem cndBF {b : Bool} (h : b = false) (x y : ABlk) : (bif b then x else y) = y := by subst h; rfl
theorem gS_cons {F : (Nat → Bool) → St} {ops : Array Oper} {k : Nat} {o : Oper} {rest : List Oper} (h1 : ∀ b, b k = false → aftD b o → clsD ops b → AOp P C o (F b) fun s => St.le C s (F (upd b k))) (h2 : gS P C F ops (k + 1) rest) : gS P C F ops k (o :: rest) := ⟨h1, h2⟩
theorem gS_nil {F : (Nat → Bool) → St} {ops : Array Oper} {k : Nat} : gS P C F ops k [] := trivial
theorem not_before {ops : Array Oper} {b : Nat → Bool} (hc : clsD ops b) {i j k : Nat} {o : Oper} {e : Edge} (hj : ops[j]? = some o) (hk : o.after[k]? = some e) (hb : Region.binds .any e = true) (he : e.on = i) (hi : b i = false) : b j = false := by
  cases h : b j with
  | false => rfl
  | true =>
    have := hc j o hj h k e hk hb
    rw [he, hi] at this
    cases this
end
end Mu
end
section
/-
  Functions that turn memory at known places: a contract from its walk; such a function value is called.
  Conditions: none; generic.
-/
namespace Mu
open Go Go.RowKit Go.Proofs

section
variable {P : Program} {C : Ctx} {o : Oper} {t : List AV} {h : List ABlk} {ι : Type} {Rs : ι → Res} {val : ι → Value}
end
end Mu
end
section
/-
  Walks that show M: loops that are gone through round by round, pointers in arrays, variables at places that closures know.
  Conditions: none; generic.
-/
namespace Mu
open Go Go.RowKit Go.Proofs

/-! ### a loop, round by round -/
section
variable {P : Program} {C : Ctx}
/-! ### pointers -/
variable {t : List AV} {h : List ABlk} {o : Oper}
end
section
variable {P : Program} {C : Ctx} {t : List AV} {h : List ABlk} {o : Oper}
end

/-! ### function values that turn memory, where something of the world is presupposed -/
section
variable {G : World → Prop} {P : Program} {f : FuncId} {fn : Go.Func} {c : Code} {args : List AV} {ι : Type} {R : Res} {Rs : ι → Res} {val : ι → Value} {t : Tmp} {n : Nat}
end
section
variable {G : World → Prop} {P : Program} {C : Ctx} {o : Oper} {t : List AV} {h : List ABlk} {ι : Type} {Rs : ι → Res} {val : ι → Value}
end
end Mu
end
section
/-
  A row of the call's own, opened to its cells: parts of it are cut, moved within it, cleared; it is closed again.
  Conditions: none; generic.
-/
namespace Mu
open Go Go.RowKit Go.ChangeShapes Go.WideShapes Go.Proofs

/-- such cells at such a place -/
def putC (cells : List Value) (off : Nat) (news : List Value) : List Value := cells.take off ++ news ++ cells.drop (off + news.length)
/-- the part of a row from its l-th element on -/
def sufV (g sz cap l m : Nat) : Value := .slice (if cap = l then some ⟨g, 0, none⟩ else some ⟨g, l * sz, none⟩) (m - l) (cap - l)
theorem putC_len {cells : List Value} {off : Nat} {news : List Value} (h : off + news.length ≤ cells.length) : (putC cells off news).length = cells.length := by
  unfold putC
  simp
  omega
theorem setCells_row (P : Program) {w : World} {g off : Nat} {cells news : List Value} {e : TypeId} (hg : w.heap[g]? = some (.cells cells.toArray e (0, 0))) (hle : off + news.length ≤ cells.length) (h1 : ∀ u ∈ news, u.oneCell' = true) :
    w.setCells g off news = w.setRow g (putC cells off news).toArray := by
  have a := run_storeCells_cells (P := P) g off news 0 w (fun j hj => by simp [World.cell?, hg]; omega) (fun j hj => by simp [World.frozen?, hg]) h1
  have b := run_storeCells_at (P := P) g off e news 0 cells.toArray w hg (by simpa using hle) h1
  rw [a] at b
  simpa [putC] using b

section
variable {P : Program} {C : Ctx} {t : List AV} {h : List ABlk} {o : Oper} {K : St → Prop}
theorem Quiet.slSuf {ty : TypeId} {x : Operand} {lo hi : Option Operand} {g n cap l m sz : Nat} [ES P ty sz] (ho : o.op = .slice ty x lo hi none) (hx : evA t x = .lit (.slice (some ⟨g, 0, none⟩) n cap)) (hl : BndA t 0 lo l) (hm : BndA t n hi m) (h1 : l ≤ m) (h2 : m ≤ cap) :
    Quiet P C t h o (.lit (sufV g sz cap l m)) :=
  Quiet.of_run fun S ψ w ρ H hρ => by
    have hx' := hρ x (by rw [ho]; simp [Op.operands])
    have hlo := hl.val (h := h) (w := w) (S := S) (ψ := ψ) (ρ := ρ) fun y hy => hρ y (by rw [ho, hy]; simp [Op.operands])
    have hhi := hm.val (h := h) (w := w) (S := S) (ψ := ψ) (ρ := ρ) fun y hy => hρ y (by rw [ho, hy]; simp [Op.operands])
    rw [hx] at hx'
    unfold AV.rel at hx'
    have hr := run_sl (P := P) (w := w) (a := some ⟨g, 0, none⟩) (len := n) (cap := cap) (ES.eq (P := P) (ty := ty) (n := sz)) hlo hhi h1 h2
    have e : (Value.slice (if cap = l then some ⟨g, 0, none⟩ else (some (⟨g, 0, none⟩ : Addr)).map (·.add (l * sz))) (m - l) (cap - l)) = sufV g sz cap l m := by
      unfold sufV
      split <;> simp [add_plain]
    rw [e] at hr
    refine ⟨sufV g sz cap l m, by simp [execOp, ho, hx', hr], ?_⟩
    unfold AV.rel
    rfl
theorem Quiet.slPre {ty : TypeId} {x : Operand} {hi : Option Operand} {g n cap m sz : Nat} [ES P ty sz] (ho : o.op = .slice ty x none hi none) (hx : evA t x = .lit (.slice (some ⟨g, 0, none⟩) n cap)) (hm : BndA t n hi m) (h2 : m ≤ cap) :
    Quiet P C t h o (.lit (.slice (some ⟨g, 0, none⟩) m cap)) := by
  have e : sufV g sz cap 0 m = .slice (some ⟨g, 0, none⟩) m cap := by
    unfold sufV
    split <;> simp
  rw [← e]
  exact Quiet.slSuf ho hx rfl hm (Nat.zero_le _) h2
/-- a bound that is only looked at -/
theorem Quiet.slMax {ty : TypeId} {x y z u : Operand} {g n cap l m k sz : Nat} {k1 k2 k3 : IntKind} [ES P ty sz] (ho : o.op = .slice ty x (some y) (some z) (some u)) (hx : evA t x = .lit (.slice (some ⟨g, 0, none⟩) n cap)) (hy : evA t y = .lit (.int k1 (l : Int))) (hz : evA t z = .lit (.int k2 (m : Int))) (hu : evA t u = .lit (.int k3 (k : Int)))
    (h1 : l ≤ m) (h2 : m ≤ k) (h3 : k ≤ cap) : Quiet P C t h o .any :=
  Quiet.of_run fun S ψ w ρ H hρ => by
    have hx' := hρ x (by rw [ho]; simp [Op.operands])
    have hy' := hρ y (by rw [ho]; simp [Op.operands])
    have hz' := hρ z (by rw [ho]; simp [Op.operands])
    have hu' := hρ u (by rw [ho]; simp [Op.operands])
    rw [hx] at hx'
    rw [hy] at hy'
    rw [hz] at hz'
    rw [hu] at hu'
    unfold AV.rel at hx' hy' hz' hu'
    obtain ⟨e, hu1, hsz⟩ : ∃ e, P.underlying ty = some (.slice e) ∧ ∃ i, P.info? e = some i := by
      have hs := ES.eq (P := P) (ty := ty) (n := sz)
      unfold elemSz at hs
      split at hs <;> try (cases hs; done)
      rename_i e hu
      cases hi' : P.info? e with
      | none => rw [hi'] at hs; cases hs
      | some i => exact ⟨e, hu, i, hi'⟩
    obtain ⟨i, hi⟩ := hsz
    have b1 : (Instr.sliceBounds true n cap (some (.int k1 (l : Int))) (some (.int k2 (m : Int))) (some (.int k3 (k : Int)))).run P w = .ok (l, m, k) w := by
      simp [Instr.sliceBounds, run_sliceBound, h1, h2, h3]
    have hr : ∃ v, (Instr.sliceAt ty (.slice (some ⟨g, 0, none⟩) n cap) (some (.int k1 (l : Int))) (some (.int k2 (m : Int))) (some (.int k3 (k : Int)))).run P w = .ok v w := by
      have hel : P.elem ty = e := by simp [Program.elem, hu1]
      rw [run_sliceAt_slice (h := by rw [hel]; exact hu1)]
      exact ⟨_, by simp [Instr.slice, run_underlying hu1, b1, Go.sizeOf, typeInfo, hi]; rfl⟩
    obtain ⟨v, hr⟩ := hr
    refine ⟨v, by simp [execOp, ho, hx', hy', hz', hu', hr], ?_⟩
    unfold AV.rel
    trivial
theorem Quiet.loadA_rp {ty : TypeId} {x : Operand} {n i ver k off : Nat} {e : TypeId} {α : Type} {T : Ty α} {l : List α} {d : α} {enc : α → List AV} [AG P ty true n] [EncOf T enc] (ho : o.op = .load ty x) (hx : evA t x = .rp i ver k off) (hi : h[i]? = some (.row ver e T l)) (hk : l[k]? = some d)
    (hn : (((enc d).drop off).take n).length = n) : Quiet P C t h o (.agg (((enc d).drop off).take n)) :=
  Quiet.loadA ho AG.eq hx (CellsOf.rp hi hk EncOf.ok) rfl hn
theorem raw_turn {S : Nat → Prop} {w : World} {g off : Nat} {cells news : List Value} {e : TypeId} (hg : w.heap[g]? = some (.cells cells.toArray e (0, 0))) {v : Value} :
    Turns w S (fun k => k = g) (fun _ : Unit => rawR g (putC cells off news) e) (fun _ => v) v (w.setRow g (putC cells off news).toArray) := by
  have hgr := grown_setRow w g (putC cells off news).toArray
  refine ⟨⟨hgr.os, hgr.tape, hgr.output, hgr.size, fun k hk hn => hgr.block k hk fun e => hn (by injection e)⟩, (), rfl, setRow_heap w g _ _ e _ hg, fun k hk => ?_⟩
  have hk : k = g := hk
  subst hk
  exact ⟨.inl rfl, Nat.lt_of_lt_of_le (Array.getElem?_eq_some_iff.1 hg).1 hgr.size⟩
theorem part_one {cells : List Value} {l m sz : Nat} (h1 : ∀ u ∈ cells.take (m * sz), u.oneCell' = true) : ∀ u ∈ (cells.drop (l * sz)).take ((m - l) * sz), u.oneCell' = true := fun u hu => by
  rw [Nat.sub_mul, ← List.drop_take] at hu
  exact h1 u (List.mem_of_mem_drop hu)
theorem src_raw {ty e : TypeId} {w : World} {g cap l m sz : Nat} {cells : List Value} (hu : P.underlying ty = some (.slice e)) (hg : w.heap[g]? = some (.cells cells.toArray e (0, 0))) (hc : cells.length = cap * sz) (h1 : ∀ u ∈ cells.take (m * sz), u.oneCell' = true) (hm : m ≤ cap) :
    Go.Src P sz ty (sufV g sz cap l m) (m - l) ((cells.drop (l * sz)).take ((m - l) * sz)) w := by
  have hnl : l ≤ m → ((cells.drop (l * sz)).take ((m - l) * sz)).length = (m - l) * sz := fun hlm => by
    have h2 : m * sz ≤ cap * sz := Nat.mul_le_mul_right _ hm
    have h3 : l * sz ≤ m * sz := Nat.mul_le_mul_right _ hlm
    rw [List.length_take, List.length_drop, hc, Nat.sub_mul]
    omega
  have hone : ∀ u ∈ (cells.drop (l * sz)).take ((m - l) * sz), u.oneCell' = true := fun u hu => part_one h1 u hu
  unfold sufV
  by_cases hlm : l ≤ m
  · by_cases hcl : cap = l
    · rw [if_pos hcl]
      have e0 : m - l = 0 := by omega
      rw [e0, Nat.zero_mul, List.take_zero]
      exact Go.Src.ofSlice _ hu _ _ _ _ (by simp) (fun j u hj => by simp at hj) (fun u hu => by simp at hu)
    · rw [if_neg hcl]
      refine Go.Src.ofSlice _ hu _ _ _ _ (hnl hlm) (fun j u hj => ?_) hone
      rw [List.getElem?_take] at hj
      split at hj
      · rw [List.getElem?_drop] at hj
        simp [World.cell?, add_plain, hg, hj]
      · cases hj
  · have e0 : m - l = 0 := by omega
    rw [e0, Nat.zero_mul, List.take_zero]
    split <;> exact Go.Src.ofSlice _ hu _ _ _ _ (by simp) (fun j u hj => by simp at hj) (fun u hu => by simp at hu)
/-- cells of the row are moved within it -/
theorem AOp.appRaw {ty : TypeId} {x y : Operand} {i g n cap l m sz bytes : Nat} {e : TypeId} {cells : List Value} [RT P ty e sz bytes] (ho : o.op = .call { callee := .builtin .append, args := #[x, y], argTypes := #[ty, ty] })
    (hx : evA t x = .lit (.slice (some ⟨g, 0, none⟩) n cap)) (hy : evA t y = .lit (sufV g sz cap l m)) (hi : h[i]? = some (.res (rawR g cells e))) (hc : cells.length = cap * sz) (h1 : ∀ u ∈ cells.take (m * sz), u.oneCell' = true) (hlm : l ≤ m) (hm : m ≤ cap) (hr : n + (m - l) ≤ cap)
    (hK : K ⟨putA t o.dst (.lit (.slice (some ⟨g, 0, none⟩) (n + (m - l)) cap)), h.set i (.res (rawR g (putC cells (n * sz) ((cells.drop (l * sz)).take ((m - l) * sz))) e))⟩) : AOp P C o ⟨t, h⟩ K := by
  refine AOp.turn (ι := Unit) (Rs := fun _ => rawR g (putC cells (n * sz) ((cells.drop (l * sz)).take ((m - l) * sz))) e) (val := fun _ => .slice (some ⟨g, 0, none⟩) (n + (m - l)) cap) hi (fun _ => rfl) (fun S ψ w ρ H hR hlt hρ => ?_) fun _ => hK
  have hx' := hρ x (by simp [ho, Op.operands, Call.operands])
  have hy' := hρ y (by simp [ho, Op.operands, Call.operands])
  rw [hx] at hx'
  rw [hy] at hy'
  unfold AV.rel at hx' hy'
  have hg : w.heap[g]? = some (.cells cells.toArray e (0, 0)) := hR
  obtain ⟨q1, ti, z, q2, q3, q4, q5, q6⟩ := rowTy_spec (RT.eq (P := P) (ty := ty) (e := e) (n := sz) (bytes := bytes))
  have hs := src_raw (P := P) (m := m) (l := l) q1 hg hc h1 hm
  have hnl : ((cells.drop (l * sz)).take ((m - l) * sz)).length = (m - l) * sz := by
    have h2 : m * sz ≤ cap * sz := Nat.mul_le_mul_right _ hm
    have h3 : l * sz ≤ m * sz := Nat.mul_le_mul_right _ hlm
    rw [List.length_take, List.length_drop, hc, Nat.sub_mul]
    omega
  have hle : n * sz + (m - l) * sz ≤ cells.length := by
    rw [hc, ← Nat.add_mul]
    exact Nat.mul_le_mul_right _ hr
  have hrun := run_append_room_src (P := P) w ty ty o.type e ti q1 q2 g 0 n cap _ (m - l) _ (by rw [q4]; exact hs) hr (fun j hj => by rw [q4]; simp [World.cell?, hg]; omega) (fun j hj => by simp [World.frozen?, hg])
  rw [q4, Nat.zero_add, setCells_row P hg (by rw [hnl]; exact hle) (part_one h1)] at hrun
  have hres : (execOp ρ o).run P w = .ok (.value (.slice (some ⟨g, 0, none⟩) (n + (m - l)) cap)) (w.setRow g (putC cells (n * sz) ((cells.drop (l * sz)).take ((m - l) * sz))).toArray) := by
    simp [execOp, ho, resolve, invoke, builtin, hx', hy', hrun]
  rw [hres]
  exact raw_turn hg
theorem zeroRep (z : Value) (n : Nat) : (Builtin.zeroCells z.cells n).toList.length = n * z.cells.size := by
  simp [Builtin.zeroCells]
/-- so many zeros -/
def zeroC (P : Program) (e : TypeId) (n : Nat) : List Value := (Builtin.zeroCells (((P.info? e).bind (·.zero)).getD undef).cells n).toList
theorem zeroC_of {e : TypeId} {ti : TypeInfo} {z : Value} (h1 : P.info? e = some ti) (h2 : ti.zero = some z) (n : Nat) : zeroC P e n = (Builtin.zeroCells z.cells n).toList := by
  unfold zeroC
  rw [h1]
  simp only [Option.bind_some, h2, Option.getD_some]
theorem zeroC_len {ty e : TypeId} {sz bytes : Nat} [RT P ty e sz bytes] (n : Nat) : (zeroC P e n).length = n * sz := by
  obtain ⟨q1, ti, z, q2, q3, q4, q5, q6⟩ := rowTy_spec (RT.eq (P := P) (ty := ty) (e := e) (n := sz) (bytes := bytes))
  rw [zeroC_of q2 q3, zeroRep, q6]
/-- cells of the row are cleared -/
theorem AOp.clrRaw {ty : TypeId} {x : Operand} {i g cap l m sz bytes : Nat} {e : TypeId} {cells : List Value} {zs : List Value} [RT P ty e sz bytes] [ZC P e zs] (h1z : zs.all (·.oneCell') = true) (ho : o.op = .call { callee := .builtin .clear, args := #[x], argTypes := #[ty] })
    (hx : evA t x = .lit (sufV g sz cap l m)) (hi : h[i]? = some (.res (rawR g cells e))) (hc : cells.length = cap * sz) (hm : m ≤ cap)
    (hK : K ⟨putA t o.dst (.lit (.tuple #[])), h.set i (.res (rawR g (putC cells (l * sz) (zeroC P e (m - l))) e))⟩) : AOp P C o ⟨t, h⟩ K := by
  obtain ⟨q1, ti, z, q2, q3, q4, q5, q6⟩ := rowTy_spec (RT.eq (P := P) (ty := ty) (e := e) (n := sz) (bytes := bytes))
  rw [zeroC_of q2 q3] at hK
  have hzz : z.cells.toList = zs := by
    have := ZC.eq (P := P) (ty := e) (zs := zs)
    unfold zeroCells? at this
    rw [q2] at this
    simp only [Option.bind_some, q3, Option.map_some, Option.some.injEq] at this
    exact this
  have hzl : (Builtin.zeroCells z.cells (m - l)).toList.length = (m - l) * sz := by rw [zeroRep, q6]
  have hz1 : ∀ u ∈ (Builtin.zeroCells z.cells (m - l)).toList, u.oneCell' = true := fun u hu => by
    have hu' : u ∈ Builtin.zeroCells z.cells (m - l) := by simpa using hu
    unfold Builtin.zeroCells at hu'
    obtain ⟨j, hj, rfl⟩ := Array.mem_map.1 hu'
    have hj := Array.mem_range.1 hj
    have hjz : j % z.cells.size < z.cells.size := Nat.mod_lt _ (by
      rcases Nat.eq_zero_or_pos z.cells.size with h | h
      · rw [h, Nat.mul_zero] at hj; omega
      · exact h)
    rw [getElem!_pos z.cells (j % z.cells.size) hjz]
    exact List.all_eq_true.1 h1z _ (by rw [← hzz]; simp)
  refine AOp.turn (ι := Unit) (Rs := fun _ => rawR g (putC cells (l * sz) (Builtin.zeroCells z.cells (m - l)).toList) e) (val := fun _ => .tuple #[]) hi (fun _ => rfl) (fun S ψ w ρ H hR hlt hρ => ?_) fun _ => hK
  have hx' := hρ x (by simp [ho, Op.operands, Call.operands])
  rw [hx] at hx'
  unfold AV.rel at hx'
  have hg : w.heap[g]? = some (.cells cells.toArray e (0, 0)) := hR
  have hres : (execOp ρ o).run P w = .ok (.value (.tuple #[])) (w.setRow g (putC cells (l * sz) (Builtin.zeroCells z.cells (m - l)).toList).toArray) := by
    by_cases hlm : m ≤ l
    · have e0 : m - l = 0 := by omega
      have e1 : (Builtin.zeroCells z.cells (m - l)).toList = [] := List.eq_nil_of_length_eq_zero (by rw [hzl, e0, Nat.zero_mul])
      have e2 : putC cells (l * sz) [] = cells := by unfold putC; simp
      rw [e1, e2, setRow_self w g cells.toArray e (0, 0) hg]
      unfold sufV at hx'
      rw [e0] at hx'
      simp only [execOp, ho, resolve, invoke, builtin]
      split at hx' <;> simp [hx', Builtin.clear_, run_underlying q1]
    · have hne : ¬ cap = l := by omega
      unfold sufV at hx'
      rw [if_neg hne] at hx'
      have hle : l * sz + (m - l) * sz ≤ cells.length := by
        rw [hc, ← Nat.add_mul]
        exact Nat.mul_le_mul_right _ (by omega)
      have hst := run_storeCells_at (P := P) g (l * sz) e (Builtin.zeroCells z.cells (m - l)).toList 0 cells.toArray w hg (by rw [hzl]; simpa using hle) hz1
      obtain ⟨q, hq⟩ : ∃ q, m - l = q + 1 := ⟨m - l - 1, by omega⟩
      have hzv : (zeroValue e).run P w = .ok z w := by simp [zeroValue, typeInfo, q2, q3]
      rw [hq] at hx' hst ⊢
      simp only [Nat.add_zero] at hst
      simp [execOp, ho, resolve, invoke, builtin, hx', Builtin.clear_, run_underlying q1, hzv, hst, putC]
  rw [hres]
  exact raw_turn hg

/-- a row's reading, out of its cells -/
def RawOf {α : Type} (T : Ty α) (cells : List Value) (l : List α) : Prop := ∀ w S j d, l[j]? = some d → T.RS w S ((cells.drop (j * T.size)).take T.size) d
end
section
variable {P : Program} {C : Ctx} {t : List AV} {h : List ABlk} {c : Code} {Q : Exit → St → Prop}
/-- a row that is not empty is opened to its cells -/
theorem Awp.open_raw (i : Nat) {ver : Nat} {e : TypeId} {α : Type} {T : Ty α} {l : List α} (hi : h[i]? = some (.row ver e T l)) (hn : noRef i h = true) (hne : l ≠ []) (hfl : ∀ w w' S S' cs d, T.RS w S cs d → T.RS w' S' cs d) (h1T : One1 T) (t' : Value → List AV) (ht : ∀ v, Opn i ver v t (t' v))
    (hK : ∀ g cap cells, cells.length = cap * T.size → l.length ≤ cap → cap ≤ maxLen → RawOf T cells l → (∀ u ∈ cells.take (l.length * T.size), u.oneCell' = true) → Awp P C c Q ⟨t' (.slice (some ⟨g, 0, none⟩) l.length cap), h.set i (.res (rawR g cells e))⟩) : Awp P C c Q ⟨t, h⟩ := fun a w ⟨hd, S, ψ, H, hl⟩ => by
  have hB := H.blk i _ hi
  have hlt := hB.lt rfl
  obtain ⟨cells, h1, h0, h2, h3⟩ := id hB
  rcases h1.2 with ⟨_, e0⟩ | ⟨g, cap, cur, e1, e2, e3, e4, e5, e6, e7⟩
  · exact absurd (List.eq_nil_of_length_eq_zero e0) hne
  · have hlt' := hlt g (by rw [e1]; rfl)
    have H' := H.desc (b' := .res (rawR g cur.toList e)) (v' := ψ i) hi rfl (noRef_at hn) ⟨fun k hk => by
      have hk : k = g := hk
      subst hk
      obtain ⟨a1, a2, a3⟩ := hlt'
      exact ⟨a1, a3, a2⟩, by show w.heap[g]? = _; rw [e3]⟩ fun k hk => by
        have hk : k = g := hk
        subst hk
        rw [e1]
        rfl
    rw [ψset_id] at H'
    have hcl : l.length * T.size ≤ cur.toList.length := by
      have e8 : cur.toList.length = cap * T.size := by simpa using e6
      rw [e8]
      exact Nat.mul_le_mul_right _ e4
    have hpart : ∀ j d, l[j]? = some d → (cells.drop (j * T.size)).take T.size = (cur.toList.drop (j * T.size)).take T.size := fun j d hj => by
      have hjl := (List.getElem?_eq_some_iff.1 hj).1
      have hle : (j + 1) * T.size ≤ l.length * T.size := Nat.mul_le_mul_right _ (by omega)
      rw [Nat.add_mul, Nat.one_mul] at hle
      rw [← e7, List.drop_take, List.take_take, Nat.min_eq_left (by omega)]
    have hone : ∀ u ∈ cells, u.oneCell' = true := fun u hu => by
      obtain ⟨j, hj, rfl⟩ := List.mem_iff_getElem.1 hu
      have hjl : j < l.length * T.size := by rw [← h1.1]; exact hj
      have hq : j / T.size < l.length := (Nat.div_lt_iff_lt_mul h0).2 hjl
      have hR := h2 (j / T.size) _ (List.getElem?_eq_getElem hq)
      refine h1T _ _ _ _ hR _ (List.mem_iff_getElem?.2 ⟨j % T.size, ?_⟩)
      rw [List.getElem?_take_of_lt (Nat.mod_lt _ h0), List.getElem?_drop, Nat.mul_comm, Nat.div_add_mod, List.getElem?_eq_getElem hj]
    have hK' := hK g cap cur.toList (by rw [Array.length_toList, e6]) e4 e5 (fun w' S' j d hj => by
      rw [← hpart j d hj]
      exact hfl _ _ _ _ _ _ (h2 j d hj)) (by rw [e7]; exact hone)
    refine hK' a w ⟨by rw [hd]; exact (mkD_set (b' := .res (rawR g cur.toList e)) hi rfl).symm, S, ψ, H', ?_⟩
    rw [← e1]
    refine (ht (ψ i)).rel (fun u hu => ?_) hl
    unfold AV.rel at hu
    exact (hu.2 _ (by rw [hi]; rfl)).2 rfl
theorem St.le_closeRaw (i : Nat) {ver g cap : Nat} {e : TypeId} {cells : List Value} {α : Type} {T : Ty α} {l : List α} {t' : List AV} (hi : h[i]? = some (.res (rawR g cells e))) (hn : noRef i h = true) (hc : cells.length = cap * T.size) (hle : l.length ≤ cap) (hm : cap ≤ maxLen) (h0 : 0 < T.size) (hR : RawOf T cells l)
    (ht : Cls i ver (.slice (some ⟨g, 0, none⟩) l.length cap) t t') : St.le C ⟨t, h⟩ ⟨t', h.set i (.row ver e T l)⟩ := fun a w ⟨hd, S, ψ, H, hl⟩ => by
  have hB := H.blk i _ hi
  have hg : w.heap[g]? = some (.cells cells.toArray e (0, 0)) := hB.2
  have hmul : l.length * T.size ≤ cells.length := by rw [hc]; exact Nat.mul_le_mul_right _ hle
  have hown : w.ownsRow 0 e T.size (.slice (some ⟨g, 0, none⟩) l.length cap) l.length (cells.take (l.length * T.size)) :=
    ⟨by rw [List.length_take]; omega, .inr ⟨g, cap, cells.toArray, rfl, Nat.zero_le _, hg, hle, hm, by rw [List.size_toArray, hc], rfl⟩⟩
  have H' := H.desc (b' := .row ver e T l) (v' := .slice (some ⟨g, 0, none⟩) l.length cap) hi rfl (noRef_at hn) ⟨_, hown, h0, fun j d hj => by
    have hjl := (List.getElem?_eq_some_iff.1 hj).1
    have hle : (j + 1) * T.size ≤ l.length * T.size := Nat.mul_le_mul_right _ (by omega)
    rw [Nat.add_mul, Nat.one_mul] at hle
    rw [List.drop_take, List.take_take, Nat.min_eq_left (by omega)]
    exact hR w S j d hj, fun k hk => by
    obtain ⟨a1, a2, _⟩ := hB.1 k (show k = g by simpa [Value.ownBlock] using hk.symm)
    exact ⟨a1, a2⟩⟩ fun k hk => by
      have : g = k := by simpa [ftp, blkOf] using hk
      exact this.symm
  exact ⟨by rw [hd]; exact (mkD_set (b' := .row ver e T l) hi rfl).symm, S, _, H', ht.rel (List.getElem?_eq_some_iff.1 hi).1 rfl hl⟩
end
end Mu
end
section
/-
  A row of the call's own that takes another one's place; empty literals in drawn regions; rows that are made by calls to which rows are lent; boxes that hold rows, lent.
  Conditions: none; generic.
-/
namespace Mu
open Go Go.RowKit Go.ChangeShapes Go.WideShapes Go.Proofs

/-- a row moves into another one's place -/
inductive Mv (i k ver ver' : Nat) : List AV → List AV → Prop
  | nil : Mv i k ver ver' [] []
  | any {x : AV} {t t' : List AV} (h : Mv i k ver ver' t t') : Mv i k ver ver' (x :: t) (.any :: t')
  | keep {x : AV} {t t' : List AV} (hi : AV.nr i x = true) (hk : AV.nr k x = true) (h : Mv i k ver ver' t t') : Mv i k ver ver' (x :: t) (x :: t')
  | own {t t' : List AV} (h : Mv i k ver ver' t t') : Mv i k ver ver' (.own k ver :: t) (.own i ver' :: t')
section
variable {C : Ctx} {h : List ABlk} {S : Nat → Prop} {ψ : Nat → Value} {w : World} {t t' : List AV}
theorem Mv.rel {i k ver ver' : Nat} {e : TypeId} {α : Type} {T : Ty α} {l : List α} (hk : h[k]? = some (.row ver e T l)) (hi : i < h.length) (hm : Mv i k ver ver' t t') : ∀ {cs : List Value}, AV.relL w S h ψ t cs → AV.relL w S ((h.set k .dead).set i (.row ver' e T l)) (ψset ψ i (ψ k)) t' cs := by
  induction hm with
  | nil => intro cs h; unfold AV.relL at h ⊢; exact h
  | any _ ih =>
    intro cs h
    unfold AV.relL at h ⊢
    obtain ⟨v, vs, e, _, h2⟩ := h
    exact ⟨v, vs, e, by unfold AV.rel; trivial, ih h2⟩
  | keep h1 h2 _ ih =>
    intro cs h
    unfold AV.relL at h ⊢
    obtain ⟨v, vs, e, h3, h4⟩ := h
    exact ⟨v, vs, e, AV.rel_up (fun j hj => ψset_ne hj) _ _ h1 (AV.rel_up (fun _ _ => rfl) _ _ h2 h3), ih h4⟩
  | own _ ih =>
    intro cs h
    unfold AV.relL at h ⊢
    obtain ⟨v, vs, e, h3, h4⟩ := h
    refine ⟨v, vs, e, ?_, ih h4⟩
    unfold AV.rel at h3 ⊢
    have hv := (h3.2 _ (by rw [hk]; rfl)).2 rfl
    refine ⟨by simpa using hi, fun c hc => ?_⟩
    rw [List.getElem?_set_self (by simpa using hi)] at hc
    simp only [ABlk.ver, Option.some.injEq] at hc
    exact ⟨by omega, fun _ => by rw [ψset_self]; exact hv⟩
def noRef2 (i k : Nat) (h : List ABlk) : Bool := h.all fun b => nrB i b && nrB k b
theorem St.le_mv (i k : Nat) {ver ver' : Nat} {e : TypeId} {α : Type} {T : Ty α} {l : List α} (hik : i ≠ k) (hk : h[k]? = some (.row ver e T l)) (hi : ABlk.mrk (h[i]?.getD .dead) = []) (hil : i < h.length) (hn : noRef2 i k h = true) (ht : Mv i k ver ver' t t') :
    St.le C ⟨t, h⟩ ⟨t', (h.set k .dead).set i (.row ver' e T l)⟩ := fun a w ⟨hd, S, ψ, H, hl⟩ => by
  have hkl := (List.getElem?_eq_some_iff.1 hk).1
  have hgi : ((h.set k .dead).set i (.row ver' e T l))[i]? = some (.row ver' e T l) := List.getElem?_set_self (by simpa using hil)
  have hgk : ((h.set k .dead).set i (.row ver' e T l))[k]? = some .dead := by rw [List.getElem?_set_ne hik, List.getElem?_set_self hkl]
  have hgo : ∀ j, j ≠ i → j ≠ k → ((h.set k .dead).set i (.row ver' e T l))[j]? = h[j]? := fun j h1 h2 => by rw [List.getElem?_set_ne (Ne.symm h1), List.getElem?_set_ne (Ne.symm h2)]
  have hmk : mkD ((h.set k .dead).set i (.row ver' e T l)) = mkD h := by
    have e1 : mkD (h.set k .dead) = mkD h := mkD_set (b' := .dead) hk rfl
    obtain ⟨b, hb⟩ : ∃ b, (h.set k .dead)[i]? = some b := ⟨_, List.getElem?_eq_getElem (by simpa using hil)⟩
    have hb' : h[i]? = some b := by rw [← hb, List.getElem?_set_ne (Ne.symm hik)]
    rw [hb'] at hi
    rw [mkD_set (b' := .row ver' e T l) hb (show ABlk.mrk (.row ver' e T l) = b.mrk from hi.symm), e1]
  refine ⟨by rw [hd]; exact hmk.symm, S, ψset ψ i (ψ k), ⟨H.bel, H.nlt, H.lt, H.sub, H.new, fun j c hc => ?_, fun j m hjm hj hm g hgj hgm => ?_⟩, ht.rel hk hil hl⟩
  · by_cases hji : j = i
    · subst hji
      rw [hgi] at hc
      cases hc
      rw [ψset_self]
      exact H.blk k _ hk
    · by_cases hjk : j = k
      · subst hjk
        rw [hgk] at hc
        cases hc
        trivial
      · rw [hgo j hji hjk] at hc
        rw [ψset_ne hji]
        have hB := H.blk j c hc
        have hnr := List.all_eq_true.1 hn c (List.mem_of_getElem? hc)
        rw [Bool.and_eq_true] at hnr
        cases c with
        | dead => trivial
        | box cells =>
          obtain ⟨g, cs, e, k1, k2, k3, k4, k5⟩ := hB
          exact ⟨g, cs, e, k1, k2, k3, k4, AV.relL_up (fun j hj => ψset_ne hj) _ _ hnr.1 (AV.relL_up (fun _ _ => rfl) _ _ hnr.2 k5)⟩
        | row ver e T l => exact hB
        | res R => exact hB
  · -- each live block stands for one of before
    have key : ∀ j, ABlk.live ((h.set k .dead).set i (.row ver' e T l))[j]? = true → ∃ q, ABlk.live h[q]? = true ∧ (ftp ((h.set k .dead).set i (.row ver' e T l))[j]? (ψset ψ i (ψ k) j) g → ftp h[q]? (ψ q) g) ∧ q = (if j = i then k else j) ∧ j ≠ k := fun j hj => by
      by_cases hji : j = i
      · subst hji
        refine ⟨k, by rw [hk]; rfl, fun hg => ?_, (if_pos rfl).symm, hik⟩
        rw [hgi, ψset_self] at hg
        rw [hk]
        exact hg
      · by_cases hjk : j = k
        · subst hjk
          rw [hgk] at hj
          simp [ABlk.live] at hj
        · rw [hgo j hji hjk] at hj ⊢
          rw [ψset_ne hji]
          exact ⟨j, hj, fun h => h, (if_neg hji).symm, hjk⟩
    obtain ⟨q1, a1, a2, a3, a4⟩ := key j hj
    obtain ⟨q2, b1, b2, b3, b4⟩ := key m hm
    refine H.dis q1 q2 ?_ a1 b1 g (a2 hgj) (b2 hgm)
    rw [a3, b3]
    by_cases hji : j = i
    · by_cases hmi : m = i
      · omega
      · rw [if_pos hji, if_neg hmi]; omega
    · by_cases hmi : m = i
      · rw [if_neg hji, if_pos hmi]; omega
      · rw [if_neg hji, if_neg hmi]; omega
end

section
variable {α0 : Type} {P : Program} {C : Ctx} {t : List AV} {h : List ABlk} {o : Oper} {K : St → Prop}
/-- an empty row is made, in a drawn region -/
theorem AOp.litAt {ty e : TypeId} {bytes m : Nat} {α : Type} {T : Ty α} [RT P ty e m bytes] (p : Nat) (ho : o.op = .buildSlice ty 0 #[]) (h0 : 0 < T.size) (hp : h[p]? = some .dead) (hn : h.all (nrB p) = true) (hnt : AV.nrL p t = true) (hK : K ⟨putA t o.dst (.own p 0), h.set p (.row 0 e T [])⟩) : AOp P C o ⟨t, h⟩ K := by
  rintro Q' a w ⟨hd, S, ψ, hh', hl⟩
  refine ⟨fun c e => (by rw [ho] at e; cases e), ?_⟩
  have ho' : o.op = .buildSlice ty ([] : List Operand).length (numbered []) := ho
  have hrun := run_buildOp (P := P) (ρ := a.eval) (w := w) ho'
  rw [run_lit (RT.eq (P := P) (ty := ty) (e := e) (n := m) (bytes := bytes)) (by simp) (fun v hv => by cases hv)] at hrun
  have hb : Below w.heap.size w (w.alloc (.cells (([].map a.eval).flatMap fun v => v.cells.toList).toArray e)) := (Below.refl _ _).alloc (Nat.le_refl _) _
  have hown : (w.alloc (.cells (([].map a.eval).flatMap fun v => v.cells.toList).toArray e)).ownsRow w.heap.size e T.size (.slice (some ⟨w.heap.size, 0, none⟩) 0 0) 0 [] :=
    ⟨by simp, .inr ⟨w.heap.size, 0, #[], rfl, Nat.le_refl _, heap_alloc_new w _, Nat.le_refl _, Nat.zero_le _, by simp, by simp⟩⟩
  have hB : BRel C.N (w.alloc (.cells (([].map a.eval).flatMap fun v => v.cells.toList).toArray e)) S (h.set p (.row 0 e T [])) (ψset ψ p (.slice (some ⟨w.heap.size, 0, none⟩) 0 0)) (.slice (some ⟨w.heap.size, 0, none⟩) 0 0) (.row 0 e T ([] : List α)) :=
    ⟨[], hown.mono (Nat.zero_le _), h0, fun i d hd => by simp at hd, fun g hg => by
      have hlt := hown.lt g hg
      exact ⟨fun hN => by have := hh'.nlt _ hN; have := hh'.bel.size; omega, fun hS => by have := hh'.lt _ hS; omega⟩⟩
  unfold Oper.wp
  rw [hrun]
  have H1 := hh'.revive hp hn hb hB fun g hg => by simp [ftp, blkOf] at hg; omega
  have hl1 := AV.relL_ext (Ext.grow h ψ (fun k hk => hb.block k (hh'.lt k hk)) fun _ h => h) _ _ hl
  have hl2 := AV.relL_up (b := .row 0 e T ([] : List α)) (ψ' := ψset ψ p (.slice (some ⟨w.heap.size, 0, none⟩) 0 0)) (fun i hi => ψset_ne hi) _ _ hnt hl1
  refine ⟨_, hK, by rw [put_defers, hd]; exact (mkD_set (b' := .row 0 e T ([] : List α)) hp rfl).symm, S, _, H1, put_rel hl2 o.dst ?_⟩
  unfold AV.rel
  refine ⟨by simpa using (List.getElem?_eq_some_iff.1 hp).1, fun c hc => ?_⟩
  rw [List.getElem?_set_self (List.getElem?_eq_some_iff.1 hp).1] at hc
  simp only [ABlk.ver, Option.some.injEq] at hc
  exact ⟨by omega, fun _ => ψset_self.symm⟩
/-- what is lent, by what it is read as -/
def LendW (h : List ABlk) (x x' : AV) : Prop := ∀ (C : Ctx) (S : Nat → Prop) (ψ : Nat → Value) (w : World) (v : Value), HRel C h S ψ w → AV.rel w S h ψ x v → AV.rel w (fun k => k < w.heap.size) [] ψ0 x' v
inductive LendWs (h : List ABlk) : List AV → List AV → Prop
  | nil : LendWs h [] []
  | cons {x x' : AV} {l l' : List AV} (hx : LendW h x x') (hl : LendWs h l l') : LendWs h (x :: l) (x' :: l')
theorem LendWs.rel {w : World} {S : Nat → Prop} {ψ : Nat → Value} (H : HRel C h S ψ w) {l l' : List AV} (hl : LendWs h l l') : ∀ {vs : List Value}, AV.relL w S h ψ l vs → AV.relL w (fun k => k < w.heap.size) [] ψ0 l' vs := by
  induction hl with
  | nil => intro vs hr; unfold AV.relL at hr ⊢; exact hr
  | cons hx _ ih =>
    intro vs hr
    unfold AV.relL at hr ⊢
    obtain ⟨v, vs', e, h1, h2⟩ := hr
    exact ⟨v, vs', e, hx C S ψ w v H h1, ih h2⟩
theorem LendW.of {x x' : AV} (hl : LendV h x x') : LendW h x x' := fun _ _ _ _ _ H hr => LendV.rel H hl hr
theorem LendW.cl {x : AV} (hx : AV.cl x = true) : LendW h x x := .of (.cl hx)
theorem LendW.own {i ver : Nat} {e : TypeId} {α : Type} {T : Ty α} {d : List α} (hi : h[i]? = some (.row ver e T d)) : LendW h (.own i ver) (.bs T d) := .of (.own hi)
theorem LendW.fn {f : FuncId} {l l' : List AV} (hl : LendWs h l l') : LendW h (.fn f l) (.fn f l') := fun C S ψ w v H hr => by
  unfold AV.rel at hr ⊢
  obtain ⟨cs, e, hcs⟩ := hr
  exact ⟨cs, e, hl.rel H hcs⟩
theorem LendW.boxO {i j ver : Nat} {cells : List AV} {e : TypeId} {α : Type} {T : Ty α} {l : List α} (hi : h[i]? = some (.box cells)) (hx : cells[0]? = some (.own j ver)) (hj : h[j]? = some (.row ver e T l)) : LendW h (.ptr i 0) (.bp T.slice l 0) := fun C S ψ w v H hr => by
  unfold AV.rel at hr ⊢
  obtain ⟨g, hg, hv⟩ := hr.2 (by rw [hi]; rfl)
  obtain ⟨g', cs, e', hg', _, _, hw, hcs⟩ := H.blk _ _ hi
  rw [hg] at hg'
  cases hg'
  obtain ⟨u, hu1, hu2⟩ := relL_get hcs hx
  have hlt : g < w.heap.size := (Array.getElem?_eq_some_iff.1 hw).1
  have hu3 := LendW.own hj C S ψ w u H hu2
  unfold AV.rel at hu3
  refine ⟨g, 0, hv, hlt, [u], hu3, fun j' u' hj' => ?_⟩
  cases j' with
  | zero =>
    simp only [List.getElem?_cons_zero, Option.some.injEq] at hj'
    subst hj'
    unfold World.cell?
    simp [hw, hu1]
  | succ j' => simp at hj'
/-- a call to which what is the call's own is lent, and whose result does not lead to memory -/
theorem Quiet.callW {f : FuncId} {args : Array Operand} {tys : Array TypeId} {xs : List AV} {u : Value}
    (ho : o.op = .call { callee := .value (.func f), args := args, argTypes := tys }) (hF : Fn P f xs (.lit u)) (hx : LendWs h (args.toList.map (evA t)) xs) : Quiet P C t h o (.lit u) := by
  intro S ψ w ρ H hρ
  have h1 : ρ (.func f) = .func (.func f) #[] #[] := by
    have := hρ (.func f) (by rw [ho]; exact Array.mem_append.2 (.inl (by simp)))
    simpa [evA, AV.rel] using this
  rw [run_call ho hF.1 ρ w h1]
  refine ⟨rfl, ?_⟩
  have h2 : AV.relL w S h ψ (args.toList.map (evA t)) (args.toList.map ρ) := relL_map fun x hx' => hρ x (by rw [ho]; exact Array.mem_append.2 (.inr (Array.mem_toList_iff.1 hx')))
  have h3 := hF.2 w _ (args.toList.map ρ) (fun _ h => h) (hx.rel H h2)
  rw [show (args.map ρ) = (args.toList.map ρ).toArray from (by rw [← Array.toList_map])]
  refine h3.mono ?_
  rintro e w' ⟨v, he, hb, S', k1, k2, k3, k4⟩
  refine ⟨v, he, hb, S, fun _ h => h, fun _ h => .inl h, fun k hk => Nat.lt_of_lt_of_le (H.lt k hk) hb.size, ?_⟩
  unfold AV.rel at k4 ⊢
  exact k4
theorem Quiet.callAW {f : FuncId} {args : Array Operand} {tys : Array TypeId} {xs : List AV} {u : Value}
    (ho : o.op = .call { callee := .value (.func f), args := args, argTypes := tys }) (hF : Fn P f xs (.lit u)) (hx : LendWs h (args.toList.map (evA t)) xs) : Quiet P C t h o (.lit u) := Quiet.callW ho hF hx
/-- a row is made by a call to which what is the call's own is lent -/
theorem AOp.callOwnW {f : FuncId} {args : Array Operand} {tys : Array TypeId} {xs : List AV} {e : TypeId} {α : Type} {T : Ty α} {l : List α}
    (ho : o.op = .call { callee := .value (.func f), args := args, argTypes := tys }) (hF : FnOwn P f xs e T l) (h0 : 0 < T.size) (hfl : ∀ w S S' cs d, T.RS w S cs d → T.RS w S' cs d) (hx : LendWs h (args.toList.map (evA t)) xs)
    (hK : K ⟨putA t o.dst (.own h.length 0), h ++ [.row 0 e T l]⟩) : AOp P C o ⟨t, h⟩ K := by
  rintro Q' a w ⟨hd, S, ψ, H, hl⟩
  refine ⟨fun c e => (by rw [ho] at e; cases e), ?_⟩
  have h2 : AV.relL w S h ψ (args.toList.map (evA t)) (args.toList.map a.eval) := relL_map fun x _ => ev_rel hl x
  unfold Oper.wp
  rw [run_call ho hF.1 a.eval w rfl]
  simp only [Oper.upon]
  rw [show (args.map a.eval) = (args.toList.map a.eval).toArray from (by rw [← Array.toList_map])]
  refine (hF.2 w _ (args.toList.map a.eval) (fun _ h => h) (hx.rel H h2)).mono ?_
  rintro r w' ⟨v, cells, rfl, hb, hown, hR⟩
  have X : Ext w S h ψ w' S (h ++ [.row 0 e T l]) (ψset ψ h.length v) := Ext.push _ _ fun k hk => hb.block k (H.lt k hk)
  have hB : BRel C.N w' S (h ++ [.row 0 e T l]) (ψset ψ h.length v) v (.row 0 e T l) :=
    ⟨cells, hown.mono (Nat.zero_le _), h0, fun i d hd => hfl _ _ _ _ _ (hR i d hd), fun g hg => by
      have hlt := hown.lt g hg
      exact ⟨fun hN => by have := H.nlt _ hN; have := H.bel.size; omega, fun hS => by have := H.lt _ hS; omega⟩⟩
  refine ⟨_, hK, st_push (s := ⟨t, h⟩) hd hl (H.push hb hB (ftp_row hown)) X ?_⟩
  unfold AV.rel
  refine ⟨by simp, fun c' hc' => ?_⟩
  rw [List.getElem?_append_right (Nat.le_refl _)] at hc'
  simp [ABlk.ver] at hc'
  exact ⟨by omega, fun _ => ψset_self.symm⟩
theorem AOp.callOwnI {f : FuncId} {args : Array Operand} {tys : Array TypeId} {xs : List AV} {e : TypeId} {α : Type} {T : Ty α} {l : List α} (i : Nat) (hi : h.length = i)
    (ho : o.op = .call { callee := .value (.func f), args := args, argTypes := tys }) (hF : FnOwn P f xs e T l) (h0 : 0 < T.size) (hfl : ∀ w S S' cs d, T.RS w S cs d → T.RS w S' cs d) (hx : LendWs h (args.toList.map (evA t)) xs)
    (hK : K ⟨putA t o.dst (.own i 0), h ++ [.row 0 e T l]⟩) : AOp P C o ⟨t, h⟩ K := by
  subst hi
  exact AOp.callOwnW ho hF h0 hfl hx hK
theorem RowUpd.lit {T : Ty α0} {enc : α0 → List AV} [EncOf T enc] {d d' : α0} {off : Nat} {u : Value} (hu : u.cells.toList = [u]) (h1 : u.oneCell' = true) (ho : off + 1 ≤ T.size) (he : (enc d).take off ++ [.lit u] ++ (enc d).drop (off + 1) = enc d')
    (hput : ∀ (w : World) (S : Nat → Prop) (cs : List Value), AV.relL w S [] ψ0 (enc d') cs → T.RS w S cs d') : RowUpd h T d off (.lit u) 1 d' := fun C S ψ w v cs H hv hcs => by
  unfold AV.rel at hv
  subst hv
  refine ⟨by rw [hu]; rfl, ho, fun x hx => by rw [hu] at hx; rw [List.mem_singleton.1 hx]; exact h1, hput w S _ ?_⟩
  have he1 : AV.relL w S [] ψ0 (enc d) cs := EncOf.ok (T := T) (enc := enc) w S [] ψ0 cs d hcs
  rw [← he, hu]
  refine relL_append (relL_append (relL_take he1 off) ?_) (relL_drop he1 (off + 1))
  unfold AV.relL
  refine ⟨v, [], rfl, by unfold AV.rel; rfl, ?_⟩
  unfold AV.relL
  rfl
/-- a field of an element is written -/
theorem AOp.stFld {T : Ty α0} {enc : α0 → List AV} [EncOf T enc] {ty : TypeId} {x y : Operand} {i ver k off : Nat} {e : TypeId} {l : List α0} {d : α0} (d' : α0) {u : Value} [SZ P ty 1] (ho : o.op = .store ty x y) (hx : evA t x = .rp i ver k off) (hy : evA t y = .lit u) (hi : h[i]? = some (.row ver e T l)) (hk : l[k]? = some d)
    (hu : u.cells.toList = [u]) (h1 : u.oneCell' = true) (ho2 : off + 1 ≤ T.size) (he : (enc d).take off ++ [.lit u] ++ (enc d).drop (off + 1) = enc d') (hput : ∀ (w : World) (S : Nat → Prop) (cs : List Value), AV.relL w S [] ψ0 (enc d') cs → T.RS w S cs d')
    (hK : K ⟨putA t o.dst (.lit undef), h.set i (.row ver e T (l.set k d'))⟩) : AOp P C o ⟨t, h⟩ K :=
  AOp.storeRow (s := ⟨t, h⟩) ho hx hi hk (by rw [show evA (St.mk t h).t y = _ from hy]; exact RowUpd.lit hu h1 ho2 he hput) SZ.eq hK
end
end Mu
end
section
/-
  slices.IndexFunc, ContainsFunc, Delete, DeleteFunc on rows of pairs; the closures of body.
  Conditions: rows of at most 2^31.
-/
namespace Mu
open Go Go.RowKit Go.Proofs

def body_single_1 (y : Pair) (c0 : Pair) : M Bool := M.ok (y.a == c0.a)
set_option maxRecDepth 100000 in
set_option maxHeartbeats 4000000 in
theorem body_single_1_l {y : Pair} {c0 : Pair} {r : Bool} (H : (body_single_1 y c0).to r) : Fn Tryz.prog 40 [.agg (encPair y), .bp tPair c0 0] (.lit (.bool r)) := by
  delta body_single_1 at H
  try dsimp only at H
  refine Fn.of_awp Tryz.func40 rfl (by kernel_rfl) rfl Tryz.ntmps40 fun C hC => ?_
  simp only [List.length_cons, List.length_nil, Nat.reduceAdd, Nat.reduceSub, List.replicate_succ, List.replicate_zero, List.cons_append, List.nil_append]
  refine wR (hx := by ((refine aSeq_t rfl (AOp.boxI 0 rfl rfl Parts0.agg ?_); refine sNtM (ht := set2) (hk := ?_)); refine sA (hq := Quiet.assign rfl getC) (ht := set3) (hk := ?_); exact wEnd rfl)) (hk := ?_)
  refine wR (hx := by (refine sA (hq := Quiet.fa_ptr rfl get2 rfl) (ht := set4) (hk := ?_); refine sA (hq := Quiet.load_ptr rfl get4 rfl rfl) (ht := set5) (hk := ?_); refine sA (hq := Quiet.fa_bp rfl get1) (ht := set6) (hk := ?_); refine sA (hq := Quiet.load_bp rfl get6 rfl) (ht := set7) (hk := ?_); refine sA (hq := Quiet.bin rfl get5 get7 rfl) (ht := (setS8 set0)) (hk := ?_); refine sA (hq := Quiet.assign rfl (getS8 get0)) (ht := set3) (hk := ?_); exact wEnd rfl)) (hk := ?_)
  obtain rfl := M.to_ok.1 H
  exact Awp.ret ⟨.inr rfl, Fin.cl rfl⟩
def body_single_2 (x : Pair) : M Bool := M.ok ((((x.a == x.b) && ((x.b == x.a) && true)) || (x.a == 3)) || (x.b == 3))
set_option maxRecDepth 100000 in
set_option maxHeartbeats 4000000 in
theorem body_single_2_l {x : Pair} {r : Bool} (H : (body_single_2 x).to r) : Fn Tryz.prog 42 [.agg (encPair x)] (.lit (.bool r)) := by
  delta body_single_2 at H
  try dsimp only at H
  refine Fn.of_awp Tryz.func42 rfl (by kernel_rfl) rfl Tryz.ntmps42 fun C hC => ?_
  simp only [List.length_cons, List.length_nil, Nat.reduceAdd, Nat.reduceSub, List.replicate_succ, List.replicate_zero, List.cons_append, List.nil_append]
  refine wR (hx := by ((refine aSeq_t rfl (AOp.boxI 0 rfl rfl Parts0.agg ?_); refine sNtM (ht := set1) (hk := ?_)); refine sA (hq := Quiet.assign rfl getC) (ht := set2) (hk := ?_); exact wEnd rfl)) (hk := ?_)
  refine wR (hx := by (refine sA (hq := Quiet.loadA_ptr rfl get1 rfl rfl) (ht := set3) (hk := ?_); refine sA (hq := Quiet.fa_ptr rfl get1 rfl) (ht := set4) (hk := ?_); refine sA (hq := Quiet.load_ptr rfl get4 rfl rfl) (ht := set5) (hk := ?_); refine sA (hq := Quiet.fa_ptr rfl get1 rfl) (ht := set6) (hk := ?_); refine sA (hq := Quiet.load_ptr rfl get6 rfl rfl) (ht := set7) (hk := ?_); refine sA (hq := Quiet.bldP (rs := [.lit (.int .i64 x.b), .lit (.int .i64 x.a)]) rfl plPair rfl rfl) (ht := (setS8 set0)) (hk := ?_); refine sA (hq := Quiet.eqRec (bs := [true, true]) (vs := [(.int .i64 x.a), (.int .i64 x.b)]) (ws := [(.int .i64 x.b), (.int .i64 x.a)]) (by kernel_rfl) rfl get3 (getS8 get0) rfl) (ht := (setS8 set1)) (hk := ?_); refine sA (hq := Quiet.move rfl (getS8 get1)) (ht := (setS8 set2)) (hk := ?_); refine sG (g := (!((x.a == x.b) && ((x.b == x.a) && true)))) (hg := gA_f rfl) (hq := fun hg => Quiet.fa_ptr rfl get1 rfl) (ht := (setS8 set3)) (hk := ?_); refine sG (g := (!((x.a == x.b) && ((x.b == x.a) && true)))) (hg := gA_f rfl) (hq := fun hg => Quiet.load_ptr rfl ((getS8 get3).trans (cndT hg _ _)) rfl rfl) (ht := (setS8 set4)) (hk := ?_); refine sG (g := (!((x.a == x.b) && ((x.b == x.a) && true)))) (hg := gA_f rfl) (hq := fun hg => Quiet.bin rfl ((getS8 get4).trans (cndT hg _ _)) getC rfl) (ht := (setS8 set5)) (hk := ?_); refine sA (hq := Quiet.pickOrB rfl (getS8 get2) getC (getS8 get5)) (ht := (setS8 set6)) (hk := ?_); refine sA (hq := Quiet.move rfl (getS8 get6)) (ht := (setS8 set7)) (hk := ?_); refine sG (g := (!(((x.a == x.b) && ((x.b == x.a) && true)) || (x.a == 3)))) (hg := gA_f rfl) (hq := fun hg => Quiet.fa_ptr rfl get1 rfl) (ht := (setS8 (setS8 set0))) (hk := ?_); refine sG (g := (!(((x.a == x.b) && ((x.b == x.a) && true)) || (x.a == 3)))) (hg := gA_f rfl) (hq := fun hg => Quiet.load_ptr rfl ((getS8 (getS8 get0)).trans (cndT hg _ _)) rfl rfl) (ht := (setS8 (setS8 set1))) (hk := ?_); refine sG (g := (!(((x.a == x.b) && ((x.b == x.a) && true)) || (x.a == 3)))) (hg := gA_f rfl) (hq := fun hg => Quiet.bin rfl ((getS8 (getS8 get1)).trans (cndT hg _ _)) getC rfl) (ht := (setS8 (setS8 set2))) (hk := ?_); refine sA (hq := Quiet.pickOrB rfl (getS8 get7) getC (getS8 (getS8 get2))) (ht := (setS8 (setS8 set3))) (hk := ?_); refine sA (hq := Quiet.assign rfl (getS8 (getS8 get3))) (ht := set2) (hk := ?_); exact wEnd rfl)) (hk := ?_)
  obtain rfl := M.to_ok.1 H
  exact Awp.ret ⟨.inr rfl, Fin.cl rfl⟩
def body_AtOnce_1_1 (y : Pair) (c0 : Pair) : M Bool := M.ok ((!((y.a == c0.a) && ((y.b == c0.b) && true))) && (y.b == c0.a))
set_option maxRecDepth 100000 in
set_option maxHeartbeats 4000000 in
theorem body_AtOnce_1_1_l {y : Pair} {c0 : Pair} {r : Bool} (H : (body_AtOnce_1_1 y c0).to r) : Fn Tryz.prog 22 [.agg (encPair y), .bp tPair c0 0] (.lit (.bool r)) := by
  delta body_AtOnce_1_1 at H
  try dsimp only at H
  refine Fn.of_awp Tryz.func22 rfl (by kernel_rfl) rfl Tryz.ntmps22 fun C hC => ?_
  simp only [List.length_cons, List.length_nil, Nat.reduceAdd, Nat.reduceSub, List.replicate_succ, List.replicate_zero, List.cons_append, List.nil_append]
  refine wR (hx := by ((refine aSeq_t rfl (AOp.boxI 0 rfl rfl Parts0.agg ?_); refine sNtM (ht := set2) (hk := ?_)); refine sA (hq := Quiet.assign rfl getC) (ht := set3) (hk := ?_); exact wEnd rfl)) (hk := ?_)
  refine wR (hx := by (refine sA (hq := Quiet.loadA_ptr rfl get2 rfl rfl) (ht := set4) (hk := ?_); refine sA (hq := Quiet.loadA_bp rfl get1 rfl) (ht := set5) (hk := ?_); refine sA (hq := Quiet.neRec (bs := [true, true]) (vs := [(.int .i64 y.a), (.int .i64 y.b)]) (ws := [(.int .i64 c0.a), (.int .i64 c0.b)]) (by kernel_rfl) rfl get4 get5 rfl) (ht := set6) (hk := ?_); refine sA (hq := Quiet.move rfl get6) (ht := set7) (hk := ?_); refine sG (g := (!((y.a == c0.a) && ((y.b == c0.b) && true)))) (hg := gA_t rfl) (hq := fun hg => Quiet.fa_ptr rfl get2 rfl) (ht := (setS8 set0)) (hk := ?_); refine sG (g := (!((y.a == c0.a) && ((y.b == c0.b) && true)))) (hg := gA_t rfl) (hq := fun hg => Quiet.load_ptr rfl ((getS8 get0).trans (cndT hg _ _)) rfl rfl) (ht := (setS8 set1)) (hk := ?_); refine sG (g := (!((y.a == c0.a) && ((y.b == c0.b) && true)))) (hg := gA_t rfl) (hq := fun hg => Quiet.fa_bp rfl get1) (ht := (setS8 set2)) (hk := ?_); refine sG (g := (!((y.a == c0.a) && ((y.b == c0.b) && true)))) (hg := gA_t rfl) (hq := fun hg => Quiet.load_bp rfl ((getS8 get2).trans (cndT hg _ _)) rfl) (ht := (setS8 set3)) (hk := ?_); refine sG (g := (!((y.a == c0.a) && ((y.b == c0.b) && true)))) (hg := gA_t rfl) (hq := fun hg => Quiet.bin rfl ((getS8 get1).trans (cndT hg _ _)) ((getS8 get3).trans (cndT hg _ _)) rfl) (ht := (setS8 set4)) (hk := ?_); refine sA (hq := Quiet.pickAndB rfl get7 (getS8 get4) getC) (ht := (setS8 set5)) (hk := ?_); refine sA (hq := Quiet.assign rfl (getS8 get5)) (ht := set3) (hk := ?_); exact wEnd rfl)) (hk := ?_)
  obtain rfl := M.to_ok.1 H
  exact Awp.ret ⟨.inr rfl, Fin.cl rfl⟩

theorem finEqb {h : List ABlk} {a b : Bool} (e : a = b) (hm : mkD h = [] := by rfl) : Fin h (.lit (.bool a)) (.lit (.bool b)) := by subst e; exact Fin.cl rfl hm
/-! ### where the first one is -/
def idxG (p : Pair → Bool) (l : List Pair) : Int := match l.findIdx? p with | some i => (i : Int) | none => -1
theorem idxG_at {p : Pair → Bool} {l : List Pair} {k : Nat} (h : ∀ x ∈ l.take k, p x = false) {x : Pair} (hx : l[k]? = some x) (hp : p x = true) : idxG p l = (k : Int) := by
  have : l.findIdx? p = some k := by
    rw [List.findIdx?_eq_some_iff_getElem]
    obtain ⟨hk, e⟩ := List.getElem?_eq_some_iff.1 hx
    refine ⟨hk, by rw [e]; exact hp, fun j hj => ?_⟩
    have := h (l[j]'(by omega)) (by
      rw [List.mem_take_iff_getElem]
      exact ⟨j, by omega, rfl⟩)
    rw [this]
    simp
  unfold idxG
  rw [this]
theorem idxG_none {p : Pair → Bool} {l : List Pair} (h : ∀ x ∈ l, p x = false) : idxG p l = -1 := by
  have : l.findIdx? p = none := by
    rw [List.findIdx?_eq_none_iff]
    exact h
  unfold idxG
  rw [this]
theorem take_snocG {p : Pair → Bool} {l : List Pair} {k : Nat} (h : ∀ x ∈ l.take k, p x = false) {x : Pair} (hx : l[k]? = some x) (hp : p x = false) : ∀ y ∈ l.take (k + 1), p y = false := by
  rw [List.take_add_one, hx]
  intro y hy
  rcases List.mem_append.1 hy with hy | hy
  · exact h y hy
  · rw [List.mem_singleton.1 hy]; exact hp
theorem idxG_any {p : Pair → Bool} {l : List Pair} : decide (idxG p l ≥ 0) = l.any p := by
  unfold idxG
  cases h : l.findIdx? p with
  | none =>
    rw [List.findIdx?_eq_none_iff] at h
    have : l.any p = false := by rw [List.any_eq_false]; intro x hx; rw [h x hx]; simp
    rw [this]
    rfl
  | some i =>
    rw [List.findIdx?_eq_some_iff_getElem] at h
    obtain ⟨hi, hp, _⟩ := h
    have : l.any p = true := List.any_eq_true.2 ⟨_, List.getElem_mem hi, hp⟩
    rw [this]
    exact decide_eq_true (by simp only; omega)
set_option maxRecDepth 100000 in
theorem idxP_fn (l : List Pair) (hl : l.length ≤ 2147483648) (f : FuncId) (caps : List AV) (hcl : AV.clL caps = true) (p : Pair → Bool) (hp : ∀ x ∈ l, Fn Tryz.prog f (.agg (encPair x) :: caps) (.lit (.bool (p x)))) : Fn Tryz.prog 19 [.bs tPair l, .fn f caps] (.lit (.int .i64 (idxG p l))) := by
  have hcf : AV.cl (.fn f caps) = true := by unfold AV.cl; exact hcl
  refine Fn.of_awp Tryz.func19 rfl (by kernel_rfl) rfl Tryz.ntmps19 fun C hC => ?_
  simp only [List.length_cons, List.length_nil, Nat.reduceAdd, Nat.reduceSub, List.replicate_succ, List.replicate_zero, List.cons_append, List.nil_append]
  refine wR (hk := ?_)
  refine Awp.seq fun K2 h2 => ?_
  refine wR (hk := ?_)
  refine Awp.block ?_
  refine Awp.loopF (fun k : Nat => ⟨[.bs tPair l, .fn f caps, .any, .any, .any, .any, .any, .lit (.int .i64 (l.length : Int)), .lit (.int .i64 (k : Int)), .any, .any, .any, .any, .any, .any, .any, .any, .any, .any], []⟩) (fun k => k ≤ l.length ∧ ∀ x ∈ l.take k, p x = false) (fun k => l.length - k) 0 ⟨Nat.zero_le _, by simp⟩ (le_TA) ?_
  rintro k ⟨hk, hno⟩
  refine wR (hk := ?_)
  refine Awp.seq fun K6 h6 => ?_
  refine Awp.cond rfl (fun hb7 => ?_) (fun hb7 => ?_)
  · have hlt : k < l.length := by simpa using hb7
    obtain ⟨x, hx⟩ : ∃ x, l[k]? = some x := ⟨_, List.getElem?_eq_getElem hlt⟩
    have hpx := hp x (List.mem_of_getElem? hx)
    refine Awp.skip ?_
    refine h6 _ ?_
    refine nT (hk := ?_)
    refine Awp.seq fun K8 h8 => ?_
    refine Awp.block ?_
    refine wR (hk := ?_)
    refine wR (hk := ?_)
    refine Awp.cond rfl (fun hb11 => ?_) (fun hb11 => ?_)
    · refine wR (hk := ?_)
      rw [idxG_at hno hx hb11]
      exact Awp.ret ⟨.inr rfl, Fin.cl rfl⟩
    · refine Awp.skip ?_
      refine h8 _ ?_
      refine nT (hk := ?_)
      refine wRE (hk := ?_)
      refine athen_n ⟨k + 1, ⟨by omega, take_snocG hno hx hb11⟩, by omega, le_TA⟩
  · refine Awp.exit ?_
    refine h2 _ ?_
    refine nT (hk := ?_)
    refine wR (hk := ?_)
    have hke : k = l.length := by have : ¬ k < l.length := (by simpa using hb7); omega
    rw [idxG_none (by rw [hke, List.take_length] at hno; exact hno)]
    exact Awp.ret ⟨.inr rfl, Fin.cl rfl⟩
set_option maxRecDepth 100000 in
theorem anyP_fn (l : List Pair) (hl : l.length ≤ 2147483648) (f : FuncId) (caps : List AV) (hcl : AV.clL caps = true) (p : Pair → Bool) (hp : ∀ x ∈ l, Fn Tryz.prog f (.agg (encPair x) :: caps) (.lit (.bool (p x)))) : Fn Tryz.prog 21 [.bs tPair l, .fn f caps] (.lit (.bool (l.any p))) := by
  have hcf : AV.cl (.fn f caps) = true := by unfold AV.cl; exact hcl
  have hI := idxP_fn l hl f caps hcl p hp
  refine Fn.of_awp Tryz.func21 rfl (by kernel_rfl) rfl Tryz.ntmps21 fun C hC => ?_
  simp only [List.length_cons, List.length_nil, Nat.reduceAdd, Nat.reduceSub, List.replicate_succ, List.replicate_zero, List.cons_append, List.nil_append]
  refine wR (hk := ?_)
  refine wR (hx := by ((repeat (first | refine sA (hq := Quiet.call rfl hI rfl (by show (true && (AV.cl (.fn f caps) && true)) = true; rw [hcf]; rfl) rfl) (hk := ?_) | refine sA (hk := ?_) | refine sSkip (hk := ?_) | refine sAG (hq := by (intro hg; (try simp only [Bool.and_eq_true, beq_true, beq_false, Bool.not_eq_true', Bool.not_eq_eq_eq_not, Bool.not_true, Bool.not_false] at hg); (try simp only [hg, beq_true, beq_false, cond_true, Bool.true_and, Bool.and_true, Bool.not_false, Bool.not_true, beq_self_eq_true]); exact Quiet.call rfl hI rfl (by show (true && (AV.cl (.fn f caps) && true)) = true; rw [hcf]; rfl) rfl)) (hk := ?_) | refine sAG (hk := ?_) | refine sOwn (hk := ?_))); exact wEnd rfl)) (hk := ?_)
  exact Awp.ret ⟨.inr rfl, finEqb idxG_any⟩
theorem lendPair {h : List ABlk} {i : Nat} {x : Pair} (hi : h[i]? = some (.box (encPair x))) (ho : okPair x) : LendW h (.ptr i 0) (.bp tPair x 0) :=
  .of (.box hi rfl fun _ _ _ _ _ _ hr => put_Pair ho hr)
set_option maxRecDepth 100000 in
theorem free_fn (left : List Pair) (hl : left.length ≤ 2147483648) (x : Pair) (ho : okPair x) : Fn Tryz.prog 20 [.agg (encPair x), .bp tPair.slice left 0] (.lit (.bool (fr23 left x))) := by
  have hAny := anyP_fn left hl 22 [.bp tPair x 0] rfl (fun y => neP y x && decide (y.b = x.a)) fun y _ => by
    have h := body_AtOnce_1_1_l (y := y) (c0 := x) (M.ok_to _)
    have e : ((!((y.a == x.a) && ((y.b == x.b) && true))) && (y.b == x.a)) = (neP y x && decide (y.b = x.a)) := by
      unfold neP
      rw [Bool.and_true]
      rfl
    rw [e] at h
    exact h
  refine Fn.of_awp Tryz.func20 rfl (by kernel_rfl) rfl Tryz.ntmps20 fun C hC => ?_
  simp only [List.length_cons, List.length_nil, Nat.reduceAdd, Nat.reduceSub, List.replicate_succ, List.replicate_zero, List.cons_append, List.nil_append]
  refine wR (hx := by ((repeat (first | (refine aSeq_t rfl (AOp.boxI 0 rfl rfl Parts0.agg ?_); refine sNt (hk := ?_)) | refine sA (hk := ?_) | refine sSkip (hk := ?_) | refine sAG (hk := ?_) | refine sOwn (hk := ?_))); exact wEnd rfl)) (hk := ?_)
  refine wR (hx := by ((repeat (first | refine sA (hq := Quiet.callW rfl hAny (.cons (.cl rfl) (.cons (.fn (.cons (lendPair rfl ho) .nil)) .nil))) (hk := ?_) | refine sA (hk := ?_) | refine sSkip (hk := ?_) | refine sAG (hq := by (intro hg; (try simp only [Bool.and_eq_true, beq_true, beq_false, Bool.not_eq_true', Bool.not_eq_eq_eq_not, Bool.not_true, Bool.not_false] at hg); (try simp only [hg, beq_true, beq_false, cond_true, Bool.true_and, Bool.and_true, Bool.not_false, Bool.not_true, beq_self_eq_true]); exact Quiet.callW rfl hAny (.cons (.cl rfl) (.cons (.fn (.cons (lendPair rfl ho) .nil)) .nil)))) (hk := ?_) | refine sAG (hk := ?_) | refine sOwn (hk := ?_))); exact wEnd rfl)) (hk := ?_)
  exact Awp.ret ⟨.inr rfl, Fin.cl rfl⟩
end Mu
end
section
/-
  slices.Delete, DeleteFunc on rows of pairs; body.single.
  Conditions: rows of at most 2^31.
-/
namespace Mu
open Go Go.RowKit Go.Proofs

theorem pair_flat : ∀ (w w' : World) (S S' : Nat → Prop) (cs : List Value) (d : Pair), tPair.RS w S cs d → tPair.RS w' S' cs d := fun _ _ _ _ _ _ h => tPair_R.2 (tPair_R.1 h)
theorem pair_flat1 : ∀ (w : World) (S S' : Nat → Prop) (cs : List Value) (d : Pair), tPair.RS w S cs d → tPair.RS w S' cs d := fun _ _ _ _ _ h => tPair_R.2 (tPair_R.1 h)
theorem putC_get {cells news : List Value} {off j : Nat} (h : off ≤ cells.length) : (putC cells off news)[j]? = if j < off then cells[j]? else if j < off + news.length then news[j - off]? else cells[j]? := by
  unfold putC
  have h1 : (cells.take off).length = off := by rw [List.length_take]; omega
  by_cases hj : j < off
  · rw [if_pos hj, List.append_assoc, List.getElem?_append_left (by omega), List.getElem?_take_of_lt hj]
  · rw [if_neg hj]
    by_cases hj2 : j < off + news.length
    · rw [if_pos hj2, List.getElem?_append_left (by rw [List.length_append]; omega), List.getElem?_append_right (by omega), h1]
    · rw [if_neg hj2, List.getElem?_append_right (by rw [List.length_append]; omega), List.getElem?_drop, List.length_append, h1]
      congr 1
      omega
/-- an element's cells -/
theorem blk_ext {A B : List Value} {m k sz : Nat} (h : ∀ q, q < sz → A[m * sz + q]? = B[k * sz + q]?) : (A.drop (m * sz)).take sz = (B.drop (k * sz)).take sz := by
  apply List.ext_getElem?
  intro q
  by_cases hq : q < sz
  · rw [List.getElem?_take_of_lt hq, List.getElem?_take_of_lt hq, List.getElem?_drop, List.getElem?_drop, h q hq]
  · rw [List.getElem?_eq_none (by rw [List.length_take]; omega), List.getElem?_eq_none (by rw [List.length_take]; omega)]
theorem raw_pre {cells news : List Value} {l l' : List Pair} {i : Nat} (hR : RawOf tPair cells l) (hi : i * 2 ≤ cells.length) (hl : l' = l.take i) : RawOf tPair (putC cells (i * 2) news) l' := fun w S j d hj => by
  subst hl
  rw [List.getElem?_take] at hj
  split at hj
  · rename_i hji
    have := hR w S j d hj
    have e : ((putC cells (i * 2) news).drop (j * tPair.size)).take tPair.size = (cells.drop (j * tPair.size)).take tPair.size := blk_ext fun q hq => by
      have hq : q < 2 := hq
      show (putC cells (i * 2) news)[j * 2 + q]? = cells[j * 2 + q]?
      rw [putC_get hi, if_pos (by omega)]
    rw [e]
    exact this
  · cases hj
theorem raw_erase {cells news : List Value} {l : List Pair} {i cap : Nat} (hR : RawOf tPair cells l) (hi : i < l.length) (hc : cells.length = cap * 2) (hle : l.length ≤ cap) :
    RawOf tPair (putC (putC cells (i * 2) ((cells.drop ((i + 1) * 2)).take ((l.length - (i + 1)) * 2))) ((i + (l.length - (i + 1))) * 2) news) (l.eraseIdx i) := fun w S j d hj => by
  have hnl : ((cells.drop ((i + 1) * 2)).take ((l.length - (i + 1)) * 2)).length = (l.length - (i + 1)) * 2 := by rw [List.length_take, List.length_drop]; omega
  have hpl : (putC cells (i * 2) ((cells.drop ((i + 1) * 2)).take ((l.length - (i + 1)) * 2))).length = cells.length := putC_len (by rw [hnl]; omega)
  have hjl : j < l.length - 1 := by
    have := (List.getElem?_eq_some_iff.1 hj).1
    rwa [List.length_eraseIdx_of_lt hi] at this
  rw [List.getElem?_eraseIdx] at hj
  by_cases hji : j < i
  · rw [if_pos hji] at hj
    have e : ((putC (putC cells (i * 2) ((cells.drop ((i + 1) * 2)).take ((l.length - (i + 1)) * 2))) ((i + (l.length - (i + 1))) * 2) news).drop (j * tPair.size)).take tPair.size = (cells.drop (j * tPair.size)).take tPair.size := blk_ext fun q hq => by
      have hq : q < 2 := hq
      show _[j * 2 + q]? = cells[j * 2 + q]?
      rw [putC_get (by omega), if_pos (by omega), putC_get (by omega), if_pos (by omega)]
    rw [e]
    exact hR w S j d hj
  · rw [if_neg hji] at hj
    have e : ((putC (putC cells (i * 2) ((cells.drop ((i + 1) * 2)).take ((l.length - (i + 1)) * 2))) ((i + (l.length - (i + 1))) * 2) news).drop (j * tPair.size)).take tPair.size = (cells.drop ((j + 1) * tPair.size)).take tPair.size := blk_ext fun q hq => by
      have hq : q < 2 := hq
      show _[j * 2 + q]? = cells[(j + 1) * 2 + q]?
      rw [putC_get (by omega), if_pos (by omega), putC_get (by omega), if_neg (by omega), hnl, if_pos (by omega), List.getElem?_take_of_lt (by omega), List.getElem?_drop]
      congr 1
      omega
    rw [e]
    exact hR w S (j + 1) d hj
set_option maxRecDepth 100000 in
set_option maxHeartbeats 1000000 in
theorem delP_fn (l : List Pair) (i : Nat) (hi : i < l.length) (hl : l.length ≤ 2147483648) : FnRowX Tryz.prog 23 28 tPair l [.lit (.int .i64 (i : Int)), .lit (.int .i64 ((i + 1 : Nat) : Int))] (l.eraseIdx i) := by
  refine FnRowX.of_awp Tryz.func23 rfl (by kernel_rfl) rfl Tryz.ntmps23 pair_flat1 fun C => ?_
  simp only [List.length_cons, List.length_nil, Nat.reduceAdd, Nat.reduceSub, List.replicate_succ, List.replicate_zero, List.cons_append, List.nil_append]
  refine Awp.open_raw 0 rfl rfl (by intro e; rw [e] at hi; simp at hi) pair_flat one1_Pair (fun v => [.lit v, .lit (.int .i64 (i : Int)), .lit (.int .i64 ((i + 1 : Nat) : Int)), .any, .any, .any, .any, .any, .any, .any, .any, .any, .any, .any, .any, .any, .any, .any, .any, .any, .any, .any, .any, .any, .any, .any, .any, .any, .any, .any, .any, .any, .any]) (fun v => (by (repeat (first | exact Opn.nil | refine Opn.own ?_ | refine Opn.any ?_ | refine Opn.keep rfl ?_)))) fun g cap cells hc hle hm hR h1 => ?_
  have hc : cells.length = cap * 2 := hc
  have h1 : ∀ u ∈ cells.take (l.length * 2), u.oneCell' = true := h1
  have hnl : ((cells.drop ((i + 1) * 2)).take ((l.length - (i + 1)) * 2)).length = (l.length - (i + 1)) * 2 := by rw [List.length_take, List.length_drop]; omega
  have hel : i + (l.length - (i + 1)) = (l.eraseIdx i).length := by rw [List.length_eraseIdx_of_lt hi]; omega
  refine wR (hk := ?_)
  refine wR (hx := by ((repeat (first | refine sA (hq := Quiet.slMax rfl rfl rfl rfl rfl (by omega) (by omega) hle) (hk := ?_) | refine sA (hk := ?_) | refine sSkip (hk := ?_) | refine sAG (hq := by (intro hg; (try simp only [Bool.and_eq_true, beq_true, beq_false, Bool.not_eq_true', Bool.not_eq_eq_eq_not, Bool.not_true, Bool.not_false] at hg); (try simp only [hg, beq_true, beq_false, cond_true, Bool.true_and, Bool.and_true, Bool.not_false, Bool.not_true, beq_self_eq_true]); exact Quiet.slMax rfl rfl rfl rfl rfl (by omega) (by omega) hle)) (hk := ?_) | refine sAG (hk := ?_) | refine sOwn (hk := ?_))); exact wEnd rfl)) (hk := ?_)
  refine Awp.seq fun K3 h3 => ?_
  refine wR (hk := ?_)
  refine Awp.cond rfl (fun hb5 => ?_) (fun hb5 => ?_)
  · have hb5 : ((i : Int) == ((i + 1 : Nat) : Int)) = true := hb5
    simp at hb5
    omega
  · refine Awp.skip ?_
    refine h3 _ ?_
    refine nT (hk := ?_)
    refine wR (hk := ?_)
    refine wD 6 (hq := by ((repeat (first | refine qA (hq := Quiet.slPre rfl rfl ⟨_, rfl⟩ (by omega)) (hk := ?_) | refine qA (hq := Quiet.slSuf rfl rfl ⟨_, rfl⟩ rfl (by omega) hle) (hk := ?_) | refine qA (hk := ?_) | refine qSkip (hk := ?_) | refine qAG (hq := by (intro hg; (try simp only [Bool.and_eq_true, beq_true, beq_false, Bool.not_eq_true', Bool.not_eq_eq_eq_not, Bool.not_true, Bool.not_false] at hg); (try simp only [hg, beq_true, beq_false, cond_true, Bool.true_and, Bool.and_true, Bool.not_false, Bool.not_true, beq_self_eq_true]); exact Quiet.slPre rfl rfl ⟨_, rfl⟩ (by omega))) (hk := ?_) | refine qAG (hq := by (intro hg; (try simp only [Bool.and_eq_true, beq_true, beq_false, Bool.not_eq_true', Bool.not_eq_eq_eq_not, Bool.not_true, Bool.not_false] at hg); (try simp only [hg, beq_true, beq_false, cond_true, Bool.true_and, Bool.and_true, Bool.not_false, Bool.not_true, beq_self_eq_true]); exact Quiet.slSuf rfl rfl ⟨_, rfl⟩ rfl (by omega) hle)) (hk := ?_) | refine qAG (hk := ?_))); exact qEnd rfl)) (hx := by ((repeat (first | refine sA (hq := Quiet.slPre rfl rfl ⟨_, rfl⟩ (by omega)) (hk := ?_) | refine sA (hq := Quiet.slSuf rfl rfl ⟨_, rfl⟩ rfl (by omega) hle) (hk := ?_) | (refine aSeq_t rfl (AOp.appRaw (i := 0) rfl rfl rfl rfl hc h1 (by omega) hle (by omega) ?_); refine sNt (hk := ?_)) | refine sA (hk := ?_) | refine sSkip (hk := ?_) | refine sAG (hq := by (intro hg; (try simp only [Bool.and_eq_true, beq_true, beq_false, Bool.not_eq_true', Bool.not_eq_eq_eq_not, Bool.not_true, Bool.not_false] at hg); (try simp only [hg, beq_true, beq_false, cond_true, Bool.true_and, Bool.and_true, Bool.not_false, Bool.not_true, beq_self_eq_true]); exact Quiet.slPre rfl rfl ⟨_, rfl⟩ (by omega))) (hk := ?_) | refine sAG (hq := by (intro hg; (try simp only [Bool.and_eq_true, beq_true, beq_false, Bool.not_eq_true', Bool.not_eq_eq_eq_not, Bool.not_true, Bool.not_false] at hg); (try simp only [hg, beq_true, beq_false, cond_true, Bool.true_and, Bool.and_true, Bool.not_false, Bool.not_true, beq_self_eq_true]); exact Quiet.slSuf rfl rfl ⟨_, rfl⟩ rfl (by omega) hle)) (hk := ?_) | refine sAG (hk := ?_) | refine sOwn (hk := ?_))); exact wEnd rfl)) (hk := ?_)
    refine wR (hx := by ((repeat (first | refine sA (hq := Quiet.slSuf rfl rfl ⟨_, rfl⟩ ⟨_, rfl⟩ (by omega) hle) (hk := ?_) | (refine aSeq_t rfl (AOp.clrRaw (i := 0) (by decide) rfl rfl rfl ((putC_len (by rw [hnl]; omega)).trans hc) hle ?_); refine sNt (hk := ?_)) | refine sA (hk := ?_) | refine sSkip (hk := ?_) | refine sAG (hq := by (intro hg; (try simp only [Bool.and_eq_true, beq_true, beq_false, Bool.not_eq_true', Bool.not_eq_eq_eq_not, Bool.not_true, Bool.not_false] at hg); (try simp only [hg, beq_true, beq_false, cond_true, Bool.true_and, Bool.and_true, Bool.not_false, Bool.not_true, beq_self_eq_true]); exact Quiet.slSuf rfl rfl ⟨_, rfl⟩ ⟨_, rfl⟩ (by omega) hle)) (hk := ?_) | refine sAG (hk := ?_) | refine sOwn (hk := ?_))); exact wEnd rfl)) (hk := ?_)
    refine wR (hk := ?_)
    have hRe := raw_erase (news := zeroC Tryz.prog 28 (l.length - (i + (l.length - (i + 1))))) hR hi hc hle
    have hce : (putC (putC cells (i * 2) ((cells.drop ((i + 1) * 2)).take ((l.length - (i + 1)) * 2))) ((i + (l.length - (i + 1))) * 2) (zeroC Tryz.prog 28 (l.length - (i + (l.length - (i + 1)))))).length = cap * tPair.size := by
      rw [putC_len (by rw [putC_len (by rw [hnl]; omega), zeroC_len (ty := 22)]; omega), putC_len (by rw [hnl]; omega)]
      exact hc
    rw [hel] at hRe hce
    rw [hel]
    refine Awp.via _ (St.le_closeRaw 0 (ver := 1) (t' := [.any, .any, .any, .any, .any, .any, .own 0 1, .any, .any, .any, .any, .any, .any, .any, .any, .any, .any, .any, .any, .any, .any, .any, .any, .any, .any, .any, .any, .any, .any, .any, .any, .any, .any]) rfl rfl hce (by rw [← hel]; omega) hm (by decide) hRe (by (try simp only [putA, List.set_cons_zero, List.set_cons_succ]); (repeat (first | exact Cls.nil | refine Cls.own ?_ | refine Cls.any ?_ | refine Cls.keep rfl ?_)))) ?_
    exact Awp.ret ⟨.inr rfl, 0, 1, rfl, rfl, rfl⟩
end Mu
end
section
/-
  slices.DeleteFunc on rows of pairs; body.single.
  Conditions: rows of at most 2^31.
-/
namespace Mu
open Go Go.RowKit Go.Proofs

/-- what is kept of the first ones -/
def kept (p : Pair → Bool) (l : List Pair) (j : Nat) : List Pair := (l.take j).filter fun x => !p x
theorem kept_next {p : Pair → Bool} {l : List Pair} {j : Nat} {x : Pair} (hx : l[j]? = some x) : kept p l (j + 1) = if p x then kept p l j else kept p l j ++ [x] := by
  unfold kept
  rw [List.take_add_one, hx, List.filter_append]
  cases h : p x <;> simp [h]
structure DelI (p : Pair → Bool) (l : List Pair) (k0 : Nat) (q : List Pair × Nat) : Prop where
  len : q.1.length = l.length
  j : q.2 ≤ l.length
  k0 : k0 < q.2
  pre : q.1.take (kept p l q.2).length = kept p l q.2
  post : q.1.drop q.2 = l.drop q.2
  lt : (kept p l q.2).length < q.2
theorem delI_start {p : Pair → Bool} {l : List Pair} {k0 : Nat} (hk : k0 < l.length) (hn : ∀ x ∈ l.take k0, p x = false) {x : Pair} (hx : l[k0]? = some x) (hp : p x = true) : DelI p l k0 (l, k0 + 1) := by
  have e : kept p l (k0 + 1) = l.take k0 := by
    rw [kept_next hx, if_pos hp]
    unfold kept
    exact List.filter_eq_self.2 fun y hy => by rw [hn y hy]; rfl
  have hl : (l.take k0).length = k0 := by rw [List.length_take]; omega
  exact ⟨rfl, hk, Nat.lt_succ_self _, by rw [e, hl], rfl, by rw [e, hl]; exact Nat.lt_succ_self _⟩
theorem delI_skip {p : Pair → Bool} {l : List Pair} {k0 : Nat} {cur : List Pair} {j : Nat} (H : DelI p l k0 (cur, j)) {x : Pair} (hx : l[j]? = some x) (hp : p x = true) : DelI p l k0 (cur, j + 1) := by
  have hj := (List.getElem?_eq_some_iff.1 hx).1
  have e : kept p l (j + 1) = kept p l j := by rw [kept_next hx, if_pos hp]
  have := H.lt
  have := H.k0
  refine ⟨H.len, hj, by simp only at *; omega, by rw [e]; exact H.pre, ?_, by rw [e]; simp only at *; omega⟩
  have := congrArg (List.drop 1) H.post
  rw [List.drop_drop, List.drop_drop] at this
  exact this
theorem delI_keep {p : Pair → Bool} {l : List Pair} {k0 : Nat} {cur : List Pair} {j : Nat} (H : DelI p l k0 (cur, j)) {x : Pair} (hx : l[j]? = some x) (hp : p x = false) : DelI p l k0 (cur.set (kept p l j).length x, j + 1) := by
  have hj := (List.getElem?_eq_some_iff.1 hx).1
  have e : kept p l (j + 1) = kept p l j ++ [x] := by rw [kept_next hx, if_neg (by rw [hp]; simp)]
  have h1 : (kept p l j).length < j := H.lt
  have h2 : cur.length = l.length := H.len
  have h3 : k0 < j := H.k0
  have h4 : cur.take (kept p l j).length = kept p l j := H.pre
  have h5 : cur.drop j = l.drop j := H.post
  refine ⟨by simp [h2], hj, by simp only; omega, ?_, ?_, by rw [e, List.length_append]; simp only [List.length_cons, List.length_nil]; omega⟩
  · simp only
    rw [e, List.length_append, List.length_cons, List.length_nil, Nat.zero_add, List.take_add_one, List.getElem?_set_self (by omega), List.take_set_of_le (Nat.le_refl _), h4]
    rfl
  · simp only
    rw [List.drop_set_of_lt (by omega)]
    have := congrArg (List.drop 1) h5
    rw [List.drop_drop, List.drop_drop] at this
    exact this
theorem delI_get {p : Pair → Bool} {l : List Pair} {k0 : Nat} {cur : List Pair} {j : Nat} (H : DelI p l k0 (cur, j)) : cur[j]? = l[j]? := by
  have := congrArg (fun z => z[0]?) H.post
  simp only [List.getElem?_drop, Nat.add_zero] at this
  exact this
theorem idxG_some {p : Pair → Bool} {l : List Pair} : (idxG p l = -1 ∧ l.filter (fun x => !p x) = l) ∨ ∃ (k : Nat) (x : Pair), idxG p l = (k : Int) ∧ k < l.length ∧ (∀ y ∈ l.take k, p y = false) ∧ l[k]? = some x ∧ p x = true := by
  unfold idxG
  cases h : l.findIdx? p with
  | none =>
    rw [List.findIdx?_eq_none_iff] at h
    exact .inl ⟨rfl, List.filter_eq_self.2 fun y hy => by rw [h y hy]; rfl⟩
  | some k =>
    obtain ⟨h1, h2, h3⟩ := List.findIdx?_eq_some_iff_getElem.1 h
    refine .inr ⟨k, l[k], rfl, h1, fun y hy => ?_, List.getElem?_eq_getElem h1, h2⟩
    obtain ⟨j, hj, rfl⟩ := List.mem_take_iff_getElem.1 hy
    have := h3 j (by omega)
    simpa using this
theorem fitP {h : List ABlk} {x : Pair} (ho : okPair x) : Fit h tPair (.agg (encPair x)) x := Fit.aggL (enc := encPair) fun _ _ _ _ H => put_Pair ho H
set_option maxRecDepth 100000 in
set_option maxHeartbeats 1000000 in
theorem delF_none (l : List Pair) (f : FuncId) (caps : List AV) (hcf : AV.cl (.fn f caps) = true) (p : Pair → Bool) (hI : Fn Tryz.prog 19 [.bs tPair l, .fn f caps] (.lit (.int .i64 (-1)))) : FnRowX Tryz.prog 41 28 tPair l [.fn f caps] l := by
  refine FnRowX.of_awp Tryz.func41 rfl (by kernel_rfl) rfl Tryz.ntmps41 pair_flat1 fun C => ?_
  simp only [List.length_cons, List.length_nil, Nat.reduceAdd, Nat.reduceSub, List.replicate_succ, List.replicate_zero, List.cons_append, List.nil_append]
  refine wR (hk := ?_)
  refine wR (hx := by ((repeat (first | refine sA (hq := Quiet.callW rfl hI (.cons (.own rfl) (.cons (.cl hcf) .nil))) (hk := ?_) | refine sA (hk := ?_) | refine sSkip (hk := ?_) | refine sAG (hq := by (intro hg; (try simp only [Bool.and_eq_true, beq_true, beq_false, Bool.not_eq_true', Bool.not_eq_eq_eq_not, Bool.not_true, Bool.not_false] at hg); (try simp only [hg, beq_true, beq_false, cond_true, Bool.true_and, Bool.and_true, Bool.not_false, Bool.not_true, beq_self_eq_true]); exact Quiet.callW rfl hI (.cons (.own rfl) (.cons (.cl hcf) .nil)))) (hk := ?_) | refine sAG (hk := ?_) | refine sOwn (hk := ?_))); exact wEnd rfl)) (hk := ?_)
  refine Awp.seq fun K3 h3 => ?_
  refine wR (hk := ?_)
  refine Awp.cond rfl (fun hb5 => ?_) (fun hb5 => ?_)
  · refine wR (hk := ?_)
    exact Awp.ret ⟨.inr rfl, 0, 0, rfl, rfl, rfl⟩
  · have hb5 : ((-1 : Int) == -1) = false := hb5
    cases hb5
set_option maxRecDepth 100000 in
set_option maxHeartbeats 1000000 in
theorem delF_some (l : List Pair) (hl : l.length ≤ 2147483648) (hok : ∀ x ∈ l, okPair x) (f : FuncId) (caps : List AV) (hcl : AV.clL caps = true) (hcf : AV.cl (.fn f caps) = true) (p : Pair → Bool) (hp : ∀ x ∈ l, Fn Tryz.prog f (.agg (encPair x) :: caps) (.lit (.bool (p x)))) (k0 : Nat) (x0 : Pair)
    (hk0 : k0 < l.length) (hno : ∀ y ∈ l.take k0, p y = false) (hx0 : l[k0]? = some x0) (hp0 : p x0 = true) (hI : Fn Tryz.prog 19 [.bs tPair l, .fn f caps] (.lit (.int .i64 (k0 : Int)))) : FnRowX Tryz.prog 41 28 tPair l [.fn f caps] (l.filter fun x => !p x) := by
  refine FnRowX.of_awp Tryz.func41 rfl (by kernel_rfl) rfl Tryz.ntmps41 pair_flat1 fun C => ?_
  simp only [List.length_cons, List.length_nil, Nat.reduceAdd, Nat.reduceSub, List.replicate_succ, List.replicate_zero, List.cons_append, List.nil_append]
  refine wR (hk := ?_)
  refine wR (hx := by ((repeat (first | refine sA (hq := Quiet.callW rfl hI (.cons (.own rfl) (.cons (.cl hcf) .nil))) (hk := ?_) | refine sA (hk := ?_) | refine sSkip (hk := ?_) | refine sAG (hq := by (intro hg; (try simp only [Bool.and_eq_true, beq_true, beq_false, Bool.not_eq_true', Bool.not_eq_eq_eq_not, Bool.not_true, Bool.not_false] at hg); (try simp only [hg, beq_true, beq_false, cond_true, Bool.true_and, Bool.and_true, Bool.not_false, Bool.not_true, beq_self_eq_true]); exact Quiet.callW rfl hI (.cons (.own rfl) (.cons (.cl hcf) .nil)))) (hk := ?_) | refine sAG (hk := ?_) | refine sOwn (hk := ?_))); exact wEnd rfl)) (hk := ?_)
  refine Awp.seq fun K3 h3 => ?_
  refine wR (hk := ?_)
  refine Awp.cond rfl (fun hb5 => ?_) (fun hb5 => ?_)
  · have hb5 : ((k0 : Int) == -1) = true := hb5
    have := eq_of_beq hb5
    omega
  · refine Awp.skip ?_
    refine h3 _ ?_
    refine nT (hk := ?_)
    refine Awp.seq fun K8 h8 => ?_
    refine wR (hk := ?_)
    refine Awp.block ?_
    refine Awp.loopF (fun q : List Pair × Nat => ⟨[.own 0 0, .fn f caps, .any, .any, .any, .lit (.int .i64 ((kept p l q.2).length : Int)), .lit (.int .i64 (q.2 : Int)), .any, .any, .any, .any, .any, .any, .any, .any, .any, .any, .any, .any, .any, .any, .any, .any, .any, .any, .any, .any, .any, .any, .any, .any, .any, .any, .any, .any, .any, .any, .any, .any, .any, .any, .any], [.row 0 28 tPair q.1]⟩) (DelI p l k0) (fun q => l.length - q.2) (l, k0 + 1) (delI_start hk0 hno hx0 hp0) (by rw [show (kept p l (k0 + 1)).length = k0 from by rw [kept_next hx0, if_pos hp0]; unfold kept; rw [List.filter_eq_self.2 fun y hy => by rw [hno y hy]; rfl, List.length_take]; omega]; exact le_TA) ?_
    rintro ⟨cur, j⟩ H
    have hcl' : cur.length = l.length := H.len
    have hjl : j ≤ l.length := H.j
    have hkj : (kept p l j).length < j := H.lt
    dsimp only
    refine Awp.seq fun K11 h11 => ?_
    refine wR (hk := ?_)
    refine Awp.cond rfl (fun hb13 => ?_) (fun hb13 => ?_)
    · have hlt : j < l.length := by have : (j : Int) < (cur.length : Int) := of_decide_eq_true hb13; omega
      obtain ⟨x, hx⟩ : ∃ x, l[j]? = some x := ⟨_, List.getElem?_eq_getElem hlt⟩
      have hxc : cur[j]? = some x := (delI_get H).trans hx
      have hpx := hp x (List.mem_of_getElem? hx)
      have hox := hok x (List.mem_of_getElem? hx)
      obtain ⟨y, hy⟩ : ∃ y, cur[(kept p l j).length]? = some y := ⟨_, List.getElem?_eq_getElem (by omega)⟩
      refine Awp.skip ?_
      refine h11 _ ?_
      refine nT (hk := ?_)
      refine Awp.seq fun K14 h14 => ?_
      refine Awp.block ?_
      refine wR (hx := by ((repeat (first | refine sA (hq := Quiet.loadA_rp rfl rfl rfl hxc rfl) (hk := ?_) | refine sA (hk := ?_) | refine sSkip (hk := ?_) | refine sAG (hq := by (intro hg; (try simp only [Bool.and_eq_true, beq_true, beq_false, Bool.not_eq_true', Bool.not_eq_eq_eq_not, Bool.not_true, Bool.not_false] at hg); (try simp only [hg, beq_true, beq_false, cond_true, Bool.true_and, Bool.and_true, Bool.not_false, Bool.not_true, beq_self_eq_true]); exact Quiet.loadA_rp rfl rfl rfl hxc rfl)) (hk := ?_) | refine sAG (hk := ?_) | refine sOwn (hk := ?_))); exact wEnd rfl)) (hk := ?_)
      refine wR (hk := ?_)
      refine Awp.cond rfl (fun hb17 => ?_) (fun hb17 => ?_)
      · refine wR (hx := by ((repeat (first | (refine aSeq_t rfl (AOp.stRow rfl rfl rfl hy (fitP hox) rfl ?_); refine sNt (hk := ?_)) | refine sA (hk := ?_) | refine sSkip (hk := ?_) | refine sAG (hk := ?_) | refine sOwn (hk := ?_))); exact wEnd rfl)) (hk := ?_)
        refine wRE (hk := ?_)
        refine h14 _ ?_
        refine nT (hk := ?_)
        refine wRE (hk := ?_)
        have hpx' : p x = false := by have : (!p x) = true := hb17; simpa using this
        refine athen_n ⟨(cur.set (kept p l j).length x, j + 1), delI_keep H hx hpx', by dsimp only; omega, ?_⟩
        dsimp only
        have e : ((kept p l (j + 1)).length : Int) = ((kept p l j).length : Int) + 1 := by rw [kept_next hx, if_neg (by rw [hpx']; simp)]; simp
        rw [e]
        exact leC (Cut.cons (Cut.nil _))
      · refine Awp.skip ?_
        refine h14 _ ?_
        refine nT (hk := ?_)
        refine wRE (hk := ?_)
        have hpx' : p x = true := by have : (!p x) = false := hb17; simpa using this
        refine athen_n ⟨(cur, j + 1), delI_skip H hx hpx', by dsimp only; omega, ?_⟩
        dsimp only
        have e : ((kept p l (j + 1)).length : Int) = ((kept p l j).length : Int) := by rw [kept_next hx, if_pos hpx']
        rw [e]
        exact leC (Cut.cons (Cut.nil _))
    · refine Awp.exit ?_
      refine h8 _ ?_
      refine nT (hk := ?_)
      have hje : j = l.length := by have : ¬ (j : Int) < (cur.length : Int) := of_decide_eq_false hb13; omega
      subst hje
      have hpre : kept p l l.length = l.filter fun x => !p x := by unfold kept; rw [List.take_length]
      have hpt := H.pre
      simp only at hpt
      rw [hpre] at hpt hkj ⊢
      generalize hF : (l.filter fun x => !p x) = F at hpt hkj ⊢
      refine Awp.open_raw 0 rfl rfl (by intro e; rw [e] at hcl'; simp at hcl'; omega) pair_flat one1_Pair (fun v => [.lit v, .any, .any, .any, .any, .lit (.int .i64 (F.length : Int)), .any, .any, .any, .any, .any, .any, .any, .any, .any, .any, .any, .any, .any, .any, .any, .any, .any, .any, .any, .any, .any, .any, .any, .any, .any, .any, .any, .any, .any, .any, .any, .any, .any, .any, .any, .any]) (fun v => (by (repeat (first | exact Opn.nil | refine Opn.own ?_ | refine Opn.any ?_ | refine Opn.keep rfl ?_)))) fun g cap cells hc hle hm hR h1 => ?_
      have hc : cells.length = cap * 2 := hc
      refine wR (hx := by ((repeat (first | refine sA (hq := Quiet.slSuf rfl rfl ⟨_, rfl⟩ rfl (by omega) hle) (hk := ?_) | (refine aSeq_t rfl (AOp.clrRaw (i := 0) (by decide) rfl rfl rfl hc hle ?_); refine sNt (hk := ?_)) | refine sA (hk := ?_) | refine sSkip (hk := ?_) | refine sAG (hq := by (intro hg; (try simp only [Bool.and_eq_true, beq_true, beq_false, Bool.not_eq_true', Bool.not_eq_eq_eq_not, Bool.not_true, Bool.not_false] at hg); (try simp only [hg, beq_true, beq_false, cond_true, Bool.true_and, Bool.and_true, Bool.not_false, Bool.not_true, beq_self_eq_true]); exact Quiet.slSuf rfl rfl ⟨_, rfl⟩ rfl (by omega) hle)) (hk := ?_) | refine sAG (hk := ?_) | refine sOwn (hk := ?_))); exact wEnd rfl)) (hk := ?_)
      refine wR (hx := by ((repeat (first | refine sA (hq := Quiet.slPre rfl rfl ⟨_, rfl⟩ (by omega)) (hk := ?_) | refine sA (hk := ?_) | refine sSkip (hk := ?_) | refine sAG (hq := by (intro hg; (try simp only [Bool.and_eq_true, beq_true, beq_false, Bool.not_eq_true', Bool.not_eq_eq_eq_not, Bool.not_true, Bool.not_false] at hg); (try simp only [hg, beq_true, beq_false, cond_true, Bool.true_and, Bool.and_true, Bool.not_false, Bool.not_true, beq_self_eq_true]); exact Quiet.slPre rfl rfl ⟨_, rfl⟩ (by omega))) (hk := ?_) | refine sAG (hk := ?_) | refine sOwn (hk := ?_))); exact wEnd rfl)) (hk := ?_)
      have hRe := raw_pre (news := zeroC Tryz.prog 28 (cur.length - F.length)) hR (i := F.length) (by omega) hpt.symm
      have hce : (putC cells (F.length * 2) (zeroC Tryz.prog 28 (cur.length - F.length))).length = cap * tPair.size := by
        rw [putC_len (by rw [zeroC_len (ty := 22)]; omega)]
        exact hc
      refine Awp.via _ (St.le_closeRaw 0 (ver := 1) (t' := [.any, .any, .any, .any, .own 0 1, .any, .any, .any, .any, .any, .any, .any, .any, .any, .any, .any, .any, .any, .any, .any, .any, .any, .any, .any, .any, .any, .any, .any, .any, .any, .any, .any, .any, .any, .any, .any, .any, .any, .any, .any, .any, .any]) rfl rfl hce (by omega) hm (by decide) hRe (by (try simp only [putA, List.set_cons_zero, List.set_cons_succ]); (repeat (first | exact Cls.nil | refine Cls.own ?_ | refine Cls.any ?_ | refine Cls.keep rfl ?_)))) ?_
      exact Awp.ret ⟨.inr rfl, 0, 1, rfl, rfl, rfl⟩
theorem delF_fn (l : List Pair) (hl : l.length ≤ 2147483648) (hok : ∀ x ∈ l, okPair x) (f : FuncId) (caps : List AV) (hcl : AV.clL caps = true) (p : Pair → Bool) (hp : ∀ x ∈ l, Fn Tryz.prog f (.agg (encPair x) :: caps) (.lit (.bool (p x)))) : FnRowX Tryz.prog 41 28 tPair l [.fn f caps] (l.filter fun x => !p x) := by
  have hcf : AV.cl (.fn f caps) = true := by unfold AV.cl; exact hcl
  have hI := idxP_fn l hl f caps hcl p hp
  rcases idxG_some (p := p) (l := l) with ⟨e1, e2⟩ | ⟨k0, x0, e1, hk0, hno, hx0, hp0⟩
  · rw [e1] at hI
    rw [e2]
    exact delF_none l f caps hcf p hI
  · rw [e1] at hI
    exact delF_some l hl hok f caps hcl hcf p hp k0 x0 hk0 hno hx0 hp0 hI
end Mu
end
section
/-
  body.single, body.AtOnce: moves at once.
  Conditions: at most 60 moves.
-/
namespace Mu
open Go Go.RowKit Go.Proofs

instance zcPairs : ZC Tryz.prog 22 [.slice none 0 0] := ⟨by kernel_rfl⟩
theorem relFn0 {w : World} {S : Nat → Prop} {h : List ABlk} {ψ : Nat → Value} {f : FuncId} {v : Value} (H : AV.rel w S h ψ (.lit (.func (.func f) #[] #[])) v) : AV.rel w S h ψ (.fn f []) v := by
  unfold AV.rel at H ⊢
  exact ⟨[], H, by unfold AV.relL; rfl⟩
theorem FnRowX.ofFn {P : Program} {F : FuncId} {e : TypeId} {α : Type} {T : Ty α} {l l' : List α} {f : FuncId} (H : FnRowX P F e T l [.fn f []] l') : FnRowX P F e T l [.lit (.func (.func f) #[] #[])] l' :=
  ⟨H.1, fun N S w v vs hN hS hB hr => H.2 N S w v vs hN hS hB (by
    unfold AV.relL at hr ⊢
    obtain ⟨u, us, e, h1, h2⟩ := hr
    refine ⟨u, us, e, relFn0 h1, ?_⟩
    unfold AV.relL at h2 ⊢
    exact h2)⟩
theorem firsts_ok {l : List Pair} (hok : ∀ x ∈ l, okPair x) (seen : List Pair) : ∀ x ∈ firsts seen l, okPair x := fun x hx => hok x (firsts_mem hx).1
theorem single_ok {l : List Pair} (hok : ∀ x ∈ l, okPair x) : ∀ x ∈ singleL l, okPair x := fun x hx => firsts_ok hok [] x (List.mem_filter.1 hx).1
theorem firsts_take {l : List Pair} {k : Nat} {x : Pair} (hx : l[k]? = some x) : firsts [] (l.take (k + 1)) = firsts [] (l.take k) ++ (if (l.take k).any (fun y => decide (y.a = x.a)) then [] else [x]) := by
  rw [List.take_add_one, hx]
  have := firsts_snoc (l.take k) x []
  simpa using this
set_option maxRecDepth 100000 in
set_option maxHeartbeats 1000000 in
theorem single_own (l : List Pair) (hl : l.length ≤ 1000) (hok : ∀ x ∈ l, okPair x) : FnOwn Tryz.prog 18 [.bs tPair l] 28 tPair (singleL l) := by
  have hD := FnRowX.ofFn (delF_fn (firsts [] l) (by have := firsts_len l []; omega) (firsts_ok hok []) 42 [] rfl (fun x => !keepB x) fun x _ => by
    have h := body_single_2_l (x := x) (M.ok_to _)
    have e : ((((x.a == x.b) && ((x.b == x.a) && true)) || (x.a == 3)) || (x.b == 3)) = (!keepB x) := by
      unfold keepB
      rw [Bool.not_not, Bool.and_true]
      congr 1
      congr 1
      by_cases h : x.a = x.b
      · simp [h]
      · simp [h]
    rw [e] at h
    exact h)
  have eD : ((firsts [] l).filter fun x => !!keepB x) = singleL l := by
    unfold singleL
    congr 1
    funext x
    exact Bool.not_not _
  rw [eD] at hD
  refine FnOwn.of_awp Tryz.func18 rfl (by kernel_rfl) rfl Tryz.ntmps18 pair_flat1 fun C hC => ?_
  simp only [List.length_cons, List.length_nil, Nat.reduceAdd, Nat.reduceSub, List.replicate_succ, List.replicate_zero, List.cons_append, List.nil_append]
  refine wR (hk := ?_)
  refine wR (hk := ?_)
  refine Awp.via _ (St.le_own 3 28 tPair rfl (by decide)) ?_
  refine Awp.seq fun K3 h3 => ?_
  refine wR (hk := ?_)
  refine Awp.block ?_
  refine Awp.loopF (fun q : Nat × Nat => ⟨[.bs tPair l, .any, .any, .own 0 q.2, .any, .any, .bs tPair l, .lit (.int .i64 (l.length : Int)), .lit (.int .i64 (q.1 : Int)), .any, .any, .any, .any, .any, .any, .any, .any, .any, .any, .any, .any, .any, .any, .any, .any, .any], [.row q.2 28 tPair (firsts [] (l.take q.1))]⟩) (fun q => q.1 ≤ l.length) (fun q => l.length - q.1) (0, 0) (Nat.zero_le _) (le_TA) ?_
  rintro ⟨k, ver⟩ hk
  dsimp only at hk ⊢
  refine wR (hk := ?_)
  refine Awp.seq fun K7 h7 => ?_
  refine Awp.cond rfl (fun hb8 => ?_) (fun hb8 => ?_)
  · have hlt : k < l.length := by simpa using hb8
    obtain ⟨x, hx⟩ : ∃ x, l[k]? = some x := ⟨_, List.getElem?_eq_getElem hlt⟩
    have hox := hok x (List.mem_of_getElem? hx)
    have hAny := anyP_fn (l.take k) (by rw [List.length_take]; omega) 40 [.bp tPair x 0] rfl (fun y => decide (y.a = x.a)) fun y _ => by
      have h := body_single_1_l (y := y) (c0 := x) (M.ok_to _)
      exact h
    have hfl := firsts_len (l.take k) []
    rw [List.length_take] at hfl
    have hft := firsts_take hx
    generalize hF0 : firsts [] (l.take k) = F0 at hfl hft ⊢
    refine Awp.skip ?_
    refine h7 _ ?_
    refine nT (hk := ?_)
    refine Awp.seq fun K9 h9 => ?_
    refine Awp.block ?_
    refine wR (hk := ?_)
    refine wR (hx := by ((repeat (first | refine sA (hq := Quiet.slc (l := 0) (m := k) rfl rfl rfl rfl ⟨_, rfl⟩ (Nat.zero_le _) (by omega)) (hk := ?_) | refine sA (hq := Quiet.callW rfl hAny (.cons (.cl rfl) (.cons (.fn (.cons (lendPair rfl hox) .nil)) .nil))) (hk := ?_) | refine sA (hk := ?_) | refine sSkip (hk := ?_) | refine sAG (hq := by (intro hg; (try simp only [Bool.and_eq_true, beq_true, beq_false, Bool.not_eq_true', Bool.not_eq_eq_eq_not, Bool.not_true, Bool.not_false] at hg); (try simp only [hg, beq_true, beq_false, cond_true, Bool.true_and, Bool.and_true, Bool.not_false, Bool.not_true, beq_self_eq_true]); exact Quiet.slc (l := 0) (m := k) rfl rfl rfl rfl ⟨_, rfl⟩ (Nat.zero_le _) (by omega))) (hk := ?_) | refine sAG (hq := by (intro hg; (try simp only [Bool.and_eq_true, beq_true, beq_false, Bool.not_eq_true', Bool.not_eq_eq_eq_not, Bool.not_true, Bool.not_false] at hg); (try simp only [hg, beq_true, beq_false, cond_true, Bool.true_and, Bool.and_true, Bool.not_false, Bool.not_true, beq_self_eq_true]); exact Quiet.callW rfl hAny (.cons (.cl rfl) (.cons (.fn (.cons (lendPair rfl hox) .nil)) .nil)))) (hk := ?_) | refine sAG (hk := ?_) | refine sOwn (hk := ?_))); exact wEnd rfl)) (hk := ?_)
    refine Awp.cond rfl (fun hb12 => ?_) (fun hb12 => ?_)
    · have hb12' : (l.take k).any (fun y => decide (y.a = x.a)) = false := by have : (!(l.take k).any (fun y => decide (y.a = x.a))) = true := hb12; simpa using this
      rw [hb12', if_neg (by simp)] at hft
      have hm1 : F0.length + [x].length ≤ maxLen := by unfold maxLen; simp only [List.length_cons, List.length_nil]; omega
      have hm2 : (F0.length + [x].length) * 16 ≤ 140737488355328 := by simp only [List.length_cons, List.length_nil]; omega
      refine wRE (hx := by ((repeat (first | refine sA (hq := Quiet.lt1 (T := tPair) (d := x) rfl rfl rfl (by rfl) (by decide) (fitP hox)) (hk := ?_) | refine sA (hk := ?_) | refine sSkip (hk := ?_) | refine sAG (hq := by (intro hg; (try simp only [Bool.and_eq_true, beq_true, beq_false, Bool.not_eq_true', Bool.not_eq_eq_eq_not, Bool.not_true, Bool.not_false] at hg); (try simp only [hg, beq_true, beq_false, cond_true, Bool.true_and, Bool.and_true, Bool.not_false, Bool.not_true, beq_self_eq_true]); exact Quiet.lt1 (T := tPair) (d := x) rfl rfl rfl (by rfl) (by decide) (fitP hox))) (hk := ?_) | refine sAG (hk := ?_) | refine sOwn (hk := ?_))); exact wEnd rfl)) (hk := ?_)
      refine h9 _ ?_
      refine nT (hk := ?_)
      refine wRE (hk := ?_)
      refine athen_n ⟨(k + 1, ver + 1), by dsimp only; omega, by dsimp only; omega, ?_⟩
      dsimp only
      rw [hft]
      exact leC (Cut.cons (Cut.nil _))
    · have hb12' : (l.take k).any (fun y => decide (y.a = x.a)) = true := by have : (!(l.take k).any (fun y => decide (y.a = x.a))) = false := hb12; simpa using this
      rw [hb12', if_pos rfl, List.append_nil] at hft
      refine Awp.skip ?_
      refine h9 _ ?_
      refine nT (hk := ?_)
      refine wRE (hk := ?_)
      refine athen_n ⟨(k + 1, ver), by dsimp only; omega, by dsimp only; omega, ?_⟩
      dsimp only
      rw [hft]
      exact leC (Cut.cons (Cut.nil _))
  · refine Awp.exit ?_
    refine h3 _ ?_
    refine nT (hk := ?_)
    have hke : k = l.length := by have : ¬ k < l.length := (by simpa using hb8); omega
    rw [hke, List.take_length]
    refine wR (hx := by ((repeat (first | (refine aSeq_t rfl (AOp.callRowX (i := 0) (more := [.func 42]) rfl rfl hD rfl rfl rfl rfl ?_); refine sNt (hk := ?_)) | refine sA (hk := ?_) | refine sSkip (hk := ?_) | refine sAG (hk := ?_) | refine sOwn (hk := ?_))); exact wEnd rfl)) (hk := ?_)
    exact Awp.ret ⟨.inr rfl, rfl, 0, ver + 1, rfl, rfl⟩

theorem updB {h : List ABlk} {d : Pair} {v : Int} (hv : wfI .i64 v) : RowUpd h tPair d 1 (.lit (.int .i64 v)) 1 ⟨d.a, v⟩ := fun C S ψ w u cs H hu hcs => by
  unfold AV.rel at hu
  subst hu
  obtain ⟨rfl, h0, h1⟩ := tPair_R.1 hcs
  exact ⟨rfl, by decide, fun u hu => by
    have : u = .int .i64 v := by simpa [Value.cells] using hu
    subst this
    rfl, tPair_R.2 ⟨rfl, h0, hv⟩⟩
theorem AOp.stB {P : Program} {C : Ctx} {t : List AV} {h : List ABlk} {o : Oper} {K : St → Prop} {ty : TypeId} {x y : Operand} {i ver k : Nat} {e : TypeId} {l : List Pair} {d : Pair} {v : Int} [SZ P ty 1] (ho : o.op = .store ty x y) (hx : evA t x = .rp i ver k 1) (hy : evA t y = .lit (.int .i64 v)) (hi : h[i]? = some (.row ver e tPair l)) (hk : l[k]? = some d) (hv : wfI .i64 v)
    (hK : K ⟨putA t o.dst (.lit undef), h.set i (.row ver e tPair (l.set k ⟨d.a, v⟩))⟩) : AOp P C o ⟨t, h⟩ K :=
  AOp.storeRow (s := ⟨t, h⟩) ho hx hi hk (by rw [show evA (St.mk t h).t y = _ from hy]; exact updB hv) SZ.eq hK
theorem atO_step {n : Nat} {left rr : List Pair} (H : AtO n left rr) (hne : left ≠ []) :
    (idxG (fr23 left) left ≥ 0 → ∃ (n' k : Nat) (x : Pair) (r' : List Pair), n = n' + 1 ∧ idxG (fr23 left) left = (k : Int) ∧ left[k]? = some x ∧ rr = x :: r' ∧ AtO n' (left.eraseIdx k) r') ∧
    (¬ idxG (fr23 left) left ≥ 0 → ∃ (n' : Nat) (y : Pair) (l r' : List Pair), n = n' + 1 ∧ left = y :: l ∧ rr = ⟨3, y.a⟩ :: r' ∧ AtO n' (unblock left y.a) r') := by
  cases H with
  | nil => exact absurd rfl hne
  | @out n k left r x h1 h2 h3 =>
    have e : idxG (fr23 left) left = (k : Int) := by unfold idxG; rw [h1]
    exact ⟨fun _ => ⟨n, k, x, r, rfl, e, h2, rfl, h3⟩, fun h => absurd (by rw [e]; omega) h⟩
  | @via n y l r h1 h3 =>
    have e : idxG (fr23 (y :: l)) (y :: l) = -1 := by unfold idxG; rw [h1]
    exact ⟨fun h => by rw [e] at h; omega, fun _ => ⟨n, y, l, r, rfl, rfl, rfl, h3⟩⟩
/-- the first ones are turned -/
def ubk (left : List Pair) (p : Int) (k : Nat) : List Pair := unblock (left.take k) p ++ left.drop k
theorem ubk_get {left : List Pair} {p : Int} {k : Nat} (hk : k < left.length) : (ubk left p k)[k]? = left[k]? := by
  unfold ubk
  have hl : (unblock (left.take k) p).length = k := by rw [len_unblock, List.length_take]; omega
  rw [List.getElem?_append_right (by omega), hl, Nat.sub_self, List.getElem?_drop, Nat.add_zero]
theorem ubk_next {left : List Pair} {p : Int} {k : Nat} {x : Pair} (hx : left[k]? = some x) : ubk left p (k + 1) = if x.b = p then (ubk left p k).set k ⟨x.a, 3⟩ else ubk left p k := by
  have hk := (List.getElem?_eq_some_iff.1 hx).1
  have hl : (unblock (left.take k) p).length = k := by rw [len_unblock, List.length_take]; omega
  have hd : left.drop k = x :: left.drop (k + 1) := by
    rw [List.drop_eq_getElem_cons hk]
    congr 1
    rw [List.getElem?_eq_getElem hk] at hx
    exact Option.some.inj hx
  have e : ubk left p (k + 1) = unblock (left.take k) p ++ (if x.b = p then (⟨x.a, 3⟩ : Pair) else x) :: left.drop (k + 1) := by
    unfold ubk unblock
    rw [List.take_add_one, hx]
    simp
  rw [e]
  unfold ubk
  rw [hd]
  split
  · rw [List.set_append_right _ _ (by omega), hl, Nat.sub_self]
    rfl
  · rfl
theorem ubk_len (left : List Pair) (p : Int) (k : Nat) : (ubk left p k).length = left.length := by
  unfold ubk
  rw [List.length_append, len_unblock, List.length_take, List.length_drop]
  omega
theorem ubk_all (left : List Pair) (p : Int) : ubk left p left.length = unblock left p := by
  unfold ubk
  rw [List.take_length, List.drop_length, List.append_nil]
theorem unblock_ok {left : List Pair} (hok : ∀ x ∈ left, okPair x) (p : Int) : ∀ x ∈ unblock left p, okPair x := fun x hx => by
  unfold unblock at hx
  obtain ⟨y, hy, rfl⟩ := List.mem_map.1 hx
  split
  · exact ⟨(hok y hy).a, (rfl : wfI .i64 3)⟩
  · exact hok y hy
structure AtI (r : List Pair) (q : Nat × List Pair × List Pair × List Pair × Nat × Nat) : Prop where
  at_ : AtO q.1 q.2.1 q.2.2.1
  out : q.2.2.2.1 ++ q.2.2.1 = r
  len : q.2.1.length ≤ 1000
  ok : ∀ x ∈ q.2.1, okPair x
set_option maxRecDepth 100000 in
set_option maxHeartbeats 4000000 in
theorem atOnce_fn (l : List Pair) (hl : l.length ≤ 1000) (hok : ∀ x ∈ l, okPair x) (n : Nat) (r : List Pair) (hr : r.length ≤ 100000) (hA : AtO n (singleL l) r) : Fn Tryz.prog 8 [.bs tPair l] (.bs tPair r) := by
  have hS := single_own l hl hok
  have hsl := single_len l
  refine Fn.of_awp Tryz.func8 rfl (by kernel_rfl) rfl Tryz.ntmps8 fun C hC => ?_
  simp only [List.length_cons, List.length_nil, Nat.reduceAdd, Nat.reduceSub, List.replicate_succ, List.replicate_zero, List.cons_append, List.nil_append]
  refine wR (hk := ?_)
  refine wR (hx := by ((repeat (first | (refine aSeq_t rfl (AOp.callOwn rfl hS (by decide) rfl rfl ?_); refine sNt (hk := ?_)) | (refine aSeq_t rfl (AOp.stBox (new := [.own 0 0]) rfl rfl rfl (Parts.one (One.own rfl)) rfl (Nat.le_of_ble_eq_true rfl) ?_); refine sNt (hk := ?_)) | refine sA (hk := ?_) | refine sSkip (hk := ?_) | refine sAG (hk := ?_) | refine sOwn (hk := ?_))); exact wEnd rfl)) (hk := ?_)
  refine wR (hk := ?_)
  refine Awp.via _ (St.le_own 4 28 tPair rfl (by decide)) ?_
  refine Awp.seq fun K4 h4 => ?_
  refine Awp.block ?_
  refine Awp.loopF (fun q : Nat × List Pair × List Pair × List Pair × Nat × Nat => ⟨[.any, .any, .any, .ptr 1 0, .own 2 q.2.2.2.2.2, .any, .any, .any, .any, .any, .any, .any, .any, .any, .any, .any, .any, .any, .any, .any, .any, .any, .any, .any, .any, .any, .any, .any, .any, .any, .any, .any, .any, .any, .any, .any, .any, .any, .any, .any, .any, .any, .any, .any, .any, .any, .any, .any, .any, .any, .any, .any, .any, .any, .any, .any, .any], [.row q.2.2.2.2.1 28 tPair q.2.1, .box [.own 0 q.2.2.2.2.1], .row q.2.2.2.2.2 28 tPair q.2.2.2.1]⟩) (AtI r) (fun q => q.1) (n, singleL l, r, [], 0, 0) ⟨hA, rfl, by dsimp only; omega, single_ok hok⟩ (le_TA) ?_
  rintro ⟨n, left, rr, out, v0, v2⟩ ⟨hAt, hout, hlen, hokl⟩
  dsimp only at hAt hout hlen hokl ⊢
  refine Awp.seq fun K6 h6 => ?_
  refine wR (hk := ?_)
  refine Awp.cond rfl (fun hb8 => ?_) (fun hb8 => ?_)
  · have hne : left ≠ [] := by
      intro e
      have : (left.length : Int) > 0 := of_decide_eq_true hb8
      rw [e] at this
      simp at this
    obtain ⟨st1, st2⟩ := atO_step hAt hne
    have hI := idxP_fn left (by omega) 20 [.bp tPair.slice left 0] rfl (fr23 left) fun x hx => free_fn left (by omega) x (hokl x hx)
    refine Awp.skip ?_
    refine h6 _ ?_
    refine nT (hk := ?_)
    refine Awp.block ?_
    refine wR (hx := by ((repeat (first | refine sA (hq := Quiet.callW rfl hI (.cons (.own rfl) (.cons (.fn (.cons (.boxO rfl rfl rfl) .nil)) .nil))) (hk := ?_) | refine sA (hk := ?_) | refine sSkip (hk := ?_) | refine sAG (hq := by (intro hg; (try simp only [Bool.and_eq_true, beq_true, beq_false, Bool.not_eq_true', Bool.not_eq_eq_eq_not, Bool.not_true, Bool.not_false] at hg); (try simp only [hg, beq_true, beq_false, cond_true, Bool.true_and, Bool.and_true, Bool.not_false, Bool.not_true, beq_self_eq_true]); exact Quiet.callW rfl hI (.cons (.own rfl) (.cons (.fn (.cons (.boxO rfl rfl rfl) .nil)) .nil)))) (hk := ?_) | refine sAG (hk := ?_) | refine sOwn (hk := ?_))); exact wEnd rfl)) (hk := ?_)
    refine Awp.seq fun K10 h10 => ?_
    refine wR (hk := ?_)
    refine Awp.cond rfl (fun hb12 => ?_) (fun hb12 => ?_)
    · obtain ⟨n', k, x, r', rfl, hik, hx, rfl, hAt'⟩ := st1 (of_decide_eq_true hb12)
      have hkl := (List.getElem?_eq_some_iff.1 hx).1
      have hox := hokl x (List.mem_of_getElem? hx)
      have hDel := delP_fn left k hkl (by omega)
      have hol : out.length + (x :: r').length = r.length := by rw [← hout, List.length_append]
      have hm1 : out.length + [x].length ≤ maxLen := by unfold maxLen; simp only [List.length_cons, List.length_nil] at hol ⊢; omega
      have hm2 : (out.length + [x].length) * 16 ≤ 140737488355328 := by simp only [List.length_cons, List.length_nil] at hol ⊢; omega
      rw [hik]
      refine wR (hx := by ((repeat (first | refine sA (hq := Quiet.loadA_rp rfl rfl rfl hx rfl) (hk := ?_) | refine sA (hq := Quiet.lt1 (T := tPair) (d := x) rfl rfl rfl (by rfl) (by decide) (fitP hox)) (hk := ?_) | refine sA (hk := ?_) | refine sSkip (hk := ?_) | refine sAG (hq := by (intro hg; (try simp only [Bool.and_eq_true, beq_true, beq_false, Bool.not_eq_true', Bool.not_eq_eq_eq_not, Bool.not_true, Bool.not_false] at hg); (try simp only [hg, beq_true, beq_false, cond_true, Bool.true_and, Bool.and_true, Bool.not_false, Bool.not_true, beq_self_eq_true]); exact Quiet.loadA_rp rfl rfl rfl hx rfl)) (hk := ?_) | refine sAG (hq := by (intro hg; (try simp only [Bool.and_eq_true, beq_true, beq_false, Bool.not_eq_true', Bool.not_eq_eq_eq_not, Bool.not_true, Bool.not_false] at hg); (try simp only [hg, beq_true, beq_false, cond_true, Bool.true_and, Bool.and_true, Bool.not_false, Bool.not_true, beq_self_eq_true]); exact Quiet.lt1 (T := tPair) (d := x) rfl rfl rfl (by rfl) (by decide) (fitP hox))) (hk := ?_) | refine sAG (hk := ?_) | refine sOwn (hk := ?_))); exact wEnd rfl)) (hk := ?_)
      refine wR (hx := by ((repeat (first | (refine aSeq_t rfl (AOp.callRowX (i := 0) (more := [.tmp 26, .tmp 28]) rfl rfl hDel rfl rfl rfl rfl ?_); refine sNt (hk := ?_)) | (refine aSeq_t rfl (AOp.stBox (new := [.own 0 (v0 + 1)]) rfl rfl rfl (Parts.one (One.own rfl)) rfl (Nat.le_of_ble_eq_true rfl) ?_); refine sNt (hk := ?_)) | refine sA (hk := ?_) | refine sSkip (hk := ?_) | refine sAG (hk := ?_) | refine sOwn (hk := ?_))); exact wEnd rfl)) (hk := ?_)
      refine Awp.exit ?_
      repeat (first | refine athen_e ?_ | refine exO (by decide) ?_ | refine asE ?_)
      refine exN ?_
      repeat (first | refine abN ?_ | refine asN ?_)
      refine athen_n ⟨(n', left.eraseIdx k, r', out ++ [x], v0 + 1, v2 + 1), ⟨hAt', by dsimp only; rw [← hout]; simp, by dsimp only; rw [List.length_eraseIdx_of_lt hkl]; omega, fun y hy => hokl y ((List.eraseIdx_sublist left k).subset hy)⟩, Nat.lt_succ_self _, ?_⟩
      exact le_TA
    · obtain ⟨n', y, l', r', rfl, rfl, rfl, hAt'⟩ := st2 (of_decide_eq_false hb12)
      have hy0 : (y :: l')[0]? = some y := rfl
      have hoy := hokl y (by simp)
      have hya := hoy.a
      have hfy : ∀ h, Fit h tPair (.agg [.lit (.int .i64 3), .lit (.int .i64 y.a)]) (⟨3, y.a⟩ : Pair) := fun h => fitP (x := ⟨3, y.a⟩) ⟨(rfl : wfI .i64 3), hya⟩
      have hol : out.length + ((⟨3, y.a⟩ : Pair) :: r').length = r.length := by rw [← hout, List.length_append]
      have hm1 : out.length + [(⟨3, y.a⟩ : Pair)].length ≤ maxLen := by unfold maxLen; simp only [List.length_cons, List.length_nil] at hol ⊢; omega
      have hm2 : (out.length + [(⟨3, y.a⟩ : Pair)].length) * 16 ≤ 140737488355328 := by simp only [List.length_cons, List.length_nil] at hol ⊢; omega
      refine Awp.skip ?_
      refine h10 _ ?_
      refine nT (hk := ?_)
      refine wR (hx := by ((repeat (first | refine sA (hq := Quiet.ixoi rfl rfl rfl rfl rfl (by decide) (by simp)) (hk := ?_) | refine sA (hq := Quiet.load_rp rfl rfl rfl (show (y :: l')[Int.toNat 0]? = some y from rfl) rfl) (hk := ?_) | refine sA (hk := ?_) | refine sSkip (hk := ?_) | refine sAG (hq := by (intro hg; (try simp only [Bool.and_eq_true, beq_true, beq_false, Bool.not_eq_true', Bool.not_eq_eq_eq_not, Bool.not_true, Bool.not_false] at hg); (try simp only [hg, beq_true, beq_false, cond_true, Bool.true_and, Bool.and_true, Bool.not_false, Bool.not_true, beq_self_eq_true]); exact Quiet.ixoi rfl rfl rfl rfl rfl (by decide) (by simp))) (hk := ?_) | refine sAG (hq := by (intro hg; (try simp only [Bool.and_eq_true, beq_true, beq_false, Bool.not_eq_true', Bool.not_eq_eq_eq_not, Bool.not_true, Bool.not_false] at hg); (try simp only [hg, beq_true, beq_false, cond_true, Bool.true_and, Bool.and_true, Bool.not_false, Bool.not_true, beq_self_eq_true]); exact Quiet.load_rp rfl rfl rfl (show (y :: l')[Int.toNat 0]? = some y from rfl) rfl)) (hk := ?_) | refine sAG (hk := ?_) | refine sOwn (hk := ?_))); exact wEnd rfl)) (hk := ?_)
      refine wR (hx := by ((repeat (first | refine sA (hq := Quiet.bldP (rs := [.lit (.int .i64 3), .lit (.int .i64 y.a)]) rfl plPair rfl rfl) (hk := ?_) | refine sA (hq := Quiet.lt1 (T := tPair) (d := ⟨3, y.a⟩) rfl rfl rfl (by rfl) (by decide) (hfy _)) (hk := ?_) | refine sA (hk := ?_) | refine sSkip (hk := ?_) | refine sAG (hq := by (intro hg; (try simp only [Bool.and_eq_true, beq_true, beq_false, Bool.not_eq_true', Bool.not_eq_eq_eq_not, Bool.not_true, Bool.not_false] at hg); (try simp only [hg, beq_true, beq_false, cond_true, Bool.true_and, Bool.and_true, Bool.not_false, Bool.not_true, beq_self_eq_true]); exact Quiet.bldP (rs := [.lit (.int .i64 3), .lit (.int .i64 y.a)]) rfl plPair rfl rfl)) (hk := ?_) | refine sAG (hq := by (intro hg; (try simp only [Bool.and_eq_true, beq_true, beq_false, Bool.not_eq_true', Bool.not_eq_eq_eq_not, Bool.not_true, Bool.not_false] at hg); (try simp only [hg, beq_true, beq_false, cond_true, Bool.true_and, Bool.and_true, Bool.not_false, Bool.not_true, beq_self_eq_true]); exact Quiet.lt1 (T := tPair) (d := ⟨3, y.a⟩) rfl rfl rfl (by rfl) (by decide) (hfy _))) (hk := ?_) | refine sAG (hk := ?_) | refine sOwn (hk := ?_))); exact wEnd rfl)) (hk := ?_)
      refine wR (hk := ?_)
      generalize hL : y :: l' = left at *
      refine Awp.block ?_
      refine Awp.loopF (fun k : Nat => ⟨[.any, .any, .any, .ptr 1 0, .own 2 (v2 + 1), .any, .lit (.int .i64 y.a), .any, .any, .any, .any, .any, .any, .any, .any, .any, .any, .any, .any, .any, .any, .any, .any, .any, .any, .any, .any, .any, .any, .any, .any, .any, .any, .any, .any, .any, .any, .any, .any, .any, .lit (.int .i64 (left.length : Int)), .lit (.int .i64 (k : Int)), .any, .any, .any, .any, .any, .any, .any, .any, .any, .any, .any, .any, .any, .any, .any], [.row v0 28 tPair (ubk left y.a k), .box [.own 0 v0], .row (v2 + 1) 28 tPair (out ++ [⟨3, y.a⟩])]⟩) (fun k => k ≤ left.length) (fun k => left.length - k) 0 (Nat.zero_le _) (le_TA) ?_
      intro k hk
      refine wR (hk := ?_)
      refine Awp.seq fun K20 h20 => ?_
      refine Awp.cond rfl (fun hb21 => ?_) (fun hb21 => ?_)
      · have hlt : k < left.length := by simpa using hb21
        obtain ⟨x, hx⟩ : ∃ x, left[k]? = some x := ⟨_, List.getElem?_eq_getElem hlt⟩
        have hxu := (ubk_get (p := y.a) hlt).trans hx
        have hul := ubk_len left y.a k
        have hun := ubk_next (p := y.a) hx
        refine Awp.skip ?_
        refine h20 _ ?_
        refine nT (hk := ?_)
        refine Awp.seq fun K22 h22 => ?_
        refine Awp.block ?_
        refine wR (hk := ?_)
        refine wR (hk := ?_)
        refine Awp.cond rfl (fun hb25 => ?_) (fun hb25 => ?_)
        · have hxb : x.b = y.a := by have : (x.b == y.a) = true := hb25; exact eq_of_beq this
          rw [if_pos hxb] at hun
          refine wRE (hx := by ((repeat (first | (refine aSeq_t rfl (AOp.stB rfl rfl rfl rfl hxu rfl ?_); refine sNt (hk := ?_)) | refine sA (hk := ?_) | refine sSkip (hk := ?_) | refine sAG (hk := ?_) | refine sOwn (hk := ?_))); exact wEnd rfl)) (hk := ?_)
          refine h22 _ ?_
          refine nT (hk := ?_)
          refine wRE (hk := ?_)
          refine athen_n ⟨k + 1, by omega, by omega, ?_⟩
          rw [hun]
          exact le_TA
        · have hxb : ¬ x.b = y.a := by have : (x.b == y.a) = false := hb25; exact fun e => by rw [e] at this; simp at this
          rw [if_neg hxb] at hun
          refine Awp.skip ?_
          refine h22 _ ?_
          refine nT (hk := ?_)
          refine wRE (hk := ?_)
          refine athen_n ⟨k + 1, by omega, by omega, ?_⟩
          rw [hun]
          exact le_TA
      · refine Awp.exit ?_
        have hke : k = left.length := by have : ¬ k < left.length := (by simpa using hb21); omega
        rw [hke, ubk_all]
        repeat (first | refine athen_e ?_ | refine exO (by decide) ?_ | refine asE ?_)
        refine exN ?_
        repeat (first | refine abN ?_ | refine asN ?_)
        refine athen_n ⟨(n', unblock left y.a, r', out ++ [⟨3, y.a⟩], v0, v2 + 1), ⟨hAt', by dsimp only; rw [← hout]; simp, by dsimp only; rw [len_unblock]; exact hlen, unblock_ok hokl y.a⟩, Nat.lt_succ_self _, ?_⟩
        exact le_TA
  · refine Awp.exit ?_
    refine h4 _ ?_
    refine nT (hk := ?_)
    have hnil : left = [] := by
      have : ¬ (left.length : Int) > 0 := of_decide_eq_false hb8
      exact List.eq_nil_of_length_eq_zero (by omega)
    subst hnil
    have hrr : rr = [] := by
      cases hAt with
      | nil => rfl
      | out h1 h2 h3 => simp at h2
    subst hrr
    rw [List.append_nil] at hout
    subst hout
    refine wR (hk := ?_)
    exact Awp.ret ⟨.inr rfl, Fin.own rfl⟩
end Mu
end
section
/-
  The document's moves at once, and what the law asks of them: what these functions compute.
  Conditions: none.
-/
namespace Mu
open Go Go.RowKit Go.Proofs

def r23_from_L4 (l : List Pair) (not : Int) (place : Int) : Int → M (Int ⊕ ((Unit) ⊕ (Bool))) := fun i1 => M.cnd (decide (i1 < (l.length : Int))) (M.chk (!(i1 != not) || (inBd l i1)) (M.cnd ((i1 != not) && (((ixD l i1).b) == place)) (M.ok (.inr (.inr true))) (M.ok (.inl (IntKind.i64.wrap (i1 + 1)))))) (M.ok (.inr (.inl ())))
def r23_from (l : List Pair) (not : Int) (place : Int) : M Bool := M.els (M.loop (r23_from_L4 l not place) 0) fun _ => M.ok false
set_option maxRecDepth 100000 in
set_option maxHeartbeats 4000000 in
theorem r23_from_l {l : List Pair} {not : Int} {place : Int} {r : Bool} (H : (r23_from l not place).to r) : Fn Tryz.prog 25 [.bs tPair l, .lit (.int .i64 not), .lit (.int .i64 place)] (.lit (.bool r)) := by
  delta r23_from at H
  try dsimp only at H
  refine Fn.of_awp Tryz.func25 rfl (by kernel_rfl) rfl Tryz.ntmps25 fun C hC => ?_
  simp only [List.length_cons, List.length_nil, Nat.reduceAdd, Nat.reduceSub, List.replicate_succ, List.replicate_zero, List.cons_append, List.nil_append]
  refine wR (hx := by (refine sA (hq := Quiet.assign rfl getC) (ht := set6) (hk := ?_); exact wEnd rfl)) (hk := ?_)
  obtain ⟨z2, HX2, Hl2, Hq2⟩ := M.to_els H
  refine Awp.seqJ (β := (Unit) × (Unit)) (fun q2 => z2 = .inl q2.1) (fun q2 => ⟨[.any, .any, .any, .any, .any, .any, .any, .any, .any, .any, .any, .any, .any, .any, .any, .any, .any, .any, .any, .any, .any, .any, .any, .any, .any, .any], []⟩) ?_ ?_
  · refine wR (hx := by (refine sA (hq := Quiet.assign rfl getC) (ht := set7) (hk := ?_); exact wEnd rfl)) (hk := ?_)
    refine Awp.block ?_
    refine Awp.loopM HX2 (fun s2 b2 => ⟨[.bs tPair l, .lit (.int .i64 not), .lit (.int .i64 place), .any, .any, .any, .any, .lit (.int .i64 s2), .any, .any, .any, .any, .any, .any, .any, .any, .any, .any, .any, .any, .any, .any, .any, .any, .any, .any], []⟩) () (?_) ?_
    · try dsimp only
      exact le_TA
    · rintro i1 _ x2 H Hr2
      try dsimp only
      dsimp only [r23_from_L4] at H
      refine Awp.seq fun Khs3 hs3 => ?_
      refine wR (hx := by (refine sA (hq := Quiet.move rfl get7) (ht := (setS8 set0)) (hk := ?_); refine sA (hq := Quiet.move rfl get0) (ht := (setS8 set1)) (hk := ?_); refine sA (hq := Quiet.ln rfl (getS8 get1)) (ht := (setS8 set2)) (hk := ?_); refine sA (hq := Quiet.bin rfl (getS8 get0) (getS8 get2) rfl) (ht := (setS8 set3)) (hk := ?_); exact wEnd rfl)) (hk := ?_)
      refine Awp.cond rfl (fun hb4 => ?_) (fun hb4 => ?_)
      · have H := M.to_t hb4 H
        refine Awp.skip ?_
        refine hs3 _ ?_
        refine nT (hk := ?_)
        refine Awp.seq fun Khs5 hs5 => ?_
        refine Awp.block ?_
        obtain ⟨c6, H⟩ := M.to_chk.1 H
        refine wR (hx := by (refine sA (hq := Quiet.move rfl get7) (ht := (setS8 set6)) (hk := ?_); refine sA (hq := Quiet.move rfl get1) (ht := (setS8 set7)) (hk := ?_); refine sA (hq := Quiet.bin rfl (getS8 get6) (getS8 get7) rfl) (ht := (setS8 (setS8 set0))) (hk := ?_); refine sA (hq := Quiet.move rfl (getS8 (getS8 get0))) (ht := (setS8 (setS8 set1))) (hk := ?_); refine sG (g := (i1 != not)) (hg := gA_t rfl) (hq := fun hg => Quiet.move rfl get0) (ht := (setS8 (setS8 set2))) (hk := ?_); refine sG (g := (i1 != not)) (hg := gA_t rfl) (hq := fun hg => Quiet.move rfl get7) (ht := (setS8 (setS8 set3))) (hk := ?_); refine sG (g := (i1 != not)) (hg := gA_t rfl) (hq := fun hg => Quiet.ixM rfl ((getS8 (getS8 get2)).trans (cndT hg _ _)) ((getS8 (getS8 get3)).trans (cndT hg _ _)) rfl (imp_of c6 hg)) (ht := (setS8 (setS8 set4))) (hk := ?_); refine sG (g := (i1 != not)) (hg := gA_t rfl) (hq := fun hg => Quiet.fa_bp rfl ((getS8 (getS8 get4)).trans (cndT hg _ _))) (ht := (setS8 (setS8 set5))) (hk := ?_); refine sG (g := (i1 != not)) (hg := gA_t rfl) (hq := fun hg => Quiet.load_bp rfl ((getS8 (getS8 get5)).trans (cndT hg _ _)) rfl) (ht := (setS8 (setS8 set6))) (hk := ?_); refine sG (g := (i1 != not)) (hg := gA_t rfl) (hq := fun hg => Quiet.move rfl get2) (ht := (setS8 (setS8 set7))) (hk := ?_); refine sG (g := (i1 != not)) (hg := gA_t rfl) (hq := fun hg => Quiet.bin rfl ((getS8 (getS8 get6)).trans (cndT hg _ _)) ((getS8 (getS8 get7)).trans (cndT hg _ _)) rfl) (ht := (setS8 (setS8 (setS8 set0)))) (hk := ?_); refine sA (hq := Quiet.pickAndB rfl (getS8 (getS8 get1)) (getS8 (getS8 (getS8 get0))) getC) (ht := (setS8 (setS8 (setS8 set1)))) (hk := ?_); exact wEnd rfl)) (hk := ?_)
        refine Awp.cond rfl (fun hb7 => ?_) (fun hb7 => ?_)
        · have H := M.to_t hb7 H
          refine wR (hx := by (refine sA (hq := Quiet.assign rfl getC) (ht := set6) (hk := ?_); exact wEnd rfl)) (hk := ?_)
          have H := M.to_ok.2 (Hq2 _ (Hr2 _ (M.to_ok.1 H).symm).symm)
          obtain rfl := M.to_ok.1 H
          exact Awp.ret ⟨.inr rfl, Fin.cl rfl⟩
        · have H := M.to_f hb7 H
          refine Awp.skip ?_
          refine hs5 _ ?_
          refine nT (hk := ?_)
          refine wRE (hx := by (refine sA (hq := Quiet.move rfl get7) (ht := (setS8 set4)) (hk := ?_); refine sA (hq := Quiet.bin rfl (getS8 get4) getC rfl) (ht := (setS8 set5)) (hk := ?_); refine sA (hq := Quiet.assign rfl (getS8 get5)) (ht := set7) (hk := ?_); exact wEnd rfl)) (hk := ?_)
          have e2 := M.to_ok.1 H
          repeat (first | refine abN ?_ | refine asN ?_)
          refine athen_n ⟨_, (), e2.symm, ?_⟩
          try dsimp only
          exact le_TA
      · have H := M.to_f hb4 H
        refine Awp.exit ?_
        repeat (first | refine athen_e ?_ | refine exO (by decide) ?_ | refine asE ?_)
        refine exN ?_
        have e2 := Hr2 _ (M.to_ok.1 H).symm
        repeat (first | refine abN ?_ | refine asN ?_)
        refine athen_n ⟨(_, ()), e2.symm, ?_⟩
        try dsimp only
        exact le_TA
  · rintro ⟨_, _⟩ hz2
    try dsimp only at hz2
    have H := Hl2 _ hz2
    try dsimp only
    refine wR (hx := by (refine sA (hq := Quiet.assign rfl getC) (ht := set6) (hk := ?_); exact wEnd rfl)) (hk := ?_)
    obtain rfl := M.to_ok.1 H
    exact Awp.ret ⟨.inr rfl, Fin.cl rfl⟩
def r23_into_L4 (l : List Pair) (place : Int) : Int → M (Int ⊕ ((Unit) ⊕ (Bool))) := fun i1 => M.cnd (decide (i1 < (l.length : Int))) (M.chk (inBd l i1) (M.cnd (((ixD l i1).a) == place) (M.ok (.inr (.inr true))) (M.ok (.inl (IntKind.i64.wrap (i1 + 1)))))) (M.ok (.inr (.inl ())))
def r23_into (l : List Pair) (place : Int) : M Bool := M.els (M.loop (r23_into_L4 l place) 0) fun _ => M.ok false
set_option maxRecDepth 100000 in
set_option maxHeartbeats 4000000 in
theorem r23_into_l {l : List Pair} {place : Int} {r : Bool} (H : (r23_into l place).to r) : Fn Tryz.prog 24 [.bs tPair l, .lit (.int .i64 place)] (.lit (.bool r)) := by
  delta r23_into at H
  try dsimp only at H
  refine Fn.of_awp Tryz.func24 rfl (by kernel_rfl) rfl Tryz.ntmps24 fun C hC => ?_
  simp only [List.length_cons, List.length_nil, Nat.reduceAdd, Nat.reduceSub, List.replicate_succ, List.replicate_zero, List.cons_append, List.nil_append]
  refine wR (hx := by (refine sA (hq := Quiet.assign rfl getC) (ht := set4) (hk := ?_); exact wEnd rfl)) (hk := ?_)
  obtain ⟨z2, HX2, Hl2, Hq2⟩ := M.to_els H
  refine Awp.seqJ (β := (Unit) × (Unit)) (fun q2 => z2 = .inl q2.1) (fun q2 => ⟨[.any, .any, .any, .any, .any, .any, .any, .any, .any, .any, .any, .any, .any, .any, .any, .any, .any, .any, .any], []⟩) ?_ ?_
  · refine wR (hx := by (refine sA (hq := Quiet.assign rfl getC) (ht := set5) (hk := ?_); exact wEnd rfl)) (hk := ?_)
    refine Awp.block ?_
    refine Awp.loopM HX2 (fun s2 b2 => ⟨[.bs tPair l, .lit (.int .i64 place), .any, .any, .any, .lit (.int .i64 s2), .any, .any, .any, .any, .any, .any, .any, .any, .any, .any, .any, .any, .any], []⟩) () (?_) ?_
    · try dsimp only
      exact le_TA
    · rintro i1 _ x2 H Hr2
      try dsimp only
      dsimp only [r23_into_L4] at H
      refine Awp.seq fun Khs3 hs3 => ?_
      refine wR (hx := by (refine sA (hq := Quiet.move rfl get5) (ht := set6) (hk := ?_); refine sA (hq := Quiet.move rfl get0) (ht := set7) (hk := ?_); refine sA (hq := Quiet.ln rfl get7) (ht := (setS8 set0)) (hk := ?_); refine sA (hq := Quiet.bin rfl get6 (getS8 get0) rfl) (ht := (setS8 set1)) (hk := ?_); exact wEnd rfl)) (hk := ?_)
      refine Awp.cond rfl (fun hb4 => ?_) (fun hb4 => ?_)
      · have H := M.to_t hb4 H
        refine Awp.skip ?_
        refine hs3 _ ?_
        refine nT (hk := ?_)
        refine Awp.seq fun Khs5 hs5 => ?_
        refine Awp.block ?_
        obtain ⟨c6, H⟩ := M.to_chk.1 H
        refine wR (hx := by (refine sA (hq := Quiet.move rfl get0) (ht := (setS8 set4)) (hk := ?_); refine sA (hq := Quiet.move rfl get5) (ht := (setS8 set5)) (hk := ?_); refine sA (hq := Quiet.ixM rfl (getS8 get4) (getS8 get5) rfl c6) (ht := (setS8 set6)) (hk := ?_); refine sA (hq := Quiet.fa_bp rfl (getS8 get6)) (ht := (setS8 set7)) (hk := ?_); refine sA (hq := Quiet.load_bp rfl (getS8 get7) rfl) (ht := (setS8 (setS8 set0))) (hk := ?_); refine sA (hq := Quiet.move rfl get1) (ht := (setS8 (setS8 set1))) (hk := ?_); refine sA (hq := Quiet.bin rfl (getS8 (getS8 get0)) (getS8 (getS8 get1)) rfl) (ht := (setS8 (setS8 set2))) (hk := ?_); exact wEnd rfl)) (hk := ?_)
        refine Awp.cond rfl (fun hb7 => ?_) (fun hb7 => ?_)
        · have H := M.to_t hb7 H
          refine wR (hx := by (refine sA (hq := Quiet.assign rfl getC) (ht := set4) (hk := ?_); exact wEnd rfl)) (hk := ?_)
          have H := M.to_ok.2 (Hq2 _ (Hr2 _ (M.to_ok.1 H).symm).symm)
          obtain rfl := M.to_ok.1 H
          exact Awp.ret ⟨.inr rfl, Fin.cl rfl⟩
        · have H := M.to_f hb7 H
          refine Awp.skip ?_
          refine hs5 _ ?_
          refine nT (hk := ?_)
          refine wRE (hx := by (refine sA (hq := Quiet.move rfl get5) (ht := (setS8 set2)) (hk := ?_); refine sA (hq := Quiet.bin rfl (getS8 get2) getC rfl) (ht := (setS8 set3)) (hk := ?_); refine sA (hq := Quiet.assign rfl (getS8 get3)) (ht := set5) (hk := ?_); exact wEnd rfl)) (hk := ?_)
          have e2 := M.to_ok.1 H
          repeat (first | refine abN ?_ | refine asN ?_)
          refine athen_n ⟨_, (), e2.symm, ?_⟩
          try dsimp only
          exact le_TA
      · have H := M.to_f hb4 H
        refine Awp.exit ?_
        repeat (first | refine athen_e ?_ | refine exO (by decide) ?_ | refine asE ?_)
        refine exN ?_
        have e2 := Hr2 _ (M.to_ok.1 H).symm
        repeat (first | refine abN ?_ | refine asN ?_)
        refine athen_n ⟨(_, ()), e2.symm, ?_⟩
        try dsimp only
        exact le_TA
  · rintro ⟨_, _⟩ hz2
    try dsimp only at hz2
    have H := Hl2 _ hz2
    try dsimp only
    refine wR (hx := by (refine sA (hq := Quiet.assign rfl getC) (ht := set4) (hk := ?_); exact wEnd rfl)) (hk := ?_)
    obtain rfl := M.to_ok.1 H
    exact Awp.ret ⟨.inr rfl, Fin.cl rfl⟩
def r23_without (l : List Pair) (k : Int) : M (List Pair) := M.chk (slB l 0 k) (M.chk (rowB (([] : List Pair).length + (slD l 0 k).length) 16) (M.chk (slB l (IntKind.i64.wrap (k + 1)) (l.length : Int)) (M.chk (rowB ((([] : List Pair) ++ (slD l 0 k)).length + (slD l (IntKind.i64.wrap (k + 1)) (l.length : Int)).length) 16) (M.ok ((([] : List Pair) ++ (slD l 0 k)) ++ (slD l (IntKind.i64.wrap (k + 1)) (l.length : Int)))))))
set_option maxRecDepth 100000 in
set_option maxHeartbeats 4000000 in
theorem r23_without_l {l : List Pair} {k : Int} {r : List Pair} (H : (r23_without l k).to r) : FnOwn Tryz.prog 26 [.bs tPair l, .lit (.int .i64 k)] 28 tPair r := by
  delta r23_without at H
  try dsimp only at H
  refine FnOwn.of_awp Tryz.func26 rfl (by kernel_rfl) rfl Tryz.ntmps26 pair_flat1 fun C hC => ?_
  simp only [List.length_cons, List.length_nil, Nat.reduceAdd, Nat.reduceSub, List.replicate_succ, List.replicate_zero, List.cons_append, List.nil_append]
  refine wR (hx := by (refine sA (hq := Quiet.assign rfl getC) (ht := set4) (hk := ?_); exact wEnd rfl)) (hk := ?_)
  obtain ⟨c1, H⟩ := M.to_chk.1 H
  obtain ⟨c2, H⟩ := M.to_chk.1 H
  obtain ⟨c3, H⟩ := M.to_chk.1 H
  obtain ⟨c4, H⟩ := M.to_chk.1 H
  refine Awp.via ⟨[.bs tPair l, .lit (.int .i64 k), .any, .any, .lit (.slice none 0 0), .any, .any, .any, .any, .any, .any, .any, .any, .any, .any], [.dead]⟩ (St.le.trans le_TA (St.le_deads 1 rfl)) ?_
  refine Awp.seq fun Kg5 hg5 => ?_
  refine Awp.drawG (n := 11) (fun b => ⟨[.bs tPair l, .lit (.int .i64 k), .any, .any, (bif b 10 then .own 0 (0 + 1 + 1) else .lit (.slice none 0 0)), (bif b 0 then .own 0 0 else .any), (bif b 1 then .bs tPair l else .any), (bif b 2 then .lit (.int .i64 k) else .any), (bif b 3 then .bs tPair (slD l 0 k) else .any), (bif b 4 then .own 0 (0 + 1) else .any), (bif b 5 then .bs tPair l else .any), (bif b 6 then .lit (.int .i64 k) else .any), (bif b 7 then .lit (.int .i64 (IntKind.i64.wrap (k + 1))) else .any), (bif b 8 then .bs tPair (slD l (IntKind.i64.wrap (k + 1)) (l.length : Int)) else .any), (bif b 9 then .own 0 (0 + 1 + 1) else .any)], [(bif b 9 then .row (0 + 1 + 1) 28 tPair ((([] : List Pair) ++ (slD l 0 k)) ++ (slD l (IntKind.i64.wrap (k + 1)) (l.length : Int))) else (bif b 4 then .row (0 + 1) 28 tPair (([] : List Pair) ++ (slD l 0 k)) else (bif b 0 then .row 0 28 tPair ([] : List Pair) else .dead)))]⟩) rfl (by kernel_rfl) (by kernel_rfl) ?_ (hg5 _ ?_)
  · refine gS_cons (fun b hb ha hc => ?_) ?_
    · have h4 : b 4 = false := not_before hc (i := 0) (j := 4) (k := 0) rfl rfl rfl rfl hb
      have h9 : b 9 = false := not_before hc (i := 4) (j := 9) (k := 0) rfl rfl rfl rfl h4
      have h10 : b 10 = false := not_before hc (i := 0) (j := 10) (k := 2) rfl rfl rfl rfl hb
      have u4 : upd b 0 4 = false := h4
      have u9 : upd b 0 9 = false := h9
      try dsimp only
      refine AOp.litAt (T := tPair) 0 rfl (by decide) (congrArg some (((cndBF h9 _ _).trans (cndBF h4 _ _)).trans (cndBF hb _ _))) (by repeat (first | exact nrH_nil | refine nrH_cons rfl ?_ | refine nrH_cons (nrB_c rfl rfl) ?_ | refine nrH_cons (nrB_c rfl (nrB_c rfl rfl)) ?_ | refine nrH_cons (nrB_c rfl (nrB_c rfl (nrB_c rfl rfl))) ?_)) (by repeat (first | exact nrL_nil | refine nrL_cons rfl ?_ | refine nrL_cons (nr_f hb rfl) ?_ | refine nrL_cons (nr_f h4 rfl) ?_ | refine nrL_cons (nr_f h9 rfl) ?_ | refine nrL_cons (nr_f h10 rfl) ?_ | refine nrL_cons (nr_c rfl rfl) ?_)) ?_
      simp only [cndBF u4, cndBF u9]
      exact St.le.refl
    refine gS_cons (fun b hb ha hc => ?_) ?_
    · try dsimp only
      refine AOp.q (Quiet.move rfl get0) ?_
      exact St.le.refl
    refine gS_cons (fun b hb ha hc => ?_) ?_
    · try dsimp only
      refine AOp.q (Quiet.move rfl get1) ?_
      exact St.le.refl
    refine gS_cons (fun b hb ha hc => ?_) ?_
    · have h1 : b 1 = true := ha 0 _ rfl rfl
      have h2 : b 2 = true := ha 1 _ rfl rfl
      try dsimp only
      refine AOp.q (Quiet.slHM rfl (get6.trans (cndT h1 _ _)) rfl (get7.trans (cndT h2 _ _)) c1) ?_
      exact St.le.refl
    refine gS_cons (fun b hb ha hc => ?_) ?_
    · have h0 : b 0 = true := ha 0 _ rfl rfl
      have h3 : b 3 = true := ha 1 _ rfl rfl
      have h9 : b 9 = false := not_before hc (i := 4) (j := 9) (k := 0) rfl rfl rfl rfl hb
      have u9 : upd b 4 9 = false := h9
      try dsimp only
      refine AOp.appQ rfl (get5.trans (cndT h0 _ _)) (congrArg some (((cndBF h9 _ _).trans (cndBF hb _ _)).trans (cndBT h0 _ _))) ((getS8 get0).trans (cndT h3 _ _)) rfl c2 ?_
      simp only [cndBF u9]
      exact St.le.refl
    refine gS_cons (fun b hb ha hc => ?_) ?_
    · try dsimp only
      refine AOp.q (Quiet.move rfl get0) ?_
      exact St.le.refl
    refine gS_cons (fun b hb ha hc => ?_) ?_
    · try dsimp only
      refine AOp.q (Quiet.move rfl get1) ?_
      exact St.le.refl
    refine gS_cons (fun b hb ha hc => ?_) ?_
    · have h6 : b 6 = true := ha 0 _ rfl rfl
      try dsimp only
      refine AOp.q (Quiet.bin rfl ((getS8 get3).trans (cndT h6 _ _)) getC rfl) ?_
      exact St.le.refl
    refine gS_cons (fun b hb ha hc => ?_) ?_
    · have h5 : b 5 = true := ha 0 _ rfl rfl
      have h7 : b 7 = true := ha 1 _ rfl rfl
      try dsimp only
      refine AOp.q (Quiet.slLM rfl ((getS8 get2).trans (cndT h5 _ _)) rfl ((getS8 get4).trans (cndT h7 _ _)) c3) ?_
      exact St.le.refl
    refine gS_cons (fun b hb ha hc => ?_) ?_
    · have h4 : b 4 = true := ha 0 _ rfl rfl
      have h8 : b 8 = true := ha 1 _ rfl rfl
      try dsimp only
      refine AOp.appQ rfl ((getS8 get1).trans (cndT h4 _ _)) (congrArg some ((cndBF hb _ _).trans (cndBT h4 _ _))) ((getS8 get5).trans (cndT h8 _ _)) rfl c4 ?_
      exact St.le.refl
    refine gS_cons (fun b hb ha hc => ?_) ?_
    · have h9 : b 9 = true := ha 0 _ rfl rfl
      try dsimp only
      refine AOp.q (Quiet.assign rfl ((getS8 get6).trans (cndT h9 _ _))) ?_
      exact St.le.refl
    exact gS_nil
  · refine Awp.via ⟨[.bs tPair l, .lit (.int .i64 k), .any, .any, .own 0 (0 + 1 + 1), .own 0 0, .bs tPair l, .lit (.int .i64 k), .bs tPair (slD l 0 k), .own 0 (0 + 1), .bs tPair l, .lit (.int .i64 k), .lit (.int .i64 (IntKind.i64.wrap (k + 1))), .bs tPair (slD l (IntKind.i64.wrap (k + 1)) (l.length : Int)), .own 0 (0 + 1 + 1)], [.row (0 + 1 + 1) 28 tPair ((([] : List Pair) ++ (slD l 0 k)) ++ (slD l (IntKind.i64.wrap (k + 1)) (l.length : Int)))]⟩ St.le.refl ?_
    obtain rfl := M.to_ok.1 H
    exact Awp.ret ⟨.inr rfl, rfl, 0, 0 + 1 + 1, rfl, rfl⟩
def r23_AtOnce_L5 (l : List Pair) : (Int × (List Pair) × (List Pair)) → M ((Int × (List Pair) × (List Pair)) ⊕ ((List Pair))) := fun (i1, l3, l5) => M.cnd (decide (i1 < (l.length : Int))) (M.bnd (M.chk (inBd l i1) (M.bnd (r23_into l5 ((ixD l i1).a)) fun r17 => M.chk (!(!r17) || (inBd l i1)) (M.chk (!(!r17) || (inBd l i1)) (M.chk (!((!r17) && (((ixD l i1).a) != ((ixD l i1).b))) || (inBd l i1)) (M.chk (!(((!r17) && (((ixD l i1).a) != ((ixD l i1).b))) && (((ixD l i1).a) != 3)) || (inBd l i1)) (M.cnd ((((!r17) && (((ixD l i1).a) != ((ixD l i1).b))) && (((ixD l i1).a) != 3)) && (((ixD l i1).b) != 3)) (M.chk (inBd l i1) (M.chk (okPairB (ixD l i1)) (M.chk (rowB (l3.length + [ixD l i1].length) 16) (M.ok (l3 ++ [ixD l i1]))))) (M.ok l3))))))) fun l13 => M.chk (inBd l i1) (M.chk (okPairB (ixD l i1)) (M.chk (rowB (l5.length + [ixD l i1].length) 16) (M.ok (.inl (IntKind.i64.wrap (i1 + 1), l13, l5 ++ [ixD l i1])))))) (M.ok (.inr l3))
def r23_AtOnce_L23 (l30 : List Pair) : Int → M (Int ⊕ Int) := fun k38 => M.chk (!(decide (k38 < (l30.length : Int))) || (inBd l30 k38)) (M.bnd (M.whn (decide (k38 < (l30.length : Int))) false (r23_from l30 k38 ((ixD l30 k38).a))) fun r47 => M.cnd ((decide (k38 < (l30.length : Int))) && r47) (M.ok (.inl (IntKind.i64.wrap (k38 + 1)))) (M.ok (.inr k38)))
def r23_AtOnce_L36 (l30 : List Pair) : (Int × (List Pair)) → M ((Int × (List Pair)) ⊕ ((List Pair))) := fun (i58, l60) => M.cnd (decide (i58 < (l60.length : Int))) (M.bnd (M.chk (inBd l60 i58) (M.cnd (((ixD l60 i58).b) == ((ixD l30 0).a)) (M.chk (inBd l60 i58) (M.chk (okPairB ⟨(ixD l60 i58).a, 3⟩) (M.ok (l60.set (Int.toNat i58) ⟨(ixD l60 i58).a, 3⟩)))) (M.ok l60))) fun l69 => M.ok (.inl (IntKind.i64.wrap (i58 + 1), l69))) (M.ok (.inr l60))
def r23_AtOnce_L17 : ((List Pair) × (List Pair)) → M (((List Pair) × (List Pair)) ⊕ ((List Pair))) := fun (l30, l32) => M.cnd (decide ((l30.length : Int) > 0)) (M.bnd (M.loop (r23_AtOnce_L23 l30) 0) fun k42 => M.cnd (decide (k42 < (l30.length : Int))) (M.chk (inBd l30 k42) (M.chk (okPairB (ixD l30 k42)) (M.chk (rowB (l32.length + [ixD l30 k42].length) 16) (M.bnd (r23_without l30 k42) fun r54 => M.ok (.inl (r54, l32 ++ [ixD l30 k42])))))) (M.chk (inBd l30 0) (M.chk (okPairB ⟨3, (ixD l30 0).a⟩) (M.chk (rowB (l32.length + ([⟨3, (ixD l30 0).a⟩] : List Pair).length) 16) (M.bnd (M.loop (r23_AtOnce_L36 l30) (0, l30)) fun l64 => M.ok (.inl (l64, l32 ++ [⟨3, (ixD l30 0).a⟩]))))))) (M.ok (.inr l32))
def r23_AtOnce (l : List Pair) : M (List Pair) := M.bnd (M.loop (r23_AtOnce_L5 l) (0, [], [])) fun l8 => M.bnd (M.loop (r23_AtOnce_L17) (l8, [])) fun l35 => M.ok l35
set_option maxRecDepth 100000 in
set_option maxHeartbeats 4000000 in
theorem r23_AtOnce_l {l : List Pair} {r : List Pair} (H : (r23_AtOnce l).to r) : Fn Tryz.prog 9 [.bs tPair l] (.bs tPair r) := by
  delta r23_AtOnce at H
  try dsimp only at H
  refine Fn.of_awp Tryz.func9 rfl (by kernel_rfl) rfl Tryz.ntmps9 fun C hC => ?_
  simp only [List.length_cons, List.length_nil, Nat.reduceAdd, Nat.reduceSub, List.replicate_succ, List.replicate_zero, List.cons_append, List.nil_append]
  refine wR (hx := by (refine sA (hq := Quiet.assign rfl getC) (ht := set2) (hk := ?_); exact wEnd rfl)) (hk := ?_)
  refine wR (hx := by (refine sA (hq := Quiet.assign rfl getC) (ht := set3) (hk := ?_); refine sA (hq := Quiet.assign rfl getC) (ht := set4) (hk := ?_); refine sA (hq := Quiet.assign rfl getC) (ht := set5) (hk := ?_); exact wEnd rfl)) (hk := ?_)
  refine Awp.via _ (St.le_own 3 28 tPair rfl (by decide)) ?_
  refine Awp.via _ (St.le_own 4 28 tPair rfl (by decide)) ?_
  obtain ⟨z6, HX6, Hl6⟩ := M.to_bnd.1 H
  refine Awp.seqJ (β := ((List Pair)) × (Nat)) (fun q6 => z6 = q6.1) (fun q6 => ⟨.any :: .any :: .any :: .own 0 q6.2 :: .any :: .lit (.slice none 0 0) :: .any :: .any :: .any :: .any :: .any :: .any :: .any :: .any :: .any :: .any :: .any :: .any :: .any :: .any :: .any :: .any :: .any :: .any :: .any :: .any :: .any :: .any :: .any :: .any :: .any :: .any :: .any :: .any :: .any :: .any :: .any :: .any :: .any :: .any :: .any :: .any :: .any :: .any :: .any :: .any :: .any :: .any :: .any :: .any :: .any :: .any :: .any :: .any :: .any :: .any :: .any :: .any :: .any :: .any :: .any :: .any :: .any :: .any :: .any :: .any :: .any :: .any :: .any :: .any :: .any :: .any :: .any :: .any :: .any :: .any :: .any :: .any :: .any :: .any :: .any :: .any :: .any :: .any :: .any :: .any :: .any :: .any :: .any :: .any :: .any :: .any :: .any :: .any :: .any :: .any :: .any :: .any :: .any :: .any :: .any :: .any :: .any :: .any :: .any :: .any :: .any :: .any :: .any :: .any :: .any :: .any :: .any :: .any :: .any :: .any :: .any :: .any :: .any :: .any :: .any :: .any :: .any :: .any :: .any :: .any :: .any :: [], [.row q6.2 28 tPair q6.1, .dead]⟩) ?_ ?_
  · refine wR (hx := by (refine sA (hq := Quiet.assign rfl getC) (ht := set6) (hk := ?_); exact wEnd rfl)) (hk := ?_)
    refine Awp.block ?_
    refine Awp.loopM HX6 (fun s6 b6 => ⟨.bs tPair l :: .any :: .any :: .own 0 b6.1 :: .own 1 b6.2 :: .lit (.slice none 0 0) :: .lit (.int .i64 s6.1) :: .any :: .any :: .any :: .any :: .any :: .any :: .any :: .any :: .any :: .any :: .any :: .any :: .any :: .any :: .any :: .any :: .any :: .any :: .any :: .any :: .any :: .any :: .any :: .any :: .any :: .any :: .any :: .any :: .any :: .any :: .any :: .any :: .any :: .any :: .any :: .any :: .any :: .any :: .any :: .any :: .any :: .any :: .any :: .any :: .any :: .any :: .any :: .any :: .any :: .any :: .any :: .any :: .any :: .any :: .any :: .any :: .any :: .any :: .any :: .any :: .any :: .any :: .any :: .any :: .any :: .any :: .any :: .any :: .any :: .any :: .any :: .any :: .any :: .any :: .any :: .any :: .any :: .any :: .any :: .any :: .any :: .any :: .any :: .any :: .any :: .any :: .any :: .any :: .any :: .any :: .any :: .any :: .any :: .any :: .any :: .any :: .any :: .any :: .any :: .any :: .any :: .any :: .any :: .any :: .any :: .any :: .any :: .any :: .any :: .any :: .any :: .any :: .any :: .any :: .any :: .any :: .any :: .any :: .any :: .any :: [], [.row b6.1 28 tPair s6.2.1, .row b6.2 28 tPair s6.2.2]⟩) (0, 0) (?_) ?_
    · try dsimp only
      exact le_TA
    · rintro ⟨i1, l3, l5⟩ ⟨v2, v4⟩ x6 H Hr6
      try dsimp only
      dsimp only [r23_AtOnce_L5] at H
      refine Awp.seq fun Khs9 hs9 => ?_
      refine wR (hx := by (refine sA (hq := Quiet.move rfl get6) (ht := (setS8 set2)) (hk := ?_); refine sA (hq := Quiet.move rfl get0) (ht := (setS8 set3)) (hk := ?_); refine sA (hq := Quiet.ln rfl (getS8 get3)) (ht := (setS8 set4)) (hk := ?_); refine sA (hq := Quiet.bin rfl (getS8 get2) (getS8 get4) rfl) (ht := (setS8 set5)) (hk := ?_); exact wEnd rfl)) (hk := ?_)
      refine Awp.cond rfl (fun hb10 => ?_) (fun hb10 => ?_)
      · have H := M.to_t hb10 H
        refine Awp.skip ?_
        refine hs9 _ ?_
        refine nT (hk := ?_)
        refine Awp.seq fun Khs11 hs11 => ?_
        refine Awp.block ?_
        obtain ⟨z15, HX15, Hl15⟩ := M.to_bnd.1 H
        refine Awp.seqJ (β := ((List Pair)) × (Nat × Nat)) (fun q15 => z15 = q15.1) (fun q15 => ⟨.bs tPair l :: .any :: .any :: .own 0 q15.2.1 :: .own 1 q15.2.2 :: .lit (.slice none 0 0) :: .lit (.int .i64 i1) :: .any :: .any :: .any :: .any :: .any :: .any :: .any :: .any :: .any :: .any :: .any :: .any :: .any :: .any :: .any :: .any :: .any :: .any :: .any :: .any :: .any :: .any :: .any :: .any :: .any :: .any :: .any :: .any :: .any :: .any :: .any :: .any :: .any :: .any :: .any :: .any :: .any :: .any :: .any :: .any :: .any :: .any :: .any :: .any :: .any :: .any :: .any :: .any :: .any :: .any :: .any :: .any :: .any :: .any :: .any :: .any :: .any :: .any :: .any :: .any :: .any :: .any :: .any :: .any :: .any :: .any :: .any :: .any :: .any :: .any :: .any :: .any :: .any :: .any :: .any :: .any :: .any :: .any :: .any :: .any :: .any :: .any :: .any :: .any :: .any :: .any :: .any :: .any :: .any :: .any :: .any :: .any :: .any :: .any :: .any :: .any :: .any :: .any :: .any :: .any :: .any :: .any :: .any :: .any :: .any :: .any :: .any :: .any :: .any :: .any :: .any :: .any :: .any :: .any :: .any :: .any :: .any :: .any :: .any :: .any :: [], [.row q15.2.1 28 tPair q15.1, .row q15.2.2 28 tPair l5]⟩) ?_ ?_
        · have H := HX15
          obtain ⟨c16, H⟩ := M.to_chk.1 H
          obtain ⟨r17, k17, H⟩ := M.to_bnd.1 H
          have k17 := r23_into_l k17
          obtain ⟨c18, H⟩ := M.to_chk.1 H
          obtain ⟨c19, H⟩ := M.to_chk.1 H
          obtain ⟨c20, H⟩ := M.to_chk.1 H
          obtain ⟨c21, H⟩ := M.to_chk.1 H
          refine wD 37 (hq := by (refine qA (hq := Quiet.move rfl get4) (ht := (setS8 (setS8 set0))) (hk := ?_); refine qA (hq := Quiet.move rfl get0) (ht := (setS8 (setS8 set1))) (hk := ?_); refine qA (hq := Quiet.move rfl get6) (ht := (setS8 (setS8 set2))) (hk := ?_); refine qA (hq := Quiet.ixM rfl (getS8 (getS8 get1)) (getS8 (getS8 get2)) rfl c16) (ht := (setS8 (setS8 set3))) (hk := ?_); refine qA (hq := Quiet.fa_bp rfl (getS8 (getS8 get3))) (ht := (setS8 (setS8 set4))) (hk := ?_); refine qA (hq := Quiet.load_bp rfl (getS8 (getS8 get4)) rfl) (ht := (setS8 (setS8 set5))) (hk := ?_); refine qA (hq := Quiet.lend rfl k17 (.own rfl (.cl rfl .nil))) (ht := (setS8 (setS8 set6))) (hk := ?_); refine qA (hq := Quiet.bnot rfl (getS8 (getS8 get6))) (ht := (setS8 (setS8 set7))) (hk := ?_); refine qA (hq := Quiet.move rfl (getS8 (getS8 get7))) (ht := (setS8 (setS8 (setS8 set0)))) (hk := ?_); refine qG (g := (!r17)) (hg := gA_t rfl) (hq := fun hg => Quiet.move rfl get0) (ht := (setS8 (setS8 (setS8 set1)))) (hk := ?_); refine qG (g := (!r17)) (hg := gA_t rfl) (hq := fun hg => Quiet.move rfl get6) (ht := (setS8 (setS8 (setS8 set2)))) (hk := ?_); refine qG (g := (!r17)) (hg := gA_t rfl) (hq := fun hg => Quiet.ixM rfl ((getS8 (getS8 (getS8 get1))).trans (cndT hg _ _)) ((getS8 (getS8 (getS8 get2))).trans (cndT hg _ _)) rfl (imp_of c18 hg)) (ht := (setS8 (setS8 (setS8 set3)))) (hk := ?_); refine qG (g := (!r17)) (hg := gA_t rfl) (hq := fun hg => Quiet.fa_bp rfl ((getS8 (getS8 (getS8 get3))).trans (cndT hg _ _))) (ht := (setS8 (setS8 (setS8 set4)))) (hk := ?_); refine qG (g := (!r17)) (hg := gA_t rfl) (hq := fun hg => Quiet.load_bp rfl ((getS8 (getS8 (getS8 get4))).trans (cndT hg _ _)) rfl) (ht := (setS8 (setS8 (setS8 set5)))) (hk := ?_); refine qG (g := (!r17)) (hg := gA_t rfl) (hq := fun hg => Quiet.move rfl get0) (ht := (setS8 (setS8 (setS8 set6)))) (hk := ?_); refine qG (g := (!r17)) (hg := gA_t rfl) (hq := fun hg => Quiet.move rfl get6) (ht := (setS8 (setS8 (setS8 set7)))) (hk := ?_); refine qG (g := (!r17)) (hg := gA_t rfl) (hq := fun hg => Quiet.ixM rfl ((getS8 (getS8 (getS8 get6))).trans (cndT hg _ _)) ((getS8 (getS8 (getS8 get7))).trans (cndT hg _ _)) rfl (imp_of c19 hg)) (ht := (setS32 set0)) (hk := ?_); refine qG (g := (!r17)) (hg := gA_t rfl) (hq := fun hg => Quiet.fa_bp rfl ((getS32 get0).trans (cndT hg _ _))) (ht := (setS32 set1)) (hk := ?_); refine qG (g := (!r17)) (hg := gA_t rfl) (hq := fun hg => Quiet.load_bp rfl ((getS32 get1).trans (cndT hg _ _)) rfl) (ht := (setS32 set2)) (hk := ?_); refine qG (g := (!r17)) (hg := gA_t rfl) (hq := fun hg => Quiet.bin rfl ((getS8 (getS8 (getS8 get5))).trans (cndT hg _ _)) ((getS32 get2).trans (cndT hg _ _)) rfl) (ht := (setS32 set3)) (hk := ?_); refine qA (hq := Quiet.pickAndB rfl (getS8 (getS8 (getS8 get0))) (getS32 get3) getC) (ht := (setS32 set4)) (hk := ?_); refine qA (hq := Quiet.move rfl (getS32 get4)) (ht := (setS32 set5)) (hk := ?_); refine qG (g := ((!r17) && (((ixD l i1).a) != ((ixD l i1).b)))) (hg := gA_t rfl) (hq := fun hg => Quiet.move rfl get0) (ht := (setS32 set6)) (hk := ?_); refine qG (g := ((!r17) && (((ixD l i1).a) != ((ixD l i1).b)))) (hg := gA_t rfl) (hq := fun hg => Quiet.move rfl get6) (ht := (setS32 set7)) (hk := ?_); refine qG (g := ((!r17) && (((ixD l i1).a) != ((ixD l i1).b)))) (hg := gA_t rfl) (hq := fun hg => Quiet.ixM rfl ((getS32 get6).trans (cndT hg _ _)) ((getS32 get7).trans (cndT hg _ _)) rfl (imp_of c20 hg)) (ht := (setS32 (setS8 set0))) (hk := ?_); refine qG (g := ((!r17) && (((ixD l i1).a) != ((ixD l i1).b)))) (hg := gA_t rfl) (hq := fun hg => Quiet.fa_bp rfl ((getS32 (getS8 get0)).trans (cndT hg _ _))) (ht := (setS32 (setS8 set1))) (hk := ?_); refine qG (g := ((!r17) && (((ixD l i1).a) != ((ixD l i1).b)))) (hg := gA_t rfl) (hq := fun hg => Quiet.load_bp rfl ((getS32 (getS8 get1)).trans (cndT hg _ _)) rfl) (ht := (setS32 (setS8 set2))) (hk := ?_); refine qG (g := ((!r17) && (((ixD l i1).a) != ((ixD l i1).b)))) (hg := gA_t rfl) (hq := fun hg => Quiet.bin rfl ((getS32 (getS8 get2)).trans (cndT hg _ _)) getC rfl) (ht := (setS32 (setS8 set3))) (hk := ?_); refine qA (hq := Quiet.pickAndB rfl (getS32 get5) (getS32 (getS8 get3)) getC) (ht := (setS32 (setS8 set4))) (hk := ?_); refine qA (hq := Quiet.move rfl (getS32 (getS8 get4))) (ht := (setS32 (setS8 set5))) (hk := ?_); refine qG (g := (((!r17) && (((ixD l i1).a) != ((ixD l i1).b))) && (((ixD l i1).a) != 3))) (hg := gA_t rfl) (hq := fun hg => Quiet.move rfl get0) (ht := (setS32 (setS8 set6))) (hk := ?_); refine qG (g := (((!r17) && (((ixD l i1).a) != ((ixD l i1).b))) && (((ixD l i1).a) != 3))) (hg := gA_t rfl) (hq := fun hg => Quiet.move rfl get6) (ht := (setS32 (setS8 set7))) (hk := ?_); refine qG (g := (((!r17) && (((ixD l i1).a) != ((ixD l i1).b))) && (((ixD l i1).a) != 3))) (hg := gA_t rfl) (hq := fun hg => Quiet.ixM rfl ((getS32 (getS8 get6)).trans (cndT hg _ _)) ((getS32 (getS8 get7)).trans (cndT hg _ _)) rfl (imp_of c21 hg)) (ht := (setS32 (setS8 (setS8 set0)))) (hk := ?_); refine qG (g := (((!r17) && (((ixD l i1).a) != ((ixD l i1).b))) && (((ixD l i1).a) != 3))) (hg := gA_t rfl) (hq := fun hg => Quiet.fa_bp rfl ((getS32 (getS8 (getS8 get0))).trans (cndT hg _ _))) (ht := (setS32 (setS8 (setS8 set1)))) (hk := ?_); refine qG (g := (((!r17) && (((ixD l i1).a) != ((ixD l i1).b))) && (((ixD l i1).a) != 3))) (hg := gA_t rfl) (hq := fun hg => Quiet.load_bp rfl ((getS32 (getS8 (getS8 get1))).trans (cndT hg _ _)) rfl) (ht := (setS32 (setS8 (setS8 set2)))) (hk := ?_); refine qG (g := (((!r17) && (((ixD l i1).a) != ((ixD l i1).b))) && (((ixD l i1).a) != 3))) (hg := gA_t rfl) (hq := fun hg => Quiet.bin rfl ((getS32 (getS8 (getS8 get2))).trans (cndT hg _ _)) getC rfl) (ht := (setS32 (setS8 (setS8 set3)))) (hk := ?_); refine qA (hq := Quiet.pickAndB rfl (getS32 (getS8 get5)) (getS32 (getS8 (getS8 get3))) getC) (ht := (setS32 (setS8 (setS8 set4)))) (hk := ?_); exact qEnd rfl)) (hx := by (exact wEnd rfl)) (hk := ?_)
          refine Awp.cond rfl (fun hb22 => ?_) (fun hb22 => ?_)
          · have H := M.to_t hb22 H
            obtain ⟨c23, H⟩ := M.to_chk.1 H
            obtain ⟨c24, H⟩ := M.to_chk.1 H
            obtain ⟨c25, H⟩ := M.to_chk.1 H
            refine wRE (hx := by (refine sA (hq := Quiet.move rfl get3) (ht := (setS32 (setS8 (setS8 set5)))) (hk := ?_); refine sA (hq := Quiet.move rfl get0) (ht := (setS32 (setS8 (setS8 set6)))) (hk := ?_); refine sA (hq := Quiet.move rfl get6) (ht := (setS32 (setS8 (setS8 set7)))) (hk := ?_); refine sA (hq := Quiet.ixM rfl (getS32 (getS8 (getS8 get6))) (getS32 (getS8 (getS8 get7))) rfl c23) (ht := (setS32 (setS8 (setS8 (setS8 set0))))) (hk := ?_); refine sA (hq := Quiet.loadA_bp rfl (getS32 (getS8 (getS8 (getS8 get0)))) rfl) (ht := (setS32 (setS8 (setS8 (setS8 set1))))) (hk := ?_); refine sA (hq := Quiet.lt (xs := [.tmp 57]) (T := tPair) (ds := [ixD l i1]) rfl rfl rfl (by rfl) (by decide) (.cons (fit_Pair c24) .nil)) (ht := (setS32 (setS8 (setS8 (setS8 set2))))) (hk := ?_); (refine aSeq_t rfl (AOp.appQ rfl rfl rfl rfl rfl c25 ?_); refine sNtM (ht := (setS32 (setS8 (setS8 (setS8 set3))))) (hk := ?_)); refine sA (hq := Quiet.assign rfl (getS32 (getS8 (getS8 (getS8 get3))))) (ht := set3) (hk := ?_); exact wEnd rfl)) (hk := ?_)
            have e15 := M.to_ok.1 H
            repeat (first | refine abN ?_ | refine asN ?_)
            refine athen_n ⟨(_, (v2 + 1, v4)), e15.symm, ?_⟩
            try dsimp only
            exact le_TA
          · have H := M.to_f hb22 H
            refine Awp.skip ?_
            have e15 := M.to_ok.1 H
            repeat (first | refine abN ?_ | refine asN ?_)
            refine athen_n ⟨(_, (v2, v4)), e15.symm, ?_⟩
            try dsimp only
            exact le_TA
        · rintro ⟨l13, ⟨v12, v14⟩⟩ hz15
          try dsimp only at hz15
          have H := Hl15
          rw [hz15] at H
          try dsimp only
          obtain ⟨c26, H⟩ := M.to_chk.1 H
          obtain ⟨c27, H⟩ := M.to_chk.1 H
          obtain ⟨c28, H⟩ := M.to_chk.1 H
          refine wRE (hx := by (refine sA (hq := Quiet.move rfl get4) (ht := (setS32 (setS8 (setS8 (setS8 set4))))) (hk := ?_); refine sA (hq := Quiet.move rfl get0) (ht := (setS32 (setS8 (setS8 (setS8 set5))))) (hk := ?_); refine sA (hq := Quiet.move rfl get6) (ht := (setS32 (setS8 (setS8 (setS8 set6))))) (hk := ?_); refine sA (hq := Quiet.ixM rfl (getS32 (getS8 (getS8 (getS8 get5)))) (getS32 (getS8 (getS8 (getS8 get6)))) rfl c26) (ht := (setS32 (setS8 (setS8 (setS8 set7))))) (hk := ?_); refine sA (hq := Quiet.loadA_bp rfl (getS32 (getS8 (getS8 (getS8 get7)))) rfl) (ht := (setS32 (setS32 set0))) (hk := ?_); refine sA (hq := Quiet.lt (xs := [.tmp 64]) (T := tPair) (ds := [ixD l i1]) rfl rfl rfl (by rfl) (by decide) (.cons (fit_Pair c27) .nil)) (ht := (setS32 (setS32 set1))) (hk := ?_); (refine aSeq_t rfl (AOp.appQ rfl rfl rfl rfl rfl c28 ?_); refine sNtM (ht := (setS32 (setS32 set2))) (hk := ?_)); refine sA (hq := Quiet.assign rfl (getS32 (getS32 get2))) (ht := set4) (hk := ?_); exact wEnd rfl)) (hk := ?_)
          refine hs11 _ ?_
          refine nT (hk := ?_)
          refine wRE (hx := by (refine sA (hq := Quiet.move rfl get6) (ht := (setS8 set6)) (hk := ?_); refine sA (hq := Quiet.bin rfl (getS8 get6) getC rfl) (ht := (setS8 set7)) (hk := ?_); refine sA (hq := Quiet.assign rfl (getS8 get7)) (ht := set6) (hk := ?_); exact wEnd rfl)) (hk := ?_)
          have e6 := M.to_ok.1 H
          repeat (first | refine abN ?_ | refine asN ?_)
          refine athen_n ⟨_, (v12, v14 + 1), e6.symm, ?_⟩
          try dsimp only
          exact le_TA
      · have H := M.to_f hb10 H
        refine Awp.exit ?_
        repeat (first | refine athen_e ?_ | refine exO (by decide) ?_ | refine asE ?_)
        refine exN ?_
        have e6 := Hr6 _ (M.to_ok.1 H).symm
        repeat (first | refine abN ?_ | refine asN ?_)
        refine athen_n ⟨(_, v2), e6.symm, ?_⟩
        try dsimp only
        exact leC (Cut.cons (Cut.dead (Cut.nil _)))
  · rintro ⟨l8, v7⟩ hz6
    try dsimp only at hz6
    have H := Hl6
    rw [hz6] at H
    try dsimp only
    refine Awp.via _ (St.le_own 5 28 tPair rfl (by decide)) ?_
    obtain ⟨z33, HX33, Hl33⟩ := M.to_bnd.1 H
    refine Awp.seqJ (β := ((List Pair)) × (Nat)) (fun q33 => z33 = q33.1) (fun q33 => ⟨.any :: .any :: .any :: .any :: .any :: .own 2 q33.2 :: .any :: .any :: .any :: .any :: .any :: .any :: .any :: .any :: .any :: .any :: .any :: .any :: .any :: .any :: .any :: .any :: .any :: .any :: .any :: .any :: .any :: .any :: .any :: .any :: .any :: .any :: .any :: .any :: .any :: .any :: .any :: .any :: .any :: .any :: .any :: .any :: .any :: .any :: .any :: .any :: .any :: .any :: .any :: .any :: .any :: .any :: .any :: .any :: .any :: .any :: .any :: .any :: .any :: .any :: .any :: .any :: .any :: .any :: .any :: .any :: .any :: .any :: .any :: .any :: .any :: .any :: .any :: .any :: .any :: .any :: .any :: .any :: .any :: .any :: .any :: .any :: .any :: .any :: .any :: .any :: .any :: .any :: .any :: .any :: .any :: .any :: .any :: .any :: .any :: .any :: .any :: .any :: .any :: .any :: .any :: .any :: .any :: .any :: .any :: .any :: .any :: .any :: .any :: .any :: .any :: .any :: .any :: .any :: .any :: .any :: .any :: .any :: .any :: .any :: .any :: .any :: .any :: .any :: .any :: .any :: .any :: [], [.dead, .dead, .row q33.2 28 tPair q33.1]⟩) ?_ ?_
    · refine Awp.block ?_
      refine Awp.loopM HX33 (fun s33 b33 => ⟨.any :: .any :: .any :: .own 0 b33.1 :: .any :: .own 2 b33.2 :: .any :: .any :: .any :: .any :: .any :: .any :: .any :: .any :: .any :: .any :: .any :: .any :: .any :: .any :: .any :: .any :: .any :: .any :: .any :: .any :: .any :: .any :: .any :: .any :: .any :: .any :: .any :: .any :: .any :: .any :: .any :: .any :: .any :: .any :: .any :: .any :: .any :: .any :: .any :: .any :: .any :: .any :: .any :: .any :: .any :: .any :: .any :: .any :: .any :: .any :: .any :: .any :: .any :: .any :: .any :: .any :: .any :: .any :: .any :: .any :: .any :: .any :: .any :: .any :: .any :: .any :: .any :: .any :: .any :: .any :: .any :: .any :: .any :: .any :: .any :: .any :: .any :: .any :: .any :: .any :: .any :: .any :: .any :: .any :: .any :: .any :: .any :: .any :: .any :: .any :: .any :: .any :: .any :: .any :: .any :: .any :: .any :: .any :: .any :: .any :: .any :: .any :: .any :: .any :: .any :: .any :: .any :: .any :: .any :: .any :: .any :: .any :: .any :: .any :: .any :: .any :: .any :: .any :: .any :: .any :: .any :: [], [.row b33.1 28 tPair s33.1, .dead, .row b33.2 28 tPair s33.2]⟩) (v7, 0) (?_) ?_
      · try dsimp only
        exact le_TA
      · rintro ⟨l30, l32⟩ ⟨v29, v31⟩ x33 H Hr33
        try dsimp only
        dsimp only [r23_AtOnce_L17] at H
        refine Awp.seq fun Khs36 hs36 => ?_
        refine wR (hx := by (refine sA (hq := Quiet.move rfl get3) (ht := (setS32 (setS32 set3))) (hk := ?_); refine sA (hq := Quiet.lno rfl (getS32 (getS32 get3)) rfl) (ht := (setS32 (setS32 set4))) (hk := ?_); refine sA (hq := Quiet.bin rfl (getS32 (getS32 get4)) getC rfl) (ht := (setS32 (setS32 set5))) (hk := ?_); exact wEnd rfl)) (hk := ?_)
        refine Awp.cond rfl (fun hb37 => ?_) (fun hb37 => ?_)
        · have H := M.to_t hb37 H
          refine Awp.skip ?_
          refine hs36 _ ?_
          refine nT (hk := ?_)
          refine Awp.block ?_
          refine wR (hx := by (refine sA (hq := Quiet.assign rfl getC) (ht := set7) (hk := ?_); exact wEnd rfl)) (hk := ?_)
          obtain ⟨z41, HX41, Hl41⟩ := M.to_bnd.1 H
          refine Awp.seqJ (β := (Int) × (Nat × Nat)) (fun q41 => z41 = q41.1) (fun q41 => ⟨.any :: .any :: .any :: .own 0 q41.2.1 :: .any :: .own 2 q41.2.2 :: .any :: .lit (.int .i64 q41.1) :: .any :: .any :: .any :: .any :: .any :: .any :: .any :: .any :: .any :: .any :: .any :: .any :: .any :: .any :: .any :: .any :: .any :: .any :: .any :: .any :: .any :: .any :: .any :: .any :: .any :: .any :: .any :: .any :: .any :: .any :: .any :: .any :: .any :: .any :: .any :: .any :: .any :: .any :: .any :: .any :: .any :: .any :: .any :: .any :: .any :: .any :: .any :: .any :: .any :: .any :: .any :: .any :: .any :: .any :: .any :: .any :: .any :: .any :: .any :: .any :: .any :: .any :: .any :: .any :: .any :: .any :: .any :: .any :: .any :: .any :: .any :: .any :: .any :: .any :: .any :: .any :: .any :: .any :: .any :: .any :: .any :: .any :: .any :: .any :: .any :: .any :: .any :: .any :: .any :: .any :: .any :: .any :: .any :: .any :: .any :: .any :: .any :: .any :: .any :: .any :: .any :: .any :: .any :: .any :: .any :: .any :: .any :: .any :: .any :: .any :: .any :: .any :: .any :: .any :: .any :: .any :: .any :: .any :: .any :: [], [.row q41.2.1 28 tPair l30, .dead, .row q41.2.2 28 tPair l32]⟩) ?_ ?_
          · refine Awp.block ?_
            refine Awp.loopM HX41 (fun s41 b41 => ⟨.any :: .any :: .any :: .own 0 b41.1 :: .any :: .own 2 b41.2 :: .any :: .lit (.int .i64 s41) :: .any :: .any :: .any :: .any :: .any :: .any :: .any :: .any :: .any :: .any :: .any :: .any :: .any :: .any :: .any :: .any :: .any :: .any :: .any :: .any :: .any :: .any :: .any :: .any :: .any :: .any :: .any :: .any :: .any :: .any :: .any :: .any :: .any :: .any :: .any :: .any :: .any :: .any :: .any :: .any :: .any :: .any :: .any :: .any :: .any :: .any :: .any :: .any :: .any :: .any :: .any :: .any :: .any :: .any :: .any :: .any :: .any :: .any :: .any :: .any :: .any :: .any :: .any :: .any :: .any :: .any :: .any :: .any :: .any :: .any :: .any :: .any :: .any :: .any :: .any :: .any :: .any :: .any :: .any :: .any :: .any :: .any :: .any :: .any :: .any :: .any :: .any :: .any :: .any :: .any :: .any :: .any :: .any :: .any :: .any :: .any :: .any :: .any :: .any :: .any :: .any :: .any :: .any :: .any :: .any :: .any :: .any :: .any :: .any :: .any :: .any :: .any :: .any :: .any :: .any :: .any :: .any :: .any :: .any :: [], [.row b41.1 28 tPair l30, .dead, .row b41.2 28 tPair l32]⟩) (v29, v31) (?_) ?_
            · try dsimp only
              exact le_TA
            · rintro k38 ⟨v39, v40⟩ x41 H Hr41
              try dsimp only
              dsimp only [r23_AtOnce_L23] at H
              refine Awp.seq fun Khs45 hs45 => ?_
              obtain ⟨c46, H⟩ := M.to_chk.1 H
              obtain ⟨r47, k47, H⟩ := M.to_bnd.1 H
              refine wR (hx := by (refine sA (hq := Quiet.move rfl get7) (ht := (setS32 (setS32 set6))) (hk := ?_); refine sA (hq := Quiet.move rfl get3) (ht := (setS32 (setS32 set7))) (hk := ?_); refine sA (hq := Quiet.lno rfl (getS32 (getS32 get7)) rfl) (ht := (setS32 (setS32 (setS8 set0)))) (hk := ?_); refine sA (hq := Quiet.bin rfl (getS32 (getS32 get6)) (getS32 (getS32 (getS8 get0))) rfl) (ht := (setS32 (setS32 (setS8 set1)))) (hk := ?_); refine sA (hq := Quiet.move rfl (getS32 (getS32 (getS8 get1)))) (ht := (setS32 (setS32 (setS8 set2)))) (hk := ?_); refine sG (g := (decide (k38 < (l30.length : Int)))) (hg := gA_t rfl) (hq := fun hg => Quiet.move rfl get3) (ht := (setS32 (setS32 (setS8 set3)))) (hk := ?_); refine sG (g := (decide (k38 < (l30.length : Int)))) (hg := gA_t rfl) (hq := fun hg => Quiet.move rfl get7) (ht := (setS32 (setS32 (setS8 set4)))) (hk := ?_); refine sG (g := (decide (k38 < (l30.length : Int)))) (hg := gA_t rfl) (hq := fun hg => Quiet.move rfl get3) (ht := (setS32 (setS32 (setS8 set5)))) (hk := ?_); refine sG (g := (decide (k38 < (l30.length : Int)))) (hg := gA_t rfl) (hq := fun hg => Quiet.move rfl get7) (ht := (setS32 (setS32 (setS8 set6)))) (hk := ?_); refine sG (g := (decide (k38 < (l30.length : Int)))) (hg := gA_t rfl) (hq := fun hg => Quiet.ixoM rfl ((getS32 (getS32 (getS8 get5))).trans (cndT hg _ _)) rfl ((getS32 (getS32 (getS8 get6))).trans (cndT hg _ _)) rfl (imp_of c46 hg)) (ht := (setS32 (setS32 (setS8 set7)))) (hk := ?_); refine sG (g := (decide (k38 < (l30.length : Int)))) (hg := gA_t rfl) (hq := fun hg => Quiet.fa_rp rfl ((getS32 (getS32 (getS8 get7))).trans (cndT hg _ _)) rfl) (ht := (setS32 (setS32 (setS8 (setS8 set0))))) (hk := ?_); refine sG (g := (decide (k38 < (l30.length : Int)))) (hg := gA_t rfl) (hq := fun hg => Quiet.load_rp rfl ((getS32 (getS32 (getS8 (getS8 get0)))).trans (cndT hg _ _)) rfl (inB_get (imp_of c46 hg)) rfl) (ht := (setS32 (setS32 (setS8 (setS8 set1))))) (hk := ?_); refine sG (g := (decide (k38 < (l30.length : Int)))) (hg := gA_t rfl) (hq := fun hg => by ((try simp only [cndT hg]); (try simp only [cndA hg]); exact Quiet.callAW rfl (r23_from_l (M.to_whn k47 hg)) (.cons (.own rfl) (.cons (.cl rfl) (.cons (.cl rfl) .nil))))) (ht := (setS32 (setS32 (setS8 (setS8 set2))))) (hk := ?_); refine sA (hq := Quiet.pickAndB rfl (getS32 (getS32 (getS8 get2))) (getS32 (getS32 (getS8 (getS8 get2)))) getC) (ht := (setS32 (setS32 (setS8 (setS8 set3))))) (hk := ?_); exact wEnd rfl)) (hk := ?_)
              refine Awp.cond rfl (fun hb48 => ?_) (fun hb48 => ?_)
              · have H := M.to_t hb48 H
                refine Awp.skip ?_
                refine hs45 _ ?_
                refine nT (hk := ?_)
                refine Awp.block ?_
                refine wRE (hx := by (refine sA (hq := Quiet.move rfl get7) (ht := (setS32 (setS32 (setS8 (setS8 set4))))) (hk := ?_); refine sA (hq := Quiet.bin rfl (getS32 (getS32 (getS8 (getS8 get4)))) getC rfl) (ht := (setS32 (setS32 (setS8 (setS8 set5))))) (hk := ?_); refine sA (hq := Quiet.assign rfl (getS32 (getS32 (getS8 (getS8 get5))))) (ht := set7) (hk := ?_); exact wEnd rfl)) (hk := ?_)
                have e41 := M.to_ok.1 H
                repeat (first | refine abN ?_ | refine asN ?_)
                refine athen_n ⟨_, (v39, v40), e41.symm, ?_⟩
                try dsimp only
                exact le_TA
              · have H := M.to_f hb48 H
                refine Awp.exit ?_
                repeat (first | refine athen_e ?_ | refine exO (by decide) ?_ | refine asE ?_)
                refine exN ?_
                have e41 := Hr41 _ (M.to_ok.1 H).symm
                repeat (first | refine abN ?_ | refine asN ?_)
                refine athen_n ⟨(_, (v39, v40)), e41.symm, ?_⟩
                try dsimp only
                exact le_TA
          · rintro ⟨k42, ⟨v43, v44⟩⟩ hz41
            try dsimp only at hz41
            have H := Hl41
            rw [hz41] at H
            try dsimp only
            refine Awp.seq fun Khs49 hs49 => ?_
            refine wR (hx := by (refine sA (hq := Quiet.move rfl get7) (ht := (setS32 (setS32 (setS8 (setS8 set6))))) (hk := ?_); refine sA (hq := Quiet.move rfl get3) (ht := (setS32 (setS32 (setS8 (setS8 set7))))) (hk := ?_); refine sA (hq := Quiet.lno rfl (getS32 (getS32 (getS8 (getS8 get7)))) rfl) (ht := (setS32 (setS32 (setS8 (setS8 (setS8 set0)))))) (hk := ?_); refine sA (hq := Quiet.bin rfl (getS32 (getS32 (getS8 (getS8 get6)))) (getS32 (getS32 (getS8 (getS8 (getS8 get0))))) rfl) (ht := (setS32 (setS32 (setS8 (setS8 (setS8 set1)))))) (hk := ?_); exact wEnd rfl)) (hk := ?_)
            refine Awp.cond rfl (fun hb50 => ?_) (fun hb50 => ?_)
            · have H := M.to_t hb50 H
              obtain ⟨c51, H⟩ := M.to_chk.1 H
              obtain ⟨c52, H⟩ := M.to_chk.1 H
              obtain ⟨c53, H⟩ := M.to_chk.1 H
              refine wR (hx := by (refine sA (hq := Quiet.move rfl get5) (ht := (setS32 (setS32 (setS8 (setS8 (setS8 set2)))))) (hk := ?_); refine sA (hq := Quiet.move rfl get3) (ht := (setS32 (setS32 (setS8 (setS8 (setS8 set3)))))) (hk := ?_); refine sA (hq := Quiet.move rfl get7) (ht := (setS32 (setS32 (setS8 (setS8 (setS8 set4)))))) (hk := ?_); refine sA (hq := Quiet.ixoM rfl (getS32 (getS32 (getS8 (getS8 (getS8 get3))))) rfl (getS32 (getS32 (getS8 (getS8 (getS8 get4))))) rfl c51) (ht := (setS32 (setS32 (setS8 (setS8 (setS8 set5)))))) (hk := ?_); refine sA (hq := Quiet.loadA_rp rfl (getS32 (getS32 (getS8 (getS8 (getS8 get5))))) rfl (inB_get c51) rfl) (ht := (setS32 (setS32 (setS8 (setS8 (setS8 set6)))))) (hk := ?_); refine sA (hq := Quiet.lt (xs := [.tmp 94]) (T := tPair) (ds := [ixD l30 k42]) rfl rfl rfl (by rfl) (by decide) (.cons (fit_Pair c52) .nil)) (ht := (setS32 (setS32 (setS8 (setS8 (setS8 set7)))))) (hk := ?_); (refine aSeq_t rfl (AOp.appQ rfl rfl rfl rfl rfl c53 ?_); refine sNtM (ht := (setS32 (setS32 (setS32 set0)))) (hk := ?_)); refine sA (hq := Quiet.assign rfl (getS32 (getS32 (getS32 get0)))) (ht := set5) (hk := ?_); exact wEnd rfl)) (hk := ?_)
              obtain ⟨r54, k54, H⟩ := M.to_bnd.1 H
              have k54 := r23_without_l k54
              refine wR (hx := by (refine sA (hq := Quiet.move rfl get3) (ht := (setS32 (setS32 (setS32 set1)))) (hk := ?_); refine sA (hq := Quiet.move rfl get7) (ht := (setS32 (setS32 (setS32 set2)))) (hk := ?_); (refine aSeq_t rfl (AOp.callOwnI 3 rfl rfl k54 (by decide) pair_flat1 (.cons (.own rfl) (.cons (.cl rfl) .nil)) ?_); refine sNtM (ht := (setS32 (setS32 (setS32 set3)))) (hk := ?_)); refine sA (hq := Quiet.assign rfl (getS32 (getS32 (getS32 get3)))) (ht := set3) (hk := ?_); exact wEnd rfl)) (hk := ?_)
              refine Awp.exit ?_
              repeat (first | refine athen_e ?_ | refine exO (by decide) ?_ | refine asE ?_)
              refine exN ?_
              have e33 := M.to_ok.1 H
              repeat (first | refine abN ?_ | refine asN ?_)
              refine athen_n ⟨_, (0, v44 + 1), e33.symm, ?_⟩
              try dsimp only
              refine (St.le_mv 0 3 (ver' := 0) (t' := .any :: .any :: .any :: .own 0 0 :: .any :: .own 2 (v44 + 1) :: .any :: .lit (.int .i64 k42) :: .any :: .any :: .any :: .any :: .any :: .any :: .any :: .any :: .any :: .any :: .any :: .any :: .any :: .any :: .any :: .any :: .any :: .any :: .any :: .any :: .any :: .any :: .any :: .any :: .any :: .any :: .any :: .any :: .any :: .any :: .any :: .any :: .any :: .any :: .any :: .any :: .any :: .any :: .any :: .any :: .any :: .any :: .any :: .any :: .any :: .any :: .any :: .any :: .any :: .any :: .any :: .any :: .any :: .any :: .any :: .any :: .any :: .any :: .any :: .any :: .any :: .any :: .any :: .any :: .any :: .any :: .any :: .any :: .any :: .any :: .any :: .any :: .any :: .any :: .any :: .any :: .any :: .any :: .lit (.int .i64 k42) :: .any :: .lit (.int .i64 (l30.length : Int)) :: .lit (.bool (decide (k42 < (l30.length : Int)))) :: .own 2 v44 :: .any :: .lit (.int .i64 k42) :: .any :: .agg (encPair (ixD l30 k42)) :: .bs tPair [ixD l30 k42] :: .own 2 (v44 + 1) :: .any :: .lit (.int .i64 k42) :: .own 0 0 :: .any :: .any :: .any :: .any :: .any :: .any :: .any :: .any :: .any :: .any :: .any :: .any :: .any :: .any :: .any :: .any :: .any :: .any :: .any :: .any :: .any :: .any :: .any :: .any :: .any :: .any :: .any :: []) (by decide) rfl rfl (Nat.le_of_ble_eq_true rfl) rfl (by repeat (first | exact Mv.nil | refine Mv.own ?_ | refine Mv.keep rfl rfl ?_ | refine Mv.any ?_))).trans ?_
              exact leC (Cut.cons (Cut.cons (Cut.cons (Cut.nil _))))
            · have H := M.to_f hb50 H
              refine Awp.skip ?_
              refine hs49 _ ?_
              refine nT (hk := ?_)
              obtain ⟨c55, H⟩ := M.to_chk.1 H
              refine wR (hx := by (refine sA (hq := Quiet.move rfl get3) (ht := (setS32 (setS32 (setS32 set4)))) (hk := ?_); refine sA (hq := Quiet.ixoM rfl (getS32 (getS32 (getS32 get4))) rfl getC rfl c55) (ht := (setS32 (setS32 (setS32 set5)))) (hk := ?_); refine sA (hq := Quiet.fa_rp rfl (getS32 (getS32 (getS32 get5))) rfl) (ht := (setS32 (setS32 (setS32 set6)))) (hk := ?_); refine sA (hq := Quiet.load_rp rfl (getS32 (getS32 (getS32 get6))) rfl (inB_get c55) rfl) (ht := (setS32 (setS32 (setS32 set7)))) (hk := ?_); refine sA (hq := Quiet.assign rfl (getS32 (getS32 (getS32 get7)))) (ht := (setS8 set0)) (hk := ?_); exact wEnd rfl)) (hk := ?_)
              obtain ⟨c56, H⟩ := M.to_chk.1 H
              obtain ⟨c57, H⟩ := M.to_chk.1 H
              refine wR (hx := by (refine sA (hq := Quiet.move rfl get5) (ht := (setS32 (setS32 (setS32 (setS8 set0))))) (hk := ?_); refine sA (hq := Quiet.move rfl (getS8 get0)) (ht := (setS32 (setS32 (setS32 (setS8 set1))))) (hk := ?_); refine sA (hq := Quiet.bldP (rs := [.lit (.int .i64 3), .lit (.int .i64 ((ixD l30 0).a))]) rfl plPair rfl rfl) (ht := (setS32 (setS32 (setS32 (setS8 set2))))) (hk := ?_); refine sA (hq := Quiet.lt (xs := [.tmp 106]) (T := tPair) (ds := [⟨3, (ixD l30 0).a⟩]) rfl rfl rfl (by rfl) (by decide) (.cons (fit_Pair c56) .nil)) (ht := (setS32 (setS32 (setS32 (setS8 set3))))) (hk := ?_); (refine aSeq_t rfl (AOp.appQ rfl rfl rfl rfl rfl c57 ?_); refine sNtM (ht := (setS32 (setS32 (setS32 (setS8 set4))))) (hk := ?_)); refine sA (hq := Quiet.assign rfl (getS32 (getS32 (getS32 (getS8 get4))))) (ht := set5) (hk := ?_); exact wEnd rfl)) (hk := ?_)
              refine wR (hx := by (refine sA (hq := Quiet.assign rfl getC) (ht := (setS8 set1)) (hk := ?_); exact wEnd rfl)) (hk := ?_)
              obtain ⟨z62, HX62, Hl62⟩ := M.to_bnd.1 H
              refine Awp.tailJ (β := ((List Pair)) × (Nat × Nat)) (fun q62 => z62 = q62.1) (fun q62 => ⟨.any :: .any :: .any :: .own 0 q62.2.1 :: .any :: .own 2 q62.2.2 :: .any :: .any :: .any :: .any :: .any :: .any :: .any :: .any :: .any :: .any :: .any :: .any :: .any :: .any :: .any :: .any :: .any :: .any :: .any :: .any :: .any :: .any :: .any :: .any :: .any :: .any :: .any :: .any :: .any :: .any :: .any :: .any :: .any :: .any :: .any :: .any :: .any :: .any :: .any :: .any :: .any :: .any :: .any :: .any :: .any :: .any :: .any :: .any :: .any :: .any :: .any :: .any :: .any :: .any :: .any :: .any :: .any :: .any :: .any :: .any :: .any :: .any :: .any :: .any :: .any :: .any :: .any :: .any :: .any :: .any :: .any :: .any :: .any :: .any :: .any :: .any :: .any :: .any :: .any :: .any :: .any :: .any :: .any :: .any :: .any :: .any :: .any :: .any :: .any :: .any :: .any :: .any :: .any :: .any :: .any :: .any :: .any :: .any :: .any :: .any :: .any :: .any :: .any :: .any :: .any :: .any :: .any :: .any :: .any :: .any :: .any :: .any :: .any :: .any :: .any :: .any :: .any :: .any :: .any :: .any :: .any :: [], [.row q62.2.1 28 tPair q62.1, .dead, .row q62.2.2 28 tPair (l32 ++ [⟨3, (ixD l30 0).a⟩])]⟩) ?_ ?_
              · refine Awp.block ?_
                refine Awp.loopM HX62 (fun s62 b62 => ⟨.any :: .any :: .any :: .own 0 b62.1 :: .any :: .own 2 b62.2 :: .any :: .any :: .lit (.int .i64 ((ixD l30 0).a)) :: .lit (.int .i64 s62.1) :: .any :: .any :: .any :: .any :: .any :: .any :: .any :: .any :: .any :: .any :: .any :: .any :: .any :: .any :: .any :: .any :: .any :: .any :: .any :: .any :: .any :: .any :: .any :: .any :: .any :: .any :: .any :: .any :: .any :: .any :: .any :: .any :: .any :: .any :: .any :: .any :: .any :: .any :: .any :: .any :: .any :: .any :: .any :: .any :: .any :: .any :: .any :: .any :: .any :: .any :: .any :: .any :: .any :: .any :: .any :: .any :: .any :: .any :: .any :: .any :: .any :: .any :: .any :: .any :: .any :: .any :: .any :: .any :: .any :: .any :: .any :: .any :: .any :: .any :: .any :: .any :: .any :: .any :: .any :: .any :: .any :: .any :: .any :: .any :: .any :: .any :: .any :: .any :: .any :: .any :: .any :: .any :: .any :: .any :: .any :: .any :: .any :: .any :: .any :: .any :: .any :: .any :: .any :: .any :: .any :: .any :: .any :: .any :: .any :: .any :: .any :: .any :: .any :: .any :: .any :: .any :: .any :: [], [.row b62.1 28 tPair s62.2, .dead, .row b62.2 28 tPair (l32 ++ [⟨3, (ixD l30 0).a⟩])]⟩) (v43, v44 + 1) (?_) ?_
                · try dsimp only
                  exact le_TA
                · rintro ⟨i58, l60⟩ ⟨v59, v61⟩ x62 H Hr62
                  try dsimp only
                  dsimp only [r23_AtOnce_L36] at H
                  refine Awp.seq fun Khs66 hs66 => ?_
                  refine wR (hx := by (refine sA (hq := Quiet.move rfl (getS8 get1)) (ht := (setS32 (setS32 (setS32 (setS8 set5))))) (hk := ?_); refine sA (hq := Quiet.move rfl get3) (ht := (setS32 (setS32 (setS32 (setS8 set6))))) (hk := ?_); refine sA (hq := Quiet.lno rfl (getS32 (getS32 (getS32 (getS8 get6)))) rfl) (ht := (setS32 (setS32 (setS32 (setS8 set7))))) (hk := ?_); refine sA (hq := Quiet.bin rfl (getS32 (getS32 (getS32 (getS8 get5)))) (getS32 (getS32 (getS32 (getS8 get7)))) rfl) (ht := (setS32 (setS32 (setS32 (setS8 (setS8 set0)))))) (hk := ?_); exact wEnd rfl)) (hk := ?_)
                  refine Awp.cond rfl (fun hb67 => ?_) (fun hb67 => ?_)
                  · have H := M.to_t hb67 H
                    refine Awp.skip ?_
                    refine hs66 _ ?_
                    refine nT (hk := ?_)
                    obtain ⟨z71, HX71, Hl71⟩ := M.to_bnd.1 H
                    refine Awp.seqJ (β := ((List Pair)) × (Nat × Nat)) (fun q71 => z71 = q71.1) (fun q71 => ⟨.any :: .any :: .any :: .own 0 q71.2.1 :: .any :: .own 2 q71.2.2 :: .any :: .any :: .lit (.int .i64 ((ixD l30 0).a)) :: .lit (.int .i64 i58) :: .any :: .any :: .any :: .any :: .any :: .any :: .any :: .any :: .any :: .any :: .any :: .any :: .any :: .any :: .any :: .any :: .any :: .any :: .any :: .any :: .any :: .any :: .any :: .any :: .any :: .any :: .any :: .any :: .any :: .any :: .any :: .any :: .any :: .any :: .any :: .any :: .any :: .any :: .any :: .any :: .any :: .any :: .any :: .any :: .any :: .any :: .any :: .any :: .any :: .any :: .any :: .any :: .any :: .any :: .any :: .any :: .any :: .any :: .any :: .any :: .any :: .any :: .any :: .any :: .any :: .any :: .any :: .any :: .any :: .any :: .any :: .any :: .any :: .any :: .any :: .any :: .any :: .any :: .any :: .any :: .any :: .any :: .any :: .any :: .any :: .any :: .any :: .any :: .any :: .any :: .any :: .any :: .any :: .any :: .any :: .any :: .any :: .any :: .any :: .any :: .any :: .any :: .any :: .any :: .any :: .any :: .any :: .any :: .any :: .any :: .any :: .any :: .any :: .any :: .any :: .any :: .any :: [], [.row q71.2.1 28 tPair q71.1, .dead, .row q71.2.2 28 tPair (l32 ++ [⟨3, (ixD l30 0).a⟩])]⟩) ?_ ?_
                    · have H := HX71
                      refine Awp.block ?_
                      obtain ⟨c72, H⟩ := M.to_chk.1 H
                      refine wR (hx := by (refine sA (hq := Quiet.move rfl get3) (ht := (setS32 (setS32 (setS32 (setS8 (setS8 set3)))))) (hk := ?_); refine sA (hq := Quiet.move rfl (getS8 get1)) (ht := (setS32 (setS32 (setS32 (setS8 (setS8 set4)))))) (hk := ?_); refine sA (hq := Quiet.ixoM rfl (getS32 (getS32 (getS32 (getS8 (getS8 get3))))) rfl (getS32 (getS32 (getS32 (getS8 (getS8 get4))))) rfl c72) (ht := (setS32 (setS32 (setS32 (setS8 (setS8 set5)))))) (hk := ?_); refine sA (hq := Quiet.fa_rp rfl (getS32 (getS32 (getS32 (getS8 (getS8 get5))))) rfl) (ht := (setS32 (setS32 (setS32 (setS8 (setS8 set6)))))) (hk := ?_); refine sA (hq := Quiet.load_rp rfl (getS32 (getS32 (getS32 (getS8 (getS8 get6))))) rfl (inB_get c72) rfl) (ht := (setS32 (setS32 (setS32 (setS8 (setS8 set7)))))) (hk := ?_); refine sA (hq := Quiet.move rfl (getS8 get0)) (ht := (setS32 (setS32 (setS32 (setS8 (setS8 (setS8 set0))))))) (hk := ?_); refine sA (hq := Quiet.bin rfl (getS32 (getS32 (getS32 (getS8 (getS8 get7))))) (getS32 (getS32 (getS32 (getS8 (getS8 (getS8 get0)))))) rfl) (ht := (setS32 (setS32 (setS32 (setS8 (setS8 (setS8 set1))))))) (hk := ?_); exact wEnd rfl)) (hk := ?_)
                      refine Awp.cond rfl (fun hb73 => ?_) (fun hb73 => ?_)
                      · have H := M.to_t hb73 H
                        obtain ⟨c74, H⟩ := M.to_chk.1 H
                        obtain ⟨c75, H⟩ := M.to_chk.1 H
                        refine wRE (hx := by (refine sA (hq := Quiet.move rfl get3) (ht := (setS32 (setS32 (setS32 (setS8 (setS8 (setS8 set2))))))) (hk := ?_); refine sA (hq := Quiet.move rfl (getS8 get1)) (ht := (setS32 (setS32 (setS32 (setS8 (setS8 (setS8 set3))))))) (hk := ?_); refine sA (hq := Quiet.ixoM rfl (getS32 (getS32 (getS32 (getS8 (getS8 (getS8 get2)))))) rfl (getS32 (getS32 (getS32 (getS8 (getS8 (getS8 get3)))))) rfl c74) (ht := (setS32 (setS32 (setS32 (setS8 (setS8 (setS8 set4))))))) (hk := ?_); refine sA (hq := Quiet.fa_rp rfl (getS32 (getS32 (getS32 (getS8 (getS8 (getS8 get4)))))) rfl) (ht := (setS32 (setS32 (setS32 (setS8 (setS8 (setS8 set5))))))) (hk := ?_); (refine aSeq_t rfl (AOp.stFld ⟨(ixD l60 i58).a, 3⟩ rfl rfl rfl rfl (inB_get c74) rfl rfl (by decide) rfl (fun _ _ _ hr => put_Pair (okPairB_ok c75) hr) ?_); refine sNtM (ht := setN) (hk := ?_)); exact wEnd rfl)) (hk := ?_)
                        have e71 := M.to_ok.1 H
                        repeat (first | refine abN ?_ | refine asN ?_)
                        refine athen_n ⟨(_, (v59, v61)), e71.symm, ?_⟩
                        try dsimp only
                        exact le_TA
                      · have H := M.to_f hb73 H
                        refine Awp.skip ?_
                        have e71 := M.to_ok.1 H
                        repeat (first | refine abN ?_ | refine asN ?_)
                        refine athen_n ⟨(_, (v59, v61)), e71.symm, ?_⟩
                        try dsimp only
                        exact le_TA
                    · rintro ⟨l69, ⟨v68, v70⟩⟩ hz71
                      try dsimp only at hz71
                      have H := Hl71
                      rw [hz71] at H
                      try dsimp only
                      refine wRE (hx := by (refine sA (hq := Quiet.move rfl (getS8 get1)) (ht := (setS32 (setS32 (setS32 (setS8 (setS8 set1)))))) (hk := ?_); refine sA (hq := Quiet.bin rfl (getS32 (getS32 (getS32 (getS8 (getS8 get1))))) getC rfl) (ht := (setS32 (setS32 (setS32 (setS8 (setS8 set2)))))) (hk := ?_); refine sA (hq := Quiet.assign rfl (getS32 (getS32 (getS32 (getS8 (getS8 get2)))))) (ht := (setS8 set1)) (hk := ?_); exact wEnd rfl)) (hk := ?_)
                      have e62 := M.to_ok.1 H
                      repeat (first | refine abN ?_ | refine asN ?_)
                      refine athen_n ⟨_, (v68, v70), e62.symm, ?_⟩
                      try dsimp only
                      exact le_TA
                  · have H := M.to_f hb67 H
                    refine Awp.exit ?_
                    repeat (first | refine athen_e ?_ | refine exO (by decide) ?_ | refine asE ?_)
                    refine exN ?_
                    have e62 := Hr62 _ (M.to_ok.1 H).symm
                    repeat (first | refine abN ?_ | refine asN ?_)
                    refine athen_n ⟨(_, (v59, v61)), e62.symm, ?_⟩
                    try dsimp only
                    exact le_TA
              · rintro ⟨l64, ⟨v63, v65⟩⟩ s62 hz62 hle62
                try dsimp only at hz62
                try dsimp only at hle62
                have H := Hl62
                rw [hz62] at H
                have e33 := M.to_ok.1 H
                repeat (first | refine abN ?_ | refine asN ?_)
                refine athen_n ⟨_, (v63, v65), e33.symm, ?_⟩
                try dsimp only
                refine St.le.trans hle62 ?_
                exact le_TA
        · have H := M.to_f hb37 H
          refine Awp.exit ?_
          repeat (first | refine athen_e ?_ | refine exO (by decide) ?_ | refine asE ?_)
          refine exN ?_
          have e33 := Hr33 _ (M.to_ok.1 H).symm
          repeat (first | refine abN ?_ | refine asN ?_)
          refine athen_n ⟨(_, v31), e33.symm, ?_⟩
          try dsimp only
          exact leC (Cut.dead (Cut.cons (Cut.cons (Cut.nil _))))
    · rintro ⟨l35, v34⟩ hz33
      try dsimp only at hz33
      have H := Hl33
      rw [hz33] at H
      try dsimp only
      refine wR (hx := by (refine sA (hq := Quiet.move rfl get5) (ht := (setS32 (setS32 (setS32 (setS8 (setS8 (setS8 set6))))))) (hk := ?_); refine sA (hq := Quiet.assign rfl (getS32 (getS32 (getS32 (getS8 (getS8 (getS8 get6))))))) (ht := set2) (hk := ?_); exact wEnd rfl)) (hk := ?_)
      obtain rfl := M.to_ok.1 H
      exact Awp.ret ⟨.inr rfl, Fin.own rfl⟩
def r18_Same_L9 (a : List Pair) (b : List Pair) : Int → M (Int ⊕ ((Unit) ⊕ (Bool))) := fun i3 => M.cnd (decide (i3 < (a.length : Int))) (M.chk (inBd a i3) (M.chk (inBd b i3) (M.cnd (!((((ixD a i3).a) == ((ixD b i3).a)) && ((((ixD a i3).b) == ((ixD b i3).b)) && true))) (M.ok (.inr (.inr false))) (M.ok (.inl (IntKind.i64.wrap (i3 + 1))))))) (M.ok (.inr (.inl ())))
def r18_Same (a : List Pair) (b : List Pair) : M Bool := M.cnd ((a.length : Int) != (b.length : Int)) (M.ok false) (M.els (M.loop (r18_Same_L9 a b) 0) fun _ => M.ok true)
set_option maxRecDepth 100000 in
set_option maxHeartbeats 4000000 in
theorem r18_Same_l {a : List Pair} {b : List Pair} {r : Bool} (H : (r18_Same a b).to r) : Fn Tryz.prog 17 [.bs tPair a, .bs tPair b] (.lit (.bool r)) := by
  delta r18_Same at H
  try dsimp only at H
  refine Fn.of_awp Tryz.func17 rfl (by kernel_rfl) rfl Tryz.ntmps17 fun C hC => ?_
  simp only [List.length_cons, List.length_nil, Nat.reduceAdd, Nat.reduceSub, List.replicate_succ, List.replicate_zero, List.cons_append, List.nil_append]
  refine wR (hx := by (refine sA (hq := Quiet.assign rfl getC) (ht := set4) (hk := ?_); exact wEnd rfl)) (hk := ?_)
  refine Awp.seq fun Khs1 hs1 => ?_
  refine wR (hx := by (refine sA (hq := Quiet.move rfl get0) (ht := set6) (hk := ?_); refine sA (hq := Quiet.ln rfl get6) (ht := set7) (hk := ?_); refine sA (hq := Quiet.move rfl get1) (ht := (setS8 set0)) (hk := ?_); refine sA (hq := Quiet.ln rfl (getS8 get0)) (ht := (setS8 set1)) (hk := ?_); refine sA (hq := Quiet.bin rfl get7 (getS8 get1) rfl) (ht := (setS8 set2)) (hk := ?_); exact wEnd rfl)) (hk := ?_)
  refine Awp.cond rfl (fun hb2 => ?_) (fun hb2 => ?_)
  · have H := M.to_t hb2 H
    refine wR (hx := by (refine sA (hq := Quiet.assign rfl getC) (ht := set4) (hk := ?_); exact wEnd rfl)) (hk := ?_)
    obtain rfl := M.to_ok.1 H
    exact Awp.ret ⟨.inr rfl, Fin.cl rfl⟩
  · have H := M.to_f hb2 H
    refine Awp.skip ?_
    refine hs1 _ ?_
    refine nT (hk := ?_)
    obtain ⟨z4, HX4, Hl4, Hq4⟩ := M.to_els H
    refine Awp.seqJ (β := (Unit) × (Unit)) (fun q4 => z4 = .inl q4.1) (fun q4 => ⟨[.any, .any, .any, .any, .any, .any, .any, .any, .any, .any, .any, .any, .any, .any, .any, .any, .any, .any, .any, .any, .any, .any, .any, .any, .any, .any], []⟩) ?_ ?_
    · refine wR (hx := by (refine sA (hq := Quiet.assign rfl getC) (ht := set5) (hk := ?_); exact wEnd rfl)) (hk := ?_)
      refine Awp.block ?_
      refine Awp.loopM HX4 (fun s4 b4 => ⟨[.bs tPair a, .bs tPair b, .any, .any, .any, .lit (.int .i64 s4), .any, .any, .any, .any, .any, .any, .any, .any, .any, .any, .any, .any, .any, .any, .any, .any, .any, .any, .any, .any], []⟩) () (?_) ?_
      · try dsimp only
        exact le_TA
      · rintro i3 _ x4 H Hr4
        try dsimp only
        dsimp only [r18_Same_L9] at H
        refine Awp.seq fun Khs5 hs5 => ?_
        refine wR (hx := by (refine sA (hq := Quiet.move rfl get5) (ht := (setS8 set3)) (hk := ?_); refine sA (hq := Quiet.move rfl get0) (ht := (setS8 set4)) (hk := ?_); refine sA (hq := Quiet.ln rfl (getS8 get4)) (ht := (setS8 set5)) (hk := ?_); refine sA (hq := Quiet.bin rfl (getS8 get3) (getS8 get5) rfl) (ht := (setS8 set6)) (hk := ?_); exact wEnd rfl)) (hk := ?_)
        refine Awp.cond rfl (fun hb6 => ?_) (fun hb6 => ?_)
        · have H := M.to_t hb6 H
          refine Awp.skip ?_
          refine hs5 _ ?_
          refine nT (hk := ?_)
          refine Awp.seq fun Khs7 hs7 => ?_
          refine Awp.block ?_
          obtain ⟨c8, H⟩ := M.to_chk.1 H
          obtain ⟨c9, H⟩ := M.to_chk.1 H
          refine wD 9 (hq := by (refine qA (hq := Quiet.move rfl get0) (ht := (setS8 (setS8 set1))) (hk := ?_); refine qA (hq := Quiet.move rfl get5) (ht := (setS8 (setS8 set2))) (hk := ?_); refine qA (hq := Quiet.ixM rfl (getS8 (getS8 get1)) (getS8 (getS8 get2)) rfl c8) (ht := (setS8 (setS8 set3))) (hk := ?_); refine qA (hq := Quiet.loadA_bp rfl (getS8 (getS8 get3)) rfl) (ht := (setS8 (setS8 set4))) (hk := ?_); refine qA (hq := Quiet.move rfl get1) (ht := (setS8 (setS8 set5))) (hk := ?_); refine qA (hq := Quiet.move rfl get5) (ht := (setS8 (setS8 set6))) (hk := ?_); refine qA (hq := Quiet.ixM rfl (getS8 (getS8 get5)) (getS8 (getS8 get6)) rfl c9) (ht := (setS8 (setS8 set7))) (hk := ?_); refine qA (hq := Quiet.loadA_bp rfl (getS8 (getS8 get7)) rfl) (ht := (setS8 (setS8 (setS8 set0)))) (hk := ?_); refine qA (hq := Quiet.neRec (bs := [true, true]) (vs := [(.int .i64 ((ixD a i3).a)), (.int .i64 ((ixD a i3).b))]) (ws := [(.int .i64 ((ixD b i3).a)), (.int .i64 ((ixD b i3).b))]) (by kernel_rfl) rfl (getS8 (getS8 get4)) (getS8 (getS8 (getS8 get0))) rfl) (ht := (setS8 (setS8 (setS8 set1)))) (hk := ?_); exact qEnd rfl)) (hx := by (exact wEnd rfl)) (hk := ?_)
          refine Awp.cond rfl (fun hb10 => ?_) (fun hb10 => ?_)
          · have H := M.to_t hb10 H
            refine wR (hx := by (refine sA (hq := Quiet.assign rfl getC) (ht := set4) (hk := ?_); exact wEnd rfl)) (hk := ?_)
            have H := M.to_ok.2 (Hq4 _ (Hr4 _ (M.to_ok.1 H).symm).symm)
            obtain rfl := M.to_ok.1 H
            exact Awp.ret ⟨.inr rfl, Fin.cl rfl⟩
          · have H := M.to_f hb10 H
            refine Awp.skip ?_
            refine hs7 _ ?_
            refine nT (hk := ?_)
            refine wRE (hx := by (refine sA (hq := Quiet.move rfl get5) (ht := (setS8 set7)) (hk := ?_); refine sA (hq := Quiet.bin rfl (getS8 get7) getC rfl) (ht := (setS8 (setS8 set0))) (hk := ?_); refine sA (hq := Quiet.assign rfl (getS8 (getS8 get0))) (ht := set5) (hk := ?_); exact wEnd rfl)) (hk := ?_)
            have e4 := M.to_ok.1 H
            repeat (first | refine abN ?_ | refine asN ?_)
            refine athen_n ⟨_, (), e4.symm, ?_⟩
            try dsimp only
            exact le_TA
        · have H := M.to_f hb6 H
          refine Awp.exit ?_
          repeat (first | refine athen_e ?_ | refine exO (by decide) ?_ | refine asE ?_)
          refine exN ?_
          have e4 := Hr4 _ (M.to_ok.1 H).symm
          repeat (first | refine abN ?_ | refine asN ?_)
          refine athen_n ⟨(_, ()), e4.symm, ?_⟩
          try dsimp only
          exact le_TA
    · rintro ⟨_, _⟩ hz4
      try dsimp only at hz4
      have H := Hl4 _ hz4
      try dsimp only
      refine wR (hx := by (refine sA (hq := Quiet.assign rfl getC) (ht := set4) (hk := ?_); exact wEnd rfl)) (hk := ?_)
      obtain rfl := M.to_ok.1 H
      exact Awp.ret ⟨.inr rfl, Fin.cl rfl⟩
end Mu
end
section
/-
  A run of code over known memory: values, blocks, and what they say of the model's; memory read and written.
  Conditions: none; generic.
-/
namespace Mu.CI
open Go Go.RowKit
noncomputable section
universe u

/-- a value whose addresses are places in known blocks -/
inductive CV where
  | un
  | ud
  | bo (y : Bool)
  | it (k : IntKind) (n : Int)
  | st (y : ByteArray)
  | pn
  | pt (g o : Nat)
  | sn
  | sl (g o l m z : Nat)
  | mn
  | mp (g : Nat)
  | f0
  | fn (g : FuncId) (q l : List CV)
  | n0
  | iv (t : TypeId) (y : CV)
  | yl (g : Nat)
  | ag (l : List CV)
  | tu (l : List CV)

structure N8 (β : Type) where
  a0 : β
  a1 : β
  a2 : β
  a3 : β
  a4 : β
  a5 : β
  a6 : β
  a7 : β
section
variable {α β R : Type} {d : Nat}
/-- a number, reckoned first -/
def fN {R : Type u} (n : Nat) (K : Nat → R) : R := Nat.rec (K 0) (fun m _ => K (Nat.succ m)) n
theorem fN_eq {R : Type u} (n : Nat) (K : Nat → R) : fN n K = K n := by cases n <;> rfl
def S8 (α : Type) : Nat → Type
  | 0 => Option α
  | d + 1 => N8 (S8 α d)
def em (α : Type) : (d : Nat) → S8 α d
  | 0 => (none : Option α)
  | d + 1 => (⟨em α d, em α d, em α d, em α d, em α d, em α d, em α d, em α d⟩ : N8 (S8 α d))
/-- finite maps from numbers -/
structure Tr (α : Type) where
  d : Nat
  t : S8 α d
def Tr.e : Tr α := ⟨0, (none : Option α)⟩
/-- the way to a place -/
structure Acc (β α R : Type) where
  get : β → Option α
  set : β → α → (β → R) → R
def sel (A : Acc β α R) (i : Nat) : Acc (N8 β) α R :=
  Nat.casesOn i ⟨fun t => A.get t.a0, fun t => N8.rec (motive := fun _ => α → (N8 β → R) → R) (fun a0 a1 a2 a3 a4 a5 a6 a7 v K => A.set a0 v fun x => K ⟨x, a1, a2, a3, a4, a5, a6, a7⟩) t⟩ fun i =>
  Nat.casesOn i ⟨fun t => A.get t.a1, fun t => N8.rec (motive := fun _ => α → (N8 β → R) → R) (fun a0 a1 a2 a3 a4 a5 a6 a7 v K => A.set a1 v fun x => K ⟨a0, x, a2, a3, a4, a5, a6, a7⟩) t⟩ fun i =>
  Nat.casesOn i ⟨fun t => A.get t.a2, fun t => N8.rec (motive := fun _ => α → (N8 β → R) → R) (fun a0 a1 a2 a3 a4 a5 a6 a7 v K => A.set a2 v fun x => K ⟨a0, a1, x, a3, a4, a5, a6, a7⟩) t⟩ fun i =>
  Nat.casesOn i ⟨fun t => A.get t.a3, fun t => N8.rec (motive := fun _ => α → (N8 β → R) → R) (fun a0 a1 a2 a3 a4 a5 a6 a7 v K => A.set a3 v fun x => K ⟨a0, a1, a2, x, a4, a5, a6, a7⟩) t⟩ fun i =>
  Nat.casesOn i ⟨fun t => A.get t.a4, fun t => N8.rec (motive := fun _ => α → (N8 β → R) → R) (fun a0 a1 a2 a3 a4 a5 a6 a7 v K => A.set a4 v fun x => K ⟨a0, a1, a2, a3, x, a5, a6, a7⟩) t⟩ fun i =>
  Nat.casesOn i ⟨fun t => A.get t.a5, fun t => N8.rec (motive := fun _ => α → (N8 β → R) → R) (fun a0 a1 a2 a3 a4 a5 a6 a7 v K => A.set a5 v fun x => K ⟨a0, a1, a2, a3, a4, x, a6, a7⟩) t⟩ fun i =>
  Nat.casesOn i ⟨fun t => A.get t.a6, fun t => N8.rec (motive := fun _ => α → (N8 β → R) → R) (fun a0 a1 a2 a3 a4 a5 a6 a7 v K => A.set a6 v fun x => K ⟨a0, a1, a2, a3, a4, a5, x, a7⟩) t⟩ fun _ =>
  ⟨fun t => A.get t.a7, fun t => N8.rec (motive := fun _ => α → (N8 β → R) → R) (fun a0 a1 a2 a3 a4 a5 a6 a7 v K => A.set a7 v fun x => K ⟨a0, a1, a2, a3, a4, a5, a6, x⟩) t⟩
def acc (α R : Type) (d : Nat) : Nat → Acc (S8 α d) α R := Nat.rec (motive := fun d => Nat → Acc (S8 α d) α R)
  (fun _ => ⟨fun t => t, fun _ v K => K (some v : Option α)⟩)
  (fun d ih k => fN (Nat.mod k (Nat.pow 8 d)) fun m => sel (ih m) (Nat.div k (Nat.pow 8 d))) d
structure AccT (β α R : Type) where
  get : β → Option α
  set : β → α → (Tr α → R) → R
def growK (k : Nat) (v : α) (K : Tr α → R) (f : Nat) : (d : Nat) → S8 α d → R := Nat.rec (motive := fun _ => (d : Nat) → S8 α d → R)
  (fun _ _ => K .e)
  (fun _ ih d t => Bool.casesOn (Nat.blt k (Nat.pow 8 d)) (ih (d + 1) (⟨t, em α d, em α d, em α d, em α d, em α d, em α d, em α d⟩ : N8 (S8 α d)))
    ((acc α R d k).set t v fun t => K ⟨d, t⟩)) f
def inK (A : Acc (S8 α d) α R) (t : S8 α d) (v : α) (K : Tr α → R) : R := A.set t v fun t => K ⟨d, t⟩
def outK (d k : Nat) (t : S8 α d) (v : α) (K : Tr α → R) : R := growK k v K (k + 1) d t
def accT (α R : Type) (d k : Nat) : AccT (S8 α d) α R := Bool.casesOn (Nat.blt k (Nat.pow 8 d)) ⟨fun _ => none, outK d k⟩ ⟨(acc α R d k).get, inK (acc α R d k)⟩
def Tr.get (t : Tr α) (k : Nat) : Option α := Tr.rec (motive := fun _ => Nat → Option α) (fun d t k => fN k fun k => (accT α PUnit d k).get t) t k
/-- the way down to the place is laid anew -/
def Tr.setK (t : Tr α) (k : Nat) (v : α) (K : Tr α → R) : R := Tr.rec (motive := fun _ => Nat → α → (Tr α → R) → R) (fun d t k v K => fN k fun k => (accT α R d k).set t v K) t k v K
def Tr.set (t : Tr α) (k : Nat) (v : α) : Tr α := t.setK k v id
/-! the same in plain words -/
def N8.at {β : Type} (t : N8 β) : Nat → β
  | 0 => t.a0
  | 1 => t.a1
  | 2 => t.a2
  | 3 => t.a3
  | 4 => t.a4
  | 5 => t.a5
  | 6 => t.a6
  | _ => t.a7
def N8.put {β : Type} (t : N8 β) (x : β) : Nat → N8 β
  | 0 => ⟨x, t.a1, t.a2, t.a3, t.a4, t.a5, t.a6, t.a7⟩
  | 1 => ⟨t.a0, x, t.a2, t.a3, t.a4, t.a5, t.a6, t.a7⟩
  | 2 => ⟨t.a0, t.a1, x, t.a3, t.a4, t.a5, t.a6, t.a7⟩
  | 3 => ⟨t.a0, t.a1, t.a2, x, t.a4, t.a5, t.a6, t.a7⟩
  | 4 => ⟨t.a0, t.a1, t.a2, t.a3, x, t.a5, t.a6, t.a7⟩
  | 5 => ⟨t.a0, t.a1, t.a2, t.a3, t.a4, x, t.a6, t.a7⟩
  | 6 => ⟨t.a0, t.a1, t.a2, t.a3, t.a4, t.a5, x, t.a7⟩
  | _ => ⟨t.a0, t.a1, t.a2, t.a3, t.a4, t.a5, t.a6, x⟩
theorem N8.at_put {β : Type} (t : N8 β) (x : β) : ∀ (i j : Nat), i < 8 → j < 8 → (t.put x i).at j = if j = i then x else t.at j
  | 0, j, _, hj => by match j, hj with | 0, _ | 1, _ | 2, _ | 3, _ | 4, _ | 5, _ | 6, _ | 7, _ => rfl
  | 1, j, _, hj => by match j, hj with | 0, _ | 1, _ | 2, _ | 3, _ | 4, _ | 5, _ | 6, _ | 7, _ => rfl
  | 2, j, _, hj => by match j, hj with | 0, _ | 1, _ | 2, _ | 3, _ | 4, _ | 5, _ | 6, _ | 7, _ => rfl
  | 3, j, _, hj => by match j, hj with | 0, _ | 1, _ | 2, _ | 3, _ | 4, _ | 5, _ | 6, _ | 7, _ => rfl
  | 4, j, _, hj => by match j, hj with | 0, _ | 1, _ | 2, _ | 3, _ | 4, _ | 5, _ | 6, _ | 7, _ => rfl
  | 5, j, _, hj => by match j, hj with | 0, _ | 1, _ | 2, _ | 3, _ | 4, _ | 5, _ | 6, _ | 7, _ => rfl
  | 6, j, _, hj => by match j, hj with | 0, _ | 1, _ | 2, _ | 3, _ | 4, _ | 5, _ | 6, _ | 7, _ => rfl
  | 7, j, _, hj => by match j, hj with | 0, _ | 1, _ | 2, _ | 3, _ | 4, _ | 5, _ | 6, _ | 7, _ => rfl
  | i + 8, _, h, _ => absurd h (by omega)
def gS : (d : Nat) → S8 α d → Nat → Option α
  | 0, t, _ => t
  | d + 1, t, k => gS d (N8.at t (k / 8 ^ d)) (k % 8 ^ d)
def pS : (d : Nat) → S8 α d → Nat → α → S8 α d
  | 0, _, _, v => some v
  | d + 1, t, k, v => N8.put t (pS d (N8.at t (k / 8 ^ d)) (k % 8 ^ d) v) (k / 8 ^ d)
theorem gS_pS (v : α) : ∀ (d : Nat) (t : S8 α d) (k j : Nat), k < 8 ^ d → j < 8 ^ d → gS d (pS d t k v) j = if j = k then some v else gS d t j
  | 0, t, k, j, hk, hj => by
    simp at hk hj
    subst hk hj
    rfl
  | d + 1, t, k, j, hk, hj => by
    have h0 : 0 < 8 ^ d := Nat.pow_pos (by decide)
    have hk1 : k / 8 ^ d < 8 := by rw [Nat.div_lt_iff_lt_mul h0, Nat.mul_comm, ← Nat.pow_succ]; exact hk
    have hj1 : j / 8 ^ d < 8 := by rw [Nat.div_lt_iff_lt_mul h0, Nat.mul_comm, ← Nat.pow_succ]; exact hj
    have hat := N8.at_put (β := S8 α d) t (pS d (N8.at (β := S8 α d) t (k / 8 ^ d)) (k % 8 ^ d) v) _ _ hk1 hj1
    refine (congrArg (fun u => gS d u (j % 8 ^ d)) hat).trans ?_
    show gS d (if j / 8 ^ d = k / 8 ^ d then _ else _) (j % 8 ^ d) = if j = k then some v else gS d (N8.at (β := S8 α d) t (j / 8 ^ d)) (j % 8 ^ d)
    by_cases h : j / 8 ^ d = k / 8 ^ d
    · rw [if_pos h, gS_pS v d _ _ _ (Nat.mod_lt _ h0) (Nat.mod_lt _ h0), h]
      congr 1
      refine propext ⟨fun e => ?_, fun e => by rw [e]⟩
      rw [← Nat.div_add_mod j (8 ^ d), ← Nat.div_add_mod k (8 ^ d), h, e]
    · rw [if_neg h, if_neg fun e => h (by rw [e])]
theorem sel_get (A : Acc β α R) (t : N8 β) (i : Nat) : (sel A i).get t = A.get (t.at i) := by
  match i with
  | 0 | 1 | 2 | 3 | 4 | 5 | 6 => rfl
  | 7 => rfl
  | i + 8 => rfl
theorem sel_set (A : Acc β α R) (t : N8 β) (v : α) (K : N8 β → R) (i : Nat) : (sel A i).set t v K = A.set (t.at i) v fun x => K (t.put x i) := by
  match i with
  | 0 | 1 | 2 | 3 | 4 | 5 | 6 => rfl
  | 7 => rfl
  | i + 8 => rfl
theorem acc_succ (d k : Nat) : acc α R (d + 1) k = sel (acc α R d (k % 8 ^ d)) (k / 8 ^ d) := fN_eq (R := Acc (S8 α (d + 1)) α R) (k % 8 ^ d) fun m => sel (acc α R d m) (k / 8 ^ d)
theorem acc_get : ∀ (d : Nat) (t : S8 α d) (k : Nat), (acc α R d k).get t = gS d t k
  | 0, t, k => rfl
  | d + 1, t, k => by
    rw [acc_succ]
    exact (sel_get _ t _).trans (acc_get d _ _)
theorem acc_set (v : α) : ∀ {R : Type} (d : Nat) (t : S8 α d) (k : Nat) (K : S8 α d → R), (acc α R d k).set t v K = K (pS d t k v)
  | R, 0, t, k, K => rfl
  | R, d + 1, t, k, K => by
    rw [acc_succ]
    exact (sel_set _ t v K _).trans (acc_set v d _ _ _)
def up (d : Nat) (t : S8 α d) : S8 α (d + 1) := (⟨t, em α d, em α d, em α d, em α d, em α d, em α d, em α d⟩ : N8 (S8 α d))
theorem gS_em : ∀ (d k : Nat), gS d (em α d) k = none
  | 0, k => rfl
  | d + 1, k => by
    show gS d (N8.at (⟨em α d, em α d, em α d, em α d, em α d, em α d, em α d, em α d⟩ : N8 (S8 α d)) _) _ = none
    have : ∀ i, N8.at (⟨em α d, em α d, em α d, em α d, em α d, em α d, em α d, em α d⟩ : N8 (S8 α d)) i = em α d := fun i => by
      match i with
      | 0 | 1 | 2 | 3 | 4 | 5 | 6 => rfl
      | 7 => rfl
      | i + 8 => rfl
    rw [this, gS_em d]
def gT (t : Tr α) (k : Nat) : Option α := if k < 8 ^ t.d then gS t.d t.t k else none
theorem gS_up (d : Nat) (t : S8 α d) (k : Nat) : gS (d + 1) (up d t) k = if k < 8 ^ d then gS d t k else none := by
  have h0 : 0 < 8 ^ d := Nat.pow_pos (by decide)
  show gS d (N8.at (⟨t, em α d, em α d, em α d, em α d, em α d, em α d, em α d⟩ : N8 (S8 α d)) (k / 8 ^ d)) (k % 8 ^ d) = _
  by_cases h : k < 8 ^ d
  · rw [if_pos h, Nat.div_eq_of_lt h, Nat.mod_eq_of_lt h]
    rfl
  · rw [if_neg h]
    have h1 : 0 < k / 8 ^ d := Nat.div_pos (Nat.le_of_not_lt h) h0
    have : ∀ i, 0 < i → N8.at (⟨t, em α d, em α d, em α d, em α d, em α d, em α d, em α d⟩ : N8 (S8 α d)) i = em α d := fun i hi => by
      match i, hi with
      | 1, _ | 2, _ | 3, _ | 4, _ | 5, _ | 6, _ => rfl
      | 7, _ => rfl
      | i + 8, _ => rfl
    rw [this _ h1, gS_em]
theorem gT_up (d : Nat) (t : S8 α d) (k : Nat) : gT ⟨d + 1, up d t⟩ k = gT ⟨d, t⟩ k := by
  show (if k < 8 ^ (d + 1) then gS (d + 1) (up d t) k else none) = if k < 8 ^ d then gS d t k else none
  by_cases h : k < 8 ^ (d + 1)
  · rw [if_pos h, gS_up d t k]
  · rw [if_neg h, if_neg fun h' => h (Nat.lt_trans h' (Nat.pow_lt_pow_succ (by decide)))]
/-- laid so that there is room -/
def setP (t : Tr α) (k : Nat) (v : α) : Nat → Tr α
  | 0 => .e
  | f + 1 => if k < 8 ^ t.d then ⟨t.d, pS t.d t.t k v⟩ else setP ⟨t.d + 1, up t.d t.t⟩ k v f
theorem growK_eq (k : Nat) (v : α) (K : Tr α → R) : ∀ (f d : Nat) (t : S8 α d), growK k v K f d t = K (setP ⟨d, t⟩ k v f)
  | 0, d, t => rfl
  | f + 1, d, t => by
    show Bool.casesOn (motive := fun _ => R) (Nat.blt k (Nat.pow 8 d)) (growK k v K f (d + 1) (up d t)) ((acc α R d k).set t v fun t => K ⟨d, t⟩) = _
    unfold setP
    by_cases h : k < 8 ^ d
    · rw [if_pos h, show Nat.blt k (Nat.pow 8 d) = true from Nat.blt_eq.mpr h]
      exact acc_set v d t k _
    · rw [if_neg h, show Nat.blt k (Nat.pow 8 d) = false from Bool.eq_false_iff.mpr fun e => h (Nat.blt_eq.mp e)]
      exact growK_eq k v K f (d + 1) (up d t)
theorem Tr.get_gT (t : Tr α) (k : Nat) : t.get k = gT t k := by
  cases t with
  | mk d t =>
    show fN k (fun k => (accT α PUnit d k).get t) = if k < 8 ^ d then gS d t k else none
    rw [fN_eq]
    unfold accT
    by_cases h : k < 8 ^ d
    · rw [if_pos h, show Nat.blt k (Nat.pow 8 d) = true from Nat.blt_eq.mpr h]
      exact acc_get d t k
    · rw [if_neg h, show Nat.blt k (Nat.pow 8 d) = false from Bool.eq_false_iff.mpr fun e => h (Nat.blt_eq.mp e)]
theorem Tr.setK_P (t : Tr α) (k : Nat) (v : α) (K : Tr α → R) : t.setK k v K = K (setP t k v (k + 1)) := by
  cases t with
  | mk d t =>
    show fN k (fun k => (accT α R d k).set t v K) = _
    rw [fN_eq]
    unfold accT
    by_cases h : k < 8 ^ d
    · rw [show Nat.blt k (Nat.pow 8 d) = true from Nat.blt_eq.mpr h]
      unfold setP
      rw [if_pos h]
      exact acc_set v d t k _
    · rw [show Nat.blt k (Nat.pow 8 d) = false from Bool.eq_false_iff.mpr fun e => h (Nat.blt_eq.mp e)]
      exact growK_eq k v K (k + 1) d t
theorem Tr.setK_eq (t : Tr α) {R : Type} (k : Nat) (x : α) (K : Tr α → R) : t.setK k x K = K (t.set k x) := by
  unfold Tr.set
  rw [Tr.setK_P, Tr.setK_P]
  rfl
theorem gT_setP (v : α) (k j : Nat) : ∀ (f : Nat) (t : Tr α), k < 8 ^ (t.d + f) → gT (setP t k v (f + 1)) j = if j = k then some v else gT t j
  | f, t, hk => by
    unfold setP
    by_cases h : k < 8 ^ t.d
    · rw [if_pos h]
      show (if j < 8 ^ t.d then gS t.d (pS t.d t.t k v) j else none) = if j = k then some v else if j < 8 ^ t.d then gS t.d t.t j else none
      by_cases hj : j < 8 ^ t.d
      · rw [if_pos hj, if_pos hj, gS_pS v _ _ _ _ h hj]
      · rw [if_neg hj, if_neg hj, if_neg fun e => hj (by rw [e]; exact h)]
    · rw [if_neg h]
      match f, hk with
      | 0, hk => exact absurd hk h
      | f + 1, hk => rw [gT_setP v k j f ⟨t.d + 1, up t.d t.t⟩ (by show k < 8 ^ (t.d + 1 + f); rw [Nat.add_right_comm]; exact hk), gT_up]
theorem Tr.get_e (k : Nat) : (Tr.e : Tr α).get k = none := by
  rw [Tr.get_gT]
  show (if k < 8 ^ 0 then (none : Option α) else none) = none
  split <;> rfl
theorem Tr.get_set (t : Tr α) (k j : Nat) (x : α) : (t.set k x).get j = if j = k then some x else t.get j := by
  unfold Tr.set
  rw [Tr.setK_P, Tr.get_gT, Tr.get_gT]
  exact gT_setP x k j k t (Nat.lt_of_lt_of_le (Nat.lt_pow_self (by decide)) (Nat.pow_le_pow_right (by decide) (Nat.le_add_left _ _)))
theorem Tr.get_set_self (t : Tr α) (k : Nat) (x : α) : (t.set k x).get k = some x := by rw [Tr.get_set, if_pos rfl]
theorem Tr.get_set_ne (t : Tr α) {k j : Nat} (h : j ≠ k) (x : α) : (t.set k x).get j = t.get j := by rw [Tr.get_set, if_neg h]
def fI (n : Int) (K : Int → R) : R := match n with
  | .ofNat m => fN m fun m => K (.ofNat m)
  | .negSucc m => fN m fun m => K (.negSucc m)
theorem fI_eq (n : Int) (K : Int → R) : fI n K = K n := by cases n <;> simp only [fI, fN_eq] <;> rfl
mutual
def fV : CV → (CV → R) → R
  | .un, K => K .un
  | .ud, K => K .ud
  | .bo true, K => K (.bo true)
  | .bo false, K => K (.bo false)
  | .it k n, K => fI n fun n => K (.it k n)
  | .st l, K => K (.st l)
  | .pn, K => K .pn
  | .pt g o, K => fN g fun g => fN o fun o => K (.pt g o)
  | .sn, K => K .sn
  | .sl g o l m z, K => fN g fun g => fN o fun o => fN l fun l => fN m fun m => fN z fun z => K (.sl g o l m z)
  | .mn, K => K .mn
  | .mp g, K => fN g fun g => K (.mp g)
  | .f0, K => K .f0
  | .fn g q l, K => fN g fun g => fVs q fun q => fVs l fun l => K (.fn g q l)
  | .n0, K => K .n0
  | .iv t y, K => fN t fun t => fV y fun y => K (.iv t y)
  | .yl g, K => fN g fun g => K (.yl g)
  | .ag l, K => fVs l fun l => K (.ag l)
  | .tu l, K => fVs l fun l => K (.tu l)
def fVs : List CV → (List CV → R) → R
  | [], K => K []
  | x :: l, K => fV x fun x => fVs l fun l => K (x :: l)
end
mutual
theorem fV_eq : ∀ (x : CV) (K : CV → R), fV x K = K x
  | .un, K => by unfold fV; rfl
  | .ud, K => by unfold fV; rfl
  | .bo true, K => by unfold fV; rfl
  | .bo false, K => by unfold fV; rfl
  | .it k n, K => by unfold fV; rw [fI_eq]
  | .st l, K => by unfold fV; rfl
  | .pn, K => by unfold fV; rfl
  | .pt g o, K => by unfold fV; simp only [fN_eq]
  | .sn, K => by unfold fV; rfl
  | .sl g o l m z, K => by unfold fV; simp only [fN_eq]
  | .mn, K => by unfold fV; rfl
  | .mp g, K => by unfold fV; simp only [fN_eq]
  | .f0, K => by unfold fV; rfl
  | .fn g q l, K => by unfold fV; rw [fN_eq, fVs_eq, fVs_eq]
  | .n0, K => by unfold fV; rfl
  | .iv t y, K => by unfold fV; rw [fN_eq, fV_eq]
  | .yl g, K => by unfold fV; rw [fN_eq]
  | .ag l, K => by unfold fV; rw [fVs_eq]
  | .tu l, K => by unfold fV; rw [fVs_eq]
theorem fVs_eq : ∀ (l : List CV) (K : List CV → R), fVs l K = K l
  | [], K => by unfold fVs; rfl
  | x :: l, K => by unfold fVs; rw [fV_eq, fVs_eq]
end
end

/-! ### what they say -/
/-- where a known block lies: the block, the place of its first cell, how many cells that block has -/
structure Loc where
  g : Nat
  o : Nat
  n : Nat
abbrev Env := Nat → Option Loc
def Env.le (E E' : Env) : Prop := ∀ i L, E i = some L → E' i = some L
theorem Env.le_refl (E : Env) : E.le E := fun _ _ h => h
theorem Env.le_trans {E F G : Env} (h : E.le F) (k : F.le G) : E.le G := fun i L e => k i L (h i L e)
mutual
def VR (E : Env) : CV → Value → Prop
  | .un, _ => True
  | .ud, v => v = undef
  | .bo y, v => v = .bool y
  | .it k n, v => v = .int k n
  | .st y, v => v = .string y
  | .pn, v => v = .pointer none
  | .pt g o, v => ∃ L, E g = some L ∧ v = .pointer (some ⟨L.g, L.o + o, none⟩)
  | .sn, v => v = .slice none 0 0
  | .sl g o l m z, v => ∃ L c p, E g = some L ∧ v = .slice (some ⟨L.g, L.o + p, none⟩) l c ∧ (c = 0 ∨ p = o) ∧ l ≤ m ∧ m ≤ c ∧ L.o + o + c * z ≤ L.n
  | .mn, v => v = .map none
  | .mp g, v => ∃ L, E g = some L ∧ v = .map (some L.g)
  | .f0, v => v = .nilFunc
  | .fn g q l, v => ∃ asx cs, v = .func (.func g) (List.toArray asx) (List.toArray cs) ∧ VRL E q asx ∧ VRL E l cs
  | .n0, v => v = .nilIface
  | .iv t y, v => ∃ u, v = .iface t u ∧ VR E y u
  | .yl g, v => ∃ L, E g = some L ∧ v = .func (.yield L.g) #[] #[]
  | .ag l, v => ∃ cs, v = .agg (List.toArray cs) ∧ VRL E l cs ∧ ∀ c ∈ cs, c.oneCell' = true
  | .tu l, v => ∃ cs, v = .tuple (List.toArray cs) ∧ VRL E l cs
def VRL (E : Env) : List CV → List Value → Prop
  | [], vs => vs = []
  | x :: l, vs => ∃ v r, vs = v :: r ∧ VR E x v ∧ VRL E l r
end
section
variable {E E' : Env}
mutual
theorem VR.mono (h : E.le E') : ∀ {x : CV} {v : Value}, VR E x v → VR E' x v
  | .un, _, H => by unfold VR; trivial
  | .ud, _, H => by unfold VR at H ⊢; exact H
  | .bo y, _, H => by unfold VR at H ⊢; exact H
  | .it k n, _, H => by unfold VR at H ⊢; exact H
  | .st y, _, H => by unfold VR at H ⊢; exact H
  | .pn, _, H => by unfold VR at H ⊢; exact H
  | .pt g o, _, H => by unfold VR at H ⊢; obtain ⟨L, h1, h2⟩ := H; exact ⟨L, h _ _ h1, h2⟩
  | .sn, _, H => by unfold VR at H ⊢; exact H
  | .sl g o l m z, _, H => by unfold VR at H ⊢; obtain ⟨L, c, p, h1, h2⟩ := H; exact ⟨L, c, p, h _ _ h1, h2⟩
  | .mn, _, H => by unfold VR at H ⊢; exact H
  | .mp g, _, H => by unfold VR at H ⊢; obtain ⟨L, h1, h2⟩ := H; exact ⟨L, h _ _ h1, h2⟩
  | .f0, _, H => by unfold VR at H ⊢; exact H
  | .fn g q l, _, H => by unfold VR at H ⊢; obtain ⟨asx, cs, h1, h2, h3⟩ := H; exact ⟨asx, cs, h1, VRL.mono h h2, VRL.mono h h3⟩
  | .n0, _, H => by unfold VR at H ⊢; exact H
  | .iv t y, _, H => by unfold VR at H ⊢; obtain ⟨u, h1, h2⟩ := H; exact ⟨u, h1, VR.mono h h2⟩
  | .yl g, _, H => by unfold VR at H ⊢; obtain ⟨L, h1, h2⟩ := H; exact ⟨L, h _ _ h1, h2⟩
  | .ag l, _, H => by unfold VR at H ⊢; obtain ⟨cs, h1, h2, h3⟩ := H; exact ⟨cs, h1, VRL.mono h h2, h3⟩
  | .tu l, _, H => by unfold VR at H ⊢; obtain ⟨cs, h1, h2⟩ := H; exact ⟨cs, h1, VRL.mono h h2⟩
theorem VRL.mono (h : E.le E') : ∀ {l : List CV} {vs : List Value}, VRL E l vs → VRL E' l vs
  | [], _, H => by unfold VRL at H ⊢; exact H
  | x :: l, _, H => by unfold VRL at H ⊢; obtain ⟨v, r, h1, h2, h3⟩ := H; exact ⟨v, r, h1, VR.mono h h2, VRL.mono h h3⟩
end
theorem VRL.len : ∀ {l : List CV} {vs : List Value}, VRL E l vs → vs.length = l.length
  | [], vs, H => by unfold VRL at H; subst H; rfl
  | x :: l, vs, H => by unfold VRL at H; obtain ⟨v, r, rfl, _, h⟩ := H; simp [VRL.len h]
theorem VRL.get : ∀ {l : List CV} {vs : List Value}, VRL E l vs → ∀ {i : Nat} {x : CV}, l[i]? = some x → ∃ v, vs[i]? = some v ∧ VR E x v
  | [], vs, _, i, x, hx => by simp at hx
  | y :: l, vs, H, i, x, hx => by
    unfold VRL at H
    obtain ⟨v, r, rfl, h1, h2⟩ := H
    cases i with
    | zero => simp at hx; subst hx; exact ⟨v, by simp, h1⟩
    | succ i => simpa using VRL.get h2 (i := i) (by simpa using hx)
theorem VRL.get' {l : List CV} {vs : List Value} (H : VRL E l vs) {i : Nat} {x : CV} {v : Value} (hx : l[i]? = some x) (hv : vs[i]? = some v) : VR E x v := by
  obtain ⟨v', h1, h2⟩ := H.get hx
  rw [hv] at h1
  cases h1
  exact h2
theorem VRL.of : ∀ {l : List CV} {vs : List Value}, vs.length = l.length → (∀ (i : Nat) (x : CV) (v : Value), l[i]? = some x → vs[i]? = some v → VR E x v) → VRL E l vs
  | [], vs, hl, _ => by unfold VRL; exact List.eq_nil_of_length_eq_zero hl
  | y :: l, [], hl, _ => by simp at hl
  | y :: l, v :: vs, hl, H => by
    unfold VRL
    exact ⟨v, vs, rfl, H 0 y v rfl rfl, VRL.of (by simpa using hl) fun i x u hx hu => H (i + 1) x u (by simpa using hx) (by simpa using hu)⟩
theorem VRL.nil : VRL E [] [] := by unfold VRL; rfl
theorem VRL.cons {x : CV} {v : Value} {l : List CV} {vs : List Value} (h : VR E x v) (k : VRL E l vs) : VRL E (x :: l) (v :: vs) := by unfold VRL; exact ⟨v, vs, rfl, h, k⟩
theorem VRL.append {l m : List CV} {vs us : List Value} (H : VRL E l vs) (G : VRL E m us) : VRL E (l ++ m) (vs ++ us) := by
  induction l generalizing vs with
  | nil => unfold VRL at H; subst H; exact G
  | cons x l ih =>
    unfold VRL at H
    obtain ⟨v, r, rfl, h1, h2⟩ := H
    exact VRL.cons h1 (ih h2)
theorem VRL.drop {l : List CV} {vs : List Value} (H : VRL E l vs) (n : Nat) : VRL E (l.drop n) (vs.drop n) := by
  refine VRL.of (by simp [H.len]) fun i x v hx hv => ?_
  rw [List.getElem?_drop] at hx hv
  exact H.get' hx hv
theorem VRL.take {l : List CV} {vs : List Value} (H : VRL E l vs) (n : Nat) : VRL E (l.take n) (vs.take n) := by
  refine VRL.of (by simp [H.len]) fun i x v hx hv => ?_
  rw [List.getElem?_take] at hx hv
  split at hx
  · rename_i h
    rw [if_pos h] at hv
    exact H.get' hx hv
  · cases hx
end

/-! ### memory -/
/-- cells, from the block's place on; those that are not set are its zero, over and over -/
structure Blk where
  c : Tr CV
  n : Nat
  z : List CV
def Blk.get (b : Blk) (k : Nat) : CV := match b.c.get k with
  | some v => v
  | none => (b.z[k % b.z.length]?).getD .un
inductive RB where
  | dead
  | ro (b : Blk)
  | cells (b : Blk)
  | map (es : List (CV × CV × Nat)) (clock : Nat)
  | iter (m : Option Nat) (since : Nat) (seen : List Nat) (last : Nat)
  | siter (y : ByteArray) (pos : Nat)
  | dfr
  | loop (fn : FuncId) (s : Tr CV) (n : Nat) (ps : Array Tmp) (assign body : Code) (state : LoopState) (pend : Option Code) (d : Nat)
def RB.live : Option RB → Bool
  | none => false
  | some .dead => false
  | some (.ro _) => false
  | _ => true
/-- known memory; what is to be shown of it yet; how conditions will turn out -/
structure Mem where
  h : Tr RB
  nx : Nat
  ob : List Bool
  hn : List Bool
def Mem.put (M : Mem) (i : Nat) (b : RB) : Mem := ⟨M.h.set i b, M.nx, M.ob, M.hn⟩
def Mem.push (M : Mem) (b : RB) : Mem := ⟨M.h.set M.nx b, M.nx + 1, M.ob, M.hn⟩
def Mem.Holds (M : Mem) : Prop := ∀ c ∈ M.ob, c = true
def Mem.sfx (M M' : Mem) : Prop := ∃ l, M'.ob = l ++ M.ob
theorem Mem.sfx_refl (M : Mem) : M.sfx M := ⟨[], rfl⟩
theorem Mem.sfx_trans {A B C : Mem} (h : A.sfx B) (k : B.sfx C) : A.sfx C := by
  obtain ⟨l, h⟩ := h
  obtain ⟨m, k⟩ := k
  exact ⟨m ++ l, by rw [k, h, List.append_assoc]⟩
theorem Mem.Holds.of {M M' : Mem} (h : M'.Holds) (k : M.sfx M') : M.Holds := fun c hc => by
  obtain ⟨l, k⟩ := k
  exact h c (by rw [k]; exact List.mem_append_right _ hc)
def CellsR (E : Env) (w : World) (L : Loc) (b : Blk) : Prop := ∃ c e fz, w.heap[L.g]? = some (.cells c e fz) ∧ c.size = L.n ∧ L.o + b.n ≤ L.n ∧ (∀ k, k < L.n → ¬ (fz.1 ≤ k ∧ k < fz.2)) ∧
  ∀ k, k < b.n → ∃ v, c[L.o + k]? = some v ∧ VR E (b.get k) v ∧ v.oneCell' = true
def SlotsR (E : Env) (s : Tr CV) (tmps : Array Value) : Prop := ∀ k : Nat, VR E ((s.get k).getD .ud) (tmps.getD k undef)
def EntR (E : Env) : List (CV × CV × Nat) → List MapEntry → Prop
  | [], es => es = []
  | (k, v, n) :: l, es => ∃ e r, es = e :: r ∧ VR E k e.key ∧ VR E v e.val ∧ e.born = n ∧ EntR E l r
def BR (E : Env) (w : World) (L : Loc) : RB → Prop
  | .dead => True
  | .ro b => CellsR E w L b
  | .cells b => CellsR E w L b
  | .map es clock => ∃ ms, w.heap[L.g]? = some (.map (List.toArray ms) clock) ∧ EntR E es ms
  | .iter m since seen last => L.o = 0 ∧ ∃ mo, w.heap[L.g]? = some (.mapIter mo since (List.toArray seen) last) ∧ (match m with | none => mo = none | some k => ∃ M, E k = some M ∧ mo = some M.g)
  | .siter y pos => L.o = 0 ∧ w.heap[L.g]? = some (.stringIter y pos)
  | .dfr => w.heap[L.g]? = some (.deferred (some []))
  | .loop _ s n ps assign body state pend d => ∃ D tmps fn, E d = some D ∧ w.heap[L.g]? = some (.loop { state, pending := pend, fn, tmps, params := ps, assign, body, defers := D.g }) ∧ tmps.size = n ∧ SlotsR E s tmps
/-- blocks that are left as they are -/
structure Kp (N : Nat → Prop) (w w' : World) : Prop where
  os : w'.os = w.os
  tape : w'.tape = w.tape
  output : w'.output = w.output
  size : w.heap.size ≤ w'.heap.size
  block : ∀ k, N k → w'.heap[k]? = w.heap[k]?
theorem Kp.refl (N : Nat → Prop) (w : World) : Kp N w w := ⟨rfl, rfl, rfl, Nat.le_refl _, fun _ _ => rfl⟩
theorem Kp.trans {N : Nat → Prop} {a b c : World} (h : Kp N a b) (k : Kp N b c) : Kp N a c :=
  ⟨k.os.trans h.os, k.tape.trans h.tape, k.output.trans h.output, Nat.le_trans h.size k.size, fun i hi => (k.block i hi).trans (h.block i hi)⟩
structure HR (B : Nat) (N : Nat → Prop) (w0 : World) (E : Env) (M : Mem) (w : World) : Prop where
  kp : Kp N w0 w
  nlt : ∀ k, N k → k < w0.heap.size
  lt : ∀ i L, E i = some L → L.g < w.heap.size
  own : ∀ i L, E i = some L → RB.live (M.h.get i) = true → ¬ N L.g
  ro : ∀ i b, M.h.get i = some (.ro b) → i < B
  base : ∀ i, i < B → ∃ L, E i = some L ∧ N L.g
  blk : ∀ i L b, E i = some L → M.h.get i = some b → BR E w L b
  dis : ∀ i j L K, i ≠ j → E i = some L → E j = some K → RB.live (M.h.get i) = true → RB.live (M.h.get j) = true → L.g ≠ K.g
  fresh : ∀ i, M.nx ≤ i → M.h.get i = none ∧ E i = none

section
variable {B : Nat} {N : Nat → Prop} {w0 w w' : World} {E E' : Env} {M : Mem} {L : Loc}
theorem EntR.mono (h : E.le E') : ∀ {l : List (CV × CV × Nat)} {es : List MapEntry}, EntR E l es → EntR E' l es
  | [], _, H => by unfold EntR at H ⊢; exact H
  | (k, v, n) :: l, _, H => by unfold EntR at H ⊢; obtain ⟨e, r, h1, h2, h3, h4, h5⟩ := H; exact ⟨e, r, h1, h2.mono h, h3.mono h, h4, EntR.mono h h5⟩
theorem CellsR.keep {b : Blk} (H : CellsR E w L b) (h : E.le E') (hb : w'.heap[L.g]? = w.heap[L.g]?) : CellsR E' w' L b := by
  obtain ⟨c, e, fz, h1, h2, h3, h4, h5⟩ := H
  exact ⟨c, e, fz, hb.trans h1, h2, h3, h4, fun k hk => let ⟨v, k1, k2, k3⟩ := h5 k hk; ⟨v, k1, k2.mono h, k3⟩⟩
theorem BR.keep {b : RB} (H : BR E w L b) (h : E.le E') (hb : w'.heap[L.g]? = w.heap[L.g]?) : BR E' w' L b := by
  cases b with
  | dead => trivial
  | ro b => exact CellsR.keep H h hb
  | cells b => exact CellsR.keep H h hb
  | map es clock => obtain ⟨ms, h1, h2⟩ := H; exact ⟨ms, hb.trans h1, h2.mono h⟩
  | iter m since seen last =>
    obtain ⟨h0, mo, h1, h2⟩ := H
    refine ⟨h0, mo, hb.trans h1, ?_⟩
    cases m with
    | none => exact h2
    | some k => obtain ⟨K, k1, k2⟩ := h2; exact ⟨K, h _ _ k1, k2⟩
  | siter y pos => exact ⟨H.1, hb.trans H.2⟩
  | dfr => exact hb.trans H
  | loop fn s n ps assign body state pend d =>
    obtain ⟨D, tmps, fn, h1, h2, h3, h4⟩ := H
    exact ⟨D, tmps, fn, h _ _ h1, hb.trans h2, h3, fun k => (h4 k).mono h⟩
theorem HR.kpt (H : HR B N w0 E M w) (hw : Below w.heap.size w w') : Kp N w0 w' :=
  H.kp.trans ⟨hw.os, hw.tape, hw.output, hw.size, fun k hk => hw.block k (Nat.lt_of_lt_of_le (H.nlt k hk) H.kp.size)⟩
/-- the world grows -/
theorem HR.grow (H : HR B N w0 E M w) (hw : Below w.heap.size w w') : HR B N w0 E M w' :=
  ⟨H.kpt hw, H.nlt, fun i L h => Nat.lt_of_lt_of_le (H.lt i L h) hw.size, H.own, H.ro, H.base, fun i L b h k => (H.blk i L b h k).keep (Env.le_refl E) (hw.block _ (H.lt i L h)), H.dis, H.fresh⟩
/-- grown by places of a number or more -/
def Env.ex (n : Nat) (E E' : Env) : Prop := E.le E' ∧ ∀ j, j < n → E' j = E j
theorem Env.ex_refl {n : Nat} (E : Env) : Env.ex n E E := ⟨Env.le_refl E, fun _ _ => rfl⟩
theorem Env.ex_trans {n m : Nat} {E F G : Env} (h : Env.ex n E F) (hn : n ≤ m) (k : Env.ex m F G) : Env.ex n E G := ⟨Env.le_trans h.1 k.1, fun j hj => (k.2 j (Nat.lt_of_lt_of_le hj hn)).trans (h.2 j hj)⟩
def Env.set (E : Env) (i : Nat) (L : Loc) : Env := fun j => if j = i then some L else E j
theorem Env.le_set {i : Nat} (h : E i = none) : E.le (E.set i L) := fun j K hj => by
  unfold Env.set
  split
  · rename_i e
    subst e
    rw [h] at hj
    cases hj
  · exact hj
theorem Env.set_self {i : Nat} : E.set i L i = some L := if_pos rfl
/-- a new block -/
theorem HR.new {b : RB} (H : HR B N w0 E M w) (hw : Below w.heap.size w w') (h1 : w.heap.size ≤ L.g) (h2 : L.g < w'.heap.size) (hr : ∀ c, b ≠ .ro c) (hb : ∀ E', E.le E' → E' M.nx = some L → BR E' w' L b) :
    Env.ex M.nx E (E.set M.nx L) ∧ HR B N w0 (E.set M.nx L) (M.push b) w' := by
  have hn := (H.fresh M.nx (Nat.le_refl _)).2
  have hle : E.le (E.set M.nx L) := Env.le_set hn
  have hcase : ∀ i K, (E.set M.nx L) i = some K → (i = M.nx ∧ K = L) ∨ (i ≠ M.nx ∧ E i = some K) := fun i K h => by
    unfold Env.set at h
    split at h
    · rename_i e; cases h; exact .inl ⟨e, rfl⟩
    · rename_i e; exact .inr ⟨e, h⟩
  unfold Mem.push
  have hBn : B ≤ M.nx := Nat.le_of_not_lt fun h => by
    obtain ⟨K, hK, _⟩ := H.base M.nx h
    rw [hn] at hK
    cases hK
  refine ⟨⟨hle, fun j hj => if_neg (Nat.ne_of_lt hj)⟩, H.kpt hw, H.nlt, fun i K h => ?_, fun i K h hl => ?_, fun i c hl => ?_, fun i hi => (let ⟨K, h, k⟩ := H.base i hi; ⟨K, hle _ _ h, k⟩), fun i K c h hl => ?_, fun i j K J hij hK hJ li lj => ?_, fun i hi => ⟨?_, ?_⟩⟩
  · rcases hcase i K h with ⟨rfl, rfl⟩ | ⟨hi, h⟩
    · exact h2
    · exact Nat.lt_of_lt_of_le (H.lt i K h) hw.size
  · rcases hcase i K h with ⟨rfl, rfl⟩ | ⟨hi, h⟩
    · exact fun hN => by have := H.nlt _ hN; have := H.kp.size; omega
    · simp only [Tr.get_set_ne _ hi] at hl
      exact H.own i K h hl
  · by_cases hi : i = M.nx
    · subst hi
      simp only [Tr.get_set_self] at hl
      cases hl
      exact absurd rfl (hr c)
    · simp only [Tr.get_set_ne _ hi] at hl
      exact H.ro i c hl
  · rcases hcase i K h with ⟨rfl, rfl⟩ | ⟨hi, h⟩
    · simp only [Tr.get_set_self] at hl
      cases hl
      exact hb _ hle Env.set_self
    · simp only [Tr.get_set_ne _ hi] at hl
      exact (H.blk i K c h hl).keep hle (hw.block _ (H.lt i K h))
  · rcases hcase i K hK with ⟨rfl, rfl⟩ | ⟨hi, hK'⟩
    · rcases hcase j J hJ with ⟨rfl, rfl⟩ | ⟨hj, hJ'⟩
      · exact absurd rfl hij
      · have := H.lt j J hJ'; omega
    · rcases hcase j J hJ with ⟨rfl, rfl⟩ | ⟨hj, hJ'⟩
      · have := H.lt i K hK'; omega
      · simp only [Tr.get_set_ne _ hi] at li
        simp only [Tr.get_set_ne _ hj] at lj
        exact H.dis i j K J hij hK' hJ' li lj
  · have hi : M.nx + 1 ≤ i := hi
    simp only [Tr.get_set_ne _ (show i ≠ M.nx by omega)]
    exact (H.fresh i (by omega)).1
  · have hi : M.nx + 1 ≤ i := hi
    unfold Env.set
    rw [if_neg (by omega)]
    exact (H.fresh i (by omega)).2
/-- a block changes -/
theorem HR.upd {i : Nat} {b0 b : RB} (H : HR B N w0 E M w) (hi : E i = some L) (h0 : M.h.get i = some b0) (hl : RB.live (some b0) = true) (hr : ∀ c, b ≠ .ro c) (ho : w'.os = w.os ∧ w'.tape = w.tape ∧ w'.output = w.output) (hs : w.heap.size ≤ w'.heap.size)
    (hw : ∀ k, k < w.heap.size → k ≠ L.g → w'.heap[k]? = w.heap[k]?) (hb : BR E w' L b) : HR B N w0 E (M.put i b) w' := by
  have hlive : RB.live (M.h.get i) = true := by rw [h0]; exact hl
  have hNg := H.own i L hi hlive
  have hkp : Kp N w w' := ⟨ho.1, ho.2.1, ho.2.2, hs, fun k hk => hw k (Nat.lt_of_lt_of_le (H.nlt k hk) H.kp.size) fun e => hNg (e ▸ hk)⟩
  unfold Mem.put
  refine ⟨H.kp.trans hkp, H.nlt, fun j K h => Nat.lt_of_lt_of_le (H.lt j K h) hs, fun j K h hlj => ?_, fun j c hlj => ?_, H.base, fun j K c h hlj => ?_, fun j k K J hjk hK hJ lj lk => ?_, fun j hj => ⟨?_, (H.fresh j hj).2⟩⟩
  · by_cases e : j = i
    · subst e
      rw [hi] at h
      cases h
      exact hNg
    · simp only [Tr.get_set_ne _ e] at hlj
      exact H.own j K h hlj
  · by_cases e : j = i
    · subst e
      simp only [Tr.get_set_self] at hlj
      cases hlj
      exact absurd rfl (hr c)
    · simp only [Tr.get_set_ne _ e] at hlj
      exact H.ro j c hlj
  · by_cases e : j = i
    · subst e
      rw [hi] at h
      cases h
      simp only [Tr.get_set_self] at hlj
      cases hlj
      exact hb
    · simp only [Tr.get_set_ne _ e] at hlj
      have hB := H.blk j K c h hlj
      by_cases hlc : RB.live (some c) = true
      · exact hB.keep (Env.le_refl E) (hw _ (H.lt j K h) (H.dis j i K L e h hi (by rw [hlj]; exact hlc) hlive))
      · cases c <;> simp [RB.live] at hlc
        · trivial
        · obtain ⟨K', hK', hN⟩ := H.base j (H.ro j _ hlj)
          rw [h] at hK'
          cases hK'
          exact hB.keep (Env.le_refl E) (hkp.block _ hN)
  · by_cases ej : j = i
    · by_cases ek : k = i
      · exact absurd (ej.trans ek.symm) hjk
      · subst ej
        simp only [Tr.get_set_ne _ ek] at lk
        exact H.dis j k K J hjk hK hJ hlive lk
    · simp only [Tr.get_set_ne _ ej] at lj
      by_cases ek : k = i
      · subst ek
        exact H.dis j k K J hjk hK hJ lj hlive
      · simp only [Tr.get_set_ne _ ek] at lk
        exact H.dis j k K J hjk hK hJ lj lk
  · by_cases e : j = i
    · subst e
      have := (H.fresh j hj).1
      rw [h0] at this
      cases this
    · simp only [Tr.get_set_ne _ e]
      exact (H.fresh j hj).1
/-- more is to be shown: the memory is the same -/
theorem HR.re {M' : Mem} (H : HR B N w0 E M w) (h : M'.h = M.h) (k : M'.nx = M.nx) : HR B N w0 E M' w := by
  obtain ⟨a1, a2, a3, a4, a5, a6, a7, a8, a9⟩ := H
  refine ⟨a1, a2, a3, ?_, ?_, a6, ?_, ?_, ?_⟩ <;> simp only [h, k] <;> assumption
/-- a block is known no longer -/
theorem HR.kill {i : Nat} (H : HR B N w0 E M w) (hi : i < M.nx) : HR B N w0 E (M.put i .dead) w := by
  unfold Mem.put
  refine ⟨H.kp, H.nlt, H.lt, fun j K h hl => ?_, fun j c hl => ?_, H.base, fun j K c h hl => ?_, fun j k K J hjk hK hJ lj lk => ?_, fun j hj => ⟨?_, (H.fresh j hj).2⟩⟩
  · by_cases e : j = i
    · subst e; simp only [Tr.get_set_self] at hl; cases hl
    · simp only [Tr.get_set_ne _ e] at hl; exact H.own j K h hl
  · by_cases e : j = i
    · subst e; simp only [Tr.get_set_self] at hl; cases hl
    · simp only [Tr.get_set_ne _ e] at hl; exact H.ro j c hl
  · by_cases e : j = i
    · subst e; simp only [Tr.get_set_self] at hl; cases hl; trivial
    · simp only [Tr.get_set_ne _ e] at hl; exact H.blk j K c h hl
  · by_cases ej : j = i
    · subst ej; simp only [Tr.get_set_self] at lj; cases lj
    · by_cases ek : k = i
      · subst ek; simp only [Tr.get_set_self] at lk; cases lk
      · simp only [Tr.get_set_ne _ ej] at lj
        simp only [Tr.get_set_ne _ ek] at lk
        exact H.dis j k K J hjk hK hJ lj lk
  · have hj : M.nx ≤ j := hj
    simp only [Tr.get_set_ne _ (show j ≠ i by omega)]
    exact (H.fresh j hj).1
end
end
end Mu.CI
end
section
/-
  Known memory read, written, made.
  Conditions: none; generic.
-/
namespace Mu.CI
open Go Go.RowKit
noncomputable section

def Mem.blk (M : Mem) (g : Nat) : Option Blk := match M.h.get g with
  | some (.cells b) => some b
  | some (.ro b) => some b
  | _ => none
def Blk.list (b : Blk) (k : Nat) : Nat → List CV
  | 0 => []
  | n + 1 => b.get k :: Blk.list b (k + 1) n
def Mem.rd (M : Mem) (g o n : Nat) : Option (List CV) := match M.blk g with
  | some b => bif Nat.ble (o + n) b.n then some (b.list o n) else none
  | none => none
section
variable {R : Type}
/-- reckoned first, unless it is not to be -/
def fW (md : Bool) (x : CV) (K : CV → R) : R := bif md then K x else fV x K
def fM (md : Bool) (n : Nat) (K : Nat → R) : R := bif md then K n else fN n K
theorem fW_eq (md : Bool) (x : CV) (K : CV → R) : fW md x K = K x := by cases md; exact fV_eq x K; rfl
theorem fM_eq (md : Bool) (n : Nat) (K : Nat → R) : fM md n K = K n := by cases md; exact fN_eq n K; rfl
def putsK (md : Bool) : List CV → Nat → Tr CV → (Tr CV → R) → R
  | [], _, t, K => K t
  | x :: l, o, t, K => fW md x fun x => t.setK o x fun t => fM md (o + 1) fun o => putsK md l o t K
end
def puts : List CV → Nat → Tr CV → Tr CV
  | [], _, t => t
  | x :: l, o, t => puts l (o + 1) (t.set o x)
theorem putsK_eq {R : Type} (md : Bool) : ∀ (l : List CV) (o : Nat) (t : Tr CV) (K : Tr CV → R), putsK md l o t K = K (puts l o t)
  | [], _, _, _ => rfl
  | x :: l, o, t, K => by simp only [putsK, puts, fW_eq, Tr.setK_eq, fM_eq, putsK_eq md l]
theorem puts_get : ∀ (l : List CV) (o : Nat) (t : Tr CV) (k : Nat), (puts l o t).get k = if o ≤ k ∧ k < o + l.length then l[k - o]? else t.get k
  | [], o, t, k => by simp only [puts, List.length_nil]; rw [if_neg (by omega)]
  | x :: l, o, t, k => by
    rw [puts, puts_get l]
    simp only [List.length_cons]
    by_cases h0 : k = o
    · subst h0
      rw [if_neg (by omega), if_pos (by omega), Tr.get_set_self]
      simp
    · by_cases h1 : o + 1 ≤ k ∧ k < o + 1 + l.length
      · rw [if_pos h1, if_pos (by omega)]
        rw [show k - o = (k - (o + 1)) + 1 by omega]
        rfl
      · rw [if_neg h1, if_neg (by omega), Tr.get_set_ne _ h0]
def Mem.wr (md : Bool) (M : Mem) (g o : Nat) (l : List CV) : Option Mem := match M.h.get g with
  | some (.cells b) => bif Nat.ble (o + l.length) b.n then putsK md l o b.c fun c => M.h.setK g (.cells ⟨c, b.n, b.z⟩) fun h => some ⟨h, M.nx, M.ob, M.hn⟩ else none
  | _ => none
def Mem.new (M : Mem) (b : RB) : Option Mem := M.h.setK M.nx b fun h => fN (M.nx + 1) fun n => some ⟨h, n, M.ob, M.hn⟩
def Mem.newC (md : Bool) (M : Mem) (l : List CV) : Option Mem := putsK md l 0 .e fun c => fN l.length fun n => M.new (.cells ⟨c, n, []⟩)
theorem Mem.new_eq (M : Mem) (b : RB) : M.new b = some (M.push b) := by unfold Mem.new; rw [Tr.setK_eq, fN_eq]; rfl
theorem Mem.newC_eq (md : Bool) (M : Mem) (l : List CV) : M.newC md l = some (M.push (.cells ⟨puts l 0 .e, l.length, []⟩)) := by unfold Mem.newC; rw [putsK_eq, fN_eq, Mem.new_eq]

section
variable {B : Nat} {N : Nat → Prop} {w0 w w' : World} {E E' : Env} {M M' : Mem} {L : Loc} {md : Bool}
theorem list_get (b : Blk) : ∀ (n k j : Nat), (b.list k n)[j]? = if j < n then some (b.get (k + j)) else none
  | 0, k, j => by simp [Blk.list]
  | n + 1, k, 0 => by simp [Blk.list]
  | n + 1, k, j + 1 => by
    rw [Blk.list, List.getElem?_cons_succ, list_get b n]
    simp only [Nat.add_lt_add_iff_right]
    rw [show k + 1 + j = k + (j + 1) by omega]
theorem list_len (b : Blk) : ∀ (n k : Nat), (b.list k n).length = n
  | 0, _ => rfl
  | n + 1, k => by simp [Blk.list, list_len b n]
theorem HR.cells (H : HR B N w0 E M w) {g : Nat} (hg : E g = some L) {b : Blk} (hb : M.blk g = some b) : CellsR E w L b := by
  unfold Mem.blk at hb
  cases h : M.h.get g with
  | none => rw [h] at hb; cases hb
  | some x =>
    rw [h] at hb
    cases x with
    | cells c => cases hb; exact H.blk g L _ hg h
    | ro c => cases hb; exact H.blk g L _ hg h
    | _ => cases hb
theorem CellsR.cell {b : Blk} (H : CellsR E w L b) {k : Nat} (hk : k < b.n) : ∃ v, w.cell? ⟨L.g, L.o + k, none⟩ = some v ∧ VR E (b.get k) v ∧ v.oneCell' = true := by
  obtain ⟨c, e, fz, h1, h2, h3, h4, h5⟩ := H
  obtain ⟨v, k1, k2, k3⟩ := h5 k hk
  refine ⟨v, ?_, k2, k3⟩
  unfold World.cell?
  simp only [h1]
  exact k1
theorem CellsR.frz {b : Blk} (H : CellsR E w L b) {k : Nat} (hk : k < b.n) : w.frozen? ⟨L.g, L.o + k, none⟩ = false := by
  obtain ⟨c, e, fz, h1, h2, h3, h4, h5⟩ := H
  have := h4 (L.o + k) (by omega)
  unfold World.frozen?
  simp only [h1]
  obtain ⟨lo, hi⟩ := fz
  simpa using this
/-- what is read is what is there -/
theorem rd_ok (H : HR B N w0 E M w) {g o n : Nat} {l : List CV} (hg : E g = some L) (hr : M.rd g o n = some l) :
    ∃ vs, VRL E l vs ∧ vs.length = n ∧ (∀ (j : Nat) (v : Value), vs[j]? = some v → w.cell? ⟨L.g, L.o + o + j, none⟩ = some v) ∧ ∀ v ∈ vs, v.oneCell' = true := by
  unfold Mem.rd at hr
  cases hb : M.blk g with
  | none => rw [hb] at hr; cases hr
  | some b =>
    rw [hb] at hr
    cases hn : Nat.ble (o + n) b.n with
    | false => simp only [hn, cond_false] at hr; cases hr
    | true =>
      simp only [hn, cond_true, Option.some.injEq] at hr
      subst hr
      have hn' := Nat.le_of_ble_eq_true hn
      have hC := H.cells hg hb
      let F : Nat → Value := fun k => if h : k < b.n then (Classical.choose (hC.cell h)) else undef
      have hF : ∀ k (h : k < b.n), w.cell? ⟨L.g, L.o + k, none⟩ = some (F k) ∧ VR E (b.get k) (F k) ∧ (F k).oneCell' = true := fun k h => by
        have := Classical.choose_spec (hC.cell h)
        simp only [F, dif_pos h]
        exact this
      refine ⟨(List.range n).map fun j => F (o + j), VRL.of (by simp [list_len]) fun i x v hx hv => ?_, by simp, fun j v hv => ?_, fun v hv => ?_⟩
      · rw [list_get] at hx
        split at hx
        · rename_i hi
          cases hx
          simp only [List.getElem?_map, List.getElem?_range hi, Option.map_some, Option.some.injEq] at hv
          subst hv
          exact (hF _ (by omega)).2.1
        · cases hx
      · have hj : j < n := by
          rcases Nat.lt_or_ge j n with h | h
          · exact h
          · simp [h] at hv
        simp only [List.getElem?_map, List.getElem?_range hj, Option.map_some, Option.some.injEq] at hv
        subst hv
        have := (hF (o + j) (by omega)).1
        rwa [show L.o + (o + j) = L.o + o + j by omega] at this
      · obtain ⟨j, hj, rfl⟩ := List.mem_map.1 hv
        exact (hF _ (by have := List.mem_range.1 hj; omega)).2.2
theorem setCells_side (b : Nat) : ∀ (vs : List Value) (o : Nat) (w : World), (w.setCells b o vs).os = w.os ∧ (w.setCells b o vs).tape = w.tape ∧ (w.setCells b o vs).output = w.output ∧ (w.setCells b o vs).heap.size = w.heap.size ∧ ∀ k, k ≠ b → (w.setCells b o vs).heap[k]? = w.heap[k]?
  | [], _, w => ⟨rfl, rfl, rfl, rfl, fun _ _ => rfl⟩
  | v :: r, o, w => by
    obtain ⟨h1, h2, h3, h4, h5⟩ := setCells_side b r (o + 1) (w.setCell ⟨b, o, none⟩ v)
    refine ⟨h1, h2, h3, h4.trans (by simp [World.setCell]), fun k hk => (h5 k hk).trans ?_⟩
    simp [World.setCell, Array.getElem?_modify, Ne.symm hk]
theorem setCells_heap (b : Nat) : ∀ (vs : List Value) (o : Nat) (w : World) {c : Array Value} {e : TypeId} {fz : Nat × Nat}, w.heap[b]? = some (.cells c e fz) → ∃ c', (w.setCells b o vs).heap[b]? = some (.cells c' e fz) ∧ c'.size = c.size
  | [], _, w, c, e, fz, h => ⟨c, h, rfl⟩
  | v :: r, o, w, c, e, fz, h => by
    have h1 : (w.setCell ⟨b, o, none⟩ v).heap[b]? = some (.cells (c.setIfInBounds o v) e fz) := by
      simp [World.setCell, Array.getElem?_modify, h]
    obtain ⟨c', h2, h3⟩ := setCells_heap b r (o + 1) _ h1
    exact ⟨c', h2, h3.trans (by simp)⟩
/-- what is written -/
theorem wr_ok (H : HR B N w0 E M w) {g o : Nat} {l : List CV} {vs : List Value} (hg : E g = some L) (hr : M.wr md g o l = some M') (hv : VRL E l vs) (h1 : ∀ v ∈ vs, v.oneCell' = true) :
    (∀ j, j < vs.length → (w.cell? ⟨L.g, L.o + o + j, none⟩).isSome = true) ∧ (∀ j, j < vs.length → w.frozen? ⟨L.g, L.o + o + j, none⟩ = false) ∧ HR B N w0 E M' (w.setCells L.g (L.o + o) vs) ∧ M'.nx = M.nx ∧ M.sfx M' := by
  unfold Mem.wr at hr
  cases hb : M.h.get g with
  | none => rw [hb] at hr; cases hr
  | some x =>
    rw [hb] at hr
    cases x with
    | cells b =>
      cases hn : Nat.ble (o + l.length) b.n with
      | false => simp only [hn, cond_false] at hr; cases hr
      | true =>
        simp only [hn, cond_true, putsK_eq, Tr.setK_eq, Option.some.injEq] at hr
        subst hr
        have hn' := Nat.le_of_ble_eq_true hn
        have hC : CellsR E w L b := H.blk g L _ hg hb
        have hlen := hv.len
        have hsome : ∀ j, j < vs.length → (w.cell? ⟨L.g, L.o + o + j, none⟩).isSome = true := fun j hj => by
          obtain ⟨v, k1, _⟩ := hC.cell (k := o + j) (by omega)
          rw [show L.o + (o + j) = L.o + o + j by omega] at k1
          rw [k1]
          rfl
        refine ⟨hsome, fun j hj => ?_, ?_, rfl, ⟨[], rfl⟩⟩
        · have := hC.frz (k := o + j) (by omega)
          rwa [show L.o + (o + j) = L.o + o + j by omega] at this
        · obtain ⟨s1, s2, s3, s4, s5⟩ := setCells_side L.g vs (L.o + o) w
          refine H.upd hg hb rfl (fun c h => by cases h) ⟨s1, s2, s3⟩ (Nat.le_of_eq s4.symm) (fun k _ hk => s5 k hk) ?_
          have hC2 := hC
          obtain ⟨c, e, fz, k1, k2, k3, k4, k5⟩ := hC
          obtain ⟨c', j1, j2⟩ := setCells_heap L.g vs (L.o + o) w k1
          refine ⟨c', e, fz, j1, j2.trans k2, k3, k4, fun k hk => ?_⟩
          have hcell : ∀ v, (w.setCells L.g (L.o + o) vs).cell? ⟨L.g, L.o + k, none⟩ = some v → c'[L.o + k]? = some v := fun v hv => by
            unfold World.cell? at hv
            simp only [j1] at hv
            exact hv
          by_cases hin : o ≤ k ∧ k < o + l.length
          · have hj : k - o < vs.length := by omega
            have := World.cell?_setCells_in L.g vs (L.o + o) w hsome (k - o) hj
            rw [show L.o + o + (k - o) = L.o + k by omega] at this
            have hjl : k - o < l.length := by omega
            refine ⟨_, hcell _ this, ?_, h1 _ (List.getElem_mem _)⟩
            have hget : Blk.get ⟨puts l o b.c, b.n, b.z⟩ k = l[k - o] := by
              unfold Blk.get
              simp only [puts_get, if_pos hin, List.getElem?_eq_getElem hjl]
            rw [hget]
            exact hv.get' (List.getElem?_eq_getElem hjl) (List.getElem?_eq_getElem hj)
          · obtain ⟨v, i1, i2, i3⟩ := hC2.cell hk
            have hout := World.cell?_setCells_out L.g vs (L.o + o) w ⟨L.g, L.o + k, none⟩ (fun _ _ => by simp only; omega)
            refine ⟨v, hcell v (hout.trans i1), ?_, i3⟩
            have hget : Blk.get ⟨puts l o b.c, b.n, b.z⟩ k = b.get k := by
              unfold Blk.get
              simp only [puts_get, if_neg hin]
            rw [hget]
            exact i2
    | _ => cases hr
theorem below_alloc (w : World) (o : Obj) : Below w.heap.size w (w.alloc o) := ⟨rfl, rfl, rfl, by show _ ≤ (w.heap.push o).size; simp, fun k hk => by show (w.heap.push o)[k]? = _; simp [Array.getElem?_push, Nat.ne_of_lt hk]⟩
theorem below_drew (w : World) : Below w.heap.size w w.drew := ⟨rfl, rfl, rfl, Nat.le_refl _, fun _ _ => rfl⟩
theorem alloc_get (w : World) (o : Obj) : (w.alloc o).heap[w.heap.size]? = some o := by show (w.heap.push o)[w.heap.size]? = _; simp
theorem alloc_size (w : World) (o : Obj) : (w.alloc o).heap.size = w.heap.size + 1 := by show (w.heap.push o).size = _; simp
theorem cells_new {l : List CV} {vs : List Value} {g : Nat} {c : Array Value} {e : TypeId} {fz : Nat × Nat} (hg : w.heap[g]? = some (.cells c e fz)) (hfz : ∀ k, k < c.size → ¬ (fz.1 ≤ k ∧ k < fz.2)) (hc : ∀ (j : Nat) (v : Value), vs[j]? = some v → c[j]? = some v) (hle : vs.length ≤ c.size) (hv : VRL E l vs) (h1 : ∀ v ∈ vs, v.oneCell' = true) :
    CellsR E w ⟨g, 0, c.size⟩ ⟨puts l 0 .e, l.length, []⟩ := by
  have hlen := hv.len
  refine ⟨c, e, fz, hg, rfl, by simp only; omega, hfz, fun k hk => ?_⟩
  have hk' : k < vs.length := by simp only at hk; omega
  have hk2 : k < l.length := hk
  refine ⟨vs[k], ?_, ?_, h1 _ (List.getElem_mem _)⟩
  · simp only [Nat.zero_add]
    exact hc k _ (List.getElem?_eq_getElem hk')
  · have hget : Blk.get ⟨puts l 0 .e, l.length, []⟩ k = l[k] := by
      unfold Blk.get
      simp only [puts_get, if_pos (show 0 ≤ k ∧ k < 0 + l.length by omega), Nat.sub_zero, List.getElem?_eq_getElem hk2]
    rw [hget]
    exact hv.get' (List.getElem?_eq_getElem hk2) (List.getElem?_eq_getElem hk')
/-- a new row of such cells -/
theorem newC_ok (H : HR B N w0 E M w) {l : List CV} {vs : List Value} (hr : M.newC md l = some M') (hv : VRL E l vs) (h1 : ∀ v ∈ vs, v.oneCell' = true) (e : TypeId) :
    Env.ex M.nx E (E.set M.nx ⟨w.heap.size, 0, vs.length⟩) ∧ HR B N w0 (E.set M.nx ⟨w.heap.size, 0, vs.length⟩) M' (w.alloc (.cells vs.toArray e)) := by
  rw [Mem.newC_eq, Option.some.injEq] at hr
  subst hr
  refine H.new (b := .cells _) (below_alloc _ _) (Nat.le_refl _) (by simp) (fun c h => by cases h) fun E' hE hn => ?_
  have := cells_new (w := w.alloc (.cells vs.toArray e)) (g := w.heap.size) (c := vs.toArray) (e := e) (fz := (0, 0)) (l := l) (vs := vs) (E := E') (alloc_get _ _) (fun k _ => by simp) (fun j v h => by simpa using h) (by simp) (hv.mono hE) h1
  show CellsR _ _ _ _
  simpa using this
end
end
end Mu.CI
end
