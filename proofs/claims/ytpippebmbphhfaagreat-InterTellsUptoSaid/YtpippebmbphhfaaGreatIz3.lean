/-
  Own texts laid together, part 3: MuLift, MuArr, MuEqS, MuLiftA, MuPair, MuDrawG, MuYield, MuRangeY, MuDrawY, MuFnN, MuBackward, MuBackK, ShelfM, MuSets, MuBack, MuCopy, MuSetR, MuRes2, MuLiveP, MuMapsR, MuRowsAt, MuBefore, MuPlaces, MuRef17A, MuRef17G, MuAllP, MuLiveC, MuNext15, MuRef17B.
  Conditions: as each part says.
-/
import Derived.Test.YtpippebmbphhfaaGreatIz2
import Derived.Laws.StructEq
import Derived.Shelf.SlIterI.Nil
import Derived.Shelf.SortM.Plain
import Derived.Shelf.SortM.SortNone
import Derived.Shelf.SlMaps.Clone
import Derived.Shelf.SlMaps.Copy
import Derived.Ground.GgzProg
import Derived.Ground.SlgmProg
import Derived.Ground.SlmcProg
import Derived.Ground.SlmpProg
import Derived.Test.YtpippebmbphhfaaGreatProg
import Derived.Maps.OwnSet
import Derived.WalkKit
import Derived.TacticsInMore
import Derived.Lib.SlMapMerge
import Derived.Carry
import Derived.Deep.OwnRows
import Derived.RangeFuncNested
section
/-
  Walks that show what a function computes, as a plain function (MuM): loops, ways that meet, rows read and written at any number.
  Conditions: none; generic.
-/
namespace Mu
open Go Go.RowKit Go.Proofs

/-! ### what is read of rows and texts at a number -/
def ixD {α : Type} [Inhabited α] (l : List α) (z : Int) : α := l.getD z.toNat default
def inBd {α : Type} (l : List α) (z : Int) : Bool := decide (0 ≤ z) && decide (z.toNat < l.length)
theorem inB_iff {α : Type} {l : List α} {z : Int} : inBd l z = true ↔ 0 ≤ z ∧ z.toNat < l.length := by unfold inBd; simp
theorem inB_get {α : Type} [Inhabited α] {l : List α} {z : Int} (h : inBd l z = true) : l[z.toNat]? = some (ixD l z) := by
  have h1 := (inB_iff.1 h).2
  unfold ixD
  rw [List.getD_eq_getElem?_getD, List.getElem?_eq_getElem h1]
  rfl
theorem ixD_of {α : Type} [Inhabited α] {l : List α} {k : Nat} {x : α} (h : l[k]? = some x) : ixD l (k : Int) = x := by
  unfold ixD
  rw [Int.toNat_natCast, List.getD_eq_getElem?_getD, h]
  rfl
def rowB (n bytes : Nat) : Bool := decide (n ≤ maxLen) && decide (n * bytes ≤ 140737488355328)
def strB (s : ByteArray) : Bool := decide (s.size ≤ maxLen)
def wfB (k : IntKind) (a : Int) : Bool := (Lit.int k a).wf
theorem wfB_wf {k : IntKind} {a : Int} (h : wfB k a = true) : wfI k a := h
theorem rowB_len {n b : Nat} (h : rowB n b = true) : n ≤ maxLen := by unfold rowB at h; simp at h; exact h.1
theorem rowB_bytes {n b : Nat} (h : rowB n b = true) : n * b ≤ 140737488355328 := by unfold rowB at h; simp at h; exact h.2
theorem strB_le {s : ByteArray} (h : strB s = true) : s.size ≤ maxLen := of_decide_eq_true h
theorem imp_of {g p : Bool} (h : (!g || p) = true) (hg : g = true) : p = true := by subst hg; simpa using h
theorem and_l {a b : Bool} (h : (a && b) = true) : a = true := by cases a; cases h; rfl
theorem cndA {α : Type 1} {a b : Bool} (h : a = true) (x y : α) : (bif a && b then x else y) = bif b then x else y := by subst h; rfl
theorem cndT {α : Type 1} {b : Bool} (h : b = true) (x y : α) : (bif b then x else y) = x := by subst h; rfl
/-! ### a slot is set, whatever stands in the others -/
theorem set0 {x0 r : AV} {l : List AV} : putA (x0 :: l) (some 0) r = r :: l := rfl
theorem set1 {x0 x1 r : AV} {l : List AV} : putA (x0 :: x1 :: l) (some 1) r = x0 :: r :: l := rfl
theorem set2 {x0 x1 x2 r : AV} {l : List AV} : putA (x0 :: x1 :: x2 :: l) (some 2) r = x0 :: x1 :: r :: l := rfl
theorem set3 {x0 x1 x2 x3 r : AV} {l : List AV} : putA (x0 :: x1 :: x2 :: x3 :: l) (some 3) r = x0 :: x1 :: x2 :: r :: l := rfl
theorem set4 {x0 x1 x2 x3 x4 r : AV} {l : List AV} : putA (x0 :: x1 :: x2 :: x3 :: x4 :: l) (some 4) r = x0 :: x1 :: x2 :: x3 :: r :: l := rfl
theorem set5 {x0 x1 x2 x3 x4 x5 r : AV} {l : List AV} : putA (x0 :: x1 :: x2 :: x3 :: x4 :: x5 :: l) (some 5) r = x0 :: x1 :: x2 :: x3 :: x4 :: r :: l := rfl
theorem set6 {x0 x1 x2 x3 x4 x5 x6 r : AV} {l : List AV} : putA (x0 :: x1 :: x2 :: x3 :: x4 :: x5 :: x6 :: l) (some 6) r = x0 :: x1 :: x2 :: x3 :: x4 :: x5 :: r :: l := rfl
theorem set7 {x0 x1 x2 x3 x4 x5 x6 x7 r : AV} {l : List AV} : putA (x0 :: x1 :: x2 :: x3 :: x4 :: x5 :: x6 :: x7 :: l) (some 7) r = x0 :: x1 :: x2 :: x3 :: x4 :: x5 :: x6 :: r :: l := rfl
theorem setS8 {x0 x1 x2 x3 x4 x5 x6 x7 r : AV} {l l' : List AV} {k : Nat} (e : putA l (some k) r = l') : putA (x0 :: x1 :: x2 :: x3 :: x4 :: x5 :: x6 :: x7 :: l) (some (k + 8)) r = x0 :: x1 :: x2 :: x3 :: x4 :: x5 :: x6 :: x7 :: l' := by subst e; rfl
theorem setS32 {x0 x1 x2 x3 x4 x5 x6 x7 x8 x9 x10 x11 x12 x13 x14 x15 x16 x17 x18 x19 x20 x21 x22 x23 x24 x25 x26 x27 x28 x29 x30 x31 r : AV} {l l' : List AV} {k : Nat} (e : putA l (some k) r = l') : putA (x0 :: x1 :: x2 :: x3 :: x4 :: x5 :: x6 :: x7 :: x8 :: x9 :: x10 :: x11 :: x12 :: x13 :: x14 :: x15 :: x16 :: x17 :: x18 :: x19 :: x20 :: x21 :: x22 :: x23 :: x24 :: x25 :: x26 :: x27 :: x28 :: x29 :: x30 :: x31 :: l) (some (k + 32)) r = x0 :: x1 :: x2 :: x3 :: x4 :: x5 :: x6 :: x7 :: x8 :: x9 :: x10 :: x11 :: x12 :: x13 :: x14 :: x15 :: x16 :: x17 :: x18 :: x19 :: x20 :: x21 :: x22 :: x23 :: x24 :: x25 :: x26 :: x27 :: x28 :: x29 :: x30 :: x31 :: l' := by subst e; rfl
theorem get0 {x0 : AV} {l : List AV} : evA (x0 :: l) (.tmp 0) = x0 := rfl
theorem get1 {x0 x1 : AV} {l : List AV} : evA (x0 :: x1 :: l) (.tmp 1) = x1 := rfl
theorem get2 {x0 x1 x2 : AV} {l : List AV} : evA (x0 :: x1 :: x2 :: l) (.tmp 2) = x2 := rfl
theorem get3 {x0 x1 x2 x3 : AV} {l : List AV} : evA (x0 :: x1 :: x2 :: x3 :: l) (.tmp 3) = x3 := rfl
theorem get4 {x0 x1 x2 x3 x4 : AV} {l : List AV} : evA (x0 :: x1 :: x2 :: x3 :: x4 :: l) (.tmp 4) = x4 := rfl
theorem get5 {x0 x1 x2 x3 x4 x5 : AV} {l : List AV} : evA (x0 :: x1 :: x2 :: x3 :: x4 :: x5 :: l) (.tmp 5) = x5 := rfl
theorem get6 {x0 x1 x2 x3 x4 x5 x6 : AV} {l : List AV} : evA (x0 :: x1 :: x2 :: x3 :: x4 :: x5 :: x6 :: l) (.tmp 6) = x6 := rfl
theorem get7 {x0 x1 x2 x3 x4 x5 x6 x7 : AV} {l : List AV} : evA (x0 :: x1 :: x2 :: x3 :: x4 :: x5 :: x6 :: x7 :: l) (.tmp 7) = x7 := rfl
theorem getS8 {x0 x1 x2 x3 x4 x5 x6 x7 r : AV} {l : List AV} {k : Nat} (e : evA l (.tmp k) = r) : evA (x0 :: x1 :: x2 :: x3 :: x4 :: x5 :: x6 :: x7 :: l) (.tmp (k + 8)) = r := e
theorem getS32 {x0 x1 x2 x3 x4 x5 x6 x7 x8 x9 x10 x11 x12 x13 x14 x15 x16 x17 x18 x19 x20 x21 x22 x23 x24 x25 x26 x27 x28 x29 x30 x31 r : AV} {l : List AV} {k : Nat} (e : evA l (.tmp k) = r) : evA (x0 :: x1 :: x2 :: x3 :: x4 :: x5 :: x6 :: x7 :: x8 :: x9 :: x10 :: x11 :: x12 :: x13 :: x14 :: x15 :: x16 :: x17 :: x18 :: x19 :: x20 :: x21 :: x22 :: x23 :: x24 :: x25 :: x26 :: x27 :: x28 :: x29 :: x30 :: x31 :: l) (.tmp (k + 32)) = r := e
theorem getC {l : List AV} {v : Value} : evA l (.const v) = .lit v := rfl
theorem setN {l : List AV} {r : AV} : putA l none r = l := rfl
/-! ### a nil row is an empty one -/
section
variable {P : Program} {C : Ctx} {t t' : List AV} {h h' : List ABlk} {o : Oper}
theorem Quiet.ixM {ty : TypeId} {x y : Operand} {ik : IntKind} {z : Int} {n : Nat} {α : Type} [Inhabited α] {T : Ty α} {l : List α} [ES P ty n] (ho : o.op = .indexAddr ty x y) (hx : evA t x = .bs T l) (hy : evA t y = .lit (.int ik z)) (hs : T.size = n) (hz : inBd l z = true) : Quiet P C t h o (.bp T (ixD l z) 0) :=
  Quiet.ixi ho hx hy hs (inB_iff.1 hz).1 (inB_get hz)
theorem AOp.appQ {ty : TypeId} {x y : Operand} {i ver : Nat} {e : TypeId} {bytes n : Nat} {α : Type} {T : Ty α} {l l2 : List α} {enc : α → List AV} {K : St → Prop} [RT P ty e n bytes] [EncOf T enc] (ho : o.op = .call { callee := .builtin .append, args := #[x, y], argTypes := #[ty, ty] })
    (hx : evA t x = .own i ver) (hi : h[i]? = some (.row ver e T l)) (hy : evA t y = .bs T l2) (hs : T.size = n) (hb : rowB (l.length + l2.length) bytes = true)
    (hK : K ⟨putA t o.dst (.own i (ver + 1)), h.set i (.row (ver + 1) e T (l ++ l2))⟩) : AOp P C o ⟨t, h⟩ K := AOp.app ho hx hi hy hs (rowB_len hb) (rowB_bytes hb) hK
theorem gA_t {ops : Array Oper} {b : Bool} (hg : gA ops t o = some (b == true)) : gA ops t o = some b := by rw [hg]; cases b <;> rfl
theorem gA_f {ops : Array Oper} {b : Bool} (hg : gA ops t o = some (b == false)) : gA ops t o = some (!b) := by rw [hg]; cases b <;> rfl
theorem gA_tc {ops : Array Oper} {j : Nat} {q c : Bool} (ho : o.guard = some (j, true)) (hd : ((ops[j]?).bind (·.dst)).bind (t[·]?) = some (cond q (.lit (.bool c)) (.lit undef))) : gA ops t o = some (q && c) := by rw [gA_c ho hd]; cases c <;> rfl
theorem St.le_own (j : Nat) (e : TypeId) {α : Type} (T : Ty α) (hj : t[j]? = some (.lit (.slice none 0 0))) (h0 : 0 < T.size) (ht : t.set j (.own h.length 0) = t' := by ((try simp only [List.set_cons_zero, List.set_cons_succ, List.length_nil, List.length_cons, Nat.reduceAdd]); exact rfl)) (hh : h ++ [.row 0 e T []] = h' := by ((try simp only [List.nil_append, List.cons_append]); exact rfl)) : St.le C ⟨t, h⟩ ⟨t', h'⟩ := by
  subst ht hh
  exact St.le_nil j e T hj h0
theorem leC (hc : Cut h h') (hb : bdH h' = true := by rfl) (hf : Fgt h'.length t t' := by ((try simp only [putA, List.set_cons_zero, List.set_cons_succ]); repeat (first | exact Fgt.nil | refine Fgt.keep rfl ?_ | refine Fgt.any ?_ | refine Fgt.keep (by first | assumption | exact bd_of_cl _ _ (by assumption)) ?_))) (hm : mkD h' = mkD h := by rfl) : St.le C ⟨t, h⟩ ⟨t', h'⟩ := St.le_c hc hb hf hm
theorem exN {id : Nat} {Q : Exit → St → Prop} {s : St} (hq : Q .normal s) : ablock id Q (.exit id) s := by
  unfold ablock
  simp [hq]
theorem athen_e {K : St → Prop} {Q : Exit → St → Prop} {id : Nat} {s : St} (hq : Q (.exit id) s) : athen K Q (.exit id) s := hq
theorem abN {id : Nat} {Q : Exit → St → Prop} {s : St} (hq : Q .normal s) : ablock id Q .normal s := hq
theorem AOp.boxI {elem : TypeId} {x : Operand} {cells : List AV} {K : St → Prop} (i : Nat) (hi : h.length = i) (ho : o.op = .box elem x) (hp : Parts0 h (evA t x) cells) (hK : K ⟨putA t o.dst (.ptr i 0), h ++ [.box cells]⟩) : AOp P C o ⟨t, h⟩ K := by
  subst hi
  exact AOp.box (s := ⟨t, h⟩) ho hp hK
theorem AOp.alI {elem : TypeId} {zs : List Value} {K : St → Prop} [ZC P elem zs] (i : Nat) (hi : h.length = i) (ho : o.op = .alloc elem) (hK : K ⟨putA t o.dst (.ptr i 0), h ++ [.box (zs.map .lit)]⟩) : AOp P C o ⟨t, h⟩ K := by
  subst hi
  exact AOp.al ho hK
theorem sNtM {ops : Array Oper} {rest : List Oper} {K : St → Prop} (ht : t = t' := by exact rfl) (hh : h = h' := by ((try simp only [List.nil_append, List.cons_append, List.set_cons_zero, List.set_cons_succ, List.take_zero, List.take_succ_cons, List.drop_succ_cons, List.drop_zero, List.drop_nil, List.take_nil, List.map_cons, List.map_nil, List.append_nil, List.length_cons, List.length_nil, Nat.zero_add, Nat.reduceAdd]); exact rfl)) (hk : aSeq P C ops K rest ⟨t', h'⟩) : aSeq P C ops K rest ⟨t, h⟩ := by
  subst ht hh
  exact hk
theorem Awp.seqJ {x y : Code} {Q : Exit → St → Prop} {s : St} {β : Type} (J : β → Prop) (G : β → St) (hx : Awp P C x (athen (fun s' => ∃ b, J b ∧ St.le C s' (G b)) Q) s) (hy : ∀ b, J b → Awp P C y Q (G b)) : Awp P C (.seq x y) Q s :=
  Awp.seq fun K hK => hx.mono fun e s' q => by
    cases e with
    | normal =>
      obtain ⟨b, hJ, hle⟩ := q
      exact hK s' ((hy b hJ).le hle)
    | _ => exact q
theorem Awp.loopM {c : Code} {Q : Exit → St → Prop} {s : St} {σ ρ β : Type} {step : σ → M (σ ⊕ ρ)} {s0 : σ} {r : ρ} (H : (M.loop step s0).to r) (F : σ → β → St) (b0 : β) (h0 : St.le C s (F s0 b0))
    (hr : ∀ s' b x, (step s').to x → (∀ r', x = .inr r' → r' = r) → Awp P C c (athen (fun st => ∃ s'' b', x = .inl s'' ∧ St.le C st (F s'' b')) Q) (F s' b)) : Awp P C (.loop c) Q s := by
  obtain ⟨k, hk⟩ := M.to_loop.1 H
  refine Awp.loop (fun m st => ∃ s' b, st = F s' b ∧ M.Rounds step m s' r) k ⟨_, h0, s0, b0, rfl, hk⟩ ?_
  rintro m st ⟨s', b, rfl, hm⟩
  cases hm with
  | out hx =>
    refine (hr s' b _ hx fun r' e => by cases e; rfl).mono fun e s1 q => ?_
    cases e with
    | normal => obtain ⟨_, _, e, _⟩ := q; cases e
    | _ => exact q
  | on hx hm =>
    refine (hr s' b _ hx fun r' e => by cases e).mono fun e s1 q => ?_
    cases e with
    | normal =>
      obtain ⟨s2, b', e, hle⟩ := q
      cases e
      exact ⟨_, Nat.lt_succ_self _, _, hle, _, b', rfl, hm⟩
    | _ => exact q
end
instance inMuLift1 : Inhabited Ins := ⟨⟨0, 0, 0, 0, 0, 0, [], 0, 0⟩⟩
instance inMuLift2 : Inhabited Block := ⟨⟨⟨#[]⟩, []⟩⟩
end Mu
end
section
/-
  Arrays of elements of one cell: made of a literal; an element's address.
  Conditions: none; generic.
-/
namespace Mu
open Go Go.RowKit Go.ChangeShapes Go.WideShapes

section
variable {P : Program} {C : Ctx} {t : List AV} {h : List ABlk} {o : Oper}
end
end Mu
end
section
/-
  Records of numbers and bools that are compared.
  Conditions: none; generic.
-/
namespace Mu
open Go Go.RowKit Go.Proofs

/-- fields of one cell each: numbers (true) and bools (false) -/
def fldsOk (P : Program) : List Field → Nat → List Bool → Bool
  | [], _, [] => true
  | f :: fs, j, b :: bs => f.name != "_" && f.offset == j && (match P.underlying f.type with | some (.int _) => b | some .bool => !b | _ => false) && fldsOk P fs (j + 1) bs
  | _, _, _ => false
def scEq : List Bool → List Value → List Value → Option Bool
  | [], [], [] => some true
  | true :: bs, .int k a :: vs, .int k' b :: ws => if k = k' then (scEq bs vs ws).map fun r => a == b && r else none
  | false :: bs, .bool a :: vs, .bool b :: ws => (scEq bs vs ws).map fun r => a == b && r
  | _, _, _ => none
/-- a record type of such fields, as '==' reads it -/
def recT (P : Program) (ty : TypeId) (bs : List Bool) : Bool :=
  (match P.underlying ty with
    | some (.struct fs) => fldsOk P fs.toList 0 bs
    | _ => false) && !P.stoodInHeld ty && !P.eqGuardType P.depth ty
section
variable {P : Program} {w : World}
theorem run_part_num {e : TypeId} {k : IntKind} {xs : Array Value} {off : Nat} {v : Value} (he : P.underlying e = some (.int k)) (hx : xs[off]? = some v) : (part e xs off).run P w = .ok v w := by
  simp [part, isAgg, run_underlying he, hx]
theorem run_part_bit {e : TypeId} {xs : Array Value} {off : Nat} {v : Value} (he : P.underlying e = some .bool) (hx : xs[off]? = some v) : (part e xs off).run P w = .ok v w := by
  simp [part, isAgg, run_underlying he, hx]
theorem scEq_cons {b : Bool} {bs : List Bool} {vs ws : List Value} {r : Bool} (h : scEq (b :: bs) vs ws = some r) :
    (∃ k a c vs' ws' r', b = true ∧ vs = .int k a :: vs' ∧ ws = .int k c :: ws' ∧ scEq bs vs' ws' = some r' ∧ r = (a == c && r')) ∨
    (∃ a c vs' ws' r', b = false ∧ vs = .bool a :: vs' ∧ ws = .bool c :: ws' ∧ scEq bs vs' ws' = some r' ∧ r = (a == c && r')) := by
  cases vs with
  | nil => cases b <;> simp [scEq] at h
  | cons v vs =>
    cases ws with
    | nil => cases b <;> cases v <;> simp [scEq] at h
    | cons u ws =>
      cases b <;> cases v <;> cases u <;> simp only [scEq, reduceCtorEq] at h
      · obtain ⟨r', hr', rfl⟩ := Option.map_eq_some_iff.1 h
        exact .inr ⟨_, _, _, _, r', rfl, rfl, rfl, hr', rfl⟩
      · split at h
        · rename_i hk
          subst hk
          obtain ⟨r', hr', rfl⟩ := Option.map_eq_some_iff.1 h
          exact .inl ⟨_, _, _, _, _, r', rfl, rfl, rfl, hr', rfl⟩
        · cases h
theorem run_flds {d : Nat} {xs ys : Array Value} : ∀ (fs : List Field) (j : Nat) (bs : List Bool) (vs ws : List Value) (r : Bool), fldsOk P fs j bs = true → scEq bs vs ws = some r → (∀ i, xs[j + i]? = vs[i]?) → (∀ i, ys[j + i]? = ws[i]?) → (Op.eqFields (d + 1) xs ys fs).run P w = .ok r w
  | [], j, bs, vs, ws, r, h, hr, hx, hy => by
    cases bs with
    | nil =>
      cases vs <;> cases ws <;> simp [scEq] at hr
      subst hr
      rfl
    | cons b bs => simp [fldsOk] at h
  | f :: fs, j, bs, vs, ws, r, h, hr, hx, hy => by
    cases bs with
    | nil => simp [fldsOk] at h
    | cons b bs =>
      simp only [fldsOk, Bool.and_eq_true, bne_iff_ne, ne_eq, beq_iff_eq] at h
      obtain ⟨⟨⟨hn, ho⟩, ht⟩, hrest⟩ := h
      have shift : ∀ {zs : Array Value} {u : Value} {us : List Value}, (∀ i, zs[j + i]? = (u :: us)[i]?) → zs[f.offset]? = some u ∧ ∀ i, zs[j + 1 + i]? = us[i]? := fun hz => by
        refine ⟨by rw [ho]; simpa using hz 0, fun i => ?_⟩
        have := hz (i + 1)
        rw [List.getElem?_cons_succ] at this
        rw [← this]
        congr 1
        omega
      rcases scEq_cons hr with ⟨k, a, c, vs', ws', r', rfl, rfl, rfl, hr', rfl⟩ | ⟨a, c, vs', ws', r', rfl, rfl, rfl, hr', rfl⟩
      · obtain ⟨hx0, hx1⟩ := shift hx
        obtain ⟨hy0, hy1⟩ := shift hy
        have ih := run_flds (d := d) (xs := xs) (ys := ys) fs (j + 1) bs vs' ws' r' hrest hr' hx1 hy1
        cases hu : P.underlying f.type with
        | none => rw [hu] at ht; cases ht
        | some td =>
          rw [hu] at ht
          cases td <;> simp at ht
          rename_i ik
          have q : (Op.equalIn (d + 1) f.type (.int k a) (.int k c)).run P w = .ok (a == c) w := run_equalIn_int (P := P) w d f.type k ik a c hu
          simp only [Op.eqFields, hn, ne_eq, not_false_eq_true, if_true, Sem.run_bind]
          rw [run_part_num hu hx0, Result.andThen_ok, run_part_num hu hy0, Result.andThen_ok, q, Result.andThen_ok]
          cases (a == c)
          · rfl
          · simpa using ih
      · obtain ⟨hx0, hx1⟩ := shift hx
        obtain ⟨hy0, hy1⟩ := shift hy
        have ih := run_flds (d := d) (xs := xs) (ys := ys) fs (j + 1) bs vs' ws' r' hrest hr' hx1 hy1
        cases hu : P.underlying f.type with
        | none => rw [hu] at ht; cases ht
        | some td =>
          rw [hu] at ht
          cases td <;> simp at ht
          have q : (Op.equalIn (d + 1) f.type (.bool a) (.bool c)).run P w = .ok (a == c) w := run_equalIn_bool' (P := P) w d f.type a c hu
          simp only [Op.eqFields, hn, ne_eq, not_false_eq_true, if_true, Sem.run_bind]
          rw [run_part_bit hu hx0, Result.andThen_ok, run_part_bit hu hy0, Result.andThen_ok, q, Result.andThen_ok]
          cases (a == c)
          · rfl
          · simpa using ih
theorem run_sameS {ty : TypeId} {bs : List Bool} {vs ws : List Value} {r : Bool} (h : recT P ty bs = true) (hr : scEq bs vs ws = some r) : (Op.equalIn 10000 ty (.agg vs.toArray) (.agg ws.toArray)).run P w = .ok r w ∧ P.eqGuardType P.depth ty = false := by
  unfold recT at h
  simp only [Bool.and_eq_true, Bool.not_eq_true'] at h
  obtain ⟨⟨h1, h2⟩, h3⟩ := h
  refine ⟨?_, h3⟩
  split at h1
  · rename_i fs hfs
    have hF : P.fieldsOf ty = fs := by unfold Program.fieldsOf; rw [hfs]
    rw [show (10000 : Nat) = 9999 + 1 from rfl, run_equalIn_struct w 9999 ty _ _ (by rw [hF]; exact hfs) h2, hF]
    exact run_flds (d := 9998) fs.toList 0 bs vs ws r h1 hr (fun i => by simp) (fun i => by simp)
  · cases h1
end
theorem relL_litR {w : World} {S : Nat → Prop} {h : List ABlk} {ψ : Nat → Value} : ∀ (vs : List Value) {us : List Value}, AV.relL w S h ψ (vs.map .lit) us → us = vs
  | [], us, H => by
    unfold AV.relL at H
    exact H
  | v :: vs, us, H => by
    unfold List.map AV.relL at H
    obtain ⟨u, us', rfl, h1, h2⟩ := H
    unfold AV.rel at h1
    rw [h1, relL_litR vs h2]
section
variable {P : Program} {C : Ctx} {t : List AV} {h : List ABlk} {o : Oper}
end
end Mu
end
section
/-
  Walks that show M: arrays of numbers.
  Conditions: none; generic.
-/
namespace Mu
open Go Go.RowKit Go.Proofs Go.ChangeShapes Go.WideShapes

section
variable {P : Program} {C : Ctx} {t : List AV} {h : List ABlk} {o : Oper}
theorem Fit.aggL {α : Type} {T : Ty α} {enc : α → List AV} {x : α} (hp : ∀ w S cs ψ, AV.relL w S h ψ (enc x) cs → T.RS w S cs x) : Fit h T (.agg (enc x)) x := fun C S ψ w v H hv => by
  unfold AV.rel at hv
  obtain ⟨cs, rfl, hl⟩ := hv
  exact hp w S cs ψ hl
theorem Quiet.neRec {xt yt : TypeId} {x y : Operand} {bs : List Bool} {vs ws : List Value} {r : Bool} (hT : recT P xt bs = true) (ho : o.op = .binOp .neq xt x y yt) (hx : evA t x = .agg (vs.map .lit)) (hy : evA t y = .agg (ws.map .lit)) (hr : scEq bs vs ws = some r) : Quiet P C t h o (.lit (.bool (!r))) :=
  Quiet.of_run fun S ψ w ρ _ hρ => by
    have h1 := hρ x (by simp [ho, Op.operands])
    have h2 := hρ y (by simp [ho, Op.operands])
    rw [hx] at h1
    rw [hy] at h2
    unfold AV.rel at h1 h2
    obtain ⟨us, h1, h3⟩ := h1
    obtain ⟨us', h2, h4⟩ := h2
    rw [relL_litR _ h3] at h1
    rw [relL_litR _ h4] at h2
    obtain ⟨e1, e2⟩ := run_sameS (w := w) hT hr
    refine ⟨_, ?_, by unfold AV.rel; rfl⟩
    simp only [execOp, ho, h1, h2, Sem.run_bind]
    rw [run_eqGuard_agg w .neq xt x y _ _ e2, Result.andThen_ok, run_neq_struct, e1, Result.andThen_ok]
    rfl
end
end Mu
end
section
/-
  Pairs of registers as data.
  Conditions: none; the types' numbers are this translation's.
-/
namespace Mu
open Go Go.RowKit Go.Proofs

structure Pair where
  a : Int
  b : Int
def tPair : Ty Pair := (tInt.cons (tInt.cons Ty.none_)).via (fun x => ⟨x.1, x.2.1⟩) (fun d => (d.a, d.b, ()))
theorem tPair_R {w : World} {S : Nat → Prop} {cs : List Value} {x : Pair} : tPair.RS w S cs x ↔ cs = [.int .i64 x.a, .int .i64 x.b] ∧ wfI .i64 x.a ∧ wfI .i64 x.b := by
  constructor
  · rintro ⟨⟨_, _, rfl, ⟨rfl, h0⟩, _, _, rfl, ⟨rfl, h1⟩, rfl⟩, _⟩
    exact ⟨rfl, h0, h1⟩
  · rintro ⟨rfl, h0, h1⟩
    exact ⟨⟨[_], _, rfl, ⟨rfl, h0⟩, [_], _, rfl, ⟨rfl, h1⟩, rfl⟩, rfl⟩
def encPair (x : Pair) : List AV := [.lit (.int .i64 x.a), .lit (.int .i64 x.b)]
theorem enc_Pair : Enc tPair encPair := by
  intro w S h ψ cs d H
  obtain ⟨rfl, h0, h1⟩ := tPair_R.1 H
  simp only [encPair, AV.relL, AV.rel]
  exact ⟨_, _, rfl, rfl, _, _, rfl, rfl, rfl⟩
theorem one1_Pair : One1 tPair := one1_of_enc enc_Pair fun d x hx => by
  simp only [encPair, List.mem_cons, List.not_mem_nil, or_false] at hx
  rcases hx with rfl | rfl <;> first | exact .inl ⟨_, rfl, rfl⟩ | exact .inr ⟨_, _, _, rfl⟩
instance inMuPair1 : EncOf tPair encPair := ⟨enc_Pair, one1_Pair, by decide⟩
structure okPair (x : Pair) : Prop where
  a : wfI .i64 x.a
  b : wfI .i64 x.b
theorem put_Pair {w : World} {S : Nat → Prop} {cs : List Value} {h : List ABlk} {ψ : Nat → Value} {x : Pair} (ho : okPair x) (H : AV.relL w S h ψ (encPair x) cs) : tPair.RS w S cs x := by
  simp only [encPair, AV.relL, AV.rel] at H
  obtain ⟨_, _, rfl, rfl, _, _, rfl, rfl, rfl⟩ := H
  exact tPair_R.2 ⟨rfl, ho.a, ho.b⟩
instance inMuPair2 : Inhabited Pair := ⟨⟨0, 0⟩⟩
def okPairB (x : Pair) : Bool := wfB .i64 x.a && wfB .i64 x.b
theorem okPairB_ok {x : Pair} (h : okPairB x = true) : okPair x := by
  unfold okPairB at h
  simp only [Bool.and_eq_true] at h
  exact ⟨h.1, h.2⟩
theorem fit_Pair {h : List ABlk} {x : Pair} (hk : okPairB x = true) : Fit h tPair (.agg (encPair x)) x := Fit.aggL (enc := encPair) fun _ _ _ _ H => put_Pair (okPairB_ok hk) H
theorem plPair : places? Tryz.prog 60 = some [(0, 1), (1, 1)] := by kernel_rfl
instance inMuPair3 : AG Tryz.prog 60 true 2 := ⟨by kernel_rfl⟩
instance inMuPair4 : SZ Tryz.prog 60 2 := ⟨by kernel_rfl⟩
instance inMuPair5 : FO Tryz.prog 60 0 0 := ⟨by kernel_rfl⟩
instance inMuPair6 : FO Tryz.prog 60 1 1 := ⟨by kernel_rfl⟩
instance inMuPair7 : ZC Tryz.prog 60 [.int .i64 0, .int .i64 0] := ⟨by kernel_rfl⟩
instance inMuPair8 : TyOf Tryz.prog 60 _ tPair := ⟨trivial⟩
instance inMuPair9 : AG Tryz.prog 28 false 1 := ⟨by kernel_rfl⟩
instance inMuPair10 : SZ Tryz.prog 28 1 := ⟨by kernel_rfl⟩
instance inMuPair11 : ES Tryz.prog 28 2 := ⟨by kernel_rfl⟩
instance inMuPair12 : SL Tryz.prog 28 := ⟨by kernel_rfl⟩
instance inMuPair13 : RT Tryz.prog 28 60 2 16 := ⟨by kernel_rfl⟩
end Mu
end
section
/-
  Regions that draw their order, whatever they do: the state is told by what is done so far.
  Conditions: none; generic.
-/
namespace Mu
open Go Go.RowKit

section
variable {P : Program} {C : Ctx}
/-! ### a variable's memory at a place that is kept for it -/
end
end Mu
end
section
/-
  Iterators that make memory of their own: their contract from their walk; a range over one, over abstract states.
  Conditions: outermost; the rounds end normally; what the slots name lies at known places.
-/
namespace Mu
open Go Go.RowKit

/-! ### operations within the fence -/
section
variable {P : Program} {C : Ctx} {t : List AV} {h : List ABlk} {o : Oper}
def AOpY (P : Program) (C : Ctx) (o : Oper) (s : St) (K : St → Prop) : Prop :=
  ∀ (Q' : Exit → Act → World → Prop), ¬ LetsOut Q' → ∀ a w, s.rel C a w → o.wpIn (fnc C.rd) 4 P a w (fun a' w' => ∃ s', K s' ∧ s'.rel C a' w') Q'
theorem AOpY.op {s : St} {K : St → Prop} (h : AOp P C o s K) : AOpY P C o s K := fun Q' hQ a w H => fnc_oper (h Q' a w H).1 hQ (h Q' a w H).2
def aSeqY (P : Program) (C : Ctx) (ops : Array Oper) (K : St → Prop) : List Oper → St → Prop
  | [], s => K s
  | o :: rest, s => ∃ b, gA ops s.t o = some b ∧ (b = true → AOpY P C o s (aSeqY P C ops K rest)) ∧ (b = false → aSeqY P C ops K rest ⟨putA s.t o.dst (.lit undef), s.h⟩)
theorem wpListIn_of_aSeqY {rd : Option Nat} (hrd : C.rd = rd) {ops : Array Oper} {K : St → Prop} {Q' : Exit → Act → World → Prop} (hlo : ¬ LetsOut Q') (hQ : ∀ s a w, K s → s.rel C a w → Q' .normal a w) : ∀ (l : List Oper) (s : St) (a : Act) (w : World), aSeqY P C ops K l s → s.rel C a w → wpListIn (fnc rd) 4 P ops Q' l a w
  | [], s, a, w, h, H => hQ s a w h H
  | o :: rest, s, a, w, h, H => by
    obtain ⟨b, hg, ht, hf⟩ := h
    obtain ⟨_, S, ψ, _, hl⟩ := id H
    have hw := gA_wanted hg hl
    unfold wpListIn
    rw [hw]
    cases b with
    | true =>
      rw [if_pos rfl]
      subst hrd
      have key := ht rfl Q' hlo a w H
      exact Oper.wpIn_mono (fun a' w' ⟨s', h1, h2⟩ => wpListIn_of_aSeqY rfl hlo hQ rest s' a' w' h1 h2) key
    | false =>
      rw [if_neg (by simp)]
      exact ⟨fun _ _ => fnc_fn _ _, wpListIn_of_aSeqY hrd hlo hQ rest _ _ w (hf rfl) (undef_rel H o.dst)⟩
theorem Awp.regionY {id : Nat} {l : List Oper} {Q : Exit → St → Prop} {s : St} (h : aSeqY P C l.toArray (Q .normal) l s) : Awp P C (.region id l.toArray false) Q s := fun a w H =>
  wpIn_mono (wpIn_region_lit (wpListIn_of_aSeqY rfl (Q' := fun e a' w' => e = .normal ∧ ∃ s', Q e s' ∧ s'.rel C a' w') (fun ⟨_, _, h⟩ => by cases h.1) (fun s a w h H => ⟨rfl, s, h, H⟩) l s a w h H)) fun _ _ _ h => h.2
theorem aSeqY_nil {ops : Array Oper} {K : St → Prop} {s : St} (h : K s) : aSeqY P C ops K [] s := h
theorem aSeqY_o {ops : Array Oper} {K : St → Prop} {rest : List Oper} {s : St} (hg : gA ops s.t o = some true) (hq : AOp P C o s (aSeqY P C ops K rest)) : aSeqY P C ops K (o :: rest) s := ⟨true, hg, fun _ => AOpY.op hq, fun h => by cases h⟩
theorem aSeqY_y {ops : Array Oper} {K : St → Prop} {rest : List Oper} {s : St} (hg : gA ops s.t o = some true) (hq : AOpY P C o s (aSeqY P C ops K rest)) : aSeqY P C ops K (o :: rest) s := ⟨true, hg, fun _ => hq, fun h => by cases h⟩
theorem aSeqY_nt {ops : Array Oper} {K : St → Prop} {l : List Oper} {t t' : List AV} {h h' : List ABlk} (ht : t = t') (hh : h = h') (hk : aSeqY P C ops K l ⟨t', h'⟩) : aSeqY P C ops K l ⟨t, h⟩ := by subst ht hh; exact hk

/-! ### a call of yield -/
/-- a call of yield turns the caller's memory -/
def YTurn {ι : Type} (P : Program) (l : Nat) (S0 : Nat → Prop) (n0 : Nat) (R : Res) (xs : List AV) (Rs : ι → Res) : Prop :=
  ∀ (w : World) (S : Nat → Prop) (vs : List Value), (∀ k, S0 k → S k) → (∀ k, S k → S0 k ∨ n0 ≤ k) → (∀ k, S k → k < w.heap.size ∧ ¬ R.F k) → (∀ g, R.F g → g < w.heap.size) → R.R w S → AV.relL w S [] ψ0 xs vs →
    YieldAt Fence.wide 2 P l vs.toArray w fun e w' => e = .returned (.bool true) ∧ Turns w S R.F Rs (fun _ => .bool true) (.bool true) w'
theorem AOpY.yield {ι : Type} {Rs : ι → Res} {i l : Nat} {R : Res} {x : Operand} {args : Array Operand} {tys : Array TypeId} {xs : List AV} {K : St → Prop} (hrd : C.rd = none) (hi : h[i]? = some (.res R)) (hm : ∀ p, (Rs p).mrk = R.mrk)
    (ho : o.op = .call { callee := .value x, args := args, argTypes := tys }) (hx : evA t x = .lit (.func (.yield l) #[] #[])) (hxs : args.toList.map (evA t) = xs) (hc : AV.clL xs = true)
    (hY : YTurn P l C.S0 C.w0.heap.size R xs Rs) (hK : ∀ p, K ⟨putA t o.dst (.lit (.bool true)), h.set i (.res (Rs p))⟩) : AOpY P C o ⟨t, h⟩ K := by
  rintro Q' hQ a w ⟨hd, S, ψ, H, hl⟩
  have hB := H.blk i _ hi
  have h1 := ev_rel hl x
  rw [hx] at h1
  unfold AV.rel at h1
  have h2 : AV.relL w S h ψ xs (args.toList.map a.eval) := by
    rw [← hxs]
    exact relL_map fun x _ => ev_rel hl x
  obtain ⟨fn, tmps, assign, body, hy, hR⟩ := hY w S (args.toList.map a.eval) H.sub H.new (fun k hk => ⟨H.lt k hk, fun hf => (hB.1 k hf).2.1 hk⟩) (fun g hg => (hB.1 g hg).2.2) hB.2 (AV.relL_cl _ _ hc h2)
  have hdf : ∀ c, o.op ≠ .defer c := fun c e => by rw [ho] at e; cases e
  have hrun : (execOp a.eval o).run P w = .ok (.round l fn tmps assign body) w := by
    have e : (args.map a.eval) = (args.toList.map a.eval).toArray := by rw [← Array.toList_map]
    simp only [execOp, ho, resolve, h1]
    simp [Deferred.ofValue, invoke]
    rw [e, hy]
  rw [hrd]
  refine ⟨fun _ _ => fnc_fn _ _, ?_⟩
  rw [Oper.semAt_eq _ _ _ hdf, hrun]
  refine ⟨fun h => (by cases h), ?_⟩
  have hR' : RoundIn Fence.wide 3 P l fn tmps assign body w _ := ⟨hR.1, fun c cs _ => hR.2 c cs (room_wide _)⟩
  refine RoundIn.mono hR' ?_
  rintro e w' ⟨rfl, hT⟩
  obtain ⟨p, _, hRp, hF⟩ := hT.some
  have hblk : ∀ k, S k → w'.heap[k]? = w.heap[k]? := fun k hk => hT.gr.block k (H.lt k hk) fun hf => (hB.1 k hf).2.1 hk
  have X : Ext w S h ψ w' S (h.set i (.res (Rs p))) (ψset ψ i (ψ i)) := Ext.set hblk hi (fun c' hc => by simp [ABlk.ver] at hc) fun h => by simp [ABlk.isBox] at h
  have hBn : BRel C.N w' S (h.set i (.res (Rs p))) (ψset ψ i (ψ i)) (ψ i) (.res (Rs p)) := ⟨fun g hg => by
    obtain ⟨h1, h2⟩ := hF g hg
    rcases h1 with h1 | h1
    · exact ⟨(hB.1 g h1).1, (hB.1 g h1).2.1, h2⟩
    · exact ⟨fun hn => by have := H.nlt g hn; have := H.bel.size; omega, fun hs => by have := H.lt g hs; omega, h2⟩, hRp⟩
  exact ⟨_, hK p, st_set (s := ⟨t, h⟩) hi hd hl (H.set hi rfl hT.gr X hBn fun g hg => (hF g hg).1) X (by unfold AV.rel; rfl) (by show (Rs p).mrk.map mark = R.mrk.map mark; rw [hm p])⟩
end

/-! ### the iterator's contract -/
/-- an iterator's contract: its k-th yield is given encs k -/
def IterY (P : Program) (gf : FuncId) (lb : List Value) (RB : Res) (encs : Nat → List AV) (N : Nat) : Prop :=
  Enters P gf = true ∧ ∀ (w : World) (S : Nat → Prop) (ι : Type) (l : Nat) (Jr : Nat → ι → Res), (∀ k p, (Jr k p).mrk = []) → (∀ k p, k < N → YTurn P l S w.heap.size (Jr k p) (encs k) (Jr (k + 1))) →
    ∀ p, (∀ k, S k → k < w.heap.size ∧ ¬ (Jr 0 p).F k ∧ ¬ RB.F k) → (∀ g, (Jr 0 p).F g → g < w.heap.size ∧ ¬ RB.F g) → (∀ g, RB.F g → g < w.heap.size) → (Jr 0 p).R w S → RB.R w S →
      CallsIn Fence.wide 3 P gf (#[Value.func (.yield l) #[] #[]] ++ lb.toArray) w fun e w' => (∃ v, e = .returned v) ∧ Gr (fun g => (Jr 0 p).F g ∨ RB.F g) w w' ∧ ∃ q S', (∀ k, S k → S' k) ∧ (Jr N q).R w' S' ∧ (∀ k, S' k → k < w'.heap.size ∧ ¬ (Jr N q).F k) ∧ (∀ k, S' k → S k ∨ w.heap.size ≤ k) ∧ ∀ g, (Jr N q).F g → ((Jr 0 p).F g ∨ RB.F g ∨ w.heap.size ≤ g) ∧ g < w'.heap.size
/-- how an iterator's walk ends -/
def RetsY {ι : Type} (Rs : ι → Res) : Exit → St → Prop := fun e s => (e = .normal ∨ e = .ret) ∧ ∃ q, s.h[0]? = some (.res (Rs q)) ∧ mkD s.h = []
theorem relL_litL {w : World} {S : Nat → Prop} {h : List ABlk} {ψ : Nat → Value} : ∀ l : List Value, AV.relL w S h ψ (l.map .lit) l
  | [] => by unfold AV.relL; rfl
  | v :: l => by
    simp only [List.map_cons]
    unfold AV.relL
    exact ⟨v, l, rfl, by unfold AV.rel; rfl, relL_litL l⟩
theorem IterY.of_awp {P : Program} {gf : FuncId} {fn : Go.Func} {c : Code} {lb : List Value} {RB : Res} {encs : Nat → List AV} {N n : Nat} (hf : P.funcs[gf]? = some fn) (hb : fn.body = some c) (hE : Enters P gf = true) (hres : fn.results = #[]) (hn : fn.ntmps = n) (hmB : RB.mrk = [])
    (h : ∀ (C : Ctx), C.rd = none → ∀ (ι : Type) (l : Nat) (Jr : Nat → ι → Res), (∀ k p, (Jr k p).mrk = []) → (∀ k p, k < N → YTurn P l C.S0 C.w0.heap.size (Jr k p) (encs k) (Jr (k + 1))) → ∀ p,
      Awp P C c (RetsY (Jr N)) ⟨(.lit (.func (.yield l) #[] #[]) :: lb.map .lit) ++ List.replicate (n - (lb.length + 1)) (.lit undef), [.res (Jr 0 p), .res RB]⟩) : IterY P gf lb RB encs N := by
  refine ⟨hE, fun w S ι l Jr hm hY p hS hF hB hR hRB => callsIn_of_wp hf hb trivial ?_⟩
  rw [hn]
  let N0 : Nat → Prop := fun k => k < w.heap.size ∧ ¬ (Jr 0 p).F k ∧ ¬ RB.F k
  have hH : HRel ⟨w, S, N0, none⟩ [.res (Jr 0 p), .res RB] S ψ0 w := by
    refine ⟨Kp.refl _ _, fun k hk => hk.1, fun k hk => (hS k hk).1, fun _ h => h, fun _ h => .inl h, fun i b hi => ?_, fun i j hij hi hj g h1 h2 => ?_⟩
    · rcases i with _ | _ | i
      · have : b = .res (Jr 0 p) := by simpa using hi.symm
        subst this
        exact ⟨fun g hg => ⟨fun hn => hn.2.1 hg, fun hs => (hS g hs).2.1 hg, (hF g hg).1⟩, hR⟩
      · have : b = .res RB := by simpa using hi.symm
        subst this
        exact ⟨fun g hg => ⟨fun hn => hn.2.2 hg, fun hs => (hS g hs).2.2 hg, hB g hg⟩, hRB⟩
      · simp at hi
    · rcases i with _ | _ | i
      · rcases j with _ | _ | j
        · exact hij rfl
        · exact (hF g h1).2 h2
        · simp [ABlk.live] at hj
      · rcases j with _ | _ | j
        · exact (hF g h2).2 h1
        · exact hij rfl
        · simp [ABlk.live] at hj
      · simp [ABlk.live] at hi
  have hst : St.rel ⟨w, S, N0, none⟩ ⟨(.lit (.func (.yield l) #[] #[]) :: lb.map .lit) ++ List.replicate (n - (lb.length + 1)) (.lit undef), [.res (Jr 0 p), .res RB]⟩ { tmps := (#[Value.func (.yield l) #[] #[]] ++ lb.toArray) ++ Array.replicate (n - (#[Value.func (.yield l) #[] #[]] ++ lb.toArray).size) undef, defers := [] } w := by
    refine ⟨?_, S, ψ0, hH, ?_⟩
    · show [] = mkD _
      simp [mkD, ABlk.mrk, hm 0 p, hmB]
    · have e : ((#[Value.func (.yield l) #[] #[]] ++ lb.toArray) ++ Array.replicate (n - (#[Value.func (.yield l) #[] #[]] ++ lb.toArray).size) undef).toList = (Value.func (.yield l) #[] #[] :: lb) ++ List.replicate (n - (lb.length + 1)) undef := by
        simp []
      rw [e, show (AV.lit (.func (.yield l) #[] #[]) :: lb.map .lit) = ((Value.func (.yield l) #[] #[] :: lb).map AV.lit) from rfl, show List.replicate (n - (lb.length + 1)) (AV.lit undef) = (List.replicate (n - (lb.length + 1)) undef).map AV.lit by simp]
      exact relL_append (relL_litL _) (relL_litL _)
  have hw := h ⟨w, S, N0, none⟩ rfl ι l Jr hm hY p _ w hst
  refine wpIn_mono (fnc_n (m := 3) hw) ?_
  rintro e a' w' ⟨s, ⟨he, q, h0, hmk⟩, hd, S1, ψ, H, hl⟩
  rw [hmk] at hd
  have hq := H.blk 0 _ h0
  have hfin : (∃ v, Ending.returned (.tuple #[]) = .returned v) ∧ Gr (fun g => (Jr 0 p).F g ∨ RB.F g) w w' ∧ ∃ q S', (∀ k, S k → S' k) ∧ (Jr N q).R w' S' ∧ (∀ k, S' k → k < w'.heap.size ∧ ¬ (Jr N q).F k) ∧ (∀ k, S' k → S k ∨ w.heap.size ≤ k) ∧ ∀ g, (Jr N q).F g → ((Jr 0 p).F g ∨ RB.F g ∨ w.heap.size ≤ g) ∧ g < w'.heap.size := by
    refine ⟨⟨_, rfl⟩, ⟨H.bel.os, H.bel.tape, H.bel.output, H.bel.size, fun k hk hno => H.bel.block k ⟨hk, fun h => hno (.inl h), fun h => hno (.inr h)⟩⟩, q, S1, H.sub, hq.2, fun k hk => ⟨H.lt k hk, fun hf => (hq.1 k hf).2.1 hk⟩, H.new, fun g hg => ⟨?_, (hq.1 g hg).2.2⟩⟩
    have h1 := (hq.1 g hg).1
    by_cases hlt : g < w.heap.size
    · by_cases h2 : (Jr 0 p).F g
      · exact .inl h2
      · by_cases h3 : RB.F g
        · exact .inr (.inl h3)
        · exact absurd ⟨hlt, h2, h3⟩ h1
    · exact .inr (.inr (by show w.heap.size ≤ g; omega))
  rcases he with rfl | rfl
  · exact ⟨hd, _, results_none hres _ _ _, hfin⟩
  · exact ⟨hd, _, results_none hres _ _ _, hfin⟩

/-! ### the range -/
theorem HRel.widen {C : Ctx} {h : List ABlk} {S S' : Nat → Prop} {ψ : Nat → Value} {W : World} (H : HRel C h S ψ W) (hs : ∀ k, S k → S' k) (hl : ∀ k, S' k → k < W.heap.size ∧ ¬ owns h ψ k) (N' : Nat → Prop) (hN : ∀ k, N' k → k < W.heap.size ∧ ¬ owns h ψ k) (rd : Option Nat) : HRel ⟨W, S', N', rd⟩ h S' ψ W := by
  have H1 := H.re (W' := W) (fun _ _ => rfl) (fun _ _ => rfl) N' hN rd
  refine ⟨Kp.refl _ _, fun k hk => (hN k hk).1, fun k hk => (hl k hk).1, fun _ h => h, fun _ h => .inl h, fun i b hi => ?_, H.dis⟩
  by_cases hlv : ABlk.live (some b) = true
  · exact (H1.blk i b hi).keep (Ext.grow h ψ (fun _ _ => rfl) hs) fun g hg => ⟨rfl, fun _ hs' => (hl g hs').2 ⟨i, by rw [hi]; exact hlv, by rw [hi]; exact hg⟩⟩
  · cases b <;> simp [ABlk.live] at hlv
    trivial
/-- between two rounds, as the iterator sees it -/
structure BetY (S own0 : Nat → Prop) (w : World) (rec_ : Loop) (hk : List ABlk) (Sk : Nat → Prop) (ψk : Nat → Value) (X : Nat → Prop) (W : World) (SI : Nat → Prop) : Prop where
  loop : W.heap[w.heap.size + 1]? = some (.loop rec_)
  dfr : W.heap[w.heap.size]? = some (.deferred (some []))
  size : w.heap.size + 2 ≤ W.heap.size
  same : ∀ g, S g → W.heap[g]? = w.heap[g]?
  st : HRel ⟨W, Sk, fun _ => False, none⟩ hk Sk ψk W
  sub : ∀ g, S g → Sk g
  new : ∀ g, Sk g → S g ∨ w.heap.size + 2 ≤ g
  old : ∀ g, owns hk ψk g → own0 g ∨ w.heap.size + 2 ≤ g
  cover : ∀ g, Sk g → X g ∨ SI g
abbrev BetP := (Nat → Prop) × (Nat → Value) × (Nat → Prop)
def betF (w : World) (hk : List ABlk) (p : BetP) (g : Nat) : Prop := g = w.heap.size ∨ g = w.heap.size + 1 ∨ owns hk p.2.1 g ∨ p.2.2 g
def betR (S own0 : Nat → Prop) (w : World) (rec_ : Loop) (hk : List ABlk) (p : BetP) : Res := ⟨[], betF w hk p, fun W SI => BetY S own0 w rec_ hk p.1 p.2.1 p.2.2 W SI, by
  intro W W' SI SI' H hF hS hsub
  have hSk : ∀ g, p.1 g → W'.heap[g]? = W.heap[g]? := fun g hg => by
    rcases H.cover g hg with h1 | h1
    · exact hF g (.inr (.inr (.inr h1)))
    · exact hS g h1
  have hl := (hF _ (.inr (.inl rfl))).trans H.loop
  refine ⟨hl, (hF _ (.inl rfl)).trans H.dfr, by have := (Array.getElem?_eq_some_iff.1 hl).1; omega, fun g hg => (hSk g (H.sub g hg)).trans (H.same g hg), H.st.re hSk (fun k hk => hF k (.inr (.inr (.inl hk)))) _ (fun _ h => h.elim) none, H.sub, H.new, H.old, fun g hg => (H.cover g hg).imp id (hsub g)⟩⟩
theorem round_okY {P : Program} {own0 S SI : Nat → Prop} {w W : World} {t es : List AV} {hk hk1 : List ABlk} {ps : Array Tmp} {vs : List Value} {tmps : Array Value} {assign body : Code} {fn : FuncId} {rec_ : LoopState → Loop} {p : BetP}
    (hst : ∀ x y, ({ rec_ x with state := y } : Loop) = rec_ y) (hrst : (rec_ .ready).state = .ready) (hpe : ∀ x, (rec_ x).pending = none)
    (ho0 : ∀ g, own0 g → g < w.heap.size) (hS0 : ∀ g, S g → g < w.heap.size)
    (ht : AV.clL t = true) (hes : AV.clL es = true) (htr : AV.relL w S [] ψ0 t tmps.toList) (hev : AV.relL W SI [] ψ0 es vs) (hm : mkD hk = [])
    (_hI1 : ∀ g, S g → SI g) (hI2 : ∀ g, SI g → S g ∨ w.heap.size + 2 ≤ g) (hI3 : ∀ g, SI g → g < W.heap.size ∧ ¬ betF w hk p g)
    (hB : BetY S own0 w (rec_ .ready) hk p.1 p.2.1 p.2.2 W SI)
    (hA : ∀ C' : Ctx, C'.rd.isSome = true → Awp P C' assign (athen (roundBody P body hk1) (fun _ _ => False)) ⟨putAll t ps.toList es, hk⟩) :
    RoundIn Fence.wide 2 P (w.heap.size + 1) fn ((ps.toList.zip vs).foldl (fun t p => t.setIfInBounds p.1 p.2) tmps) assign body W fun e W' => e = .returned (.bool true) ∧ Turns W SI (betF w hk p) (betR S own0 w (rec_ .ready) hk1) (fun _ => .bool true) (.bool true) W' := by
  obtain ⟨Sk, ψk, X⟩ := p
  obtain ⟨hl, hD, hsz, hsame, H, hs1, hs2, hs3, hcov⟩ := hB
  dsimp only at H hs1 hs2 hs3 hcov
  have hF : ∀ g, betF w hk (Sk, ψk, X) g ↔ (g = w.heap.size ∨ g = w.heap.size + 1 ∨ owns hk ψk g ∨ X g) := fun g => Iff.rfl
  let S1 : Nat → Prop := fun g => Sk g ∨ SI g
  have hS1o : ∀ g, S1 g → g < W.heap.size ∧ ¬ owns hk ψk g := fun g hg => by
    rcases hg with hg | hg
    · exact ⟨H.lt g hg, fun ho => (H.own_lt ho).2.2 hg⟩
    · exact ⟨(hI3 g hg).1, fun ho => (hI3 g hg).2 (.inr (.inr (.inl ho)))⟩
  have hS1n : ∀ g, S1 g → S g ∨ w.heap.size + 2 ≤ g := fun g hg => by
    rcases hg with hg | hg
    · exact hs2 g hg
    · exact hI2 g hg
  let N1 : Nat → Prop := fun g => g < W.heap.size ∧ ¬ owns hk ψk g
  have hlD : ∀ g, (g = w.heap.size ∨ g = w.heap.size + 1) → N1 g := fun g hg => ⟨by omega, fun ho => by
    rcases hs3 g ho with h1 | h1
    · have := ho0 g h1; omega
    · omega⟩
  have H1 := H.widen (S' := S1) (fun k hk => .inl hk) hS1o N1 (fun _ h => h) (some (w.heap.size + 1))
  refine roundIn_of_wpIn trivial ?_
  have r1 : St.rel ⟨W, S1, N1, some (w.heap.size + 1)⟩ ⟨putAll t ps.toList es, hk⟩ { tmps := (ps.toList.zip vs).foldl (fun t p => t.setIfInBounds p.1 p.2) tmps, defers := [] } W := by
    refine ⟨hm.symm, S1, ψk, H1, putAll_rel _ _ _ _ _ ?_ ?_⟩
    · exact AV.relL_cl _ _ hes (AV.relL_ext (Ext.grow [] ψ0 (fun _ _ => rfl) fun k hk => .inr hk) _ _ hev)
    · exact AV.relL_cl _ _ ht (AV.relL_ext (Ext.grow [] ψ0 hsame fun k hk => .inl (hs1 k hk)) _ _ htr)
  refine wpIn_mono (fnc_n (hA ⟨W, S1, N1, some (w.heap.size + 1)⟩ rfl _ _ r1)) ?_
  rintro e a1 Wa ⟨s1, q1, hd1, Sa, ψa, Ha, hla⟩
  cases e with
  | normal =>
    have hka := Ha.bel
    have hla1 : Wa.heap[w.heap.size + 1]? = some (.loop (rec_ .ready)) := (hka.block _ (hlD _ (.inr rfl))).trans hl
    have hDa : Wa.heap[w.heap.size]? = some (.deferred (some [])) := (hka.block _ (hlD _ (.inl rfl))).trans hD
    have hSa2 : ∀ g, Sa g → S1 g ∨ W.heap.size ≤ g := Ha.new
    have hoa : ∀ g, owns s1.h ψa g → owns hk ψk g ∨ W.heap.size ≤ g := fun g hg => by
      by_cases hgW : g < W.heap.size
      · have h1 := (Ha.own_lt hg).1
        exact .inl (Classical.not_not.1 fun h2 => h1 ⟨hgW, h2⟩)
      · right; omega
    have hneS : ∀ g, Sa g → g ≠ w.heap.size + 1 := fun g hg => by
      rcases hSa2 g hg with h1 | h1
      · rcases hS1n g h1 with h2 | h2
        · have := hS0 g h2; omega
        · omega
      · omega
    have hneO : ∀ g, owns s1.h ψa g → g ≠ w.heap.size + 1 := fun g hg => by
      rcases hoa g hg with h1 | h1
      · rcases hs3 g h1 with h2 | h2
        · have := ho0 g h2; omega
        · omega
      · omega
    refine ⟨_, run_beginRound hla1 hrst, ?_⟩
    rw [hst]
    obtain ⟨W2, hW2⟩ : ∃ W2, W2 = Wa.putObj (w.heap.size + 1) (.loop (rec_ .busy)) := ⟨_, rfl⟩
    rw [← hW2]
    have hot : ∀ g, g ≠ w.heap.size + 1 → W2.heap[g]? = Wa.heap[g]? := fun g hg => by rw [hW2]; exact World.putObj_heap_other hg
    have hsz2 : W2.heap.size = Wa.heap.size := by rw [hW2]; simp
    let N2 : Nat → Prop := fun g => g < W2.heap.size ∧ ¬ owns s1.h ψa g
    have H2 := Ha.re (W' := W2) (fun k hk => hot k (hneS k hk)) (fun k hk => hot k (hneO k hk)) N2 (fun _ h => h) (some (w.heap.size + 1))
    have hla2 : W2.heap[w.heap.size + 1]? = some (.loop (rec_ .busy)) := by rw [hW2]; exact World.putObj_heap_same (Array.getElem?_eq_some_iff.1 hla1).1
    have hWa : W.heap.size ≤ Wa.heap.size := hka.size
    have hN12 : ∀ g, N1 g → N2 g := fun g hg => ⟨by have := hg.1; omega, fun ho => by
      rcases hoa g ho with h1 | h1
      · exact hg.2 h1
      · have := hg.1; omega⟩
    have r2 : St.rel ⟨W2, Sa, N2, some (w.heap.size + 1)⟩ s1 a1 W2 := ⟨hd1, Sa, ψa, H2, AV.relL_ext (Ext.grow s1.h ψa (fun k hk => hot k (hneS k hk)) fun _ h => h) _ _ hla⟩
    refine wpIn_mono (fnc_n (q1 ⟨W2, Sa, N2, some (w.heap.size + 1)⟩ rfl _ _ r2)) ?_
    rintro e a3 W3 ⟨s2, ⟨rfl, hdr⟩, hd2, S3, ψ3, H3, hl3⟩
    have hk3 := H3.bel
    have hl31 : W3.heap[w.heap.size + 1]? = some (.loop (rec_ .busy)) := (hk3.block _ (hN12 _ (hlD _ (.inr rfl)))).trans hla2
    have hD3 : W3.heap[w.heap.size]? = some (.deferred (some [])) := (hk3.block _ (hN12 _ (hlD _ (.inl rfl)))).trans ((hot _ (by omega)).trans hDa)
    have H4 := H3.cut hdr.cut hdr.bd
    have hk3s : W2.heap.size ≤ W3.heap.size := hk3.size
    have hS3 : ∀ g, S3 g → S1 g ∨ W.heap.size ≤ g := fun g hg => by
      rcases H3.new g hg with h1 | h1
      · exact hSa2 g h1
      · right; have : W2.heap.size ≤ g := h1; omega
    have ho3 : ∀ g, owns hk1 ψ3 g → owns hk ψk g ∨ W.heap.size ≤ g := fun g hg => by
      by_cases hgW : g < W2.heap.size
      · have h1 := (H3.own_lt (owns_cut hdr.cut hg)).1
        have : owns s1.h ψa g := Classical.not_not.1 fun h2 => h1 ⟨hgW, h2⟩
        exact hoa g this
      · right; omega
    have hS3n : ∀ g, S3 g → S g ∨ w.heap.size + 2 ≤ g := fun g hg => by
      rcases hS3 g hg with h1 | h1
      · exact hS1n g h1
      · right; omega
    have ho3n : ∀ g, owns hk1 ψ3 g → own0 g ∨ w.heap.size + 2 ≤ g := fun g hg => by
      rcases ho3 g hg with h1 | h1
      · exact hs3 g h1
      · right; omega
    have hneS3 : ∀ g, S3 g → g ≠ w.heap.size + 1 := fun g hg => by
      rcases hS3n g hg with h2 | h2
      · have := hS0 g h2; omega
      · omega
    have hneO3 : ∀ g, owns hk1 ψ3 g → g ≠ w.heap.size + 1 := fun g hg => by
      rcases ho3n g hg with h2 | h2
      · have := ho0 g h2; omega
      · omega
    have hr := run_endRound (P := P) none hl31
    have hrec : ({ rec_ .busy with state := .ready, pending := none } : Loop) = rec_ .ready := by rw [← hst .busy .ready, ← hpe .busy]
    rw [show (if (none : Option Code).isNone = true then LoopState.ready else LoopState.done) = .ready from rfl, hrec] at hr
    obtain ⟨W4, hW4⟩ : ∃ W4, W4 = W3.putObj (w.heap.size + 1) (.loop (rec_ .ready)) := ⟨_, rfl⟩
    rw [← hW4] at hr
    have hot4 : ∀ g, g ≠ w.heap.size + 1 → W4.heap[g]? = W3.heap[g]? := fun g hg => by rw [hW4]; exact World.putObj_heap_other hg
    have hsz4 : W4.heap.size = W3.heap.size := by rw [hW4]; simp
    have hN1 : ∀ g, N1 g → g ≠ w.heap.size + 1 → W4.heap[g]? = W.heap[g]? := fun g hg hne => by
      rw [hot4 g hne, hk3.block g (hN12 g hg)]
      show W2.heap[g]? = W.heap[g]?
      rw [hot g hne]
      exact hka.block g hg
    refine ⟨_, _, hr, rfl, ⟨?_, ?_, ?_, by omega, fun g hg hno => ?_⟩, (S3, ψ3, fun g => S3 g ∧ ¬ SI g), rfl, ?_, fun g hg => ?_⟩
    · rw [hW4]
      show W3.os = W.os
      rw [hk3.os]; show W2.os = W.os; rw [hW2]; exact hka.os
    · rw [hW4]
      show W3.tape = W.tape
      rw [hk3.tape]; show W2.tape = W.tape; rw [hW2]; exact hka.tape
    · rw [hW4]
      show W3.output = W.output
      rw [hk3.output]; show W2.output = W.output; rw [hW2]; exact hka.output
    · exact hN1 g ⟨hg, fun ho => hno (.inr (.inr (.inl ho)))⟩ fun e => hno (.inr (.inl e))
    · refine ⟨by rw [hW4]; exact World.putObj_heap_same (Array.getElem?_eq_some_iff.1 hl31).1, (hot4 _ (by omega)).trans hD3, by omega, fun g hg => ?_, ?_, fun g hg => H3.sub g (Ha.sub g (.inl (hs1 g hg))), hS3n, ho3n, fun g hg => ?_⟩
      · have hlt := hS0 g hg
        exact (hN1 g ⟨by omega, fun ho => (H.own_lt ho).2.2 (hs1 g hg)⟩ (by omega)).trans (hsame g hg)
      · exact H4.re (fun k hk => hot4 k (hneS3 k hk)) (fun k hk => hot4 k (hneO3 k hk)) _ (fun _ h => h.elim) none
      · show (S3 g ∧ ¬ SI g) ∨ SI g
        by_cases h1 : SI g
        · exact .inr h1
        · exact .inl ⟨hg, h1⟩
    · have hg : g = w.heap.size ∨ g = w.heap.size + 1 ∨ owns hk1 ψ3 g ∨ (S3 g ∧ ¬ SI g) := hg
      rcases hg with hg | hg | hg | hg
      · exact ⟨.inl (.inl hg), by omega⟩
      · exact ⟨.inl (.inr (.inl hg)), by omega⟩
      · refine ⟨?_, by rw [hsz4]; exact (H4.own_lt hg).2.1⟩
        rcases ho3 g hg with h1 | h1
        · exact .inl (.inr (.inr (.inl h1)))
        · exact .inr h1
      · refine ⟨?_, by rw [hsz4]; exact H4.lt g hg.1⟩
        rcases hS3 g hg.1 with h1 | h1
        · rcases h1 with h1 | h1
          · rcases hcov g h1 with h2 | h2
            · exact .inl (.inr (.inr (.inr h2)))
            · exact absurd h2 hg.2
          · exact absurd h1 hg.2
        · exact .inr h1
  | _ => exact q1.elim
end Mu
end
section
/-
  A range over an iterator that makes memory of its own, over abstract states.
  Conditions: outermost; the rounds end normally; what the slots name lies at known places.
-/
namespace Mu
open Go Go.RowKit

section
variable {P : Program}
theorem Awp.rangeY {C : Ctx} {g : Operand} {ps : Array Tmp} {assign body : Code} {Q : Exit → St → Prop} {t : List AV} {h : List ABlk} {gf : FuncId} {lb : List Value} {RB : Res} {ds : List Nat} {N : Nat} {encs : Nat → List AV} (i im : Nat) (σ : Nat → List ABlk)
    (hrd : C.rd = none) (hg : evA t g = .lit (.func (.func gf) #[] lb.toArray)) (hne : i ≠ im) (hi : h[i]? = some (.res RB)) (hmi : h[im]? = some (.res (marksR ds))) (hmk : mkD h = ds.map mark)
    (h0 : Drops h (σ 0)) (h0i : (σ 0)[i]? = some .dead) (hσm : ∀ k, (σ k)[im]? = some .dead) (hmσ : ∀ k, mkD (σ k) = []) (ht : AV.clL t = true) (hes : ∀ k, AV.clL (encs k) = true) (hps : ∀ k, (encs k).length = ps.size)
    (hit : IterY P gf lb RB encs N)
    (hround : ∀ k, k < N → ∀ C' : Ctx, C'.rd.isSome = true → Awp P C' assign (athen (roundBody P body (σ (k + 1))) (fun _ _ => False)) ⟨putAll t ps.toList (encs k), σ k⟩)
    (hdone : ∀ D, Q .normal ⟨t, (σ N).set im (.res (marksR (D :: ds)))⟩) : Awp P C (.rangeFunc g ps assign body) Q ⟨t, h⟩ := fun a w ⟨hd, S, ψ, H, hl⟩ => by
  rw [hrd]
  show (Code.rangeFunc g ps assign body).wpIn Fence.wide 4 P _ a w
  have H0 := H.cut h0.cut h0.bd
  have hBi := H.blk i _ hi
  have hBm := H.blk im _ hmi
  have hgv := ev_rel hl g
  rw [hg] at hgv
  unfold AV.rel at hgv
  have hlit : AV.relL w S [] ψ0 t a.tmps.toList := AV.relL_cl _ _ ht hl
  obtain ⟨own0, hown0⟩ : ∃ o, o = owns (σ 0) ψ := ⟨_, rfl⟩
  have ho0 : ∀ g, own0 g → g < w.heap.size := fun g hg => by rw [hown0] at hg; exact (H0.own_lt hg).2.1
  have hdead : ∀ (j : Nat) (R' : Res), h[j]? = some (.res R') → (σ 0)[j]? = some .dead → ∀ g, R'.F g → ¬ own0 g := fun j R' hj hjd g hF ho => by
    rw [hown0] at ho
    obtain ⟨j', h1, h2⟩ := ho
    have hne : j' ≠ j := fun e => by subst e; rw [hjd] at h1; cases h1
    rw [h0.cut.same h1] at h2
    exact H.dis j' j hne (h0.cut.live h1) (by rw [hj]; rfl) g h2 (by rw [hj]; exact hF)
  have hSo : ∀ g, S g → ¬ own0 g := fun g hg ho => by rw [hown0] at ho; exact (H0.own_lt ho).2.2 hg
  have hRlt : ∀ g, RB.F g → g < w.heap.size := fun g hg => (hBi.1 g hg).2.2
  refine wpIn_rangeFunc fun fn _ => ?_
  obtain ⟨rec_, hrec⟩ : ∃ rec_ : LoopState → Loop, rec_ = fun st => { state := st, pending := none, fn, tmps := a.tmps, params := ps, assign, body, defers := w.heap.size } := ⟨_, rfl⟩
  have hst : ∀ x y, ({ rec_ x with state := y } : Loop) = rec_ y := fun x y => by rw [hrec]
  have hrst : (rec_ .ready).state = .ready := by rw [hrec]
  have hpe : ∀ x, (rec_ x).pending = none := fun x => by rw [hrec]
  obtain ⟨W1, hW1⟩ : ∃ W1, W1 = (w.alloc (.deferred (some []))).alloc (.loop (rec_ .ready)) := ⟨_, rfl⟩
  have hW1s : W1.heap.size = w.heap.size + 2 := by rw [hW1]; simp
  have hL1 : W1.heap[w.heap.size + 1]? = some (.loop (rec_ .ready)) := by
    rw [hW1]; have := heap_alloc_new (w.alloc (.deferred (some []))) (.loop (rec_ .ready)); rwa [World.size_alloc] at this
  have hD1 : W1.heap[w.heap.size]? = some (.deferred (some [])) := by
    rw [hW1]; exact (Below.heap_alloc _ _ _ (by simp)).trans (heap_alloc_new w _)
  have hb1 : Below w.heap.size w W1 := by rw [hW1]; exact ((Below.refl _ w).alloc (Nat.le_refl _) _).alloc (by simp) _
  have hJ0 : BetY S own0 w (rec_ .ready) (σ 0) S ψ (fun _ => False) W1 S := by
    refine ⟨hL1, hD1, by omega, fun g hg => hb1.block g (H.lt g hg), ?_, fun _ h => h, fun _ h => .inl h, fun g hg => .inl (by rw [hown0]; exact hg), fun _ h => .inr h⟩
    exact H0.re (fun k hk => hb1.block k (H.lt k hk)) (fun k hk => hb1.block k (H0.own_lt hk).2.1) _ (fun _ h => h.elim) none
  refine ⟨w.heap.size + 1, [mark w.heap.size], W1, { target := .fn (.func gf) lb.toArray, args := #[.func (.yield (w.heap.size + 1)) #[] #[]] }, W1, gf, #[.func (.yield (w.heap.size + 1)) #[] #[]] ++ lb.toArray, W1, ?_, ?_, fun _ _ => trivial, ?_, fun _ => by omega, ?_⟩
  · rw [hW1, hrec]; exact run_enterLoop_outer _ _ _ _ _
  · simp only [resolve, hgv]
    simp [go_sem]
  · simp [invoke, go_sem, enters_call hit.1]
  · have key := hit.2 W1 S BetP (w.heap.size + 1) (fun k p => betR S own0 w (rec_ .ready) (σ k) p) (fun _ _ => rfl) ?_ (S, ψ, fun _ => False) (fun k hk => ⟨by have := H.lt k hk; omega, ?_, fun hf => (hBi.1 k hf).2.1 hk⟩) (fun g hg => ?_) (fun g hg => by have := hRlt g hg; omega) hJ0 (RB.keep hBi.2 (fun k hk => hb1.block k (hRlt k hk)) (fun k hk => hb1.block k (H.lt k hk)) fun _ h => h)
    · refine key.mono ?_
      rintro e W' ⟨⟨v, rfl⟩, hgr, q, S', hSS, hJ, hS'lt, hS'new, hFq⟩
      have hJ : BetY S own0 w (rec_ .ready) (σ N) q.1 q.2.1 q.2.2 W' S' := hJ
      have hend := run_endLoop (P := P) hJ.loop (by rw [hrst]; simp)
      rw [hpe] at hend
      refine ⟨none, _, hend, ⟨t, (σ N).set im (.res (marksR (w.heap.size :: ds)))⟩, hdone _, ?_⟩
      obtain ⟨hlp, hdf, hsz, hsame, Hk, hs1, hs2, hs3, _⟩ := hJ
      suffices key : ∀ (W5 : World) (ob : Obj), W5 = W'.putObj (w.heap.size + 1) ob → St.rel C ⟨t, (σ N).set im (.res (marksR (w.heap.size :: ds)))⟩ { a with defers := [mark w.heap.size] ++ a.defers } W5 from key _ _ rfl
      intro W5 ob hW5
      have hot : ∀ g, g ≠ w.heap.size + 1 → W5.heap[g]? = W'.heap[g]? := fun g hg => by rw [hW5]; exact World.putObj_heap_other hg
      have hsz5 : W5.heap.size = W'.heap.size := by rw [hW5]; simp
      have hSne : ∀ g, q.1 g → g ≠ w.heap.size + 1 := fun g hg => by
        rcases hs2 g hg with h1 | h1
        · have := H.lt g h1; omega
        · omega
      have hOne : ∀ g, owns (σ N) q.2.1 g → g ≠ w.heap.size + 1 := fun g hg => by
        rcases hs3 g hg with h1 | h1
        · have := ho0 g h1; omega
        · omega
      have hkeep : ∀ g, g < w.heap.size → ¬ own0 g → ¬ RB.F g → W5.heap[g]? = w.heap[g]? := fun g h1 h2 h3 => by
        rw [hot g (by omega), hgr.block g (by omega) ?_, hb1.block g h1]
        rintro (h4 | h4)
        · have h4 : g = w.heap.size ∨ g = w.heap.size + 1 ∨ owns (σ 0) ψ g ∨ False := h4
          rcases h4 with h4 | h4 | h4 | h4
          · omega
          · omega
          · exact h2 (by rw [hown0]; exact h4)
          · exact h4
        · exact h3 h4
      have hH5 := Hk.re (W' := W5) (fun k hk => hot k (hSne k hk)) (fun k hk => hot k (hOne k hk)) (fun _ => False) (fun _ h => h.elim) none
      have hkp5 : Kp C.N w W5 := ⟨by rw [hW5]; exact hgr.os.trans hb1.os, by rw [hW5]; exact hgr.tape.trans hb1.tape, by rw [hW5]; exact hgr.output.trans hb1.output, by omega, fun k hk => hkeep k (Nat.lt_of_lt_of_le (H.nlt k hk) H.bel.size) (fun ho => by rw [hown0] at ho; exact (H0.own_lt ho).1 hk) fun hf => (hBi.1 k hf).1 hk⟩
      have hH6 : HRel C (σ N) q.1 q.2.1 W5 := hH5.to (H.bel.trans hkp5) H.nlt (fun k hk => hs1 k (H.sub k hk)) (fun k hk => by
        rcases hs2 k hk with h1 | h1
        · exact H.new k h1
        · right; have := H.bel.size; omega) fun g hg hn => by
          rcases hs3 g hg with h1 | h1
          · rw [hown0] at h1; exact (H0.own_lt h1).1 hn
          · have := H.nlt g hn; have := H.bel.size; omega
      have hdP : ∀ g, g ∈ ds → ¬ own0 g := fun g hg => hdead im _ hmi (hσm 0) g hg
      have hdB : ∀ g, g ∈ ds → ¬ RB.F g := fun g hg hf => H.dis i im hne (by rw [hi]; rfl) (by rw [hmi]; rfl) g (by rw [hi]; exact hf) (by rw [hmi]; exact hg)
      refine ⟨?_, q.1, q.2.1, hH6.rise (hσm N) ⟨List.nodup_cons.2 ⟨fun hm => by have := (hBm.1 _ hm).2.2; omega, hBm.2.1⟩, fun d hd => ?_⟩ fun g hg => ?_, ?_⟩
      · show [mark w.heap.size] ++ a.defers = mkD ((σ N).set im _)
        rw [mkD_rise (hσm N) (hmσ N), hd, hmk]
        rfl
      · rcases List.mem_cons.1 hd with rfl | hd
        · exact (hot _ (by omega)).trans hdf
        · exact (hkeep d (hBm.1 d hd).2.2 (hdP d hd) (hdB d hd)).trans (hBm.2.2 d hd)
      · rcases List.mem_cons.1 hg with rfl | hg
        · refine ⟨fun hn => by have := H.nlt _ hn; have := H.bel.size; omega, fun hs => ?_, by omega, fun ho => ?_⟩
          · rcases hs2 _ hs with h1 | h1
            · have := H.lt _ h1; omega
            · omega
          · rcases hs3 _ ho with h1 | h1
            · have := ho0 _ h1; omega
            · omega
        · have hlt := (hBm.1 g hg).2.2
          refine ⟨(hBm.1 g hg).1, fun hs => ?_, by omega, fun ho => ?_⟩
          · rcases hs2 _ hs with h1 | h1
            · exact (hBm.1 g hg).2.1 h1
            · omega
          · rcases hs3 _ ho with h1 | h1
            · exact hdP g hg h1
            · omega
      · exact AV.relL_cl _ _ ht (AV.relL_ext (Ext.grow [] ψ0 (fun k hk => (hot k (by have := H.lt k hk; omega)).trans (hsame k hk)) hs1) _ _ hlit)
    · intro k p hkN W SI vs hI1 hI2 hI3 hFlt hB hev
      have hB : BetY S own0 w (rec_ .ready) (σ k) p.1 p.2.1 p.2.2 W SI := hB
      have hvl : vs.length = ps.size := by rw [relL_len hev, hps]
      have hy := run_yield (P := P) (args := vs.toArray) hB.loop (by rw [hrec]; simpa using hvl)
      have hR := round_okY (P := P) (fn := fn) (ps := ps) (tmps := a.tmps) (body := body) (p := p) hst hrst hpe ho0 H.lt ht (hes k) hlit hev (hmσ k) hI1 (fun g hg => by have := hI2 g hg; rw [hW1s] at this; exact this) hI3 hB (hround k hkN)
      have e1 : ((rec_ .ready).params.zip vs.toArray).foldl (fun tmps (t, a) => tmps.setIfInBounds t a) (rec_ .ready).tmps = (ps.toList.zip vs).foldl (fun t p => t.setIfInBounds p.1 p.2) a.tmps := by
        rw [hrec, ← Array.foldl_toList, Array.toList_zip]
      rw [e1] at hy
      rw [show (rec_ .ready).fn = fn by rw [hrec], show (rec_ .ready).assign = assign by rw [hrec], show (rec_ .ready).body = body by rw [hrec]] at hy
      exact ⟨fn, _, assign, body, hy, hR⟩
    · intro hf
      have hf : k = w.heap.size ∨ k = w.heap.size + 1 ∨ owns (σ 0) ψ k ∨ False := hf
      have := H.lt k hk
      rcases hf with hf | hf | hf | hf
      · omega
      · omega
      · exact hSo k hk (by rw [hown0]; exact hf)
      · exact hf
    · have hg : g = w.heap.size ∨ g = w.heap.size + 1 ∨ owns (σ 0) ψ g ∨ False := hg
      rcases hg with hg | hg | hg | hg
      · exact ⟨by omega, fun hf => by have := hRlt g hf; omega⟩
      · exact ⟨by omega, fun hf => by have := hRlt g hf; omega⟩
      · exact ⟨by have := (H0.own_lt hg).2.1; omega, fun hf => hdead i _ hi h0i g hf (by rw [hown0]; exact hg)⟩
      · exact hg.elim
end
end Mu
end
section
/-
  A region that draws its order and holds a call of yield: quiet operations first, in any order, then a strict chain.
  Conditions: none; generic.
-/
namespace Mu
open Go Go.RowKit

section
variable {P : Program} {C : Ctx} {ops : Array Oper} {md : Region.Mode} {h : List ABlk}
theorem wpOpIn_of_aOp {i : Nat} {t : List AV} {a : Act} {w : World} {K : List AV → Prop} {K' : Act → World → Prop} {Q' : Exit → Act → World → Prop} (hlo : ¬ LetsOut Q') (H : St.rel C ⟨t, h⟩ a w) (hK : ∀ t a w, K t → St.rel C ⟨t, h⟩ a w → K' a w)
    (hh : aOp P C ops h i K t) : wpOpIn (fnc C.rd) 4 P ops Q' i K' a w := by
  unfold aOp at hh
  unfold wpOpIn
  split
  · rename_i ho; simp only [ho] at hh; exact hK _ _ _ hh H
  · rename_i o ho
    simp only [ho] at hh
    obtain ⟨r, hy, hk⟩ := hh
    obtain ⟨hd, S, ψ, hh', hl⟩ := id H
    rcases hy with ⟨hg, hq⟩ | ⟨hg, rfl⟩
    · have hw := gA_wanted hg hl
      rw [hw, if_pos rfl]
      exact fnc_oper (qUpon_noDefer (hq S ψ w a.eval hh' fun x _ => ev_rel hl x)) hlo (upon_of_q (s := ⟨t, h⟩) hd hh' hl (hq S ψ w a.eval hh' fun x _ => ev_rel hl x) fun a' w' h => hK _ _ _ hk h)
    · have hw := gA_wanted hg hl
      rw [hw, if_neg (by simp)]
      exact ⟨fun _ _ => fnc_fn _ _, hK _ _ _ hk (undef_rel H o.dst)⟩
theorem wpAnyIn_of_a {n g : Nat} {L : Array Bool → List AV → Prop} {Q' : Exit → Act → World → Prop} (hlo : ¬ LetsOut Q') (hL : ∀ listed t a w, L listed t → St.rel C ⟨t, h⟩ a w → wpAnyIn (fnc C.rd) 4 P md ops Q' g listed a w) :
    ∀ (f : Nat) (listed : Array Bool) (t : List AV) (a : Act) (w : World), aAny P C md ops h n L f listed t → St.rel C ⟨t, h⟩ a w → wpAnyIn (fnc C.rd) 4 P md ops Q' (f + g) listed a w
  | 0, listed, t, a, w, hh, H => by rw [Nat.zero_add]; exact hL _ _ _ _ hh H
  | f + 1, listed, t, a, w, hh, H => by
    rw [show f + 1 + g = (f + g) + 1 by omega]
    exact ⟨fun h0 => absurd h0 hh.1, fun i hi => wpOpIn_of_aOp hlo H (fun t' a' w' h' H' => wpAnyIn_of_a hlo hL f _ t' a' w' h' H') (hh.2 i hi).2⟩
theorem wpAnyIn_of_seq {F : Fence} {m : Nat} {Q' : Exit → Act → World → Prop} : ∀ (l : List Oper) (k : Nat) (listed : Array Bool) (a : Act) (w : World), (∀ j, l[j]? = ops[k + j]?) →
    Region.seqB md ops l.length k listed = true → wpListIn F m P ops Q' l a w → wpAnyIn F m P md ops Q' l.length listed a w
  | [], _, _, _, _, _, hB, h => ⟨by simpa [Region.seqB] using hB, h⟩
  | o :: l, k, listed, a, w, hl, hB, h => by
    have h0 : ops[k]? = some o := by simpa using (hl 0).symm
    simp only [List.length_cons, Region.seqB, Bool.and_eq_true, decide_eq_true_eq] at hB
    refine ⟨fun h1 => (by rw [hB.1] at h1; cases h1), fun i hi => ?_⟩
    rw [hB.1] at hi
    have hik : i = k := by simpa using hi
    subst hik
    have hw : wpOpIn F m P ops Q' i (wpListIn F m P ops Q' l) a w := by unfold wpOpIn; simp only [h0]; exact h
    exact wpOpIn_mono (fun a' w' h' => wpAnyIn_of_seq l (i + 1) _ a' w' (fun j => by have := hl (j + 1); simpa [Nat.add_assoc, Nat.add_comm 1 j] using this) hB.2 h') hw
theorem Awp.drawY {id : Nat} {l : List Oper} {Q : Exit → St → Prop} {s : St} (n : Nat) (hm : P.follows .mixedOrders = true) (hB : regB l.toArray n = true)
    (hh : aQ P C l.toArray s.h (fun t => aSeqY P C l.toArray (Q .normal) (l.drop n) ⟨t, s.h⟩) (l.take n) s.t) : Awp P C (.region id l.toArray true) Q s := fun a w H => by
  simp only [regB, Bool.and_eq_true, decide_eq_true_eq, Bool.or_eq_true, beq_iff_eq] at hB
  obtain ⟨⟨⟨⟨hsel, hnd⟩, hn⟩, hs⟩, hlex⟩ := hB
  have hn' : n ≤ l.length := by simpa using hn
  have htl : (l.take n).length = n := by simp; omega
  have hdl : (l.drop n).length = l.toArray.size - n := by simp
  have inv0 : HeadInv .any l.toArray n (Array.replicate l.toArray.size false) :=
    ⟨by simp, fun j oj _ hl => (by rw [getD_replicate_false] at hl; cases hl), fun t _ ht => getD_in (by simpa using ht) (getD_replicate_false _ _)⟩
  have htail : ∀ (listed : Array Bool) (i : Nat), HeadInv .any l.toArray n listed → i < n → listed.getD i true = false → ∀ t, n ≤ t → t ∉ Region.ready .any l.toArray listed := by
    intro listed i inv hi hun t ht
    rcases hs with hs | ⟨hs, hc⟩
    · intro hr
      obtain ⟨_, o, ho, _⟩ := mem_ready.1 hr
      have := (Array.getElem?_eq_some_iff.1 ho).1
      omega
    · by_cases hlt : n < l.toArray.size
      · exact tail_waits hs hc hlt inv _ i rfl hi hun t ht
      · intro hr
        obtain ⟨_, o, ho, _⟩ := mem_ready.1 hr
        have := (Array.getElem?_eq_some_iff.1 ho).1
        omega
  have HH := aAny_lex (md := .any) (g := l.toArray.size - n) htail (l.take n) 0 _ s.t (fun j hj => by
    have hj' : j < n := by rw [htl] at hj; exact hj
    simp [hj']) (by simpa using htl) inv0 (by rw [htl]; exact hlex) hh
  have hlo : ¬ LetsOut (fun e a' w' => e = Exit.normal ∧ ∃ s', Q e s' ∧ s'.rel C a' w') := fun ⟨_, _, h⟩ => by cases h.1
  refine wpIn_mono (wpIn_region_any (Q := fun e a' w' => e = .normal ∧ ∃ s', Q e s' ∧ s'.rel C a' w') hm ?_) fun _ _ _ h => h.2
  have H' : St.rel C ⟨s.t, s.h⟩ a { w with drawn := w.drawn + 1 } := by
    obtain ⟨hd, S, ψ, hh', hl⟩ := H
    have hb : Below w.heap.size w { w with drawn := w.drawn + 1 } := ⟨rfl, rfl, rfl, Nat.le_refl _, fun _ _ => rfl⟩
    exact ⟨hd, S, ψ, hh'.grow hb (fun _ h => h) (fun _ h => .inl h) hh'.lt, AV.relL_ext (show Ext w S s.h ψ { w with drawn := w.drawn + 1 } S s.h ψ from Ext.grow s.h ψ (fun k hk => rfl) fun _ h => h) _ _ hl⟩
  have := wpAnyIn_of_a (Q' := fun e a' w' => e = .normal ∧ ∃ s', Q e s' ∧ s'.rel C a' w') hlo (g := l.toArray.size - n) (fun listed t a' w' hL H' => by
    have := wpAnyIn_of_seq (md := .any) (l.drop n) n listed a' w' (fun j => by simp [List.getElem?_drop]) (by rw [hdl]; exact hL.1) (wpListIn_of_aSeqY rfl (Q' := fun e a' w' => e = .normal ∧ ∃ s', Q e s' ∧ s'.rel C a' w') hlo (fun s a w h H => ⟨rfl, s, h, H⟩) _ _ _ _ hL.2 H')
    rwa [hdl] at this) _ _ _ _ _ HH H'
  rw [htl, show n + (l.toArray.size - n) = l.toArray.size by omega] at this
  exact this
end
end Mu
end
section
/-
  A function that makes memory of the call's own and holds ranges over functions; contracts that read memory, from those over worlds.
  Conditions: none; generic.
-/
namespace Mu
open Go Go.RowKit

def RetsN {ι : Type} (t : Tmp) (Rs : ι → Res) (val : ι → Value) : Exit → St → Prop := fun e s => (e = .normal ∨ e = .ret) ∧ ∃ ds j p, s.h[0]? = some (.res (marksR ds)) ∧ mkD s.h = ds.map mark ∧ j ≠ 0 ∧ s.h[j]? = some (.res (Rs p)) ∧ evA s.t (.tmp t) = .lit (val p)
theorem FnNew.of_awpM {P : Program} {f : FuncId} {fn : Go.Func} {c : Code} {args : List AV} {ι : Type} {Rs : ι → Res} {val : ι → Value} {t : Tmp} {n : Nat} (hf : P.funcs[f]? = some fn) (hb : fn.body = some c) (hE : Enters P f = true) (hres : fn.results = #[.tmp t]) (hn : fn.ntmps = n)
    (hS : ∀ p w S S', (Rs p).R w S → (Rs p).R w S')
    (h : ∀ C : Ctx, C.std → C.rd = none → Awp P C c (RetsN t Rs val) ⟨args ++ List.replicate (n - args.length) (.lit undef), [.res (marksR [])]⟩) : FnNew P f args Rs val := by
  refine ⟨hE, fun w S vs hSl hr => (callsIn_wide (n := 4)).1 (callsIn_of_wp_marks hf hb trivial ?_)⟩
  rw [hn]
  have hst : St.rel ⟨w, S, fun k => k < w.heap.size, none⟩ ⟨args ++ List.replicate (n - args.length) (.lit undef), [.res (marksR [])]⟩ { tmps := vs.toArray ++ Array.replicate (n - vs.toArray.size) undef, defers := [] } w := by
    obtain ⟨hd, S1, ψ, H, hl⟩ := start_rel (n := n) hSl hr
    have X := Ext.push (w := w) (w' := w) (S := S1) (h := []) (ψ := ψ) (.res (marksR [])) undef fun _ _ => rfl
    exact ⟨rfl, S1, _, H.push (b := .res (marksR [])) (v := undef) (Below.refl _ _) (show BRel _ _ _ _ _ _ (.res (marksR [])) from ⟨fun g hg => (List.not_mem_nil hg).elim, show ([] : List Nat).Nodup ∧ ∀ d ∈ ([] : List Nat), w.heap[d]? = some (.deferred (some [])) from ⟨List.nodup_nil, fun d hd => (List.not_mem_nil hd).elim⟩⟩) (fun g hg => (List.not_mem_nil hg).elim), AV.relL_ext X _ _ hl⟩
  have hw := h ⟨w, S, fun k => k < w.heap.size, none⟩ (fun _ h => h) rfl _ w hst
  refine wpIn_mono hw ?_
  rintro e a' w' ⟨s, ⟨he, ds, j, p, h0, hm, hj0, hj, hx⟩, hd, S1, ψ, H, hl⟩
  have hv := ev_rel hl (.tmp t)
  rw [hm] at hd
  have key := leaves_h (P := P) (C := ⟨w, S, fun k => k < w.heap.size, none⟩) (fn := fn) (tmps := a'.tmps) (R := fun e w' => ∃ v, e = .returned v ∧ Turns w S (fun _ => False) Rs val v w') (n := 4) (x := evA s.t (.tmp t)) (v := a'.eval (.tmp t)) (fun W => results_tmp hres _ _ _) ds w' s.h S1 ψ (fun W S2 ψ2 h1 h2 => by
    rw [hx] at h2
    unfold AV.rel at h2
    have hB := h1.blk j (.res (Rs p)) (by rw [List.getElem?_set_ne (Ne.symm hj0)]; exact hj)
    refine ⟨_, rfl, ⟨h1.bel.os, h1.bel.tape, h1.bel.output, h1.bel.size, fun k hk _ => h1.bel.block k hk⟩, p, h2, hS p _ _ _ hB.2, fun k hk => ?_⟩
    obtain ⟨k1, k2, k3⟩ := hB.1 k hk
    exact ⟨.inr (Nat.le_of_not_lt k1), k3⟩) h0 H hv
  rcases he with rfl | rfl
  · show LeavesInM Fence.wide 4 P fn a'.tmps _ a'.defers .returning w'
    rw [hd]
    exact key
  · show LeavesInM Fence.wide 4 P fn a'.tmps _ a'.defers .returning w'
    rw [hd]
    exact key
end Mu
end
section
/-
  slices.Backward over instructions: its contract.
  Conditions: at most 2^21 instructions, which lie where the rounds leave them as they are.
-/
namespace Mu
open Go Go.RowKit Go.Proofs Go.Shelf
attribute [local go_sem] Oper.semAt_some

/-- an instruction with its place, as it is handed over -/
abbrev BkE (W0 : World) (S : Nat → Prop) (ds : List Ins) := { x : Nat × List Value // ∃ d, ds[x.1]? = some d ∧ tIns.RS W0 S x.2 d }
def bkEnc {W0 : World} {S : Nat → Prop} {ds : List Ins} (x : BkE W0 S ds) : Array Value := #[.int .i64 ((x.1.1 : Nat) : Int), .agg x.1.2.toArray]
def bkIdx {W0 : World} {S : Nat → Prop} {ds : List Ins} (xs : List (BkE W0 S ds)) : List Nat := xs.map fun x => x.1.1
/-- how the iterator ends -/
def BPost {W0 : World} {S : Nat → Prop} {ds : List Ins} (J Jx : List (BkE W0 S ds) → World → Prop) (W' : World) : Prop := (∃ ys, bkIdx ys = (List.range ds.length).reverse ∧ J ys W') ∨ (∃ pre, True ∧ Jx pre W')
theorem rev_take {n j : Nat} (h : j < n) : (List.range n).reverse.take (n - (j + 1)) ++ [j] = (List.range n).reverse.take (n - j) := by
  have e : n - j = (n - (j + 1)) + 1 := by omega
  rw [e, List.take_add_one]
  congr 1
  rw [List.getElem?_reverse (by simp; omega)]
  simp
  rw [List.getElem?_range (by omega)]
  simp
  omega

set_option maxRecDepth 100000 in
set_option maxHeartbeats 4000000 in
theorem backward1_in (F : Fence) (n : Nat) (h105 : F.fn 169) (hro : F.round = none) (hn : 1 ≤ n) (l : Nat) (ds : List Ins) (A : Option Addr) (c Bb : Nat) (S : Nat → Prop) (W0 W : World) (J Jx : List (BkE W0 S ds) → World → Prop)
    (hW : KS S W0 W)
    (hY : ∀ pre x W, J pre W → pre.length < ds.length → YieldAt F (n - 1) Tryz.prog l (bkEnc x) W fun e W' =>
      (e = .returned (.bool true) ∧ J (pre ++ [x]) W' ∧ KS S W W') ∨ (e = .returned (.bool false) ∧ Jx (pre ++ [x]) W'))
    (hB : S Bb) (hB0 : W0.cell? ⟨Bb, 0, none⟩ = some (.slice A ds.length c)) (hR : tIns.slice.RS W0 S [.slice A ds.length c] ds) (hl : ds.length ≤ 2097152) (h0 : J [] W) :
    CallsIn F n Tryz.prog 169 #[.func (.yield l) #[] #[], .pointer (some ⟨Bb, 0, none⟩)] W fun e W' => (∃ v, e = .returned v) ∧ BPost J Jx W' := by
  have HR := Lib.hid hR
  have HY := Lib.hid hY
  have H0 := Lib.hid h0
  have x1 : IntKind.i64.wrap ((ds.length : Int) - 1) = (ds.length : Int) - 1 := IntWalk.i64_in _ (by omega)
  have hb0 := hW.cell hB hB0
  clear hR hY h0
  refine callsIn_of_wp Tryz.func169 rfl h105 ?_ hro
  simp only [Tryz.ntmps169, List.size_toArray, List.length_cons, List.length_nil, Nat.reduceAdd, Nat.reduceSub, Array.replicate_succ, Array.replicate_zero, List.push_toArray, List.append_toArray, List.nil_append, List.cons_append]
  gi_wp2
  gi_loopw [3] (fun i wr => ∃ m : Nat, m ≤ ds.length ∧ i = .int .i64 ((m : Int) - 1) ∧ (∃ pre, bkIdx pre = (List.range ds.length).reverse.take (ds.length - m) ∧ J pre wr) ∧ KS S W wr) (fun i _ => (RowKit.intOf i + 1).toNat)
  case atStart => exact ⟨ds.length, Nat.le_refl _, rfl, ⟨[], by simp [bkIdx], H0.out⟩, KS.refl⟩
  case round =>
    obtain ⟨m, hm, rfl, ⟨pre, hpre, hJ⟩, hK⟩ := hrel
    have HP := Lib.hid hpre
    clear hpre
    rcases m with _ | j
    · have d0 : decide ((0 : Int) ≤ ((0 : Nat) : Int) - 1) = false := decide_eq_false (by omega)
      gi_wp2
      go_end0
      exact ⟨⟨_, rfl⟩, .inl ⟨pre, by rw [HP.out]; exact List.take_of_length_le (by simp), hJ⟩⟩
    · have ej : ((j + 1 : Nat) : Int) - 1 = (j : Int) := by omega
      rw [ej]
      have d0 : decide ((0 : Int) ≤ (j : Int)) = true := decide_eq_true (by omega)
      have x2 : IntKind.i64.wrap ((j : Int) - 1) = (j : Int) - 1 := IntWalk.i64_in _ (by omega)
      obtain ⟨x, hxk⟩ : ∃ x, ds[j]? = some x := ⟨_, List.getElem?_eq_getElem (by omega)⟩
      obtain ⟨ib, io, Aa, ca, rfl, hib, hat⟩ := ins_at HR.out hxk
      have hK0 := hW.trans hK
      have e0 := hK0.cell (a := ⟨ib, _, none⟩) hib hat.c0
      have e1 := hK0.cell (a := ⟨ib, _, none⟩) hib hat.c1
      have e2 := hK0.cell (a := ⟨ib, _, none⟩) hib hat.c2
      have e3 := hK0.cell (a := ⟨ib, _, none⟩) hib hat.c3
      have e4 := hK0.cell (a := ⟨ib, _, none⟩) hib hat.c4
      have e5 := hK0.cell (a := ⟨ib, _, none⟩) hib hat.c5
      have e6 := hK0.cell (a := ⟨ib, _, none⟩) hib hat.c6
      have e7 := hK0.cell (a := ⟨ib, _, none⟩) hib hat.c7
      have e8 := hK0.cell (a := ⟨ib, _, none⟩) hib hat.c8
      have eb := hK0.cell hB hB0
      have hjl : (j : Int) < (ds.length : Int) := by omega
      have HX := Lib.hid (show ∃ d, ds[j]? = some d ∧ tIns.RS W0 S [.int .u8 x.op, .int .i64 x.d, .int .i64 x.a, .int .i64 x.b, .int .u32 x.n, .int .i64 x.f, .slice Aa x.args.length ca, .int .i64 x.l1, .int .i64 x.l2] d from ⟨x, hxk, tIns_R.2 ⟨Aa, ca, hat.raw⟩⟩)
      have hpl : pre.length < ds.length := by
        have := congrArg List.length HP.out
        simp [bkIdx] at this
        omega
      obtain ⟨fn, tmps, assign, body, hy, hR⟩ := HY.out pre ⟨(j, [.int .u8 x.op, .int .i64 x.d, .int .i64 x.a, .int .i64 x.b, .int .u32 x.n, .int .i64 x.f, .slice Aa x.args.length ca, .int .i64 x.l1, .int .i64 x.l2]), HX.out⟩ wr hJ hpl
      dsimp only [bkEnc] at hy
      clear hat hxk
      gi_wp2
      refine hR.mono ?_
      rintro e W3 (⟨rfl, hJ3, hk3⟩ | ⟨rfl, hJx3⟩)
      · gi_wp2
        go_roundw
        case rel =>
          refine ⟨j, by omega, rfl, ⟨_, ?_, hJ3⟩, hK.trans hk3⟩
          have h := HP.out
          unfold bkIdx at h ⊢
          rw [List.map_append, h]
          exact rev_take (by omega)
        case measure => simp [RowKit.intOf]
      · gi_wp2
        refine bodyPost_ret (results_none rfl _ _ _) rfl ?_
        exact ⟨⟨_, rfl⟩, .inr ⟨_, trivial, hJx3⟩⟩

/-- the iterator's contract -/
theorem backward_stops (F : Fence) (n : Nat) (h105 : F.fn 169) (hro : F.round = none) (hn : 1 ≤ n) (ds : List Ins) (A : Option Addr) (c Bb : Nat) (S : Nat → Prop) (W0 : World) (hS : ∀ k, S k → k < W0.heap.size)
    (hB : S Bb) (hB0 : W0.cell? ⟨Bb, 0, none⟩ = some (.slice A ds.length c)) (hR : tIns.slice.RS W0 S [.slice A ds.length c] ds) (hl : ds.length ≤ 2097152) :
    SeqStopsK F n Tryz.prog 169 #[.pointer (some ⟨Bb, 0, none⟩)] (fun x : BkE W0 S ds => bkEnc x) (KS S) (fun ys => bkIdx ys = (List.range ds.length).reverse) (fun _ => True) ds.length W0 := fun l J Jx W hW _ _ hY h0 =>
  backward1_in F n h105 hro hn l ds A c Bb S W0 W J Jx ⟨hW.size, fun k hk => hW.block k (hS k hk)⟩ hY hB hB0 hR hl h0

theorem backward_in (F : Fence) (n : Nat) (h78 : F.fn 151) (hro : F.round = none) (A : Option Addr) (m c : Nat) (w : World) :
    CallsIn F n Tryz.prog 151 #[.slice A m c] w fun e w' => e = .returned (.func (.func 169) #[] #[.pointer (some ⟨w.heap.size, 0, none⟩)]) ∧ w' = w.alloc (.cells #[.slice A m c] 78) := by
  refine callsIn_of_wp Tryz.func151 rfl h78 ?_ hro
  simp only [Tryz.ntmps151, List.size_toArray, List.length_cons, List.length_nil, Nat.reduceAdd, Nat.reduceSub, Array.replicate_succ, Array.replicate_zero, List.push_toArray, List.append_toArray, List.nil_append, List.cons_append]
  gi_wp2
  go_ret
  exact ⟨rfl, rfl⟩
end Mu
end
section
/-
  slices.Backward over instructions: its contract, its order told.
  Conditions: at most 2^21 instructions, which lie where the rounds leave them as they are.
-/
namespace Mu
open Go Go.RowKit Go.Proofs Go.Shelf
attribute [local go_sem] Oper.semAt_some

set_option maxRecDepth 100000 in
set_option maxHeartbeats 4000000 in
theorem backward1_k (F : Fence) (n : Nat) (h105 : F.fn 169) (hro : F.round = none) (hn : 1 ≤ n) (l : Nat) (ds : List Ins) (A : Option Addr) (c Bb : Nat) (S0 S : Nat → Prop) (hS0 : ∀ k, S0 k → S k) (W0 W : World) (J : Nat → World → Prop)
    (hW : KS S W0 W)
    (hY : ∀ (k j : Nat) (es : List Value) (d : Ins) (W : World), k + j + 1 = ds.length → ds[j]? = some d → tIns.RS W0 S0 es d → J k W → YieldAt F (n - 1) Tryz.prog l #[.int .i64 (j : Int), .agg es.toArray] W fun e W' => e = .returned (.bool true) ∧ J (k + 1) W' ∧ KS S W W')
    (hB : S Bb) (hB0 : W0.cell? ⟨Bb, 0, none⟩ = some (.slice A ds.length c)) (hR : tIns.slice.RS W0 S0 [.slice A ds.length c] ds) (hl : ds.length ≤ 2097152) (h0 : J 0 W) :
    CallsIn F n Tryz.prog 169 #[.func (.yield l) #[] #[], .pointer (some ⟨Bb, 0, none⟩)] W fun e W' => (∃ v, e = .returned v) ∧ J ds.length W' := by
  have HR := Lib.hid hR
  have HY := Lib.hid hY
  have H0 := Lib.hid h0
  have x1 : IntKind.i64.wrap ((ds.length : Int) - 1) = (ds.length : Int) - 1 := IntWalk.i64_in _ (by omega)
  have hb0 := hW.cell hB hB0
  clear hR hY h0
  refine callsIn_of_wp Tryz.func169 rfl h105 ?_ hro
  simp only [Tryz.ntmps169, List.size_toArray, List.length_cons, List.length_nil, Nat.reduceAdd, Nat.reduceSub, Array.replicate_succ, Array.replicate_zero, List.push_toArray, List.append_toArray, List.nil_append, List.cons_append]
  gi_wp2
  gi_loopw [3] (fun i wr => ∃ m : Nat, m ≤ ds.length ∧ i = .int .i64 ((m : Int) - 1) ∧ J (ds.length - m) wr ∧ KS S W wr) (fun i _ => (RowKit.intOf i + 1).toNat)
  case atStart => exact ⟨ds.length, Nat.le_refl _, rfl, by rw [Nat.sub_self]; exact H0.out, KS.refl⟩
  case round =>
    obtain ⟨m, hm, rfl, hJ, hK⟩ := hrel
    rcases m with _ | j
    · have d0 : decide ((0 : Int) ≤ ((0 : Nat) : Int) - 1) = false := decide_eq_false (by omega)
      gi_wp2
      go_end0
      exact ⟨⟨_, rfl⟩, hJ⟩
    · have ej : ((j + 1 : Nat) : Int) - 1 = (j : Int) := by omega
      rw [ej]
      have d0 : decide ((0 : Int) ≤ (j : Int)) = true := decide_eq_true (by omega)
      have x2 : IntKind.i64.wrap ((j : Int) - 1) = (j : Int) - 1 := IntWalk.i64_in _ (by omega)
      obtain ⟨x, hxk⟩ : ∃ x, ds[j]? = some x := ⟨_, List.getElem?_eq_getElem (by omega)⟩
      obtain ⟨ib, io, Aa, ca, rfl, hib, hat⟩ := ins_at HR.out hxk
      replace hib := hS0 _ hib
      have hK0 := hW.trans hK
      have e0 := hK0.cell (a := ⟨ib, _, none⟩) hib hat.c0
      have e1 := hK0.cell (a := ⟨ib, _, none⟩) hib hat.c1
      have e2 := hK0.cell (a := ⟨ib, _, none⟩) hib hat.c2
      have e3 := hK0.cell (a := ⟨ib, _, none⟩) hib hat.c3
      have e4 := hK0.cell (a := ⟨ib, _, none⟩) hib hat.c4
      have e5 := hK0.cell (a := ⟨ib, _, none⟩) hib hat.c5
      have e6 := hK0.cell (a := ⟨ib, _, none⟩) hib hat.c6
      have e7 := hK0.cell (a := ⟨ib, _, none⟩) hib hat.c7
      have e8 := hK0.cell (a := ⟨ib, _, none⟩) hib hat.c8
      have eb := hK0.cell hB hB0
      have hjl : (j : Int) < (ds.length : Int) := by omega
      obtain ⟨fn, tmps, assign, body, hy, hR⟩ := HY.out (ds.length - (j + 1)) j [.int .u8 x.op, .int .i64 x.d, .int .i64 x.a, .int .i64 x.b, .int .u32 x.n, .int .i64 x.f, .slice Aa x.args.length ca, .int .i64 x.l1, .int .i64 x.l2] x wr (by omega) hxk (tIns_R.2 ⟨Aa, ca, hat.raw⟩) hJ
      clear hat hxk
      gi_wp2
      refine hR.mono ?_
      rintro e W3 ⟨rfl, hJ3, hk3⟩
      gi_wp2
      go_roundw
      case rel =>
        refine ⟨j, by omega, rfl, ?_, hK.trans hk3⟩
        rw [show ds.length - (j + 1) + 1 = ds.length - j by omega] at hJ3
        exact hJ3
      case measure => simp [RowKit.intOf]

/-- the memory of such an iterator -/
def bkR (ds : List Ins) (p : Nat × Option Addr × Nat) : Res := ⟨[], fun g => g = p.1, fun w S => w.heap[p.1]? = some (.cells #[.slice p.2.1 ds.length p.2.2] 78 (0, 0)) ∧ tIns.slice.RS w S [.slice p.2.1 ds.length p.2.2] ds,
  fun h hk hb hs => ⟨(hk _ rfl).trans h.1, tIns.slice.keepS h.2 hb hs⟩⟩
def bkF (p : Nat × Option Addr × Nat) : Value := .func (.func 169) #[] #[.pointer (some ⟨p.1, 0, none⟩)]
theorem backward_new (ds : List Ins) : FnNew Tryz.prog 151 [.bs tIns ds] (bkR ds) bkF := by
  refine ⟨by kernel_rfl, fun w S vs hS hr => ?_⟩
  unfold AV.relL AV.rel AV.relL at hr
  obtain ⟨v, _, rfl, hv, rfl⟩ := hr
  obtain ⟨A, c, e, hx⟩ := id hv
  simp only [List.cons.injEq, and_true] at e
  subst e
  refine ((callsIn_wide (n := 4)).1 (backward_in Fence.wide 4 trivial rfl A ds.length c w)).mono ?_
  rintro e w' ⟨rfl, rfl⟩
  have hb : Below w.heap.size w (w.alloc (.cells #[.slice A ds.length c] 78)) := (Below.refl _ _).alloc (Nat.le_refl _) _
  exact ⟨_, rfl, ⟨hb.os, hb.tape, hb.output, hb.size, fun k hk _ => hb.block k hk⟩, (w.heap.size, A, c), rfl, ⟨heap_alloc_new w _, tIns.slice.keepS hv (fun k hk => hb.block k (hS k hk)) fun _ h => h⟩, fun k hk => by
    have hk : k = w.heap.size := hk
    subst hk
    exact ⟨.inr (Nat.le_refl _), by simp⟩⟩
/-- what the k-th round is given -/
def bkE (ds : List Ins) (k : Nat) : List AV := match ds[ds.length - 1 - k]? with
  | some d => [.lit (.int .i64 ((ds.length - 1 - k : Nat) : Int)), .agg (encIns d)]
  | none => [.any, .any]
theorem backward_iter (ds : List Ins) (hl : ds.length ≤ 2097152) (p : Nat × Option Addr × Nat) (w : World) (S : Nat → Prop) (_hS : ∀ k, S k → k < w.heap.size) (_hF : ∀ k, (bkR ds p).F k → k < w.heap.size) (hR : (bkR ds p).R w S) :
    IterK Tryz.prog 169 #[.pointer (some ⟨p.1, 0, none⟩)] (fun k => S k ∨ (bkR ds p).F k) w (fun k vs => AV.relL w S [] ψ0 (bkE ds k) vs) ds.length := fun l J W hW hY h0 => by
  refine backward1_k Fence.wide 3 trivial rfl (by decide) l ds p.2.1 p.2.2 p.1 S (fun k => S k ∨ (bkR ds p).F k) (fun _ h => .inl h) w W J hW ?_ (.inr rfl) (box_cell (cs := [_]) hR.1 rfl) hR.2 hl h0
  intro k j es d W1 hkj hd hes hJ
  refine hY k [.int .i64 (j : Int), .agg es.toArray] W1 (by omega) ?_ hJ
  have hj : ds.length - 1 - k = j := by omega
  show AV.relL w S [] ψ0 (bkE ds k) _
  unfold bkE
  rw [hj, hd]
  unfold AV.relL
  refine ⟨_, _, rfl, by unfold AV.rel; rfl, ?_⟩
  unfold AV.relL
  refine ⟨_, _, rfl, ?_, by unfold AV.relL; rfl⟩
  unfold AV.rel
  exact ⟨es, rfl, EncOf.ok (T := tIns) w S [] ψ0 es d hes⟩
theorem bkE_cl (ds : List Ins) (k : Nat) : AV.clL (bkE ds k) = true := by
  unfold bkE
  split <;> rfl
theorem bkE_len (ds : List Ins) (k : Nat) : (bkE ds k).length = 2 := by
  unfold bkE
  split <;> rfl
end Mu
end
section
/-
  DERIVED: THE SHELF's CONTRACTS AT THIS DUMP, IN PLAIN WORDS (tools/lay-plain.mjs out of 'TryShelfM.lean', which tools/lay-shelf.mjs wrote): THE SAME DECLARATIONS UNDER THE SAME NAMES: 'import', 'namespace', 'open', 'def', 'theorem' AND NOTHING ELSE: no command of the shelf's: FOR A HAND-IN. Each laying: the table of numbers ('.._ren') and one theorem, a field a fact of the dump's own or the kernel's comparison; each contract: ONE APPLICATION.
-/
namespace Go.Proofs
open Go.Shelf
def Tryz.keysM_ren : Go.Shelf.Ren := ⟨fun | 7 => 168 | 10 => 200 | n => n, fun | 23 => 167 | 26 => 3 | 3 => 3 | 28 => 76 | 0 => 0 | 27 => 75 | 33 => 132 | 4 => 4 | n => n, fun | n => n⟩
theorem Tryz.keysM : Go.Proofs.SlLaysZI.n7 Tryz.prog Tryz.keysM_ren := {
  mixed := by kernel_rfl
  f7 := ⟨Tryz.f168.name, by decide, Tryz.func168.trans (congrArg some (by kernel_rfl))⟩
  f10 := ⟨Tryz.f200.name, by decide, Tryz.func200.trans (congrArg some (by kernel_rfl))⟩
  t0 := Tryz.underlying0
  a0 := Tryz.isAgg0
  z0 := Tryz.sizeOf0
  v0 := Tryz.zeroValue0
  t4 := Tryz.underlying4
  a4 := Tryz.isAgg4
  z4 := Tryz.sizeOf4
  v4 := Tryz.zeroValue4
  t23 := Tryz.underlying167
  a23 := Tryz.isAgg167
  z23 := Tryz.sizeOf167
  v23 := Tryz.zeroValue167
  t26 := Tryz.underlying3
  a26 := Tryz.isAgg3
  z26 := Tryz.sizeOf3
  v26 := Tryz.zeroValue3
  t27 := Tryz.underlying75
  a27 := Tryz.isAgg75
  z27 := Tryz.sizeOf75
  v27 := Tryz.zeroValue75
  t28 := Tryz.underlying76
  a28 := Tryz.isAgg76
  z28 := Tryz.sizeOf76
  v28 := Tryz.zeroValue76
  t33 := Tryz.underlying132
  a33 := Tryz.isAgg132
  z33 := Tryz.sizeOf132
  v33 := Tryz.zeroValue132 }
def Tryz.sortedM_ren : Go.Shelf.Ren := ⟨fun | 6 => 37 | 8 => 72 | 9 => 40 | 11 => 117 | 13 => 75 | 12 => 74 | 23 => 127 | 24 => 128 | 14 => 118 | 15 => 119 | 16 => 120 | 17 => 121 | 18 => 122 | 19 => 123 | 20 => 124 | 21 => 125 | 22 => 126 | 25 => 157 | 26 => 158 | 27 => 159 | 28 => 160 | 29 => 161 | 30 => 116 | 31 => 179 | n => n, fun | 26 => 3 | 28 => 76 | 24 => 31 | 0 => 0 | 3 => 3 | 37 => 135 | 48 => 53 | 50 => 184 | 4 => 4 | 40 => 176 | 39 => 175 | 45 => 121 | 5 => 5 | 9 => 9 | 51 => 212 | 55 => 216 | 57 => 235 | 58 => 236 | 33 => 132 | n => n, fun | n => n⟩
theorem Tryz.sortedM : Go.Proofs.SlLaysZI.n6 Tryz.prog Tryz.sortedM_ren := {
  mixed := by kernel_rfl
  f6 := ⟨Tryz.f37.name, by decide, Tryz.func37.trans (congrArg some (by kernel_rfl))⟩
  f8 := ⟨Tryz.f72.name, by decide, Tryz.func72.trans (congrArg some (by kernel_rfl))⟩
  f11 := ⟨Tryz.f117.name, by decide, Tryz.func117.trans (congrArg some (by kernel_rfl))⟩
  t0 := Tryz.underlying0
  a0 := Tryz.isAgg0
  z0 := Tryz.sizeOf0
  v0 := Tryz.zeroValue0
  t24 := Tryz.underlying31
  a24 := Tryz.isAgg31
  z24 := Tryz.sizeOf31
  v24 := Tryz.zeroValue31
  t26 := Tryz.underlying3
  a26 := Tryz.isAgg3
  z26 := Tryz.sizeOf3
  v26 := Tryz.zeroValue3
  t28 := Tryz.underlying76
  a28 := Tryz.isAgg76
  z28 := Tryz.sizeOf76
  v28 := Tryz.zeroValue76
  i26 := by kernel_rfl }
def Tryz.sortM_ren : Go.Shelf.Ren := ⟨fun | 5 => 40 | 8 => 75 | 7 => 74 | 19 => 127 | 20 => 128 | 10 => 118 | 11 => 119 | 12 => 120 | 13 => 121 | 14 => 122 | 15 => 123 | 16 => 124 | 17 => 125 | 18 => 126 | 30 => 157 | 31 => 158 | 32 => 159 | 33 => 160 | 34 => 161 | 35 => 116 | 40 => 179 | n => n, fun | 23 => 31 | 25 => 3 | 3 => 3 | 32 => 135 | 22 => 31 | 0 => 0 | 44 => 53 | 46 => 184 | 4 => 4 | 36 => 176 | 35 => 175 | 41 => 121 | 5 => 5 | 9 => 9 | 53 => 212 | 57 => 216 | 63 => 235 | 64 => 236 | n => n, fun | n => n⟩
theorem Tryz.sortM : Go.Proofs.SlLaysM.n5 Tryz.prog Tryz.sortM_ren := {
  mixed := by kernel_rfl
  f5 := ⟨Tryz.f40.name, by decide, Tryz.func40.trans (congrArg some (by kernel_rfl))⟩
  f7 := ⟨Tryz.f74.name, by decide, Tryz.func74.trans (congrArg some (by kernel_rfl))⟩
  f8 := Tryz.func75.trans (congrArg some (by kernel_rfl))
  f10 := ⟨Tryz.f118.name, by decide, Tryz.func118.trans (congrArg some (by kernel_rfl))⟩
  f11 := ⟨Tryz.f119.name, by decide, Tryz.func119.trans (congrArg some (by kernel_rfl))⟩
  f12 := ⟨Tryz.f120.name, by decide, Tryz.func120.trans (congrArg some (by kernel_rfl))⟩
  f13 := ⟨Tryz.f121.name, by decide, Tryz.func121.trans (congrArg some (by kernel_rfl))⟩
  f14 := ⟨Tryz.f122.name, by decide, Tryz.func122.trans (congrArg some (by kernel_rfl))⟩
  f15 := ⟨Tryz.f123.name, by decide, Tryz.func123.trans (congrArg some (by kernel_rfl))⟩
  f16 := ⟨Tryz.f124.name, by decide, Tryz.func124.trans (congrArg some (by kernel_rfl))⟩
  f17 := ⟨Tryz.f125.name, by decide, Tryz.func125.trans (congrArg some (by kernel_rfl))⟩
  f18 := ⟨Tryz.f126.name, by decide, Tryz.func126.trans (congrArg some (by kernel_rfl))⟩
  f19 := Tryz.func127.trans (congrArg some (by kernel_rfl))
  f20 := Tryz.func128.trans (congrArg some (by kernel_rfl))
  f30 := ⟨Tryz.f157.name, by decide, Tryz.func157.trans (congrArg some (by kernel_rfl))⟩
  f31 := Tryz.func158.trans (congrArg some (by kernel_rfl))
  f32 := Tryz.func159.trans (congrArg some (by kernel_rfl))
  f33 := ⟨Tryz.f160.name, by decide, Tryz.func160.trans (congrArg some (by kernel_rfl))⟩
  f34 := ⟨Tryz.f161.name, by decide, Tryz.func161.trans (congrArg some (by kernel_rfl))⟩
  f35 := ⟨Tryz.f116.name, by decide, Tryz.func116.trans (congrArg some (by kernel_rfl))⟩
  f40 := ⟨Tryz.f179.name, by decide, Tryz.func179.trans (congrArg some (by kernel_rfl))⟩
  t0 := Tryz.underlying0
  a0 := Tryz.isAgg0
  z0 := Tryz.sizeOf0
  v0 := Tryz.zeroValue0
  t3 := Tryz.underlying3
  a3 := Tryz.isAgg3
  z3 := Tryz.sizeOf3
  v3 := Tryz.zeroValue3
  t4 := Tryz.underlying4
  a4 := Tryz.isAgg4
  z4 := Tryz.sizeOf4
  v4 := Tryz.zeroValue4
  t5 := Tryz.underlying5
  a5 := Tryz.isAgg5
  z5 := Tryz.sizeOf5
  v5 := Tryz.zeroValue5
  t9 := Tryz.underlying9
  a9 := Tryz.isAgg9
  z9 := Tryz.sizeOf9
  v9 := Tryz.zeroValue9
  t22 := Tryz.underlying31
  a22 := Tryz.isAgg31
  z22 := Tryz.sizeOf31
  v22 := Tryz.zeroValue31
  t23 := Tryz.underlying31
  a23 := Tryz.isAgg31
  z23 := Tryz.sizeOf31
  v23 := Tryz.zeroValue31
  t25 := Tryz.underlying3
  a25 := Tryz.isAgg3
  z25 := Tryz.sizeOf3
  v25 := Tryz.zeroValue3
  t32 := Tryz.underlying135
  a32 := Tryz.isAgg135
  z32 := Tryz.sizeOf135
  v32 := Tryz.zeroValue135
  t35 := Tryz.underlying175
  a35 := Tryz.isAgg175
  z35 := Tryz.sizeOf175
  v35 := Tryz.zeroValue175
  t36 := Tryz.underlying176
  a36 := Tryz.isAgg176
  z36 := Tryz.sizeOf176
  v36 := Tryz.zeroValue176
  t41 := Tryz.underlying121
  a41 := Tryz.isAgg121
  z41 := Tryz.sizeOf121
  v41 := Tryz.zeroValue121
  t44 := Tryz.underlying53
  a44 := Tryz.isAgg53
  z44 := Tryz.sizeOf53
  v44 := Tryz.zeroValue53
  t46 := Tryz.underlying184
  a46 := Tryz.isAgg184
  z46 := Tryz.sizeOf184
  v46 := Tryz.zeroValue184
  t53 := Tryz.underlying212
  a53 := Tryz.isAgg212
  z53 := Tryz.sizeOf212
  v53 := Tryz.zeroValue212
  t57 := Tryz.underlying216
  a57 := Tryz.isAgg216
  z57 := Tryz.sizeOf216
  v57 := Tryz.zeroValue216
  t63 := Tryz.underlying235
  a63 := Tryz.isAgg235
  z63 := Tryz.sizeOf235
  v63 := Tryz.zeroValue235
  t64 := Tryz.underlying236
  a64 := Tryz.isAgg236
  z64 := Tryz.sizeOf236
  v64 := Tryz.zeroValue236 }
def Tryz.cloneM_ren : Go.Shelf.Ren := ⟨fun | 5 => 149 | 7 => 167 | n => n, fun | 23 => 167 | 25 => 3 | 3 => 3 | 4 => 4 | 20 => 20 | n => n, fun | n => n⟩
theorem Tryz.cloneM : Go.Proofs.SlLaysW.n5 Tryz.prog Tryz.cloneM_ren := {
  mixed := by kernel_rfl
  f5 := ⟨Tryz.f149.name, by decide, Tryz.func149.trans (congrArg some (by kernel_rfl))⟩
  f7 := Tryz.func167.trans (congrArg some (by kernel_rfl))
  t4 := Tryz.underlying4
  a4 := Tryz.isAgg4
  z4 := Tryz.sizeOf4
  v4 := Tryz.zeroValue4
  t20 := Tryz.underlying20
  a20 := Tryz.isAgg20
  z20 := Tryz.sizeOf20
  v20 := Tryz.zeroValue20
  t23 := Tryz.underlying167
  a23 := Tryz.isAgg167
  z23 := Tryz.sizeOf167
  v23 := Tryz.zeroValue167 }
def Tryz.copyM_ren : Go.Shelf.Ren := ⟨fun | 5 => 154 | n => n, fun | 23 => 167 | 24 => 167 | 26 => 3 | 27 => 3 | 0 => 0 | 4 => 4 | n => n, fun | n => n⟩
theorem Tryz.copyM : Go.Proofs.SlLaysX.n5 Tryz.prog Tryz.copyM_ren := {
  mixed := by kernel_rfl
  f5 := ⟨Tryz.f154.name, by decide, Tryz.func154.trans (congrArg some (by kernel_rfl))⟩
  t0 := Tryz.underlying0
  a0 := Tryz.isAgg0
  z0 := Tryz.sizeOf0
  v0 := Tryz.zeroValue0
  t4 := Tryz.underlying4
  a4 := Tryz.isAgg4
  z4 := Tryz.sizeOf4
  v4 := Tryz.zeroValue4
  t23 := Tryz.underlying167
  a23 := Tryz.isAgg167
  z23 := Tryz.sizeOf167
  v23 := Tryz.zeroValue167
  t24 := Tryz.underlying167
  a24 := Tryz.isAgg167
  z24 := Tryz.sizeOf167
  v24 := Tryz.zeroValue167
  a26 := Tryz.isAgg3
  z26 := Tryz.sizeOf3
  a27 := Tryz.isAgg3
  z27 := Tryz.sizeOf3 }
end Go.Proofs
end
section
/-
  Sets of registers as maps of the call's own: what a map holds, key by key; its keys, sorted.
  Conditions: none.
-/
namespace Mu
open Go Go.RowKit Go.Proofs Go.Maps Go.Sort Go.Shelf

def wf64 (x : Int) : Prop := (Lit.int .i64 x).wf = true
/-- a map of the call's own, as a set of its keys -/
def SetM (w : World) (b : Nat) (S : Int → Bool) : Prop := ∃ (D : DataW Unit), w.ownsMap Tryz.prog 3 (plainElem Tryz.prog 3) b (Maps.size D) D ∧ ∀ x, wf64 x → has D (.int .i64 x) = S x

theorem keyI : Keyed Tryz.prog 3 := int_keyed Tryz.underlying3
theorem own_exact {w : World} {b n : Nat} {D : DataW Unit} (h : w.ownsMap Tryz.prog 3 (plainElem Tryz.prog 3) b n D) : w.ownsMap Tryz.prog 3 (plainElem Tryz.prog 3) b (Maps.size D) D := by
  obtain ⟨es, clock, h1, h2, h3, rfl⟩ := h
  refine ⟨es, clock, h1, h2, ?_, rfl⟩
  rw [size_eq, length_read]
  exact Nat.le_refl _
theorem SetM.lt {w : World} {b : Nat} {S : Int → Bool} (h : SetM w b S) : b < w.heap.size := by
  obtain ⟨D, h1, _⟩ := h
  exact h1.lt
theorem SetM.keep {w w' : World} {b : Nat} {S : Int → Bool} (h : SetM w b S) (hk : w'.heap[b]? = w.heap[b]?) : SetM w' b S := by
  obtain ⟨D, ⟨es, clock, h1, h2⟩, h3⟩ := h
  exact ⟨D, ⟨es, clock, hk.trans h1, h2⟩, h3⟩
/-- strictly rising -/
def Asc (l : List Int) : Prop := l.Pairwise (· < ·)
theorem Asc.nodup {l : List Int} (h : Asc l) : l.Nodup := h.imp (fun {a b} hab => by omega)
theorem Asc.filter {l : List Int} (h : Asc l) (S : Int → Bool) : Asc (l.filter S) := List.Pairwise.filter _ h
theorem asc_ext {l m : List Int} (hl : Asc l) (hm : Asc m) (h : ∀ x, x ∈ l ↔ x ∈ m) : l = m := by
  have hp : l.Perm m := (List.perm_ext_iff_of_nodup hl.nodup hm.nodup).2 h
  exact List.Perm.eq_of_pairwise (le := fun a b => a < b) (fun a b _ _ h1 h2 => by omega) hl hm hp
theorem asc_sort {l : List Int} (h : l.Nodup) : Asc (l.mergeSort fun x y => decide (x ≤ y)) := by
  have tr : ∀ a b c : Int, leI a b = true → leI b c = true → leI a c = true := fun a b c h1 h2 => by simp only [leI, decide_eq_true_eq] at *; exact Int.le_trans h1 h2
  have to : ∀ a b : Int, (leI a b || leI b a) = true := fun a b => by simp only [leI, Bool.or_eq_true, decide_eq_true_eq]; exact Int.le_total a b
  have h1 := List.pairwise_mergeSort tr to l
  have h2 : (l.mergeSort leI).Nodup := (List.mergeSort_perm l leI).nodup_iff.2 h
  refine (List.Pairwise.and h1 h2).imp fun {a b} hab => ?_
  obtain ⟨h3, h4⟩ := hab
  simp only [leI, decide_eq_true_eq] at h3
  omega

/-- the keys of a set, listed -/
theorem keys_of {w : World} {b : Nat} {D : DataW Unit} {n : Nat} (h : w.ownsMap Tryz.prog 3 (plainElem Tryz.prog 3) b n D) : (intKeys D).Nodup ∧ (∀ x, x ∈ intKeys D ↔ wf64 x ∧ has D (.int .i64 x) = true) ∧ (intKeys D).length = Maps.size D := by
  obtain ⟨es, rfl, hpw, _⟩ := h.entries keyI
  obtain ⟨es', hD', hko⟩ := h.keysOf
  obtain rfl : es = es' := by simpa using hD'
  have hk : ∀ p ∈ es, ∃ x, p.1 = .int .i64 x ∧ wf64 x := fun p hp => by
    obtain ⟨v, hv⟩ := hko p hp
    obtain ⟨x, _, hx, hw⟩ := Maps.keyOf_i64 Tryz.underlying3 hv
    exact ⟨x, hx, hw⟩
  refine ⟨?_, fun x => ?_, by simp [intKeys, size_eq]⟩
  · show (es.map fun p => Go.intOf p.1).Nodup
    refine List.pairwise_map.2 (hpw.imp_of_mem fun {p q} hp' hq' hne e => hne ?_)
    obtain ⟨a, ha, _⟩ := hk p hp'
    obtain ⟨b, hb, _⟩ := hk q hq'
    rw [ha, hb] at e ⊢
    exact congrArg _ e
  · rw [has_eq, List.any_eq_true]
    show x ∈ es.map (fun p => Go.intOf p.1) ↔ _
    rw [List.mem_map]
    constructor
    · rintro ⟨p, hp', rfl⟩
      obtain ⟨a, ha, hw⟩ := hk p hp'
      rw [ha]
      exact ⟨hw, p, hp', by rw [ha]; simp [Lit.sameKey, Go.intOf]⟩
    · rintro ⟨_, p, hp', hs⟩
      obtain ⟨a, ha, _⟩ := hk p hp'
      rw [ha] at hs
      exact ⟨p, hp', by rw [ha]; simpa [Lit.sameKey, Go.intOf] using hs⟩
theorem size_of {w : World} {b : Nat} {D : DataW Unit} {n : Nat} {S : Int → Bool} {R : List Int} (h : w.ownsMap Tryz.prog 3 (plainElem Tryz.prog 3) b n D) (hS : ∀ x, wf64 x → has D (.int .i64 x) = S x) (hR : Asc R) (hw : ∀ x ∈ R, wf64 x)
    (hin : ∀ x, wf64 x → S x = true → x ∈ R) : (intKeys D).Perm (R.filter S) ∧ Maps.size D = (R.filter S).length := by
  obtain ⟨h1, h2, h3⟩ := keys_of h
  have hp : (intKeys D).Perm (R.filter S) := (List.perm_ext_iff_of_nodup h1 (hR.filter S).nodup).2 fun x => by
    rw [h2, List.mem_filter]
    constructor
    · rintro ⟨hx, hh⟩
      rw [hS x hx] at hh
      exact ⟨hin x hx hh, hh⟩
    · rintro ⟨hx, hs⟩
      exact ⟨hw x hx, by rw [hS x (hw x hx)]; exact hs⟩
  exact ⟨hp, by rw [← h3]; exact hp.length_eq⟩

theorem sortsM (m : Nat) : AnyZI.SortsIn Tryz.prog Tryz.sortedM_ren Fence.wide m :=
  ⟨fun blk off cap ss W hH hblk hsz => callsIn_wide.2 (AnyM.slices_Sort_int Tryz.sortM blk off cap ss W hH hblk hsz),
   fun p cap W => callsIn_wide.2 (AnyM.slices_Sort_int_none Tryz.sortM p cap W)⟩

set_option maxRecDepth 100000 in
set_option maxHeartbeats 1000000 in
theorem set_list {b : Nat} {S : Int → Bool} {R : List Int} (w : World) (h : SetM w b S) (hR : Asc R) (hw : ∀ x ∈ R, wf64 x) (hin : ∀ x, wf64 x → S x = true → x ∈ R) (hl : R.length ≤ 2147483648) :
    Calls Tryz.prog 150 #[.map (some b)] w fun e w' => ∃ v, e = .returned v ∧ OwnI w' w.heap.size v (R.filter S) ∧ Below w.heap.size w w' := by
  obtain ⟨D, hown, hS⟩ := h
  obtain ⟨hperm, hsz⟩ := size_of hown hS hR hw hin
  have hfl := List.length_filter_le S R
  have hmax : Maps.size D ≤ maxLen := by rw [hsz]; unfold maxLen; omega
  have hbytes : Maps.size D * 8 ≤ 140737488355328 := by rw [hsz]; omega
  refine (callsIn_wide (n := 6)).1 ?_
  have hbl := hown.lt
  have hseq : SeqGives Fence.wide 2 Tryz.prog 200 #[.pointer (some ⟨w.heap.size, 0, none⟩)] encZ (fun ss => ss.Perm (intKeys D)) (Maps.size D) (w.alloc (.cells #[.map (some b)] 167)) :=
    AnyZI.keys_gives (ρ := Tryz.keysM_ren) { Tryz.keysM with } Fence.wide _ trivial rfl (by omega) w.heap.size b (Maps.size D) D _ (by simp) (by simp) (by
      obtain ⟨es, clock, hb, Ft, hs, hD⟩ := hown
      exact ⟨es, clock, (Below.heap_alloc _ _ b hbl).trans hb, Ft, hs, hD⟩)
  have cK : ∀ mb W, CallsIn Fence.wide 5 Tryz.prog 168 #[.map mb] W fun e w' => e = .returned (.func (.func 200) #[] #[.pointer (some ⟨W.heap.size, 0, none⟩)]) ∧ w' = W.alloc (.cells #[.map mb] 167) := fun mb W => AnyZI.keys_in Tryz.keysM Fence.wide 5 trivial rfl mb W
  have cS := AnyZI.sorted_in Tryz.sortedM Fence.wide 5 trivial trivial trivial trivial rfl (by omega) (sortsM _) (enters_of Tryz.func40 (by kernel_rfl) rfl) 200 #[.pointer (some ⟨w.heap.size, 0, none⟩)] trivial (enters_of Tryz.func200 (by kernel_rfl) rfl) _ _ hmax hbytes _ hseq
  change CallsIn _ _ Tryz.prog 37 _ _ _ at cS
  have hfK : Fence.wide.fn 168 := trivial
  have hfS : Fence.wide.fn 37 := trivial
  have HP := Lib.hid hperm
  clear hS hsz hperm hin hw
  refine callsIn_of_wp Tryz.func150 rfl trivial ?_ rfl
  simp only [Tryz.ntmps150, List.size_toArray, List.length_cons, List.length_nil, Nat.reduceAdd, Nat.reduceSub, Array.replicate_succ, Array.replicate_zero, List.push_toArray, List.append_toArray, List.nil_append, List.cons_append]
  gi_wp2_with (first
    | (gi_at_call 168; refine (cK _ _).mono ?_; rintro e w' ⟨rfl, rfl⟩)
    | (gi_at_call 37; refine cS.mono ?_; rintro e w' ⟨v, ss, rfl, hS, hrow, hnil, hb⟩))
  go_ret
  have hp2 : ss.Perm (R.filter S) := hS.trans HP.out
  have he : (ss.mergeSort fun x y => decide (x ≤ y)) = R.filter S :=
    asc_ext (asc_sort (hp2.nodup_iff.2 (hR.filter S).nodup)) (hR.filter S) (fun x => ((List.mergeSort_perm ss _).mem_iff).trans hp2.mem_iff)
  refine ⟨v, rfl, ?_, ((Below.refl _ w).alloc (Nat.le_refl _) _).trans (hb.mono (by simp))⟩
  have hrow2 : w'.ownsRow w.heap.size 3 1 v ss.length ((ss.mergeSort (fun x y => decide (x ≤ y))).map encZ) := ownsRow_base_a hrow (by simp)
  rw [he] at hrow2
  exact .of hrow2 hp2.length_eq rfl
end Mu
end
section
/-
  live's set.back, walked: what is live ahead of an instruction, in the map itself.
  Conditions: an instruction's arguments are at most 2^21; the sets lie in a row of at most 2^31 registers.
-/
namespace Mu
open Go Go.RowKit Go.Proofs Go.Maps

theorem grown_of_below {w w1 : World} {r : Option Nat} (h : Below w.heap.size w w1) : w.grownBy w1 r := ⟨h.os, h.tape, h.output, h.size, fun k hk _ => h.block k hk⟩
theorem below_of_grown {w w1 : World} {b B : Nat} (h : w.grownBy w1 (some b)) (hB : B ≤ w.heap.size) (hb : B ≤ b) : Below B w w1 := ⟨h.os, h.tape, h.output, h.size, fun k hk => h.block k (by omega) (by simp; omega)⟩

/-! ### readings do not lie in maps -/
def Avoids {α : Type} (T : Ty α) : Prop := ∀ (w : World) (S : Nat → Prop) (cs : List Value) (d : α) (b : Nat) (es : Array MapEntry) (c : Nat), T.RS w S cs d → w.heap[b]? = some (.map es c) → T.RS w (fun k => S k ∧ k ≠ b) cs d
theorem avoids_int (k : IntKind) : Avoids (Ty.int k) := fun _ _ _ _ _ _ _ h _ => h
theorem avoids_none : Avoids Ty.none_ := fun _ _ _ _ _ _ _ h _ => h
theorem avoids_cons {α β : Type} {T : Ty α} {U : Ty β} (h1 : Avoids T) (h2 : Avoids U) : Avoids (T.cons U) := by
  rintro w S cs d b es c ⟨c1, c2, rfl, k1, k2⟩ hm
  exact ⟨c1, c2, rfl, h1 w S c1 d.1 b es c k1 hm, h2 w S c2 d.2 b es c k2 hm⟩
theorem avoids_via {α β : Type} {U : Ty β} {f : β → α} {g : α → β} (h : Avoids U) : Avoids (U.via f g) := by
  rintro w S cs d b es c ⟨k1, k2⟩ hm
  exact ⟨h w S cs (g d) b es c k1 hm, k2⟩
theorem avoids_slice {α : Type} {T : Ty α} (h : Avoids T) (hp : 0 < T.size) : Avoids T.slice := by
  rintro w S cs ds b es c ⟨A, cp, rfl, hl, hc, hi⟩ hm
  refine ⟨A, cp, rfl, hl, hc, fun i d hd => ?_⟩
  obtain ⟨b', o, rfl, hS, cs, hR, hC⟩ := hi i d hd
  refine ⟨b', o, rfl, ⟨hS, fun e => ?_⟩, cs, h w S cs d b es c hR hm, hC⟩
  subst e
  have hlen := T.len hR
  have h0 := hC 0 _ (List.getElem?_eq_getElem (by omega))
  simp [World.cell?, hm] at h0
theorem avoids_tIns : Avoids tIns :=
  avoids_via (avoids_cons (avoids_int _) (avoids_cons (avoids_int _) (avoids_cons (avoids_int _) (avoids_cons (avoids_int _) (avoids_cons (avoids_int _) (avoids_cons (avoids_int _) (avoids_cons (avoids_slice (avoids_int _) (by decide)) (avoids_cons (avoids_int _) (avoids_cons (avoids_int _) avoids_none)))))))))
theorem R_turned {α : Type} {T : Ty α} (h : Avoids T) {w w' : World} {B b c : Nat} {cs : List Value} {d : α} {es : Array MapEntry} (hR : T.R w B cs d) (hB : B ≤ w.heap.size) (hm : w.heap[b]? = some (.map es c)) (hg : w.grownBy w' (some b)) : T.R w' w'.heap.size cs d :=
  T.keepS (h w _ cs d b es c hR hm) (fun k hk => hg.block k (by have := hk.1; omega) (by simp; exact hk.2)) (fun k hk => by have := hk.1; have := hg.size; omega)
theorem SetM.mapAt {w : World} {b : Nat} {S : Int → Bool} (h : SetM w b S) : ∃ es c, w.heap[b]? = some (.map es c) := by
  obtain ⟨D, ⟨es, c, h1, _⟩, _⟩ := h
  exact ⟨es, c, h1⟩

/-- w' is what calls, and turns of the map at b, made of w0, in which cs were boxed -/
def Bm (w0 : World) (cs : List Value) (T : TypeId) (b : Nat) (w' : World) : Prop := (w0.alloc (.cells cs.toArray T)).grownBy w' (some b)
section
variable {w0 w' w'' : World} {cs : List Value} {T : TypeId} {b : Nat}
theorem Bm.refl : Bm w0 cs T b (w0.alloc (.cells cs.toArray T)) := World.grownBy.refl _ _
theorem Bm.cell (h : Bm w0 cs T b w') (hb : b < w0.heap.size) {j : Nat} {v : Value} (hv : cs[j]? = some v) : w'.cell? ⟨w0.heap.size, j, none⟩ = some v := by
  have h1 := h.block w0.heap.size (by simp) (by simp; omega)
  exact box_cell (h1.trans (heap_alloc_new w0 _)) hv
theorem Bm.lt (h : Bm w0 cs T b w') : w0.heap.size < w'.heap.size := by have := h.size; simp at this; omega
theorem Bm.grown (h : Bm w0 cs T b w') : w0.grownBy w' (some b) := grown_trans (World.grownBy_alloc _ _ _) h
theorem Bm.call (h : Bm w0 cs T b w') (hb : Below w'.heap.size w' w'') : Bm w0 cs T b w'' := grown_trans h (grown_of_below hb)
theorem Bm.turn (h : Bm w0 cs T b w') (hg : w'.grownBy w'' (some b)) : Bm w0 cs T b w'' := grown_trans h hg
theorem Bm.R {α : Type} {U : Ty α} {us : List Value} {d : α} {es : Array MapEntry} {c : Nat} (h : Bm w0 cs T b w') (ha : Avoids U) (hm : w0.heap[b]? = some (.map es c)) (hR : U.R w0 w0.heap.size us d) : U.R w' w'.heap.size us d :=
  R_turned ha hR (Nat.le_refl _) hm h.grown
end

/-- the sets lie in a row of registers -/
structure InR (R : List Int) (S : Int → Bool) : Prop where
  mem : ∀ x, wf64 x → S x = true → x ∈ R
structure RegsR (R : List Int) : Prop where
  asc : Asc R
  wf : ∀ x ∈ R, wf64 x
  len : R.length ≤ 2147483648
theorem keyL {r : Int} (hw : wf64 r) : keyOf Tryz.prog 3 (.int .i64 r) = some (.int .i64 r) := Maps.keyOf_int_mk Tryz.underlying3 hw
theorem one_wf : (Lit.int .i64 1).wf = true := by decide
theorem setM_size {w : World} {b : Nat} {S : Int → Bool} {R : List Int} {D : DataW Unit} {n : Nat} (hown : w.ownsMap Tryz.prog 3 (plainElem Tryz.prog 3) b n D) (hS : ∀ x, wf64 x → has D (.int .i64 x) = S x) (hR : RegsR R) (hi : InR R S) : Maps.size D = (R.filter S).length ∧ Maps.size D ≤ 2147483648 := by
  have h := (size_of hown hS hR.asc hR.wf hi.mem).2
  have h2 := List.length_filter_le S R
  have := hR.len
  exact ⟨h, by omega⟩

def addS (S : Int → Bool) (r : Int) : Int → Bool := fun x => S x || x == r
def delS (S : Int → Bool) (r : Int) : Int → Bool := fun x => S x && x != r
def addL (S : Int → Bool) (l : List Int) : Int → Bool := fun x => S x || l.contains x
theorem addL_nil (S : Int → Bool) : addL S [] = S := by funext x; simp [addL]
theorem addL_snoc (S : Int → Bool) (l : List Int) (r : Int) : addL S (l ++ [r]) = addS (addL S l) r := by
  funext x
  simp only [addL, addS, List.contains_eq_mem, List.mem_append, List.mem_singleton, Bool.decide_or, Bool.or_assoc]
  congr 2
theorem SetM.put {w w1 : World} {b n : Nat} {S : Int → Bool} {D : DataW Unit} {d : DataW Unit} {r : Int} (hown : w.ownsMap Tryz.prog 3 (plainElem Tryz.prog 3) b n D) (hS : ∀ x, wf64 x → has D (.int .i64 x) = S x)
    (h1 : w1.ownsMap Tryz.prog 3 (plainElem Tryz.prog 3) b (n + 1) (D.put (.int .i64 r) d)) : SetM w1 b (addS S r) := by
  refine ⟨_, own_exact h1, fun x hx => ?_⟩
  by_cases e : x = r
  · subst e
    rw [has_put_same hown.isMap (by trivial)]
    simp [addS]
  · rw [has_put_other (by simpa using e), hS x hx]
    simp [addS, e]
theorem SetM.del {w1 : World} {b n : Nat} {S : Int → Bool} {D : DataW Unit} {r : Int} (hS : ∀ x, wf64 x → has D (.int .i64 x) = S x)
    (h1 : w1.ownsMap Tryz.prog 3 (plainElem Tryz.prog 3) b n (D.del (.int .i64 r))) : SetM w1 b (delS S r) := by
  refine ⟨_, own_exact h1, fun x hx => ?_⟩
  by_cases e : x = r
  · subst e
    rw [has_del_same]
    simp [delS]
  · rw [has_del_other (by simpa using e), hS x hx]
    simp [delS, e]

/-- what is live ahead of an instruction, by what is live behind it -/
def backS (x : Ins) (S : Int → Bool) : Int → Bool := addL (if writesB x then delS S x.d else S) (readsC x)
theorem InR.del {R : List Int} {S : Int → Bool} (h : InR R S) (r : Int) : InR R (delS S r) := ⟨fun x hx hs => h.mem x hx (by simp only [delS, Bool.and_eq_true] at hs; exact hs.1)⟩
theorem InR.addL {R : List Int} {S : Int → Bool} {l : List Int} (h : InR R S) (hl : ∀ r ∈ l, r ∈ R) : InR R (addL S l) := ⟨fun x hx hs => by
  simp only [Mu.addL, Bool.or_eq_true, List.contains_iff_mem] at hs
  rcases hs with hs | hs
  · exact h.mem x hx hs
  · exact hl x hs⟩
theorem InR.take {R : List Int} {S : Int → Bool} {l : List Int} (h : InR R S) (hl : ∀ r ∈ l, r ∈ R) (k : Nat) : InR R (Mu.addL S (l.take k)) := h.addL fun r hr => hl r (List.mem_of_mem_take hr)
theorem InR.back {R : List Int} {S : Int → Bool} {x : Ins} (h : InR R S) (hl : ∀ r ∈ readsC x, r ∈ R) : InR R (backS x S) := by
  unfold backS
  split
  · exact (h.del _).addL hl
  · exact h.addL hl
theorem readsC_len {x : Ins} (h : x.args.length ≤ 2097152) : (readsC x).length ≤ 2097154 := by
  unfold readsC
  simp only [List.length_append]
  have a1 : (if (hasS x.op).contains 97 then [x.a] else []).length ≤ 1 := by split <;> simp
  have a2 : (if (hasS x.op).contains 98 then [x.b] else []).length ≤ 1 := by split <;> simp
  have a3 : (if (hasS x.op).contains 120 then x.args else []).length ≤ x.args.length := by split <;> simp
  omega

set_option maxRecDepth 100000 in
set_option maxHeartbeats 2000000 in
theorem back_loop (x : Ins) (b : Nat) (S : Int → Bool) (R : List Int) (w : World) (cs : List Value) (hRI : tIns.R w w.heap.size cs x) (hl : x.args.length ≤ 2097152) (hs : SetM w b S) (hR : RegsR R) (hi : InR R S) (hx : ∀ r ∈ readsC x, r ∈ R) :
    Calls Tryz.prog 152 #[.map (some b), .agg cs.toArray] w fun e w' => e = .returned (.tuple #[]) ∧ SetM w' b (backS x S) ∧ w.grownBy w' (some b) := by
  have hRI2 := hRI
  obtain ⟨A, c, hI⟩ := tIns_R.1 hRI
  have hb := hs.lt
  obtain ⟨rfl, hop, hd, _, _, _, _, _, _, _⟩ := hI
  have hrl := readsC_len hl
  obtain ⟨cs, hcs⟩ : ∃ cs : List Value, cs = [.int .u8 x.op, .int .i64 x.d, .int .i64 x.a, .int .i64 x.b, .int .u32 x.n, .int .i64 x.f, .slice A x.args.length c, .int .i64 x.l1, .int .i64 x.l2] := ⟨_, rfl⟩
  have q0 : ∀ w', Bm w cs 70 b w' → w'.cell? ⟨w.heap.size, 0, none⟩ = some (.int .u8 x.op) := fun w' h => h.cell hb (by rw [hcs]; rfl)
  have q1 : ∀ w', Bm w cs 70 b w' → w'.cell? ⟨w.heap.size, 1, none⟩ = some (.int .i64 x.d) := fun w' h => h.cell hb (by rw [hcs]; rfl)
  have q2 : ∀ w', Bm w cs 70 b w' → w'.cell? ⟨w.heap.size, 2, none⟩ = some (.int .i64 x.a) := fun w' h => h.cell hb (by rw [hcs]; rfl)
  have q3 : ∀ w', Bm w cs 70 b w' → w'.cell? ⟨w.heap.size, 3, none⟩ = some (.int .i64 x.b) := fun w' h => h.cell hb (by rw [hcs]; rfl)
  have q4 : ∀ w', Bm w cs 70 b w' → w'.cell? ⟨w.heap.size, 4, none⟩ = some (.int .u32 x.n) := fun w' h => h.cell hb (by rw [hcs]; rfl)
  have q5 : ∀ w', Bm w cs 70 b w' → w'.cell? ⟨w.heap.size, 5, none⟩ = some (.int .i64 x.f) := fun w' h => h.cell hb (by rw [hcs]; rfl)
  have q6 : ∀ w', Bm w cs 70 b w' → w'.cell? ⟨w.heap.size, 6, none⟩ = some (.slice A x.args.length c) := fun w' h => h.cell hb (by rw [hcs]; rfl)
  have q7 : ∀ w', Bm w cs 70 b w' → w'.cell? ⟨w.heap.size, 7, none⟩ = some (.int .i64 x.l1) := fun w' h => h.cell hb (by rw [hcs]; rfl)
  have q8 : ∀ w', Bm w cs 70 b w' → w'.cell? ⟨w.heap.size, 8, none⟩ = some (.int .i64 x.l2) := fun w' h => h.cell hb (by rw [hcs]; rfl)
  have hstart : Hid (Bm w cs 70 b (w.alloc (.cells #[.int .u8 x.op, .int .i64 x.d, .int .i64 x.a, .int .i64 x.b, .int .u32 x.n, .int .i64 x.f, .slice A x.args.length c, .int .i64 x.l1, .int .i64 x.l2] 70))) := by
    have h := Bm.refl (w0 := w) (cs := cs) (T := 70) (b := b)
    rw [hcs] at h
    rw [hcs]
    exact h
  have HRI := Lib.hid hRI2
  have HX := Lib.hid hx
  have HS := Lib.hid hs
  clear hcs hRI hRI2 hx hs
  have hst := hstart.out
  go_enter Tryz.func152, Tryz.ntmps152
  obtain ⟨mes, mc, hmap⟩ := HS.out.mapAt
  have HM := Lib.hid hmap
  clear hmap
  go_wp2_with fail
  refine (shape_writes x _ _ (hst.R avoids_tIns HM.out HRI.out)).mono ?_
  rintro e w1 ⟨rfl, hb1⟩
  have hx1 : Bm w cs 70 b w1 := hst.call hb1
  have hs1 : Hid (SetM w1 b S) := HS.out.keep ((hb1.block b (by simp; omega)).trans (Below.heap_alloc _ _ _ hb))
  have hlt1 := hx1.lt
  clear hb1 hst hstart HS
  have hg1 : Hid (w.grownBy w1 (some b)) := hx1.grown
  have hi1 := hi
  rcases hq : writesB x with _ | _
  · have HQ := Lib.hid hq
    rw [writesV_no HQ.out]
    clear hq
    go_wp2_with fail
    refine (shape_reads x _ _ (hx1.R avoids_tIns HM.out HRI.out) hl).mono ?_
    rintro e w4 ⟨v4, rfl, ho4, hb4⟩
    have hx4 : Bm w cs 70 b w4 := hx1.call hb4
    have hs4 : Hid (SetM w4 b S) := hs1.out.keep (hb4.block b (by have := hx1.lt; omega))
    have hg4 : Hid (w.grownBy w4 (some b)) := grown_trans hg1.out (grown_of_below hb4)
    obtain ⟨A4, c4, rfl⟩ := own_form ho4
    have HO4 := Lib.hid ho4
    have hlow4 : ∀ g, (Value.slice A4 (readsC x).length c4).ownBlock = some g → b < g := fun g hg => by have := (ho4.lt g hg).1; have := hx1.lt; omega
    have HLOW := Lib.hid hlow4
    have hlt4 := hx4.lt
    clear ho4 hb4 hlow4
    go_wp2_with fail
    go_loopw [19] (fun i wr => ∃ k : Nat, k ≤ (readsC x).length ∧ i = .int .i64 k ∧ Hid (SetM wr b (addL S ((readsC x).take k))) ∧ Hid (w.grownBy wr (some b)) ∧ Hid (OwnI wr w1.heap.size (.slice A4 (readsC x).length c4) (readsC x))) (fun i _ => (readsC x).length - (RowKit.intOf i).toNat)
    case atStart => exact ⟨0, Nat.zero_le _, rfl, by rw [List.take_zero, addL_nil]; exact hs4, hg4, HO4⟩
    case round =>
      obtain ⟨k, hk, rfl, hsr, hgr, hor⟩ := hrel
      clear hs4 hg4 HO4
      by_cases hlt : k < (readsC x).length
      · obtain ⟨z, hz⟩ : ∃ z, (readsC x)[k]? = some z := ⟨_, List.getElem?_eq_getElem hlt⟩
        have hzR := HX.out z (List.mem_of_getElem? hz)
        have hzw := hR.wf z hzR
        obtain ⟨g, cap, e, _⟩ := own_form' hor.out (by omega)
        cases e
        have hcz := own_cell hor.out hz
        obtain ⟨D, hown, hD⟩ := hsr.out
        have hsz := setM_size hown hD hR (hi1.take HX.out k)
        have hm : Maps.size D < maxLen := by have := hsz.2; unfold maxLen; omega
        have HD := Lib.hid hD
        have HZ := Lib.hid hz
        have HK := Lib.hid (keyL hzw)
        clear hsz hD hz hsr
        go_wp2_with (at_mapUpdate; refine wpList_mapUpdate_own _ rfl _ _ _ 167 rfl 3 3 keyI Tryz.underlying167 _ b _ D rfl hown hm _ _ (.int .i64 z) rfl rfl HK.out _ [] (plainElem_int Tryz.underlying3 one_wf) ?_; intro w5 hown5 hgrow5)
        have hs5 : Hid (SetM w5 b (addL S ((readsC x).take (k + 1)))) := by
          rw [List.take_add_one, HZ.out, Option.toList_some, addL_snoc]
          exact SetM.put hown HD.out hown5
        have hg5 : Hid (w.grownBy w5 (some b)) := grown_trans hgr.out hgrow5
        have ho5 : Hid (OwnI w5 w1.heap.size (.slice (some ⟨g, 0, none⟩) (readsC x).length c4) (readsC x)) := ownsRow_keep hor.out (fun q hq => hgrow5.block q (World.ownsRow.lt hor.out q hq).2 (by have := HLOW.out q hq; simp; omega))
        clear hown5 hgrow5 hgr hor hown hcz
        go_wp2_with fail
        go_roundw
        case rel => exact ⟨k + 1, by omega, by go_num, hs5, hg5, ho5⟩
        case measure => simp [RowKit.intOf]; omega
      · obtain rfl : k = (readsC x).length := by omega
        have hfin : Hid (SetM wr b (backS x S)) := by
          have h := hsr.out
          rw [List.take_length] at h
          unfold backS
          rw [HQ.out, if_neg (by simp)]
          exact h
        go_wp2_with fail
        go_end0
        exact ⟨rfl, hfin.out, hgr.out⟩
  · have HQ := Lib.hid hq
    rw [writesV_yes HQ.out]
    clear hq
    have HKD := Lib.hid (keyL (r := x.d) hd)
    obtain ⟨D0, hown0, hD0⟩ := hs1.out
    have HD0 := Lib.hid hD0
    clear hD0
    have hi2 := hi.del x.d
    go_wp2_with (at_delete; refine wpList_delete_own _ rfl _ _ 167 3 rfl 3 keyI Tryz.underlying167 _ b _ D0 rfl hown0 _ _ rfl HKD.out ?_)
    intro w2 hown2 hturn2
    have hs2 : Hid (SetM w2 b (delS S x.d)) := SetM.del HD0.out hown2
    have hg2 : Hid (w.grownBy w2 (some b)) := grown_trans hg1.out hturn2.grown
    have hx2 : Bm w cs 70 b w2 := hx1.turn hturn2.grown
    have hlt2 := hx2.lt
    clear hown2 hturn2 hown0 hs1 hg1
    go_wp2_with fail
    refine (shape_reads x _ _ (hx2.R avoids_tIns HM.out HRI.out) hl).mono ?_
    rintro e w4 ⟨v4, rfl, ho4, hb4⟩
    have hx4 : Bm w cs 70 b w4 := hx2.call hb4
    have hs4 : Hid (SetM w4 b (delS S x.d)) := hs2.out.keep (hb4.block b (by have := hx2.lt; omega))
    have hg4 : Hid (w.grownBy w4 (some b)) := grown_trans hg2.out (grown_of_below hb4)
    obtain ⟨A4, c4, rfl⟩ := own_form ho4
    have HO4 := Lib.hid ho4
    have hlow4 : ∀ g, (Value.slice A4 (readsC x).length c4).ownBlock = some g → b < g := fun g hg => by have := (ho4.lt g hg).1; have := hx2.lt; omega
    have HLOW := Lib.hid hlow4
    have hlt4 := hx4.lt
    clear ho4 hb4 hlow4
    go_wp2_with fail
    go_loopw [19] (fun i wr => ∃ k : Nat, k ≤ (readsC x).length ∧ i = .int .i64 k ∧ Hid (SetM wr b (addL (delS S x.d) ((readsC x).take k))) ∧ Hid (w.grownBy wr (some b)) ∧ Hid (OwnI wr w2.heap.size (.slice A4 (readsC x).length c4) (readsC x))) (fun i _ => (readsC x).length - (RowKit.intOf i).toNat)
    case atStart => exact ⟨0, Nat.zero_le _, rfl, by rw [List.take_zero, addL_nil]; exact hs4, hg4, HO4⟩
    case round =>
      obtain ⟨k, hk, rfl, hsr, hgr, hor⟩ := hrel
      clear hs4 hg4 HO4
      by_cases hlt : k < (readsC x).length
      · obtain ⟨z, hz⟩ : ∃ z, (readsC x)[k]? = some z := ⟨_, List.getElem?_eq_getElem hlt⟩
        have hzR := HX.out z (List.mem_of_getElem? hz)
        have hzw := hR.wf z hzR
        obtain ⟨g, cap, e, _⟩ := own_form' hor.out (by omega)
        cases e
        have hcz := own_cell hor.out hz
        obtain ⟨D, hown, hD⟩ := hsr.out
        have hsz := setM_size hown hD hR (hi2.take HX.out k)
        have hm : Maps.size D < maxLen := by have := hsz.2; unfold maxLen; omega
        have HD := Lib.hid hD
        have HZ := Lib.hid hz
        have HK := Lib.hid (keyL hzw)
        clear hsz hD hz hsr
        go_wp2_with (at_mapUpdate; refine wpList_mapUpdate_own _ rfl _ _ _ 167 rfl 3 3 keyI Tryz.underlying167 _ b _ D rfl hown hm _ _ (.int .i64 z) rfl rfl HK.out _ [] (plainElem_int Tryz.underlying3 one_wf) ?_; intro w5 hown5 hgrow5)
        have hs5 : Hid (SetM w5 b (addL (delS S x.d) ((readsC x).take (k + 1)))) := by
          rw [List.take_add_one, HZ.out, Option.toList_some, addL_snoc]
          exact SetM.put hown HD.out hown5
        have hg5 : Hid (w.grownBy w5 (some b)) := grown_trans hgr.out hgrow5
        have ho5 : Hid (OwnI w5 w2.heap.size (.slice (some ⟨g, 0, none⟩) (readsC x).length c4) (readsC x)) := ownsRow_keep hor.out (fun q hq => hgrow5.block q (World.ownsRow.lt hor.out q hq).2 (by have := HLOW.out q hq; simp; omega))
        clear hown5 hgrow5 hgr hor hown hcz
        go_wp2_with fail
        go_roundw
        case rel => exact ⟨k + 1, by omega, by go_num, hs5, hg5, ho5⟩
        case measure => simp [RowKit.intOf]; omega
      · obtain rfl : k = (readsC x).length := by omega
        have hfin : Hid (SetM wr b (backS x S)) := by
          have h := hsr.out
          rw [List.take_length] at h
          unfold backS
          rw [HQ.out, if_pos rfl]
          exact h
        go_wp2_with fail
        go_end0
        exact ⟨rfl, hfin.out, hgr.out⟩
end Mu
end
section
/-
  A set that is cloned; a set into which another one is copied.
  Conditions: none beyond the sizes.
-/
namespace Mu
open Go Go.RowKit Go.Proofs Go.Shelf Go.Maps

theorem clone_set {b : Nat} {S : Int → Bool} (w : World) (h : SetM w b S) :
    Calls Tryz.prog 149 #[.map (some b)] w fun e w' => e = .returned (.map (some w.heap.size)) ∧ SetM w' w.heap.size S ∧ ∃ es c, w' = w.alloc (.map es c) := by
  obtain ⟨D, hown, hS⟩ := h
  have hlt := hown.lt
  obtain ⟨es, clock, hb, Ft, hs, hD⟩ := hown
  refine (AnyW.maps_Clone Tryz.cloneM b es clock w hb).mono fun e w' ⟨he, hw⟩ => ?_
  subst hw
  exact ⟨he, ⟨D, ⟨es, clock, (MapKept.heap_alloc w _).1, Ft, hs, hD⟩, hS⟩, es, clock, rfl⟩

theorem has_merge {w : World} {bd bs nd ns : Nat} {Dd Ds : DataW Unit} (hd : w.ownsMap Tryz.prog 3 (plainElem Tryz.prog 3) bd nd Dd) (hs : w.ownsMap Tryz.prog 3 (plainElem Tryz.prog 3) bs ns Ds) (k : Lit) :
    has (Lib.mergeD Dd Ds) k = (has Dd k || has Ds k) := by
  obtain ⟨ed, rfl, _, _⟩ := hd.entries keyI
  obtain ⟨es, rfl, _, _⟩ := hs.entries keyI
  obtain ⟨es', hD', hko⟩ := hs.keysOf
  obtain rfl : es = es' := by simpa using hD'
  have hk : ∀ p ∈ es, WideAt.IsKeyLit p.1 := fun p hp => by
    obtain ⟨v, hv⟩ := hko p hp
    obtain ⟨x, _, hx, hw⟩ := Maps.keyOf_i64 Tryz.underlying3 hv
    rw [hx]
    exact trivial
  exact has_foldPut k es _ ⟨_, rfl⟩ hk

theorem copy_set {bd bs : Nat} {S T : Int → Bool} {R : List Int} (w : World) (hd : SetM w bd S) (hs : SetM w bs T) (hne : bd ≠ bs) (hR : RegsR R) (hi : InR R S) (hj : InR R T) :
    Calls Tryz.prog 154 #[.map (some bd), .map (some bs)] w fun e w' => e = .returned (.tuple #[]) ∧ SetM w' bd (fun x => S x || T x) ∧ SetM w' bs T ∧ w.grownBy w' (some bd) := by
  obtain ⟨Dd, hod, hS⟩ := hd
  obtain ⟨Ds, hos, hT⟩ := hs
  have h1 := setM_size hod hS hR hi
  have h2 := setM_size hos hT hR hj
  refine (AnyX.maps_Copy Tryz.copyM keyI (plainElem Tryz.prog 3) bd bs _ _ Dd Ds w hod hos hne ?_).mono ?_
  · have := h1.2; have := h2.2; unfold maxLen; omega
  · rintro e w' ⟨rfl, g1, g2, g3⟩
    refine ⟨rfl, ⟨_, own_exact g1, fun x hx => ?_⟩, ⟨Ds, g2, hT⟩, g3⟩
    rw [has_merge hod hos, hS x hx, hT x hx]
end Mu
end
section
/-
  live's sets as memory of the call's own: back, list, Clone, Copy as contracts over abstract states.
  Conditions: the sizes that the elder contracts ask.
-/
namespace Mu
open Go Go.RowKit Go.Proofs Go.Maps

def mapR (S : Int → Bool) (m : Nat) : Res := ⟨[], fun g => g = m, fun w _ => SetM w m S, fun h hk _ _ => h.keep (hk m rfl)⟩
theorem rel_lit1 {w : World} {S : Nat → Prop} {h : List ABlk} {ψ : Nat → Value} {u : Value} {l : List AV} {vs : List Value} (H : AV.relL w S h ψ (.lit u :: l) vs) : ∃ us, vs = u :: us ∧ AV.relL w S h ψ l us := by
  unfold AV.relL AV.rel at H
  obtain ⟨v, us, e, rfl, h2⟩ := H
  exact ⟨us, e, h2⟩
theorem back_turn (x : Ins) (S : Int → Bool) (R : List Int) (m : Nat) (ho : okIns x) (hl : x.args.length ≤ 2097152) (hR : RegsR R) (hi : InR R S) (hx : ∀ r ∈ readsC x, r ∈ R) :
    FnTurn Tryz.prog 152 (mapR S m) [.lit (.map (some m)), .agg (encIns x)] (fun _ : Unit => mapR (backS x S) m) (fun _ => .tuple #[]) := by
  refine ⟨by kernel_rfl, fun w T vs hT hF hs hr => ?_⟩
  obtain ⟨us, rfl, h1⟩ := rel_lit1 hr
  obtain ⟨v, rfl, h2⟩ := arg1 h1
  unfold AV.rel at h2
  obtain ⟨cs, rfl, hcs⟩ := h2
  refine (back_loop x m S R w cs (tIns.keepS (put_ins ho hcs) (fun _ _ => rfl) fun k hk => (hT k hk).1) hl hs hR hi hx).mono ?_
  rintro e w' ⟨rfl, h1, h2⟩
  exact ⟨_, rfl, ⟨h2.os, h2.tape, h2.output, h2.size, fun k hk hn => h2.block k hk fun e => hn (by injection e)⟩, (), rfl, h1, fun k hk => by
    have hk : k = m := hk
    subst hk
    exact ⟨.inl rfl, h1.lt⟩⟩
theorem clone_new (Rr : Res) (S : Int → Bool) (m : Nat) (hRS : ∀ w T, Rr.R w T → SetM w m S) :
    FnRNew Tryz.prog 149 Rr [.lit (.map (some m))] (mapR S) (fun p => .map (some p)) := by
  refine ⟨by kernel_rfl, fun w T vs hT hF hs hr => ?_⟩
  obtain ⟨us, rfl, h0⟩ := rel_lit1 hr
  unfold AV.relL at h0
  subst h0
  refine (clone_set w (hRS w T hs)).mono ?_
  rintro e w' ⟨rfl, h1, es, c, rfl⟩
  have hb : Below w.heap.size w (w.alloc (.map es c)) := (Below.refl _ _).alloc (Nat.le_refl _) _
  exact ⟨_, rfl, ⟨hb.os, hb.tape, hb.output, hb.size, fun k hk _ => hb.block k hk⟩, w.heap.size, rfl, h1, fun k hk => by
    have hk : k = w.heap.size := hk
    subst hk
    exact ⟨.inr (Nat.le_refl _), h1.lt⟩⟩
end Mu
end
section
/-
  A call that turns one memory of the call's own and reads another one.
  Conditions: none; generic.
-/
namespace Mu
open Go Go.RowKit Go.Proofs Go.Maps

section
variable {P : Program} {C : Ctx} {t : List AV} {h : List ABlk} {o : Oper} {ι : Type} {Rs : ι → Res} {val : ι → Value}
def FnTurn2 (P : Program) (f : FuncId) (R R2 : Res) (args : List AV) (Rs : ι → Res) (val : ι → Value) : Prop :=
  Enters P f = true ∧ ∀ (w : World) (S : Nat → Prop) (vs : List Value), (∀ k, S k → k < w.heap.size ∧ ¬ R.F k) → (∀ g, R.F g → g < w.heap.size) → R.R w S → R2.R w S → (∀ g, R.F g → ¬ R2.F g) → AV.relL w S [] ψ0 args vs →
    Calls P f vs.toArray w fun e w' => ∃ v, e = .returned v ∧ Turns w S R.F Rs val v w'
theorem AOp.callTurn2 {i j : Nat} {R R2 : Res} {f : FuncId} {args : Array Operand} {tys : Array TypeId} {xs : List AV} {K : St → Prop} (hij : i ≠ j) (hi : h[i]? = some (.res R)) (hj : h[j]? = some (.res R2))
    (ho : o.op = .call { callee := .value (.func f), args := args, argTypes := tys }) (hF : FnTurn2 P f R R2 xs Rs val) (hm : ∀ p, (Rs p).mrk = R.mrk) (hx : args.toList.map (evA t) = xs) (hc : AV.clL xs = true)
    (hK : ∀ p, K ⟨putA t o.dst (.lit (val p)), h.set i (.res (Rs p))⟩) : AOp P C o ⟨t, h⟩ K := by
  refine AOp.turn hi hm (fun S ψ w ρ H hR hlt hρ => ?_) hK
  have h1 : ρ (.func f) = .func (.func f) #[] #[] := by
    have := hρ (.func f) (by rw [ho]; exact Array.mem_append.2 (.inl (by simp)))
    simpa [evA, AV.rel] using this
  rw [run_call ho hF.1 ρ w h1]
  refine ⟨rfl, ?_⟩
  have h2 : AV.relL w S h ψ xs (args.toList.map ρ) := by
    rw [← hx]
    exact relL_map fun x hx' => hρ x (by rw [ho]; exact Array.mem_append.2 (.inr (Array.mem_toList_iff.1 hx')))
  rw [show (args.map ρ) = (args.toList.map ρ).toArray from (by rw [← Array.toList_map])]
  exact hF.2 w S (args.toList.map ρ) (fun k hk => ⟨H.lt k hk, fun hf => ((H.blk i _ hi).1 k hf).2.1 hk⟩) hlt hR (H.blk j _ hj).2 (fun g k1 k2 => H.dis i j hij (by rw [hi]; rfl) (by rw [hj]; rfl) g (by rw [hi]; exact k1) (by rw [hj]; exact k2)) (AV.relL_cl _ _ hc h2)
end
end Mu
end
section
/-
  What is live: plain. The least answer, and the list of what waits.
  Conditions: none.
-/
namespace Mu
open Go

/-- is a register read ahead of any write? -/
def rdB (r : Int) : List Ins → Bool
  | [] => false
  | x :: ds => (readsC x).contains r || (!(writesB x && x.d == r) && rdB r ds)
/-- is a register not written? -/
def thru (r : Int) : List Ins → Bool
  | [] => true
  | x :: ds => !(writesB x && x.d == r) && thru r ds
def inS (ds : List Ins) (S : Int → Bool) : Int → Bool := ds.foldr backS S
theorem backS_eq (x : Ins) (S : Int → Bool) (r : Int) : backS x S r = ((readsC x).contains r || (!(writesB x && x.d == r) && S r)) := by
  unfold backS addL delS
  cases hw : writesB x
  · simp [Bool.or_comm]
  · have e : (r == x.d) = (x.d == r) := by
      by_cases h : r = x.d
      · subst h; simp
      · rw [beq_eq_false_iff_ne.2 h, beq_eq_false_iff_ne.2 (Ne.symm h)]
    simp [bne, e, Bool.or_comm, Bool.and_comm]
theorem inS_eq (ds : List Ins) (S : Int → Bool) (r : Int) : inS ds S r = (rdB r ds || (thru r ds && S r)) := by
  induction ds with
  | nil => simp [inS, rdB, thru]
  | cons x ds ih =>
    have h : inS (x :: ds) S r = backS x (inS ds S) r := rfl
    rw [h, backS_eq, ih, rdB, thru]
    cases (readsC x).contains r <;> cases (writesB x && x.d == r) <;> simp
def insOf (f : Func) (b : Nat) : List Ins := match f.blocks[b]? with | some bl => bl.ins | none => []
def Edge (f : Func) (k b : Nat) : Prop := ∃ x ∈ nextS f (k : Int), x.1 = b
/-- what is live behind blocks -/
inductive LOut (f : Func) : Nat → Int → Prop
  | read {k b : Nat} {r : Int} (he : Edge f k b) (h : rdB r (insOf f b) = true) : LOut f k r
  | pass {k b : Nat} {r : Int} (he : Edge f k b) (h : thru r (insOf f b) = true) (hl : LOut f b r) : LOut f k r
theorem LOut.of_in {f : Func} {k b : Nat} {r : Int} {S : Int → Bool} (he : Edge f k b) (hS : S r = true → LOut f b r) (h : inS (insOf f b) S r = true) : LOut f k r := by
  rw [inS_eq] at h
  simp only [Bool.or_eq_true, Bool.and_eq_true] at h
  rcases h with h | ⟨h1, h2⟩
  · exact .read he h
  · exact .pass he h1 (hS h2)

def Sub (R : List Int) (S : Int → Bool) : Prop := ∀ x, S x = true → x ∈ R
theorem Sub.inR {R : List Int} {S : Int → Bool} (h : Sub R S) : InR R S := ⟨fun x _ hs => h x hs⟩
theorem Sub.back {R : List Int} {S : Int → Bool} {x : Ins} (h : Sub R S) (hx : ∀ r ∈ readsC x, r ∈ R) : Sub R (backS x S) := fun r hr => by
  rw [backS_eq] at hr
  simp only [Bool.or_eq_true, Bool.and_eq_true, List.contains_iff_mem] at hr
  rcases hr with hr | ⟨_, hr⟩
  · exact hx r hr
  · exact h r hr
theorem Sub.inS {R : List Int} {S : Int → Bool} {ds : List Ins} (h : Sub R S) (hx : ∀ x ∈ ds, ∀ r ∈ readsC x, r ∈ R) : Sub R (Mu.inS ds S) := by
  induction ds with
  | nil => exact h
  | cons x ds ih => exact (ih fun y hy => hx y (by simp [hy])).back (hx x (by simp))

def uni (S N : Int → Bool) : Int → Bool := fun x => S x || N x
theorem count_le {R : List Int} {S N : Int → Bool} : (R.filter S).length ≤ (R.filter (uni S N)).length := by
  induction R with
  | nil => simp
  | cons x l ih =>
    have e : (uni S N) x = (S x || N x) := rfl
    simp only [List.filter_cons, e]
    cases hS : S x <;> cases hN : N x <;> simp <;> omega
theorem count_same {R : List Int} {S N : Int → Bool} (h : (R.filter (uni S N)).length ≤ (R.filter S).length) : ∀ x ∈ R, N x = true → S x = true := by
  induction R with
  | nil => simp
  | cons y l ih =>
    have hc : (l.filter S).length ≤ (l.filter (uni S N)).length := count_le
    have e : (uni S N) y = (S y || N y) := rfl
    simp only [List.filter_cons, e] at h
    intro x hx hn
    cases hS : S y
    · cases hN : N y
      · simp only [hS, hN, Bool.or_false, Bool.false_eq_true, if_false] at h
        rcases List.mem_cons.1 hx with rfl | hx
        · rw [hN] at hn; cases hn
        · exact ih h x hx hn
      · simp only [hS, hN, Bool.or_true, Bool.false_eq_true, if_true, if_false, List.length_cons] at h
        omega
    · simp only [hS, Bool.true_or, if_true, List.length_cons] at h
      rcases List.mem_cons.1 hx with rfl | hx
      · exact hS
      · exact ih (by omega) x hx hn
theorem uni_same {R : List Int} {S N : Int → Bool} (hN : Sub R N) (h : (R.filter (uni S N)).length ≤ (R.filter S).length) : uni S N = S := by
  funext x
  unfold uni
  cases hS : S x
  · cases hn : N x
    · rfl
    · have := count_same h x (hN x hn) hn
      rw [hS] at this
      cases this
  · rfl
end Mu
end
section
/-
  Sets at known places: made, counted, cloned, merged; places and Before as contracts over abstract states.
  Conditions: the sizes that the elder contracts ask.
-/
namespace Mu
open Go Go.RowKit Go.Proofs Go.Maps

/-- sets at known places -/
def mapsR (ms : List Nat) (Ss : List (Int → Bool)) : Res := ⟨[], fun g => g ∈ ms, fun w _ => ms.length = Ss.length ∧ ms.Nodup ∧ ∀ (i m : Nat) (S : Int → Bool), ms[i]? = some m → Ss[i]? = some S → SetM w m S,
  fun h hk _ _ => ⟨h.1, h.2.1, fun i m S hm hS => (h.2.2 i m S hm hS).keep (hk m (List.mem_of_getElem? hm))⟩⟩
theorem empty_set (w : World) : SetM (w.alloc (.map #[] 0)) w.heap.size (fun _ => false) :=
  ⟨.map [], own_exact (World.ownsMap_made w Tryz.prog 3 (plainElem Tryz.prog 3)), fun x _ => by simp [has_eq]⟩
theorem mapsR_set {ms : List Nat} {Ss : List (Int → Bool)} {k m : Nat} {S : Int → Bool} (hm : ms[k]? = some m) (hS : Ss[k]? = some S) : ∀ w T, (mapsR ms Ss).R w T → SetM w m S := fun _ _ h => h.2.2 k m S hm hS

section
variable {C : Ctx} {t : List AV} {h : List ABlk} {o : Oper} {K : St → Prop}
theorem AOp.mkMap {ty : TypeId} (ho : o.op = .makeMap ty none) (hK : ∀ m, K ⟨putA t o.dst (.lit (.map (some m))), h ++ [.res (mapR (fun _ => false) m)]⟩) : AOp Tryz.prog C o ⟨t, h⟩ K := by
  refine AOp.make_res (ι := Nat) (Rs := mapR fun _ => false) (val := fun m => .map (some m)) (fun _ => rfl) (fun S ψ w ρ H hρ => ?_) hK
  have he : (execOp ρ o).run Tryz.prog w = .ok (.value (.map (some w.heap.size))) (w.alloc (.map #[] 0)) := by simp [execOp, ho, run_makeMap]
  rw [he]
  have hbl := (Below.refl w.heap.size w).alloc (Nat.le_refl _) (.map #[] 0)
  refine ⟨⟨hbl.os, hbl.tape, hbl.output, hbl.size, fun k hk _ => hbl.block k hk⟩, w.heap.size, rfl, empty_set w, fun k hk => ?_⟩
  have hk : k = w.heap.size := hk
  subst hk
  exact ⟨.inr (Nat.le_refl _), by simp⟩
/-- one set more -/
theorem St.le_maps {i j m : Nat} {ms : List Nat} {Ss : List (Int → Bool)} {S : Int → Bool} (hij : i ≠ j) (hi : h[i]? = some (.res (mapsR ms Ss))) (hj : h[j]? = some (.res (mapR S m))) :
    St.le C ⟨t, h⟩ ⟨t, (h.set j .dead).set i (.res (mapsR (ms ++ [m]) (Ss ++ [S])))⟩ :=
  St.le_merge hij hi hj rfl rfl rfl (fun g hg => by
    have hg : g ∈ ms ++ [m] := hg
    rcases List.mem_append.1 hg with h1 | h1
    · exact .inl h1
    · exact .inr (show g = m by simpa using h1)) fun w T h1 h2 hd => by
      obtain ⟨k1, k2, k3⟩ := h1
      refine ⟨by simp [k1], ?_, fun i m' S' hm hS => ?_⟩
      · rw [List.nodup_append]
        refine ⟨k2, by simp, fun a ha b hb e => ?_⟩
        have hb : b = m := by simpa using hb
        subst hb
        subst e
        exact hd a ha rfl
      · by_cases hi : i < ms.length
        · rw [List.getElem?_append_left hi] at hm
          rw [List.getElem?_append_left (by omega)] at hS
          exact k3 i m' S' hm hS
        · rw [List.getElem?_append_right (by omega)] at hm hS
          have e0 : i - ms.length = 0 := by
            have := (List.getElem?_eq_some_iff.1 hm).1
            simp at this
            omega
          rw [e0] at hm
          rw [← k1, e0] at hS
          cases hm
          cases hS
          exact h2
theorem Quiet.lenM {ty : TypeId} {x : Operand} {i m : Nat} {R : Res} {S : Int → Bool} {L : List Int} (ho : o.op = .call { callee := .builtin .len, args := #[x], argTypes := #[ty] }) (hty : Tryz.prog.underlying ty = some (.map 3 3)) (hx : evA t x = .lit (.map (some m))) (hi : h[i]? = some (.res R)) (hRS : ∀ w T, R.R w T → SetM w m S)
    (hR : RegsR L) (hin : InR L S) : Quiet Tryz.prog C t h o (.lit (.int .i64 (((L.filter S).length : Nat) : Int))) :=
  Quiet.of_run fun T ψ w ρ H hρ => by
    have h1 := hρ x (by simp [ho, Op.operands, Call.operands])
    rw [hx] at h1
    unfold AV.rel at h1
    obtain ⟨D, hown, hS⟩ := hRS w T (H.blk i _ hi).2
    have hsz := (setM_size hown hS hR hin).1
    have hl := hown.len (e := 3) hty o.type
    rw [hsz] at hl
    refine ⟨_, by simp [execOp, ho, resolve, invoke, builtin, h1, hl]; rfl, ?_⟩
    unfold AV.rel
    rfl
end
theorem clone_maps {ms : List Nat} {Ss : List (Int → Bool)} {k m : Nat} {S : Int → Bool} (hm : ms[k]? = some m) (hS : Ss[k]? = some S) :
    FnRNew Tryz.prog 149 (mapsR ms Ss) [.lit (.map (some m))] (mapR S) (fun p => .map (some p)) := clone_new _ S m (mapsR_set hm hS)
theorem copy_turn2 {ms : List Nat} {Ss : List (Int → Bool)} {k m mn : Nat} {S N : Int → Bool} {L : List Int} (hm : ms[k]? = some m) (hS : Ss[k]? = some S) (hR : RegsR L) (hi : InR L S) (hj : InR L N) :
    FnTurn2 Tryz.prog 154 (mapsR ms Ss) (mapR N mn) [.lit (.map (some m)), .lit (.map (some mn))] (fun _ : Unit => mapsR ms (Ss.set k (uni S N))) (fun _ => .tuple #[]) := by
  refine ⟨by kernel_rfl, fun w T vs hT hF hs hs2 hd hr => ?_⟩
  obtain ⟨us, rfl, h1⟩ := rel_lit1 hr
  obtain ⟨us, rfl, h2⟩ := rel_lit1 h1
  unfold AV.relL at h2
  subst h2
  have hmem := List.mem_of_getElem? hm
  have hkl : k < ms.length := (List.getElem?_eq_some_iff.1 hm).1
  refine (copy_set w (mapsR_set hm hS w T hs) hs2 (fun e => hd m hmem e) hR hi hj).mono ?_
  rintro e w' ⟨rfl, h1, h2, h3⟩
  refine ⟨_, rfl, ⟨h3.os, h3.tape, h3.output, h3.size, fun q hq hn => h3.block q hq fun e => hn (by cases e; exact hmem)⟩, (), rfl, ⟨by simp [hs.1], hs.2.1, fun i m' S' hm' hS' => ?_⟩, fun q hq => ?_⟩
  · by_cases hik : i = k
    · subst hik
      rw [hm] at hm'
      cases hm'
      rw [List.getElem?_set_self (by rw [← hs.1]; exact hkl)] at hS'
      cases hS'
      exact h1
    · rw [List.getElem?_set_ne (Ne.symm hik)] at hS'
      have hne : m' ≠ m := fun e => hik (by
        subst e
        exact (List.getElem?_inj (List.getElem?_eq_some_iff.1 hm').1 hs.2.1).1 (hm'.trans hm.symm))
      have hk := hs.2.2 i m' S' hm' hS'
      exact hk.keep (h3.block m' hk.lt fun e => hne (by cases e; rfl))
  · have := hF q hq
    exact ⟨.inl hq, Nat.lt_of_lt_of_le this h3.size⟩
end Mu
end
section
/-
  A row of rows of numbers whose rows grow one by one.
  Conditions: none.
-/
namespace Mu
open Go Go.RowKit Go.Proofs

/-- the blocks of S are no row's -/
structure RowsAt (W : World) (base : Nat) (S : Nat → Prop) (O : Nat) (vs : List Value) (ls : List (List Int)) : Prop where
  box : W.heap[O]? = some (.cells vs.toArray 31 (0, 0))
  len : vs.length = ls.length
  own : ∀ (i : Nat) (v : Value) (l : List Int), vs[i]? = some v → ls[i]? = some l → OwnI W base v l
  far : ∀ (i : Nat) (v : Value) (g : Nat), vs[i]? = some v → v.ownBlock = some g → ¬ S g ∧ g ≠ O
  sep : ∀ (i j : Nat) (v u : Value) (g : Nat), i ≠ j → vs[i]? = some v → vs[j]? = some u → v.ownBlock = some g → u.ownBlock ≠ some g
  out : ¬ S O ∧ base ≤ O

section
variable {W W' : World} {base : Nat} {S S' : Nat → Prop} {O : Nat} {vs : List Value} {ls : List (List Int)}
theorem RowsAt.get (h : RowsAt W base S O vs ls) {i : Nat} {v : Value} (hv : vs[i]? = some v) : ∃ l, ls[i]? = some l ∧ OwnI W base v l := by
  have hi : i < ls.length := by rw [← h.len]; exact (List.getElem?_eq_some_iff.1 hv).1
  exact ⟨_, List.getElem?_eq_getElem hi, h.own i v _ hv (List.getElem?_eq_getElem hi)⟩
theorem RowsAt.lt (h : RowsAt W base S O vs ls) {i : Nat} {v : Value} {g : Nat} (hv : vs[i]? = some v) (hg : v.ownBlock = some g) : base ≤ g ∧ g < W.heap.size := by
  obtain ⟨l, _, ho⟩ := h.get hv
  exact ho.lt g hg
theorem RowsAt.keep (h : RowsAt W base S O vs ls) (hk : ∀ k, (k = O ∨ ∃ (i : Nat) (v : Value), vs[i]? = some v ∧ v.ownBlock = some k) → W'.heap[k]? = W.heap[k]?) : RowsAt W' base S O vs ls :=
  ⟨(hk O (.inl rfl)).trans h.box, h.len, fun i v l hv hl => ownsRow_keep (h.own i v l hv hl) (fun k e => hk k (.inr ⟨i, v, hv, e⟩)), h.far, h.sep, h.out⟩
theorem RowsAt.below (h : RowsAt W base S O vs ls) (hb : Below W.heap.size W W') : RowsAt W' base S O vs ls := by
  refine h.keep fun k hk => hb.block k ?_
  rcases hk with rfl | ⟨i, v, hv, hg⟩
  · exact box_lt h.box
  · exact (h.lt hv hg).2
theorem RowsAt.avoid (h : RowsAt W base S O vs ls) (hS : ∀ k, S' k → S k ∨ W.heap.size ≤ k) : RowsAt W base S' O vs ls := by
  refine ⟨h.box, h.len, h.own, fun i v g hv hg => ⟨fun hs => ?_, (h.far i v g hv hg).2⟩, h.sep, fun hs => ?_, h.out.2⟩
  · rcases hS g hs with hs | hs
    · exact (h.far i v g hv hg).1 hs
    · have := (h.lt hv hg).2; omega
  · rcases hS O hs with hs | hs
    · exact h.out.1 hs
    · have := box_lt h.box; omega
/-- a world that turned in what is no cells -/
theorem RowsAt.grown (h : RowsAt W base S O vs ls) {row : Option Nat} (hg : W.grownBy W' row) (hr : ∀ r, row = some r → ∃ o : Obj, W.heap[r]? = some o ∧ o.isCells = false) : RowsAt W' base S O vs ls := by
  refine h.keep fun k hk => ?_
  have hc : ∃ o : Obj, W.heap[k]? = some o ∧ o.isCells = true := by
    rcases hk with rfl | ⟨i, v, hv, hgk⟩
    · exact ⟨_, h.box, rfl⟩
    · obtain ⟨l, _, ho⟩ := h.get hv
      rcases ho.2 with ⟨rfl, _⟩ | ⟨g, cap, cur, rfl, _, hgb, _⟩
      · simp [Value.ownBlock] at hgk
      · obtain rfl : g = k := by simpa [Value.ownBlock] using hgk
        exact ⟨_, hgb, rfl⟩
  obtain ⟨o, ho, hoc⟩ := hc
  refine hg.block k (box_lt ho) fun e => ?_
  obtain ⟨o', ho', hoc'⟩ := hr k e.symm
  rw [ho] at ho'
  cases ho'
  rw [hoc] at hoc'
  cases hoc'
theorem RowsAt.cell (h : RowsAt W base S O vs ls) {k : Nat} {v : Value} (hv : vs[k]? = some v) : W.cell? ⟨O, k, none⟩ = some v := box_cell h.box hv

/-- a row grows by one -/
theorem RowsAt.step (h : RowsAt W base S O vs ls) (hS : ∀ k, S k → k < W.heap.size) {k : Nat} {v v' : Value} {l : List Int} {x : Int} {w1 : World} {tmp : Obj} {n : Nat} (hv : vs[k]? = some v) (hl : ls[k]? = some l)
    (hown' : w1.ownsRow base 3 1 v' n (l.map (Value.int .i64) ++ [Value.int .i64 x])) (hn : n = l.length + 1) (hg : (W.alloc tmp).grownBy w1 v.ownBlock) (hat : v'.ownBlock = v.ownBlock ∨ v'.ownBlock = some (W.alloc tmp).heap.size) :
    RowsAt (w1.setCell ⟨O, k, none⟩ v') base S O (vs.set k v') (ls.set k (l ++ [x])) ∧ KS S W (w1.setCell ⟨O, k, none⟩ v') ∧ KeepsOthers W (w1.setCell ⟨O, k, none⟩ v') ∧ w1.heap[O]? = W.heap[O]? ∧ KS S W w1 := by
  have hs := hg.size
  have hs2 : (W.alloc tmp).heap.size = W.heap.size + 1 := by simp
  have hOl := box_lt h.box
  have hold : ∀ q, q < W.heap.size → v.ownBlock ≠ some q → w1.heap[q]? = W.heap[q]? := fun q hq hne => (hg.block q (by omega) (fun e => hne e.symm)).trans (Below.heap_alloc _ _ _ hq)
  have hO : w1.heap[O]? = W.heap[O]? := hold O hOl fun e => (h.far k v O hv e).2 rfl
  have hx : OwnI w1 base v' (l ++ [x]) := .of hown' (by simp [hn]) (by simp)
  have hk : k < vs.length := (List.getElem?_eq_some_iff.1 hv).1
  have hv'f : ∀ g, v'.ownBlock = some g → (v.ownBlock = some g) ∨ g = W.heap.size + 1 := fun g e => by
    rcases hat with ha | ha
    · exact .inl (ha ▸ e)
    · rw [ha, hs2] at e; injection e with e; exact .inr e.symm
  have hne' : ∀ g, v'.ownBlock = some g → ¬ S g ∧ g ≠ O := fun g e => by
    rcases hv'f g e with e | e
    · exact h.far k v g hv e
    · exact ⟨fun hs' => (by have := hS g hs'; omega), by omega⟩
  have hget : ∀ (i : Nat) (u : Value), (vs.set k v')[i]? = some u → (i = k ∧ u = v') ∨ (i ≠ k ∧ vs[i]? = some u) := fun i u hu => by
    by_cases hik : i = k
    · subst hik
      rw [List.getElem?_set_self hk] at hu
      cases hu
      exact .inl ⟨rfl, rfl⟩
    · rw [List.getElem?_set_ne (Ne.symm hik)] at hu
      exact .inr ⟨hik, hu⟩
  have hks1 : KS S W w1 := ⟨by omega, fun q hq => hold q (hS q hq) fun e => (h.far k v q hv e).1 hq⟩
  refine ⟨⟨?_, by simp [h.len], ?_, ?_, ?_, h.out⟩, ?_, ?_, hO, hks1⟩
  · rw [box_set (hO.trans h.box)]
  · intro i u l' hu hl'
    rcases hget i u hu with ⟨rfl, rfl⟩ | ⟨hik, hu'⟩
    · rw [List.getElem?_set_self (by rw [← h.len]; exact hk)] at hl'
      cases hl'
      exact ownsRow_keep hx fun q e => Below.heap_setCell _ _ _ _ (by show q ≠ O; exact (hne' q e).2)
    · rw [List.getElem?_set_ne (Ne.symm hik)] at hl'
      have ho := h.own i u l' hu' hl'
      refine ownsRow_keep ho fun q e => (Below.heap_setCell _ _ _ _ (by show q ≠ O; exact (h.far i u q hu' e).2)).trans (hold q (h.lt hu' e).2 (h.sep i k u v q hik hu' hv e))
  · intro i u g hu e
    rcases hget i u hu with ⟨rfl, rfl⟩ | ⟨_, hu'⟩
    · exact hne' g e
    · exact h.far i u g hu' e
  · intro i j u t g hij hu ht e
    rcases hget i u hu with ⟨rfl, rfl⟩ | ⟨hik, hu'⟩
    · rcases hget j t ht with ⟨rfl, _⟩ | ⟨hjk, ht'⟩
      · exact absurd rfl hij
      · rcases hv'f g e with e' | e'
        · exact h.sep i j v t g hij hv ht' e'
        · intro et
          have := (h.lt ht' et).2
          omega
    · rcases hget j t ht with ⟨rfl, rfl⟩ | ⟨hjk, ht'⟩
      · intro et
        rcases hv'f g et with e' | e'
        · exact h.sep i j u v g hij hu' hv e e'
        · have := (h.lt hu' e).2
          omega
      · exact h.sep i j u t g hij hu' ht' e
  · exact ⟨by simp [World.setCell]; omega, fun q hq => (Below.heap_setCell _ _ _ _ (by show q ≠ O; exact fun e => h.out.1 (e ▸ hq))).trans (hks1.block q hq)⟩
  · refine ((KeepsOthers.alloc W tmp).trans (KeepsOthers.of_grownBy hg fun j o ej hj => ?_)).trans (KeepsOthers.setCell _ _ _)
    rcases ((h.own k v l hv hl).alloc tmp).2 with ⟨rfl, _⟩ | ⟨g, cap, cur, rfl, _, hgb, _⟩
    · simp [Value.ownBlock] at ej
    · obtain rfl : g = j := by simpa [Value.ownBlock] using ej
      rw [hgb] at hj; cases hj; rfl
theorem RowsAt.step_below (h : RowsAt W base S O vs ls) {k : Nat} {v v' : Value} {w1 : World} {tmp : Obj} (hv : vs[k]? = some v) (hbase : base ≤ W.heap.size) (hg : (W.alloc tmp).grownBy w1 v.ownBlock) : Below base W (w1.setCell ⟨O, k, none⟩ v') :=
  (((Below.refl base W).alloc hbase tmp).grown hg (by simp; omega) fun _ ej => (h.lt hv ej).1).setCell (p := ⟨O, k, none⟩) h.out.2 v'
end
/-- a row is laid anew -/
theorem RowsAt.put {W W1 : World} {base : Nat} {S : Nat → Prop} {O : Nat} {vs : List Value} {ls : List (List Int)} (h : RowsAt W base S O vs ls) (hS : ∀ k, S k → k < W.heap.size) (hb : Below W.heap.size W W1) (hbase : base ≤ W.heap.size) {k : Nat} (hk : k < vs.length) {v : Value} {l : List Int}
    (hown : OwnI W1 W.heap.size v l) :
    RowsAt (W1.setCell ⟨O, k, none⟩ v) base S O (vs.set k v) (ls.set k l) ∧ KS S W (W1.setCell ⟨O, k, none⟩ v) ∧ Below base W (W1.setCell ⟨O, k, none⟩ v) ∧ W1.heap[O]? = W.heap[O]? := by
  have hOl := box_lt h.box
  have hO : W1.heap[O]? = W.heap[O]? := hb.block O hOl
  have hs := hb.size
  have hget : ∀ (i : Nat) (u : Value), (vs.set k v)[i]? = some u → (i = k ∧ u = v) ∨ (i ≠ k ∧ vs[i]? = some u) := fun i u hu => by
    by_cases hik : i = k
    · subst hik
      rw [List.getElem?_set_self hk] at hu
      cases hu
      exact .inl ⟨rfl, rfl⟩
    · rw [List.getElem?_set_ne (Ne.symm hik)] at hu
      exact .inr ⟨hik, hu⟩
  have hnew : ∀ g, v.ownBlock = some g → W.heap.size ≤ g := fun g e => (hown.lt g e).1
  refine ⟨⟨?_, by simp [h.len], ?_, ?_, ?_, h.out⟩, ?_, ?_, hO⟩
  · rw [box_set (hO.trans h.box)]
  · intro i u l' hu hl'
    rcases hget i u hu with ⟨rfl, rfl⟩ | ⟨hik, hu'⟩
    · rw [List.getElem?_set_self (by rw [← h.len]; exact hk)] at hl'
      cases hl'
      exact ownsRow_keep (hown.base hbase) fun q e => Below.heap_setCell _ _ _ _ (by show q ≠ O; have := hnew q e; omega)
    · rw [List.getElem?_set_ne (Ne.symm hik)] at hl'
      exact ownsRow_keep (h.own i u l' hu' hl') fun q e => (Below.heap_setCell _ _ _ _ (by show q ≠ O; exact (h.far i u q hu' e).2)).trans (hb.block q (h.lt hu' e).2)
  · intro i u g hu e
    rcases hget i u hu with ⟨rfl, rfl⟩ | ⟨_, hu'⟩
    · have := hnew g e
      exact ⟨fun hs' => (by have := hS g hs'; omega), by omega⟩
    · exact h.far i u g hu' e
  · intro i j u t g hij hu ht e et
    rcases hget i u hu with ⟨rfl, rfl⟩ | ⟨hik, hu'⟩
    · rcases hget j t ht with ⟨rfl, _⟩ | ⟨hjk, ht'⟩
      · exact absurd rfl hij
      · have := hnew g e
        have := (h.lt ht' et).2
        omega
    · rcases hget j t ht with ⟨rfl, rfl⟩ | ⟨hjk, ht'⟩
      · have := hnew g et
        have := (h.lt hu' e).2
        omega
      · exact h.sep i j u t g hij hu' ht' e et
  · exact ⟨by simpa [World.setCell] using hs, fun q hq => (Below.heap_setCell _ _ _ _ (by show q ≠ O; exact fun e => h.out.1 (e ▸ hq))).trans (hb.block q (hS q hq))⟩
  · exact (hb.mono hbase).setCell (p := ⟨O, k, none⟩) h.out.2 v

/-- the beginning: rows of nothing -/
theorem RowsAt.start {W : World} {base n O : Nat} {S : Nat → Prop} (h : W.heap[O]? = some (.cells (List.replicate n (Value.slice none 0 0)).toArray 31 (0, 0))) (hS : ¬ S O) (hb : base ≤ O) :
    RowsAt W base S O (List.replicate n (.slice none 0 0)) (List.replicate n []) := by
  refine ⟨h, by simp, fun i v l hv hl => ?_, fun i v g hv hg => ?_, fun i j v u g _ hv _ hg => ?_, hS, hb⟩
  · obtain rfl := List.eq_of_mem_replicate (List.mem_of_getElem? hv)
    obtain rfl := List.eq_of_mem_replicate (List.mem_of_getElem? hl)
    exact OwnI.nil W base
  all_goals
    obtain rfl := List.eq_of_mem_replicate (List.mem_of_getElem? hv)
    simp [Value.ownBlock] at hg
end Mu
end
section
/-
  flow.Before, walked.
  Conditions: at most 2^21 blocks and instructions.
-/
namespace Mu
open Go Go.RowKit Go.Proofs Go.Shelf
attribute [local go_sem] Oper.semAt_some

def addB {f : Func} (b : Nat) (ls : List (List Int)) (x : Blk f) : List (List Int) := ls.set x.1 (ls.getD x.1 [] ++ [(b : Int)])
def addsB {f : Func} (b : Nat) (pre : List (Blk f)) (ls : List (List Int)) : List (List Int) := pre.foldl (addB b) ls
/-- from where one goes to blocks, by the first b of them -/
def befN (f : Func) : Nat → List (List Int)
  | 0 => List.replicate f.blocks.length []
  | b + 1 => addsB b (nextS f b) (befN f b)
theorem addsB_snoc {f : Func} (b : Nat) (pre : List (Blk f)) (x : Blk f) (ls : List (List Int)) : addsB b (pre ++ [x]) ls = addB b (addsB b pre ls) x := by simp [addsB]
theorem addsB_length {f : Func} (b : Nat) (pre : List (Blk f)) (ls : List (List Int)) : (addsB b pre ls).length = ls.length := by
  induction pre generalizing ls with
  | nil => rfl
  | cons x l ih =>
    show (addsB b l (addB b ls x)).length = _
    rw [ih]
    simp [addB]
theorem befN_length (f : Func) (b : Nat) : (befN f b).length = f.blocks.length := by
  induction b with
  | zero => simp [befN]
  | succ b ih => rw [befN, addsB_length, ih]
theorem addB_le {f : Func} {b : Nat} {ls : List (List Int)} {x : Blk f} {n : Nat} (h : ∀ l ∈ ls, l.length ≤ n) : ∀ l ∈ addB b ls x, l.length ≤ n + 1 := fun l hl => by
  rcases List.mem_or_eq_of_mem_set hl with hl | rfl
  · have := h l hl; omega
  · rw [List.length_append]
    have : (ls.getD x.1 []).length ≤ n := by
      rw [List.getD_eq_getElem?_getD]
      cases hx : ls[x.1]? with
      | none => simp
      | some l => exact h l (List.mem_of_getElem? hx)
    simp; exact this
theorem addsB_le {f : Func} {b : Nat} {n : Nat} : ∀ (pre : List (Blk f)) {ls : List (List Int)} (_ : ∀ l ∈ ls, l.length ≤ n), ∀ l ∈ addsB b pre ls, l.length ≤ n + pre.length
  | [], ls, h => by simpa [addsB] using h
  | x :: pre, ls, h => fun l hl => by
    have := addsB_le (n := n + 1) pre (addB_le (x := x) (b := b) h) l hl
    simp; omega
theorem befN_le (f : Func) (b : Nat) : ∀ l ∈ befN f b, l.length ≤ 2 * b := by
  induction b with
  | zero => intro l hl; obtain rfl := List.eq_of_mem_replicate hl; simp
  | succ b ih =>
    intro l hl
    have := addsB_le (nextS f b) ih l hl
    have := nextS_len f b
    omega

theorem made_rep (z : Value) (n : Nat) : madeCells #[z] n = (List.replicate n z).toArray := by
  apply Array.ext
  · simp [madeCells]
  · intro i h1 h2
    simp [madeCells, Nat.mod_one]

set_option maxRecDepth 100000 in
set_option maxHeartbeats 4000000 in
theorem before_any (f : Func) (cs : List Value) (w : World) (hR : tFunc.R w w.heap.size cs f) (hl : f.blocks.length ≤ 2097152) (hi : ∀ b ∈ f.blocks, b.ins.length ≤ 2097152) :
    Calls Tryz.prog 153 #[.agg cs.toArray] w fun e W' => ∃ (O : Nat) (vs : List Value), e = .returned (.slice (some ⟨O, 0, none⟩) f.blocks.length f.blocks.length) ∧ RowsAt W' w.heap.size (fun _ => False) O vs (befN f f.blocks.length) ∧ Below w.heap.size w W' := by
  refine (callsIn_wide (n := 6)).1 ?_
  obtain ⟨i0, hiI, hz0, hz1, hz2⟩ := info_parts int_info
  obtain ⟨A, c, rfl, -, -, -, -⟩ := tFunc_R.1 hR
  have HR := Lib.hid hR
  have HI := Lib.hid hi
  clear hR hi
  have hmk := run_make_row' (P := Tryz.prog) 52 31 (.slice none 0 0) 24 Tryz.underlying52 slc_info rfl .i64 .i64 f.blocks.length (by omega) (by omega)
  rw [made_rep] at hmk
  refine callsIn_of_wp_marks Tryz.func153 rfl trivial ?_ rfl
  simp only [Tryz.ntmps153, List.size_toArray, List.length_cons, List.length_nil, Nat.reduceAdd, Nat.reduceSub, Array.replicate_succ, Array.replicate_zero, List.push_toArray, List.append_toArray, List.nil_append, List.cons_append]
  obtain ⟨W1, hW1⟩ : ∃ W1 : World, W1 = ((w.alloc (.cells #[.string f.name, .int .i64 f.args, .int .i64 f.regs, .slice A f.blocks.length c] 24)).alloc (.cells (List.replicate f.blocks.length (Value.slice none 0 0)).toArray 31)).alloc (.cells #[.slice (some ⟨w.heap.size + 1, 0, none⟩) f.blocks.length f.blocks.length] 52) := ⟨_, rfl⟩
  gi_wp2
  refine wpIn_loop (fun a W => ∃ (b : Nat) (ds : List Nat) (vs : List Value) (u4 u5 u14 u15 u16 u17 u18 u19 u20 u21 u22 u23 u24 u25 u26 u27 u28 u29 u30 : Value), b ≤ f.blocks.length ∧ a = { tmps := #[.agg #[.string f.name, .int .i64 f.args, .int .i64 f.regs, .slice A f.blocks.length c], .pointer (some ⟨w.heap.size, 0, none⟩), .slice none 0 0, .pointer (some ⟨w.heap.size + 1 + 1, 0, none⟩), u4, u5, .pointer (some ⟨w.heap.size, 3, none⟩), .slice A f.blocks.length c, .int .i64 f.blocks.length, .slice (some ⟨w.heap.size + 1, 0, none⟩) f.blocks.length f.blocks.length, .pointer (some ⟨w.heap.size, 3, none⟩), .slice A f.blocks.length c, .int .i64 f.blocks.length, .int .i64 b, u14, u15, u16, u17, u18, u19, u20, u21, u22, u23, u24, u25, u26, u27, u28, u29, u30, undef], defers := ds.map mark } ∧ RowsAt W w.heap.size (fun k => k ≤ w.heap.size ∨ k = w.heap.size + 2) (w.heap.size + 1) vs (befN f b) ∧
    KS (fun k => k ≤ w.heap.size ∨ k = w.heap.size + 2) W1 W ∧ Below w.heap.size w W ∧ ds.Nodup ∧ ∀ D ∈ ds, w.heap.size ≤ D ∧ W.heap[D]? = some (.deferred (some []))) (fun a _ => f.blocks.length - (RowKit.intOf (a.tmps.getD 13 undef)).toNat) ?start ?round
  case start =>
    refine ⟨0, [], List.replicate f.blocks.length (.slice none 0 0), _, _, _, _, _, _, _, _, _, _, _, _, _, _, _, _, _, _, _, Nat.zero_le _, rfl, ?_, ?_, ?_, List.nodup_nil, by simp⟩
    · refine RowsAt.start ?_ (by omega) (by omega)
      refine box_alloc ?_ _
      have h := heap_alloc_new (w.alloc (.cells #[.string f.name, .int .i64 f.args, .int .i64 f.regs, .slice A f.blocks.length c] 24)) (.cells (List.replicate f.blocks.length (Value.slice none 0 0)).toArray 31)
      rwa [World.size_alloc] at h
    · rw [hW1]; exact KS.refl
    · exact (((Below.refl _ _).alloc (Nat.le_refl _) _).alloc (by simp) _).alloc (by simp; omega) _
  case round =>
    rintro a W ⟨b, ds, vs, u4, u5, u14, u15, u16, u17, u18, u19, u20, u21, u22, u23, u24, u25, u26, u27, u28, u29, u30, hb, rfl, hR, hK, hB, hN, hD⟩
    have hW1s : W1.heap.size = w.heap.size + 1 + 1 + 1 := by rw [hW1]; simp
    have hc3 : W.cell? ⟨w.heap.size + 1 + 1, 0, none⟩ = some (.slice (some ⟨w.heap.size + 1, 0, none⟩) f.blocks.length f.blocks.length) := by
      refine hK.cell (.inr rfl) ?_
      rw [hW1]
      have h := heap_alloc_new ((w.alloc (.cells #[.string f.name, .int .i64 f.args, .int .i64 f.regs, .slice A f.blocks.length c] 24)).alloc (.cells (List.replicate f.blocks.length (Value.slice none 0 0)).toArray 31)) (.cells #[.slice (some ⟨w.heap.size + 1, 0, none⟩) f.blocks.length f.blocks.length] 52)
      rw [World.size_alloc, World.size_alloc] at h
      exact box_cell (cs := [_]) h rfl
    have hfB : W.heap[w.heap.size]? = some (.cells [.string f.name, .int .i64 f.args, .int .i64 f.regs, .slice A f.blocks.length c].toArray 24 (0, 0)) := by
      rw [hK.block _ (.inl (Nat.le_refl _)), hW1]
      exact box_alloc (box_alloc (heap_alloc_new w _) _) _
    have hWs : w.heap.size + 1 + 1 + 1 ≤ W.heap.size := by have := hK.size; omega
    clear hW1
    by_cases hbn : b = f.blocks.length
    · subst hbn
      have d0 : decide ((f.blocks.length : Int) < (f.blocks.length : Int)) = false := decide_eq_false (by omega)
      gi_wp2
      refine leaves_marks (fun X => RowsAt X w.heap.size (fun _ => False) (w.heap.size + 1) vs (befN f f.blocks.length) ∧ Below w.heap.size w X) w.heap.size ?_ (fun _ => results_tmp rfl _ _ _) (fun X h => ⟨_, vs, rfl, h⟩) ds W hN hD ⟨hR.avoid (fun _ h => h.elim), hB⟩
      intro X D hX hDX hDo
      exact ⟨hX.1.grown (grownBy_putObj' X D _) (fun r e => by cases e; exact ⟨_, hDo, rfl⟩), hX.2.trans (belowK_b (w := w) (Nat.le_refl _) X D _ _ hDX hDo rfl rfl)⟩
    · have hbl : b < f.blocks.length := by omega
      have d0 : decide ((b : Int) < (f.blocks.length : Int)) = true := decide_eq_true (by omega)
      have cG : ∀ W', CallsIn Fence.wide 5 Tryz.prog 170 #[.agg #[.string f.name, .int .i64 f.args, .int .i64 f.regs, .slice A f.blocks.length c], .int .i64 b] W' fun e w'' => e = .returned (.func (.func 201) #[] #[.pointer (some ⟨W'.heap.size + 1, 0, none⟩), .pointer (some ⟨W'.heap.size, 0, none⟩)]) ∧
        w'' = (W'.alloc (.cells #[.string f.name, .int .i64 f.args, .int .i64 f.regs, .slice A f.blocks.length c] 24)).alloc (.cells #[.int .i64 b] 3) := fun W' => goes_in Fence.wide 5 trivial rfl [.string f.name, .int .i64 f.args, .int .i64 f.regs, .slice A f.blocks.length c] b W' rfl
      have hfB2 := box_alloc hfB (.cells #[.int .i64 b] 3)
      have f0 := box_cell (j := 0) hfB2 rfl
      have f1 := box_cell (j := 1) hfB2 rfl
      have f2 := box_cell (j := 2) hfB2 rfl
      have f3 := box_cell (j := 3) hfB2 rfl
      gi_wp2_with fail
      refine ⟨trivial, (cG _).mono ?_⟩
      rintro e w' ⟨rfl, rfl⟩
      have hSo : ∀ k, ((k ≤ w.heap.size ∨ k = w.heap.size + 2 ∨ k = W.heap.size) ∨ k = W.heap.size + 1 ∨ k = W.heap.size + 1 + 1) → k < W.heap.size + 1 + 1 + 1 := fun k hk => by omega
      have hBW : Below W.heap.size W (((W.alloc (.cells #[.int .i64 b] 3)).alloc (.cells #[.string f.name, .int .i64 f.args, .int .i64 f.regs, .slice A f.blocks.length c] 24)).alloc (.cells #[.int .i64 b] 3)) := (((Below.refl _ _).alloc (Nat.le_refl _) _).alloc (by simp) _).alloc (by simp; omega) _
      have hG2 := goes_at (W := W.alloc (.cells #[.int .i64 b] 3)) (S := fun k => k ≤ w.heap.size ∨ k = w.heap.size + 2 ∨ k = W.heap.size) (bi := b)
        (tFunc.keepS HR.out (fun k hk => by rw [Below.heap_alloc _ _ _ (by omega), hB.block k hk]) (fun k hk => by omega)) (fun k hk => by simp; omega) hl HI.out
      have hLs : ((((W.alloc (.cells #[.int .i64 b] 3)).alloc (.cells #[.string f.name, .int .i64 f.args, .int .i64 f.regs, .slice A f.blocks.length c] 24)).alloc (.cells #[.int .i64 b] 3))).heap.size = W.heap.size + 1 + 1 + 1 := by simp
      have hb4 : (((W.alloc (.cells #[.int .i64 b] 3)).alloc (.cells #[.string f.name, .int .i64 f.args, .int .i64 f.regs, .slice A f.blocks.length c] 24)).alloc (.cells #[.int .i64 b] 3)).cell? ⟨W.heap.size, 0, none⟩ = some (.int .i64 b) :=
        box_cell (cs := [_]) (box_alloc (box_alloc (heap_alloc_new W _) _) _) rfl
      rw [World.size_alloc] at hG2
      dsimp only [List.toArray] at hG2
      gi_wp2
      obtain ⟨Wl, hWl⟩ : ∃ Wl : World, Wl = (((W.alloc (.cells #[.int .i64 b] 3)).alloc (.cells #[.string f.name, .int .i64 f.args, .int .i64 f.regs, .slice A f.blocks.length c] 24)).alloc (.cells #[.int .i64 b] 3)) := ⟨_, rfl⟩
      rw [← hWl] at hBW hG2 hLs hb4 ⊢
      rw [← hLs] at hSo
      clear hWl
      have hRl := (hR.avoid (S' := fun k => (k ≤ w.heap.size ∨ k = w.heap.size + 2 ∨ k = W.heap.size) ∨ k = W.heap.size + 1 ∨ k = W.heap.size + 1 + 1) (fun k hk => by omega)).below hBW
      refine wpIn_rangeFunc_ownG rfl (by decide) (gf := 201) (lb := #[.pointer (some ⟨W.heap.size + 1 + 1, 0, none⟩), .pointer (some ⟨W.heap.size + 1, 0, none⟩)]) rfl trivial (enters_of Tryz.func201 (by kernel_rfl) rfl)
        (goes_stops Fence.wide 5 trivial rfl (by decide) f b (W.heap.size + 1) (W.heap.size + 1 + 1) (fun k => (k ≤ w.heap.size ∨ k = w.heap.size + 2 ∨ k = W.heap.size) ∨ k = W.heap.size + 1 ∨ k = W.heap.size + 1 + 1) _ hSo hG2) ksK_t (ksK_b hSo) (Below.refl _ _) (fun _ => rfl)
        (fun (pre : List (Blk f)) W' => (∃ vs, RowsAt W' w.heap.size (fun k => (k ≤ w.heap.size ∨ k = w.heap.size + 2 ∨ k = W.heap.size) ∨ k = W.heap.size + 1 ∨ k = W.heap.size + 1 + 1) (w.heap.size + 1) vs (addsB b pre (befN f b)) ∧
          KS (fun k => (k ≤ w.heap.size ∨ k = w.heap.size + 2 ∨ k = W.heap.size) ∨ k = W.heap.size + 1 ∨ k = W.heap.size + 1 + 1) Wl W' ∧ KeepsOthers Wl W') ∧ Below w.heap.size Wl W')
        (fun _ _ _ => False)
        (OwnFrom.and ?_ (ownFrom_below (by omega) (by omega)))
        (fun _ _ _ _ _ hs _ _ => hs)
        ⟨⟨vs, hRl, KS.refl, KeepsOthers.refl _⟩, Below.refl _ _⟩
        (fun x => { tmps := #[.agg #[.string f.name, .int .i64 f.args, .int .i64 f.regs, .slice A f.blocks.length c], .pointer (some ⟨w.heap.size, 0, none⟩), .slice none 0 0, .pointer (some ⟨w.heap.size + 1 + 1, 0, none⟩), .pointer (some ⟨W.heap.size, 0, none⟩), .int .i64 (blkI x), .pointer (some ⟨w.heap.size, 3, none⟩), .slice A f.blocks.length c, .int .i64 f.blocks.length, .slice (some ⟨w.heap.size + 1, 0, none⟩) f.blocks.length f.blocks.length, .pointer (some ⟨w.heap.size, 3, none⟩), .slice A f.blocks.length c, .int .i64 f.blocks.length, .int .i64 b, .bool true, .int .i64 b, .agg #[.string f.name, .int .i64 f.args, .int .i64 f.regs, .slice A f.blocks.length c], .int .i64 b, .func (.func 201) #[] #[.pointer (some ⟨W.heap.size + 1 + 1, 0, none⟩), .pointer (some ⟨W.heap.size + 1, 0, none⟩)], .int .i64 (blkI x), u20, u21, u22, u23, u24, u25, u26, u27, u28, u29, u30, undef], defers := [] }) ?assign ?body ?done ?stop
      case assign =>
        intro l x W K hK
        gi_wp2
        exact hK
      case body =>
        rintro l pre x W' ⟨⟨vs', hR', hK', hO'⟩, hB'⟩ hlt
        have hxl : x.1 < vs'.length := by rw [hR'.len, addsB_length, befN_length]; exact x.2
        obtain ⟨v, hv⟩ : ∃ v, vs'[x.1]? = some v := ⟨_, List.getElem?_eq_getElem hxl⟩
        obtain ⟨lk, hlk, hown⟩ := hR'.get hv
        have hlen : lk.length ≤ 2 * b + pre.length := addsB_le pre (befN_le f b) lk (List.mem_of_getElem? hlk)
        have hgd : (addsB b pre (befN f b)).getD x.1 [] = lk := by rw [List.getD_eq_getElem?_getD, hlk]; rfl
        have k0 : (0 : Int) ≤ blkI x := by unfold blkI; omega
        have k1 : blkI x < (f.blocks.length : Int) := by unfold blkI; have := x.2; omega
        have k2 : (blkI x).toNat = x.1 := by unfold blkI; omega
        have c3 := hK'.cell (a := ⟨w.heap.size + 1 + 1, 0, none⟩) (.inl (.inr (.inl rfl))) ((World.cell?_of_block (hBW.block (w.heap.size + 1 + 1) (by omega))).trans hc3)
        have c4 := hK'.cell (a := ⟨W.heap.size, 0, none⟩) (.inl (.inr (.inr rfl))) hb4
        have cv := hR'.cell hv
        gi_wp2
        have hO1 : w.heap.size + 1 < W'.heap.size := box_lt hR'.box
        have hSl : ∀ k, ((k ≤ w.heap.size ∨ k = w.heap.size + 2 ∨ k = W.heap.size) ∨ k = W.heap.size + 1 ∨ k = W.heap.size + 1 + 1) → k < W'.heap.size := fun k hk => by have := hSo k hk; have := hK'.size; omega
        have hRd : RowsAt W'.drew w.heap.size (fun k => (k ≤ w.heap.size ∨ k = w.heap.size + 2 ∨ k = W.heap.size) ∨ k = W.heap.size + 1 ∨ k = W.heap.size + 1 + 1) (w.heap.size + 1) vs' (addsB b pre (befN f b)) := hR'.keep fun _ _ => rfl
        have hKa : KS (fun k => (k ≤ w.heap.size ∨ k = w.heap.size + 2 ∨ k = W.heap.size) ∨ k = W.heap.size + 1 ∨ k = W.heap.size + 1 + 1) W' (W'.alloc (.cells #[.int .i64 b] 3)) := ⟨by simp, fun k hk => Below.heap_alloc _ _ _ (hSl k hk)⟩
        have c3a := hKa.cell (a := ⟨w.heap.size + 1 + 1, 0, none⟩) (.inl (.inr (.inl rfl))) c3
        have c4a := hKa.cell (a := ⟨W.heap.size, 0, none⟩) (.inl (.inr (.inr rfl))) c4
        have cva := box_cell (box_alloc hR'.box (.cells #[.int .i64 b] 3)) hv
        refine wpIn_region_round (S := fun X => X.cell? ⟨w.heap.size + 1 + 1, 0, none⟩ = some (.slice (some ⟨w.heap.size + 1, 0, none⟩) f.blocks.length f.blocks.length) ∧ X.cell? ⟨W.heap.size, 0, none⟩ = some (.int .i64 b)) (by kernel_rfl) (by kernel_rfl) (fun _ _ h => h) ⟨c3, c4⟩ (fun hH => ?_)
        refine wpAnyH_take (i := 0) (v := .slice (some ⟨w.heap.size + 1, 0, none⟩) f.blocks.length f.blocks.length) rfl (by kernel_rfl) (by kernel_rfl) (by kernel_rfl) (fun _ _ _ h => h) (Or.inl ⟨by rfl, ?_⟩) (by assumption) ?_
        · rintro X ⟨h1, h3⟩
          go_simp
        simp only [Act.put, List.setIfInBounds_toArray]
        refine wpAnyH_take (i := 1) (v := .int .i64 (blkI x)) rfl (by kernel_rfl) (by kernel_rfl) (by kernel_rfl) (fun _ _ _ h => h) (Or.inl ⟨by rfl, ?_⟩) (by assumption) ?_
        · rintro X ⟨h1, h3⟩
          go_simp
        simp only [Act.put]
        refine wpAnyH_take (i := 2) (v := .slice (some ⟨w.heap.size + 1, 0, none⟩) f.blocks.length f.blocks.length) rfl (by kernel_rfl) (by kernel_rfl) (by kernel_rfl) (fun _ _ _ h => h) (Or.inl ⟨by rfl, ?_⟩) (by assumption) ?_
        · rintro X ⟨h1, h3⟩
          go_simp
        simp only [Act.put]
        refine wpAnyH_take (i := 3) (v := .int .i64 (blkI x)) rfl (by kernel_rfl) (by kernel_rfl) (by kernel_rfl) (fun _ _ _ h => h) (Or.inl ⟨by rfl, ?_⟩) (by assumption) ?_
        · rintro X ⟨h1, h3⟩
          go_simp
        simp only [Act.put]
        refine wpAnyH_take (i := 4) (v := .pointer (some ⟨w.heap.size + 1, x.1, none⟩)) rfl (by kernel_rfl) (by kernel_rfl) (by kernel_rfl) (fun _ _ _ h => h) (Or.inl ⟨by rfl, ?_⟩) (by assumption) ?_
        · rintro X ⟨h1, h3⟩
          go_simp
        simp only [Act.put]
        refine wpAnyH_take (i := 6) (v := .int .i64 b) rfl (by kernel_rfl) (by kernel_rfl) (by kernel_rfl) (fun _ _ _ h => h) (Or.inl ⟨by rfl, ?_⟩) (by assumption) ?_
        · rintro X ⟨h1, h3⟩
          go_simp
        simp only [Act.put]
        refine wpAnyH_ready (rs := [5, 7]) (by kernel_rfl) (by simp) ?_
        refine AllReadyH.cons rfl (fun K hK => ?_) (AllReadyH.cons rfl (fun K hK => ?_) AllReadyH.nil)
        · go_simp
          refine hK.out _ _ ⟨c3, c4⟩ (fun hHeld => ?_)
          clear hK K
          refine wpAnyH_ready (rs := [7]) (by kernel_rfl) (by simp) ?_
          refine AllReadyH.cons rfl (fun K hK => ?_) AllReadyH.nil
          go_simp
          refine hK.out _ _ ⟨c3a, c4a⟩ (fun hHeld => ?_)
          clear hK K
          refine wpAnyH_ready (rs := [8]) (by kernel_rfl) (by simp) ?_
          refine AllReadyH.cons rfl (fun K hK => ?_) AllReadyH.nil
          refine step_more rfl _ _ 31 rfl w.heap.size 3 i0 (.int .i64 0) 1 8 Tryz.underlying31 hiI hz0 hz1 hz2 rfl (by decide) (v := v) (n := lk.length) (xs := lk.map (Value.int .i64)) rfl (hown.alloc (.cells #[.int .i64 b] 3)) (A := some ⟨W'.heap.size, 0, none⟩) (m := 1) (c := 1) (news := [.int .i64 b]) rfl (src_one (w := W'.drew) (size := 1) (m := 1) (cs := #[.int .i64 b]) rfl) (by simp [Value.oneCell']) (by unfold maxLen; omega) (by omega) (by show w.heap.size ≤ (W'.alloc _).heap.size; simp; omega) ?_
          intro v' w1 hown2 hgrow hat
          obtain ⟨g', cap', rfl⟩ := ownsRow_succ hown2
          obtain ⟨r1, r2, r3, r4, r5⟩ := hRd.step hSl hv hlk hown2 rfl hgrow hat
          have r6 := hRd.step_below (v' := Value.slice (some ⟨g', 0, none⟩) (lk.length + 1) cap') hv (by show w.heap.size ≤ W'.heap.size; omega) hgrow
          simp only [Act.put, List.setIfInBounds_toArray]
          have c3b := r5.cell (a := ⟨w.heap.size + 1 + 1, 0, none⟩) (.inl (.inr (.inl rfl))) c3
          have c4b := r5.cell (a := ⟨W.heap.size, 0, none⟩) (.inl (.inr (.inr rfl))) c4
          refine hK.out _ _ ⟨c3b, c4b⟩ (fun hHeld => ?_)
          clear hK K
          have hb1 := r4.trans hRd.box
          have hfr : w1.frozen? ⟨w.heap.size + 1, x.1, none⟩ = false := box_free hb1
          have hcv1 := box_cell hb1 hv
          refine wpAnyH_take (i := 9) (v := .pointer (some ⟨w.heap.size + 1, x.1, none⟩)) rfl (by kernel_rfl) (by kernel_rfl) (by kernel_rfl) (fun _ _ _ h => h) (Or.inl ⟨by rfl, ?_⟩) (by assumption) ?_
          · rintro X ⟨h1, h3⟩
            go_simp
          simp only [Act.put]
          refine wpAnyH_ready (rs := [10]) (by kernel_rfl) (by simp) ?_
          refine AllReadyH.cons rfl (fun K hK => ?_) AllReadyH.nil
          go_simp
          refine hK.out _ _ ⟨r2.cell (W := W'.drew) (a := ⟨w.heap.size + 1 + 1, 0, none⟩) (.inl (.inr (.inl rfl))) c3, r2.cell (W := W'.drew) (a := ⟨W.heap.size, 0, none⟩) (.inl (.inr (.inr rfl))) c4⟩ (fun hHeld => ?_)
          clear hK K
          refine wpAnyH_done (by kernel_rfl) ?_ _
          refine ⟨⟨r3.size, fun k o _ hk ho => r3.same k o hk ho⟩, ⟨r2.size, r2.block⟩, ⟨⟨vs'.set x.1 (.slice (some ⟨g', 0, none⟩) (lk.length + 1) cap'), ?_, hK'.trans ⟨r2.size, r2.block⟩, hO'.trans ⟨r3.size, r3.same⟩⟩, hB'.trans ⟨r6.os, r6.tape, r6.output, r6.size, r6.block⟩⟩⟩
          rw [addsB_snoc]
          unfold addB
          rw [hgd]
          exact r1
        · go_simp
          refine hK.out _ _ ⟨c3a, c4a⟩ (fun hHeld => ?_)
          clear hK K
          refine wpAnyH_ready (rs := [5]) (by kernel_rfl) (by simp) ?_
          refine AllReadyH.cons rfl (fun K hK => ?_) AllReadyH.nil
          go_simp
          refine hK.out _ _ ⟨c3a, c4a⟩ (fun hHeld => ?_)
          clear hK K
          refine wpAnyH_ready (rs := [8]) (by kernel_rfl) (by simp) ?_
          refine AllReadyH.cons rfl (fun K hK => ?_) AllReadyH.nil
          refine step_more rfl _ _ 31 rfl w.heap.size 3 i0 (.int .i64 0) 1 8 Tryz.underlying31 hiI hz0 hz1 hz2 rfl (by decide) (v := v) (n := lk.length) (xs := lk.map (Value.int .i64)) rfl (hown.alloc (.cells #[.int .i64 b] 3)) (A := some ⟨W'.heap.size, 0, none⟩) (m := 1) (c := 1) (news := [.int .i64 b]) rfl (src_one (w := W'.drew) (size := 1) (m := 1) (cs := #[.int .i64 b]) rfl) (by simp [Value.oneCell']) (by unfold maxLen; omega) (by omega) (by show w.heap.size ≤ (W'.alloc _).heap.size; simp; omega) ?_
          intro v' w1 hown2 hgrow hat
          obtain ⟨g', cap', rfl⟩ := ownsRow_succ hown2
          obtain ⟨r1, r2, r3, r4, r5⟩ := hRd.step hSl hv hlk hown2 rfl hgrow hat
          have r6 := hRd.step_below (v' := Value.slice (some ⟨g', 0, none⟩) (lk.length + 1) cap') hv (by show w.heap.size ≤ W'.heap.size; omega) hgrow
          simp only [Act.put, List.setIfInBounds_toArray]
          have c3b := r5.cell (a := ⟨w.heap.size + 1 + 1, 0, none⟩) (.inl (.inr (.inl rfl))) c3
          have c4b := r5.cell (a := ⟨W.heap.size, 0, none⟩) (.inl (.inr (.inr rfl))) c4
          refine hK.out _ _ ⟨c3b, c4b⟩ (fun hHeld => ?_)
          clear hK K
          have hb1 := r4.trans hRd.box
          have hfr : w1.frozen? ⟨w.heap.size + 1, x.1, none⟩ = false := box_free hb1
          have hcv1 := box_cell hb1 hv
          refine wpAnyH_take (i := 9) (v := .pointer (some ⟨w.heap.size + 1, x.1, none⟩)) rfl (by kernel_rfl) (by kernel_rfl) (by kernel_rfl) (fun _ _ _ h => h) (Or.inl ⟨by rfl, ?_⟩) (by assumption) ?_
          · rintro X ⟨h1, h3⟩
            go_simp
          simp only [Act.put]
          refine wpAnyH_ready (rs := [10]) (by kernel_rfl) (by simp) ?_
          refine AllReadyH.cons rfl (fun K hK => ?_) AllReadyH.nil
          go_simp
          refine hK.out _ _ ⟨r2.cell (W := W'.drew) (a := ⟨w.heap.size + 1 + 1, 0, none⟩) (.inl (.inr (.inl rfl))) c3, r2.cell (W := W'.drew) (a := ⟨W.heap.size, 0, none⟩) (.inl (.inr (.inr rfl))) c4⟩ (fun hHeld => ?_)
          clear hK K
          refine wpAnyH_done (by kernel_rfl) ?_ _
          refine ⟨⟨r3.size, fun k o _ hk ho => r3.same k o hk ho⟩, ⟨r2.size, r2.block⟩, ⟨⟨vs'.set x.1 (.slice (some ⟨g', 0, none⟩) (lk.length + 1) cap'), ?_, hK'.trans ⟨r2.size, r2.block⟩, hO'.trans ⟨r3.size, r3.same⟩⟩, hB'.trans ⟨r6.os, r6.tape, r6.output, r6.size, r6.block⟩⟩⟩
          rw [addsB_snoc]
          unfold addB
          rw [hgd]
          exact r1
      case done =>
        rintro D ys W' hDl rfl ⟨⟨vs', hR', hK', hO'⟩, hB'⟩ hDo
        have x1 : IntKind.i64.wrap ((b : Int) + 1) = ((b + 1 : Nat) : Int) := by rw [IntWalk.i64_in _ (by omega)]; rfl
        gi_wp2
        have hlt' : ∀ D' ∈ ds, D' < W.heap.size := fun D' h' => box_lt (hD D' h').2
        refine ⟨⟨b + 1, D :: ds, vs', _, _, _, _, _, _, _, _, _, _, _, _, _, _, _, _, _, _, _, by omega, rfl, hR'.avoid (fun k hk => .inl (.inl (by omega))), hK.trans ⟨?_, fun k hk => ?_⟩, hB.trans ((hBW.mono (by omega)).trans hB'), ?_, ?_⟩, ?_⟩
        · have := hBW.size; have := hK'.size; omega
        · exact (hK'.block k (.inl (by omega))).trans (hBW.block k (by omega))
        · exact List.nodup_cons.2 ⟨fun h' => by have := hlt' D h'; omega, hN⟩
        · intro D' h'
          rcases List.mem_cons.1 h' with rfl | h'
          · exact ⟨by omega, hDo⟩
          · exact ⟨(hD D' h').1, hO'.same _ _ ((hBW.block D' (hlt' D' h')).trans (hD D' h').2) rfl⟩
        · simp [RowKit.intOf]
          omega
      case stop =>
        rintro D c pre W _ _ h _
        exact h.elim
      intro s X Y row hs hg hr
      obtain ⟨vs', h1, h2, h3⟩ := hs
      refine ⟨vs', h1.grown hg (fun r e => (hr r e).2), ⟨Nat.le_trans h2.size hg.size, fun k hk => (hg.block k ?_ ?_).trans (h2.block k hk)⟩, ⟨Nat.le_trans h3.size hg.size, fun k o hk ho => (hg.block k ?_ ?_).trans (h3.same k o hk ho)⟩⟩
      · have := hSo k hk; have := h2.size; omega
      · intro e; have := (hr k e.symm).1; have := hSo k hk; omega
      · have := box_lt (h3.same k o hk ho); omega
      · intro e; have := (hr k e.symm).1; have := box_lt hk; omega
end Mu
end
section
/-
  live.places, walked.
  Conditions: at most 2^21 instructions and arguments; all that is read lies in a row.
-/
namespace Mu
open Go Go.RowKit Go.Proofs Go.Shelf
attribute [local go_sem] Oper.semAt_some

def stepB (ds : List Ins) (S : Int → Bool) (i : Nat) : Int → Bool := match ds[i]? with | some d => backS d S | none => S
def stepP (R : List Int) (ds : List Ins) (p : (Int → Bool) × List (List Int)) (i : Nat) : (Int → Bool) × List (List Int) := (stepB ds p.1 i, p.2.set i (R.filter (stepB ds p.1 i)))
def placesN (R : List Int) (ds : List Ins) (S : Int → Bool) (is : List Nat) : (Int → Bool) × List (List Int) := is.foldl (stepP R ds) (S, (List.replicate (ds.length + 1) []).set ds.length (R.filter S))
theorem placesN_snoc (R : List Int) (ds : List Ins) (S : Int → Bool) (is : List Nat) (i : Nat) : placesN R ds S (is ++ [i]) = stepP R ds (placesN R ds S is) i := by simp [placesN]
theorem placesN_bk (R : List Int) (ds : List Ins) (S : Int → Bool) {W0 : World} {T : Nat → Prop} (pre : List (BkE W0 T ds)) (x : BkE W0 T ds) : placesN R ds S (bkIdx (pre ++ [x])) = stepP R ds (placesN R ds S (bkIdx pre)) x.1.1 := by
  rw [show bkIdx (pre ++ [x]) = bkIdx pre ++ [x.1.1] from by simp [bkIdx], placesN_snoc]
theorem placesN_length (R : List Int) (ds : List Ins) (S : Int → Bool) (is : List Nat) : (placesN R ds S is).2.length = ds.length + 1 := by
  unfold placesN
  have key : ∀ (is : List Nat) (p : (Int → Bool) × List (List Int)), (is.foldl (stepP R ds) p).2.length = p.2.length := by
    intro is
    induction is with
    | nil => intro p; rfl
    | cons i l ih => intro p; rw [List.foldl_cons, ih]; simp [stepP]
  rw [key]
  simp
theorem placesN_in {R : List Int} {ds : List Ins} {S : Int → Bool} (hx : ∀ x ∈ ds, ∀ r ∈ readsC x, r ∈ R) (hin : InR R S) (is : List Nat) : InR R (placesN R ds S is).1 := by
  unfold placesN
  have key : ∀ (is : List Nat) (p : (Int → Bool) × List (List Int)), InR R p.1 → InR R (is.foldl (stepP R ds) p).1 := by
    intro is
    induction is with
    | nil => intro p h; exact h
    | cons i l ih =>
      intro p h
      rw [List.foldl_cons]
      refine ih _ ?_
      unfold stepP stepB
      cases hd : ds[i]? with
      | none => exact h
      | some d => exact h.back (hx d (List.mem_of_getElem? hd))
  exact key is _ hin
/-- what is live at each place of a block -/
def placesL (R : List Int) (ds : List Ins) (S : Int → Bool) : List (List Int) := (placesN R ds S (List.range ds.length).reverse).2

set_option maxRecDepth 100000 in
set_option maxHeartbeats 4000000 in
theorem places_any (b : Block) (cs : List Value) (mb : Nat) (S : Int → Bool) (R : List Int) (w : World) (hR : tBlock.R w w.heap.size cs b) (hl : b.ins.length ≤ 2097152) (hi : ∀ x ∈ b.ins, x.args.length ≤ 2097152) (hs : SetM w mb S) (hRR : RegsR R) (hin : InR R S)
    (hx : ∀ x ∈ b.ins, ∀ r ∈ readsC x, r ∈ R) :
    Calls Tryz.prog 111 #[.agg cs.toArray, .map (some mb)] w fun e W' => ∃ (O : Nat) (vs : List Value), e = .returned (.slice (some ⟨O, 0, none⟩) (b.ins.length + 1) (b.ins.length + 1)) ∧ RowsAt W' w.heap.size (fun _ => False) O vs (placesL R b.ins S) ∧ Below w.heap.size w W' := by
  refine (callsIn_wide (n := 6)).1 ?_
  obtain ⟨A, c, rfl, -, -⟩ := tBlock_R.1 hR
  have HR := Lib.hid hR
  have HI := Lib.hid hi
  have HX := Lib.hid hx
  clear hR hi hx
  have hmb := hs.lt
  have hmk : ∀ W : World, (Instr.makeSlice 52 (.int .i64 ((b.ins.length : Int) + 1)) (.int .i64 ((b.ins.length : Int) + 1))).run Tryz.prog W = .ok (.slice (some ⟨W.heap.size, 0, none⟩) (b.ins.length + 1) (b.ins.length + 1)) (W.alloc (.cells (List.replicate (b.ins.length + 1) (Value.slice none 0 0)).toArray 31)) := by
    intro W
    have h := run_make_row' (P := Tryz.prog) 52 31 (.slice none 0 0) 24 Tryz.underlying52 slc_info rfl .i64 .i64 (b.ins.length + 1) (by omega) (by omega) W
    rw [made_rep] at h
    exact h
  have x1 : IntKind.i64.wrap ((b.ins.length : Int) + 1) = (b.ins.length : Int) + 1 := IntWalk.i64_in _ (by omega)
  have cC : ∀ W' : World, SetM W' mb S → Calls Tryz.prog 149 #[.map (some mb)] W' fun e w' => e = .returned (.map (some W'.heap.size)) ∧ SetM w' W'.heap.size S ∧ ∃ es c, w' = W'.alloc (.map es c) := fun W' h => clone_set W' h
  refine callsIn_of_wp_marks Tryz.func111 rfl trivial ?_ rfl
  simp only [Tryz.ntmps111, List.size_toArray, List.length_cons, List.length_nil, Nat.reduceAdd, Nat.reduceSub, Array.replicate_succ, Array.replicate_zero, List.push_toArray, List.append_toArray, List.nil_append, List.cons_append]
  gi_wp2_with fail
  refine ⟨trivial, callsIn_wide.2 ((cC _ ?_).mono ?_)⟩
  · refine hs.keep ?_
    rw [Below.heap_alloc _ _ _ (by simp; omega), Below.heap_alloc _ _ _ (by simp; omega), Below.heap_alloc _ _ _ hmb]
  rintro e w' ⟨rfl, hs1, es, ec, rfl⟩
  gi_wp2_with fail
  simp only [World.size_alloc] at hs1 ⊢
  obtain ⟨W2, hW2⟩ : ∃ W2 : World, W2 = ((((w.alloc (.cells #[.string b.name, .slice A b.ins.length c] 80)).alloc (.cells (Array.replicate (b.ins.length + 1) (Value.slice none 0 0)) 31)).alloc (.cells #[.slice (some ⟨w.heap.size + 1, 0, none⟩) (b.ins.length + 1) (b.ins.length + 1)] 52)).alloc (.map es ec)).alloc (.cells #[.map (some (w.heap.size + 1 + 1 + 1))] 167) := ⟨_, rfl⟩
  have hWs : W2.heap.size = w.heap.size + 1 + 1 + 1 + 1 + 1 := by rw [hW2]; simp
  have hM := (show SetM W2 (w.heap.size + 1 + 1 + 1) S from hs1.keep (by rw [hW2]; exact Below.heap_alloc _ _ _ (by simp)))
  have hBw : Below w.heap.size w W2 := by
    rw [hW2]
    exact (((((Below.refl _ w).alloc (Nat.le_refl _) _).alloc (by simp) _).alloc (by simp; omega) _).alloc (by simp; omega) _).alloc (by simp; omega) _
  have hbB : W2.heap[w.heap.size]? = some (.cells [.string b.name, .slice A b.ins.length c].toArray 80 (0, 0)) := by
    rw [hW2]; exact box_alloc (box_alloc (box_alloc (box_alloc (heap_alloc_new w _) _) _) _) _
  have hOB : W2.heap[w.heap.size + 1]? = some (.cells (List.replicate (b.ins.length + 1) (Value.slice none 0 0)).toArray 31 (0, 0)) := by
    rw [hW2]
    refine box_alloc (box_alloc (box_alloc ?_ _) _) _
    have h := heap_alloc_new (w.alloc (.cells #[.string b.name, .slice A b.ins.length c] 80)) (.cells (Array.replicate (b.ins.length + 1) (Value.slice none 0 0)) 31)
    rw [World.size_alloc] at h
    rw [h]
    simp
  have c5 : W2.cell? ⟨w.heap.size + 1 + 1, 0, none⟩ = some (.slice (some ⟨w.heap.size + 1, 0, none⟩) (b.ins.length + 1) (b.ins.length + 1)) := by
    rw [hW2]
    have h := heap_alloc_new ((w.alloc (.cells #[.string b.name, .slice A b.ins.length c] 80)).alloc (.cells (Array.replicate (b.ins.length + 1) (Value.slice none 0 0)) 31)) (.cells #[.slice (some ⟨w.heap.size + 1, 0, none⟩) (b.ins.length + 1) (b.ins.length + 1)] 52)
    rw [World.size_alloc, World.size_alloc] at h
    exact box_cell (cs := [_]) (box_alloc (box_alloc h _) _) rfl
  have c6 : W2.cell? ⟨w.heap.size + 1 + 1 + 1 + 1, 0, none⟩ = some (.map (some (w.heap.size + 1 + 1 + 1))) := by
    have h := heap_alloc_new ((((w.alloc (.cells #[.string b.name, .slice A b.ins.length c] 80)).alloc (.cells (Array.replicate (b.ins.length + 1) (Value.slice none 0 0)) 31)).alloc (.cells #[.slice (some ⟨w.heap.size + 1, 0, none⟩) (b.ins.length + 1) (b.ins.length + 1)] 52)).alloc (.map es ec)) (.cells #[.map (some (w.heap.size + 1 + 1 + 1))] 167)
    rw [← hW2] at h
    simp only [World.size_alloc] at h
    exact box_cell (cs := [_]) h rfl
  rw [← hW2]
  clear hW2 hs1 cC hmk hs
  have q5 : ∀ w', KS (fun k => k = w.heap.size ∨ k = w.heap.size + 2 ∨ k = w.heap.size + 4) W2 w' → w'.cell? ⟨w.heap.size + 1 + 1, 0, none⟩ = some (.slice (some ⟨w.heap.size + 1, 0, none⟩) (b.ins.length + 1) (b.ins.length + 1)) := fun w' h => h.cell (.inr (.inl rfl)) c5
  have q6 : ∀ w', KS (fun k => k = w.heap.size ∨ k = w.heap.size + 2 ∨ k = w.heap.size + 4) W2 w' → w'.cell? ⟨w.heap.size + 1 + 1 + 1 + 1, 0, none⟩ = some (.map (some (w.heap.size + 1 + 1 + 1))) := fun w' h => h.cell (.inr (.inr rfl)) c6
  have qb : ∀ w', KS (fun k => k = w.heap.size ∨ k = w.heap.size + 2 ∨ k = w.heap.size + 4) W2 w' → w'.cell? ⟨w.heap.size, 1, none⟩ = some (.slice A b.ins.length c) := fun w' h => h.cell (.inl rfl) (box_cell (j := 1) hbB rfl)
  have hdr : KS (fun k => k = w.heap.size ∨ k = w.heap.size + 2 ∨ k = w.heap.size + 4) W2 W2.drew := ⟨Nat.le_refl _, fun _ _ => rfl⟩
  have hset : ∀ X v, KS (fun k => k = w.heap.size ∨ k = w.heap.size + 2 ∨ k = w.heap.size + 4) W2 X → KS (fun k => k = w.heap.size ∨ k = w.heap.size + 2 ∨ k = w.heap.size + 4) W2 (X.setCell ⟨w.heap.size + 1, b.ins.length, none⟩ v) := fun X v h =>
    ⟨by have := h.size; simpa [World.setCell] using this, fun k hk => (Below.heap_setCell _ _ _ _ (by show k ≠ w.heap.size + 1; omega)).trans (h.block k hk)⟩
  have hcall : ∀ X Y, KS (fun k => k = w.heap.size ∨ k = w.heap.size + 2 ∨ k = w.heap.size + 4) W2 X → Below X.heap.size X Y → KS (fun k => k = w.heap.size ∨ k = w.heap.size + 2 ∨ k = w.heap.size + 4) W2 Y := fun X Y h hb =>
    ⟨Nat.le_trans h.size hb.size, fun k hk => (hb.block k (by have := h.size; omega)).trans (h.block k hk)⟩
  have hM0 : SetM W2.drew (w.heap.size + 1 + 1 + 1) S := hM.keep rfl
  have i1 : (0 : Int) ≤ (b.ins.length : Int) := by omega
  have i2 : (b.ins.length : Int) < ((b.ins.length + 1 : Nat) : Int) := by omega
  have i3 : (b.ins.length : Int) < (b.ins.length : Int) + 1 := by omega
  have hfr : ∀ w3 : World, Below W2.drew.heap.size W2.drew w3 → w3.frozen? ⟨w.heap.size + 1, b.ins.length, none⟩ = false := fun w3 h => box_free ((h.block _ (by show w.heap.size + 1 < W2.heap.size; omega)).trans hOB)
  have hcw : ∀ w3 : World, Below W2.drew.heap.size W2.drew w3 → w3.cell? ⟨w.heap.size + 1, b.ins.length, none⟩ = some (.slice none 0 0) := fun w3 h => box_cell ((h.block _ (by show w.heap.size + 1 < W2.heap.size; omega)).trans hOB) (by simp)
  refine wpIn_wide.2 ?_
  go_region_held3 (fun w' => KS (fun k => k = w.heap.size ∨ k = w.heap.size + 2 ∨ k = w.heap.size + 4) W2 w')
    (first | assumption | exact hset _ _ (by assumption))
    (first | ((with_reducible refine (set_list W2.drew hM0 hRR.asc hRR.wf hin.mem hRR.len).mono ?_); rintro e w3 ⟨v0, rfl, ho0, hb0⟩; have hk3 := hcall _ _ hdr hb0; have hf3 := hfr _ hb0; have hc3 := hcw _ hb0; obtain ⟨A0, c0, rfl⟩ := own_form ho0))
  obtain ⟨rr, rk, rb, rO⟩ := (RowsAt.start (W := W2.drew) (S := fun k => k ≤ w.heap.size ∨ k = w.heap.size + 2 ∨ k = w.heap.size + 4) (base := w.heap.size) (O := w.heap.size + 1) (n := b.ins.length + 1) hOB (by omega) (by omega)).put (fun k hk => by show k < W2.heap.size; omega) hb0 (by show w.heap.size ≤ W2.heap.size; omega) (k := b.ins.length) (by simp) ho0
  have hM3 : SetM (w3.setCell ⟨w.heap.size + 1, b.ins.length, none⟩ (.slice A0 (List.filter S R).length c0)) (w.heap.size + 1 + 1 + 1) S := by
    refine hM.keep ((Below.heap_setCell _ _ _ _ (by show w.heap.size + 1 + 1 + 1 ≠ w.heap.size + 1; omega)).trans (hb0.block _ (by show w.heap.size + 1 + 1 + 1 < W2.heap.size; omega)))
  have hK3 := hset _ (.slice A0 (List.filter S R).length c0) hk3
  have hb3 : Below w.heap.size w (w3.setCell ⟨w.heap.size + 1, b.ins.length, none⟩ (.slice A0 (List.filter S R).length c0)) := hBw.trans ⟨rb.os, rb.tape, rb.output, rb.size, rb.block⟩
  have hrk : KS (fun k => k ≤ w.heap.size ∨ k = w.heap.size + 2 ∨ k = w.heap.size + 4) W2 (w3.setCell ⟨w.heap.size + 1, b.ins.length, none⟩ (.slice A0 (List.filter S R).length c0)) := ⟨rk.size, rk.block⟩
  obtain ⟨W3, hW3⟩ : ∃ W3 : World, W3 = w3.setCell ⟨w.heap.size + 1, b.ins.length, none⟩ (.slice A0 (List.filter S R).length c0) := ⟨_, rfl⟩
  rw [← hW3] at rr hM3 hK3 hb3 hrk ⊢
  have hcb := qb _ hK3
  have hW3s := hrk.size
  clear hW3 hset hcall hfr hcw ho0 hM0 rk rb
  gi_wp2_with fail
  refine ⟨trivial, (backward_in Fence.wide 5 trivial rfl A b.ins.length c W3).mono ?_⟩
  rintro e w' ⟨rfl, rfl⟩
  gi_wp2_with fail
  have hSl : ∀ k, ((k ≤ w.heap.size ∨ k = w.heap.size + 2 ∨ k = w.heap.size + 4) ∨ k = W3.heap.size) → k < W3.heap.size + 1 := fun k hk => by omega
  have hRl := (rr.avoid (S' := fun k => (k ≤ w.heap.size ∨ k = w.heap.size + 2 ∨ k = w.heap.size + 4) ∨ k = W3.heap.size) (fun k hk => by omega)).below ((Below.refl W3.heap.size W3).alloc (Nat.le_refl _) (.cells #[.slice A b.ins.length c] 78))
  have hMl : SetM (W3.alloc (.cells #[.slice A b.ins.length c] 78)) (w.heap.size + 1 + 1 + 1) S := hM3.keep (Below.heap_alloc _ _ _ (by omega))
  have hBl : Below w.heap.size w (W3.alloc (.cells #[.slice A b.ins.length c] 78)) := hb3.alloc (by omega) _
  have hLs : (W3.alloc (.cells #[.slice A b.ins.length c] 78)).heap.size = W3.heap.size + 1 := by simp
  have hcB : (W3.alloc (.cells #[.slice A b.ins.length c] 78)).cell? ⟨W3.heap.size, 0, none⟩ = some (.slice A b.ins.length c) := box_cell (cs := [_]) (heap_alloc_new W3 _) rfl
  have hKl : KS (fun k => k = w.heap.size ∨ k = w.heap.size + 2 ∨ k = w.heap.size + 4) W2 (W3.alloc (.cells #[.slice A b.ins.length c] 78)) := hK3.alloc (fun k hk => by omega) _
  obtain ⟨Wl, hWl⟩ : ∃ Wl : World, Wl = W3.alloc (.cells #[.slice A b.ins.length c] 78) := ⟨_, rfl⟩
  rw [← hWl] at hRl hMl hBl hLs hcB hKl ⊢
  rw [← hLs] at hSl
  clear hWl
  obtain ⟨A', c', eA, -, hIR⟩ := tBlock_R.1 HR.out
  obtain ⟨rfl, rfl⟩ : A = A' ∧ c = c' := by simp only [List.cons.injEq, Value.slice.injEq] at eA; exact ⟨eA.2.1.1, eA.2.1.2.2⟩
  have hIl : tIns.slice.RS Wl (fun k => (k ≤ w.heap.size ∨ k = w.heap.size + 2 ∨ k = w.heap.size + 4) ∨ k = W3.heap.size) [.slice A b.ins.length c] b.ins := tIns.slice.keepS hIR (fun k hk => hBl.block k hk) (fun k hk => .inl (.inl (Nat.le_of_lt hk)))
  refine wpIn_rangeFunc_ownH rfl (by decide) (gf := 169) (lb := #[.pointer (some ⟨W3.heap.size, 0, none⟩)]) rfl trivial (enters_of Tryz.func169 (by kernel_rfl) rfl)
    (backward_stops Fence.wide 5 trivial rfl (by decide) b.ins A c W3.heap.size (fun k => (k ≤ w.heap.size ∨ k = w.heap.size + 2 ∨ k = w.heap.size + 4) ∨ k = W3.heap.size) Wl hSl (.inr rfl) hcB hIl hl) ksK_t (ksK_b hSl) (Below.refl _ _) (fun _ => rfl)
    (fun pre W' => (∃ vs, RowsAt W' w.heap.size (fun k => (k ≤ w.heap.size ∨ k = w.heap.size + 2 ∨ k = w.heap.size + 4) ∨ k = W3.heap.size) (w.heap.size + 1) vs (placesN R b.ins S (bkIdx pre)).2 ∧ SetM W' (w.heap.size + 1 + 1 + 1) (placesN R b.ins S (bkIdx pre)).1 ∧ KS (fun k => (k ≤ w.heap.size ∨ k = w.heap.size + 2 ∨ k = w.heap.size + 4) ∨ k = W3.heap.size) Wl W') ∧ Below w.heap.size Wl W')
    (fun _ _ _ => False)
    (OwnFrom.and ?own (ownFrom_below (by omega) (by omega)))
    (fun _ _ _ _ _ hs _ _ => hs)
    ⟨⟨_, hRl, hMl, KS.refl⟩, Below.refl _ _⟩
    (fun x a' W' => ∃ B8, a' = { tmps := #[.agg #[.string b.name, .slice A b.ins.length c], .map (some mb), .pointer (some ⟨w.heap.size, 0, none⟩), undef, .slice none 0 0, .pointer (some ⟨w.heap.size + 1 + 1, 0, none⟩), .pointer (some ⟨w.heap.size + 1 + 1 + 1 + 1, 0, none⟩), .int .i64 ((x.1.1 : Nat) : Int), .pointer (some ⟨B8, 0, none⟩), .pointer (some ⟨w.heap.size, 1, none⟩), .slice A b.ins.length c, .int .i64 b.ins.length, .int .i64 ((b.ins.length : Int) + 1), .slice (some ⟨w.heap.size + 1, 0, none⟩) (b.ins.length + 1) (b.ins.length + 1), .map (some mb), .map (some (w.heap.size + 1 + 1 + 1)), .slice (some ⟨w.heap.size + 1, 0, none⟩) (b.ins.length + 1) (b.ins.length + 1), .pointer (some ⟨w.heap.size, 1, none⟩), .slice A b.ins.length c, .int .i64 b.ins.length, .map (some (w.heap.size + 1 + 1 + 1)), .slice A0 (List.filter S R).length c0, .pointer (some ⟨w.heap.size + 1, b.ins.length, none⟩), .pointer (some ⟨w.heap.size, 1, none⟩), .slice A b.ins.length c, .func (.func 169) #[] #[.pointer (some ⟨W3.heap.size, 0, none⟩)], .int .i64 ((x.1.1 : Nat) : Int), .agg x.1.2.toArray, undef, undef, undef, undef, undef, undef, undef, undef, undef], defers := [] } ∧ W'.heap[B8]? = some (.cells x.1.2.toArray 70 (0, 0))) ?ax ?assign ?body ?done ?stop
  case own =>
    intro s X Y row hs hg hr
    obtain ⟨vs', h1, h2, h3⟩ := hs
    refine ⟨vs', h1.grown hg (fun r e => (hr r e).2), h2.keep (hg.block _ h2.lt fun e => by have := (hr _ e.symm).1; omega), ⟨Nat.le_trans h3.size hg.size, fun k hk => (hg.block k ?_ ?_).trans (h3.block k hk)⟩⟩
    · have := hSl k hk; have := h3.size; omega
    · intro e; have := (hr k e.symm).1; have := hSl k hk; omega
  case ax =>
    rintro x a' _ X Y row ⟨B8, ha, hB8⟩ hg hr
    refine ⟨B8, ha, (hg.block _ (box_lt hB8) fun e => ?_).trans hB8⟩
    obtain ⟨o, ho, hoc⟩ := (hr _ e.symm).2
    rw [hB8] at ho
    cases ho
    cases hoc
  case assign =>
    rintro l pre ⟨⟨j, es⟩, d, hjd, hdR⟩ W K ⟨⟨vs', h1, h2, h3⟩, h4⟩ hK
    obtain ⟨Aa, ca, hI⟩ := tIns_R.1 hdR
    have e := hI.cs
    dsimp only at e
    subst e
    dsimp only [bkEnc]
    gi_wp2
    refine hK _ _ ⟨by simp, fun k o _ hk _ => (Below.heap_alloc _ _ _ (box_lt hk)).trans hk⟩ ⟨by simp, fun k hk => Below.heap_alloc _ _ _ (by have := hSl k hk; have := h3.size; omega)⟩ ⟨⟨vs', h1.below ((Below.refl _ _).alloc (Nat.le_refl _) _), h2.keep (Below.heap_alloc _ _ _ h2.lt), h3.alloc (fun k hk => by have := hSl k hk; have := h3.size; omega) _⟩, h4.alloc (by have := h4.size; omega) _⟩ ⟨W.heap.size, rfl, heap_alloc_new W _⟩
  case body =>
    rintro l pre ⟨⟨j, es⟩, d, hjd, hdR⟩ a' W' _ _ ⟨⟨vs', h1, h2, h3⟩, h4⟩ ⟨B8, rfl, hB8⟩ hlt
    obtain ⟨Aa, ca, hI⟩ := tIns_R.1 hdR
    have e := hI.cs
    dsimp only at e
    subst e
    dsimp only at hjd hB8 ⊢
    have hjl : j < b.ins.length := (List.getElem?_eq_some_iff.1 hjd).1
    have hdm := List.mem_of_getElem? hjd
    have hda := HI.out d hdm
    have hdx := HX.out d hdm
    have e0 := box_cell (j := 0) hB8 rfl
    have e1 := box_cell (j := 1) hB8 rfl
    have e2 := box_cell (j := 2) hB8 rfl
    have e3 := box_cell (j := 3) hB8 rfl
    have e4 := box_cell (j := 4) hB8 rfl
    have e5 := box_cell (j := 5) hB8 rfl
    have e6 := box_cell (j := 6) hB8 rfl
    have e7 := box_cell (j := 7) hB8 rfl
    have e8 := box_cell (j := 8) hB8 rfl
    have c6' := h3.cell (a := ⟨w.heap.size + 1 + 1 + 1 + 1, 0, none⟩) (.inl (.inr (.inr rfl))) (q6 _ hKl)
    have hst : InR R (placesN R b.ins S (bkIdx pre)).1 := placesN_in HX.out hin _
    gi_wp2_with fail
    refine ⟨trivial, callsIn_of ((back_loop d (w.heap.size + 1 + 1 + 1) _ R W' _ (tIns.keepS hdR (fun k hk => h3.block k hk) (fun k hk => by have := hSl k hk; have := h3.size; omega)) hda h2 hRR hst hdx).mono ?_)⟩
    rintro e W4 ⟨rfl, hm4, hg4⟩
    obtain ⟨mes, mec, hmap⟩ := h2.mapAt
    have k3 : KS (fun k => (k ≤ w.heap.size ∨ k = w.heap.size + 2 ∨ k = w.heap.size + 4) ∨ k = W3.heap.size) W' W4 := ⟨hg4.size, fun k hk => hg4.block k (by have := hSl k hk; have := h3.size; omega) (fun e => by injection e; omega)⟩
    have r4 := h1.grown hg4 (fun r e => by injection e with e; subst e; exact ⟨_, hmap, rfl⟩)
    have hf4 : KeepsFrom Wl.heap.size W' W4 := KeepsFrom.of_grownBy hg4 (fun j e => by injection e; omega)
    have hb4 : Below w.heap.size W' W4 := below_of_grown hg4 (by have := h4.size; omega) (by omega)
    have h34 := h3.trans k3
    have c54 := h34.cell (a := ⟨w.heap.size + 1 + 1, 0, none⟩) (.inl (.inr (.inl rfl))) (q5 _ hKl)
    have c64 := h34.cell (a := ⟨w.heap.size + 1 + 1 + 1 + 1, 0, none⟩) (.inl (.inr (.inr rfl))) (q6 _ hKl)
    gi_wp2_with fail
    have j0 : (0 : Int) ≤ (j : Int) := by omega
    have j1 : (j : Int) < (b.ins.length : Int) + 1 := by omega
    have hst4 : InR R (backS d (placesN R b.ins S (bkIdx pre)).1) := hst.back hdx
    refine wpIn_region_round (S := fun X => X.cell? ⟨w.heap.size + 1 + 1, 0, none⟩ = some (.slice (some ⟨w.heap.size + 1, 0, none⟩) (b.ins.length + 1) (b.ins.length + 1)) ∧ X.cell? ⟨w.heap.size + 1 + 1 + 1 + 1, 0, none⟩ = some (.map (some (w.heap.size + 1 + 1 + 1)))) (by kernel_rfl) (by kernel_rfl) (fun _ _ h => h) ⟨c54, c64⟩ (fun hH => ?_)
    refine wpAnyH_take (i := 0) (v := .slice (some ⟨w.heap.size + 1, 0, none⟩) (b.ins.length + 1) (b.ins.length + 1)) rfl (by kernel_rfl) (by kernel_rfl) (by kernel_rfl) (fun _ _ _ h => h) (Or.inl ⟨by rfl, ?_⟩) (by assumption) ?_
    · rintro X ⟨h1, h2⟩
      go_simp
    simp only [Act.put, List.setIfInBounds_toArray]
    refine wpAnyH_take (i := 1) (v := .int .i64 (j : Int)) rfl (by kernel_rfl) (by kernel_rfl) (by kernel_rfl) (fun _ _ _ h => h) (Or.inl ⟨by rfl, ?_⟩) (by assumption) ?_
    · rintro X ⟨h1, h2⟩
      go_simp
    simp only [Act.put]
    refine wpAnyH_take (i := 2) (v := .map (some (w.heap.size + 1 + 1 + 1))) rfl (by kernel_rfl) (by kernel_rfl) (by kernel_rfl) (fun _ _ _ h => h) (Or.inl ⟨by rfl, ?_⟩) (by assumption) ?_
    · rintro X ⟨h1, h2⟩
      go_simp
    simp only [Act.put]
    refine wpAnyH_ready (rs := [3]) (by kernel_rfl) (by simp) ?_
    refine AllReadyH.cons rfl (fun K hK => ?_) AllReadyH.nil
    go_simp
    refine (set_list W4.drew (hm4.keep rfl) hRR.asc hRR.wf hst4.mem hRR.len).mono ?_
    rintro e w5 ⟨v5, rfl, ho5, hb5⟩
    obtain ⟨A5, c5, rfl⟩ := own_form ho5
    have hW4s : Wl.heap.size ≤ W4.heap.size := h34.size
    have r4d : RowsAt W4.drew w.heap.size (fun k => (k ≤ w.heap.size ∨ k = w.heap.size + 2 ∨ k = w.heap.size + 4) ∨ k = W3.heap.size) (w.heap.size + 1) vs' (placesN R b.ins S (bkIdx pre)).2 := r4.keep fun _ _ => rfl
    have hvl : j < vs'.length := by
      have := r4.len
      rw [this, placesN_length]
      omega
    obtain ⟨r5, k5, b5, hO5⟩ := r4d.put (fun k hk => by show k < W4.heap.size; have := hSl k hk; omega) hb5 (by show w.heap.size ≤ W4.heap.size; omega) hvl ho5
    have k45 : KS (fun k => (k ≤ w.heap.size ∨ k = w.heap.size + 2 ∨ k = w.heap.size + 4) ∨ k = W3.heap.size) W4 w5 := ⟨hb5.size, fun k hk => hb5.block k (by show k < W4.heap.size; have := hSl k hk; omega)⟩
    have c55 := k45.cell (a := ⟨w.heap.size + 1 + 1, 0, none⟩) (.inl (.inr (.inl rfl))) c54
    have c65 := k45.cell (a := ⟨w.heap.size + 1 + 1 + 1 + 1, 0, none⟩) (.inl (.inr (.inr rfl))) c64
    have hbx := hO5.trans r4d.box
    have hf5 : w5.frozen? ⟨w.heap.size + 1, j, none⟩ = false := box_free hbx
    obtain ⟨vj, hvj⟩ : ∃ v, vs'[j]? = some v := ⟨_, List.getElem?_eq_getElem hvl⟩
    have hcj := box_cell hbx hvj
    refine hK.out _ _ ⟨c55, c65⟩ (fun hHeld => ?_)
    clear hK K
    refine wpAnyH_take (i := 4) (v := .pointer (some ⟨w.heap.size + 1, j, none⟩)) rfl (by kernel_rfl) (by kernel_rfl) (by kernel_rfl) (fun _ _ _ h => h) (Or.inl ⟨by rfl, ?_⟩) (by assumption) ?_
    · rintro X ⟨h1, h2⟩
      go_simp
    simp only [Act.put, List.setIfInBounds_toArray]
    refine wpAnyH_ready (rs := [5]) (by kernel_rfl) (by simp) ?_
    refine AllReadyH.cons rfl (fun K hK => ?_) AllReadyH.nil
    go_simp
    have k4f : KS (fun k => (k ≤ w.heap.size ∨ k = w.heap.size + 2 ∨ k = w.heap.size + 4) ∨ k = W3.heap.size) W4 (w5.setCell ⟨w.heap.size + 1, j, none⟩ (.slice A5 (List.filter (backS d (placesN R b.ins S (bkIdx pre)).fst) R).length c5)) := ⟨k5.size, k5.block⟩
    refine hK.out _ _ ⟨k4f.cell (a := ⟨w.heap.size + 1 + 1, 0, none⟩) (.inl (.inr (.inl rfl))) c54, k4f.cell (a := ⟨w.heap.size + 1 + 1 + 1 + 1, 0, none⟩) (.inl (.inr (.inr rfl))) c64⟩ (fun hHeld => ?_)
    clear hK K
    refine wpAnyH_done (by kernel_rfl) ?_ _
    have hstep : stepB b.ins (placesN R b.ins S (bkIdx pre)).1 j = backS d (placesN R b.ins S (bkIdx pre)).1 := by unfold stepB; rw [hjd]
    refine ⟨⟨Nat.le_trans hf4.size k5.size, fun k o hB hk ho => ?_⟩, k3.trans k4f, ⟨⟨vs'.set j (.slice A5 (List.filter (backS d (placesN R b.ins S (bkIdx pre)).fst) R).length c5), ?_, ?_, h34.trans k4f⟩, h4.trans (hb4.trans ⟨b5.os, b5.tape, b5.output, b5.size, b5.block⟩)⟩⟩
    · have hk4 := hf4.same k o hB hk ho
      exact (Below.heap_setCell _ _ _ _ (by show k ≠ w.heap.size + 1; omega)).trans ((hb5.block k (box_lt hk4)).trans hk4)
    · rw [placesN_bk]
      unfold stepP
      dsimp only
      rw [hstep]
      exact r5
    · rw [placesN_bk]
      unfold stepP
      dsimp only
      rw [hstep]
      exact hm4.keep ((Below.heap_setCell _ _ _ _ (by show w.heap.size + 1 + 1 + 1 ≠ w.heap.size + 1; omega)).trans (hb5.block _ hm4.lt))
  case done =>
    rintro D ys W' hDl hys ⟨⟨vs', h1, h2, h3⟩, h4⟩ hDo
    have c5' := h3.cell (a := ⟨w.heap.size + 1 + 1, 0, none⟩) (.inl (.inr (.inl rfl))) (q5 _ hKl)
    gi_wp2
    refine ⟨by simp, .inl ⟨_, _, rfl, run_takeDeferred hDo, ?_⟩⟩
    refine ⟨_, results_tmp rfl _ _ _, ?_⟩
    refine ⟨w.heap.size + 1, rfl, ⟨vs', ?_⟩, hBl.trans (h4.trans (belowK_b (w := w) (Nat.le_refl _) W' D _ _ (by omega) hDo rfl rfl))⟩
    unfold placesL
    rw [← hys]
    exact (h1.grown (grownBy_putObj' W' D _) (fun r e => by cases e; exact ⟨_, hDo, rfl⟩)).avoid (fun _ h => h.elim)
  case stop =>
    rintro D c pre W _ _ h _
    exact h.elim
end Mu
end
section
/-
  muntinref17: reads, behind, walked.
  Conditions: at most 2^21 of everything.
-/
namespace Mu
open Go Go.RowKit Go.Proofs

/-- read ahead of any write; written -/
def readsP (r : Int) : List Ins → Bool × Bool
  | [] => (false, false)
  | x :: ds => if (readsC x).contains r then (true, false) else if writesB x && x.d == r then (false, true) else readsP r ds
theorem readsP_cons (r : Int) (x : Ins) (ds : List Ins) : readsP r (x :: ds) = if (readsC x).contains r then (true, false) else if writesB x && x.d == r then (false, true) else readsP r ds := rfl
theorem readsP_rd (r : Int) (ds : List Ins) : (readsP r ds).1 = rdB r ds ∧ ((readsP r ds).1 = false → (!(readsP r ds).2) = thru r ds) := by
  induction ds with
  | nil => simp [readsP, rdB, thru]
  | cons x ds ih =>
    unfold readsP rdB thru
    cases h1 : (readsC x).contains r
    · cases h2 : (writesB x && x.d == r)
      · simpa using ih
      · simp
    · simp
theorem readsP_in (r : Int) (ds : List Ins) (S : Int → Bool) : ((readsP r ds).1 || (!(readsP r ds).2 && S r)) = inS ds S r := by
  rw [inS_eq]
  obtain ⟨h1, h2⟩ := readsP_rd r ds
  rw [← h1]
  cases h : (readsP r ds).1
  · rw [← h2 h]
  · simp
structure smallB (b : Block) : Prop where
  ins : b.ins.length ≤ 2097152
  all : ∀ x ∈ b.ins, x.args.length + 8 ≤ 2097152
structure smallF (f : Func) : Prop where
  blocks : f.blocks.length ≤ 2097152
  all : ∀ b ∈ f.blocks, smallB b

theorem readsC_len2 (x : Ins) : (readsC x).length ≤ x.args.length + 2 := by
  unfold readsC
  simp only [List.length_append]
  split <;> split <;> split <;> simp <;> omega

set_option maxRecDepth 100000 in
set_option maxHeartbeats 1000000 in
theorem reads17_fn (b : Block) (i : Nat) (r : Int) (ho : okBlock b) (hs : smallB b) (hi : i ≤ b.ins.length) : Fn Tryz.prog 87 [.agg (encBlock b), .lit (.int .i64 (i : Int)), .lit (.int .i64 r)]
    (.tup [.lit (.bool (readsP r (b.ins.drop i)).1), .lit (.bool (readsP r (b.ins.drop i)).2)]) := by
  have hsl := hs.ins
  refine Fn.of_awp2 Tryz.func87 rfl (by kernel_rfl) rfl Tryz.ntmps87 fun C hC => ?_
  simp only [List.length_cons, List.length_nil, Nat.reduceAdd, Nat.reduceSub, List.replicate_succ, List.replicate_zero, List.cons_append, List.nil_append]
  refine Awp.seq fun K1 h1 => ?_
  (refine Awp.region ?_; (repeat (first | refine sQ (hk := ?_) | refine sSkip (hk := ?_) | refine sOwn (hk := ?_))); refine aSeq_nil ?_)
  refine h1 _ ?_
  refine nT (hk := ?_)
  refine Awp.seq fun K2 h2 => ?_
  refine Awp.seq fun K3 h3 => ?_
  (refine Awp.region ?_; (repeat (first | refine sQ (hk := ?_) | refine sSkip (hk := ?_) | refine sOwn (hk := ?_))); refine aSeq_nil ?_)
  refine h3 _ ?_
  refine nT (hk := ?_)
  refine Awp.block ?_
  refine Awp.loopF (fun k : Nat => ⟨[.any, .any, .lit (.int .i64 r), .ptr 0 0, .any, .any, .any, .any, .lit (.int .i64 (k : Int)), .any, .any, .any, .any, .any, .any, .any, .any, .any, .any, .any, .any, .any, .any, .any, .any, .any, .any, .any, .any, .any, .any, .any, .any, .any, .any, .any, .any, .any, .any, .any, .any, .any], [.box (encBlock b)]⟩) (fun k => k ≤ b.ins.length ∧ readsP r (b.ins.drop k) = readsP r (b.ins.drop i)) (fun k => b.ins.length - k) i ⟨hi, rfl⟩ (le_T) ?_
  rintro k ⟨hk, he⟩
  refine Awp.seq fun K5 h5 => ?_
  refine Awp.seq fun K6 h6 => ?_
  (refine Awp.region ?_; (repeat (first | refine sQ (hk := ?_) | refine sSkip (hk := ?_) | refine sOwn (hk := ?_))); refine aSeq_nil ?_)
  refine h6 _ ?_
  refine nT (hk := ?_)
  refine Awp.cond rfl (fun hb7 => ?_) (fun hb7 => ?_)
  · refine Awp.skip ?_
    refine h5 _ ?_
    refine nT (hk := ?_)
    have hlt : k < b.ins.length := by simpa using hb7
    obtain ⟨x, hx⟩ : ∃ x, b.ins[k]? = some x := ⟨_, List.getElem?_eq_getElem hlt⟩
    have hxo := ho.ins x (List.mem_of_getElem? hx)
    have hxa := hs.all x (List.mem_of_getElem? hx)
    have hdr : b.ins.drop k = x :: b.ins.drop (k + 1) := by
      rw [List.drop_eq_getElem_cons hlt]
      congr 1
      rw [List.getElem?_eq_getElem hlt] at hx
      injection hx
    rw [hdr, readsP_cons] at he
    refine Awp.seq fun K8 h8 => ?_
    refine Awp.block ?_
    refine Awp.seq fun K9 h9 => ?_
    refine Awp.seq fun K10 h10 => ?_
    (refine Awp.region ?_; (repeat (first | refine sQ (hq := Quiet.call rfl (ref_reads_fn x hxo (by omega)) rfl rfl rfl) (hk := ?_) | refine sQ (hq := Quiet.call rfl (in17_fn (readsC x) r (by have := readsC_len2 x; omega)) rfl rfl rfl) (hk := ?_) | refine sQ (hk := ?_) | refine sSkip (hk := ?_) | refine sOwn (hk := ?_))); refine aSeq_nil ?_)
    refine h10 _ ?_
    refine nT (hk := ?_)
    refine Awp.cond rfl (fun hb11 => ?_) (fun hb11 => ?_)
    · refine Awp.seq fun K12 h12 => ?_
      (refine Awp.region ?_; (repeat (first | refine sQ (hk := ?_) | refine sSkip (hk := ?_) | refine sOwn (hk := ?_))); refine aSeq_nil ?_)
      refine h12 _ ?_
      refine nT (hk := ?_)
      refine Awp.ret ?_
      rw [hb11, if_pos rfl] at he
      exact ⟨.inr rfl, _, _, Fin.cl rfl, by rw [← he]; rfl, by rw [← he]; rfl⟩
    · refine Awp.skip ?_
      refine h9 _ ?_
      refine nT (hk := ?_)
      rw [hb11, if_neg (by simp)] at he
      refine Awp.seq fun K13 h13 => ?_
      (refine Awp.region ?_; (repeat (first | refine sQ (hq := Quiet.call rfl (ref_writes_fn x hxo) rfl rfl rfl) (hk := ?_) | refine sQ (hk := ?_) | refine sSkip (hk := ?_) | refine sOwn (hk := ?_))); refine aSeq_nil ?_)
      refine h13 _ ?_
      refine nT (hk := ?_)
      refine Awp.seq fun K14 h14 => ?_
      rcases hw : writesB x with _ | _
      · rw [hw] at he
        (refine Awp.region ?_; (repeat (first | refine sQ (hk := ?_) | refine sSkip (hk := ?_) | refine sOwn (hk := ?_))); refine aSeq_nil ?_)
        refine h14 _ ?_
        refine nT (hk := ?_)
        refine Awp.cond rfl (fun hb15 => by cases hb15) (fun hb15 => ?_)
        refine Awp.skip ?_
        refine h8 _ ?_
        refine nT (hk := ?_)
        (refine Awp.region ?_; (repeat (first | refine sQ (hk := ?_) | refine sSkip (hk := ?_) | refine sOwn (hk := ?_))); refine aSeq_nil ?_)
        refine athen_n ⟨k + 1, ⟨by omega, by simpa using he⟩, by omega, le_T⟩
      · rw [hw] at he
        (refine Awp.region ?_; (repeat (first | refine sQ (hk := ?_) | refine sSkip (hk := ?_) | refine sOwn (hk := ?_))); refine aSeq_nil ?_)
        refine h14 _ ?_
        refine nT (hk := ?_)
        refine Awp.cond rfl (fun hb15 => ?_) (fun hb15 => ?_)
        · refine Awp.seq fun K16 h16 => ?_
          (refine Awp.region ?_; (repeat (first | refine sQ (hk := ?_) | refine sSkip (hk := ?_) | refine sOwn (hk := ?_))); refine aSeq_nil ?_)
          refine h16 _ ?_
          refine nT (hk := ?_)
          refine Awp.ret ?_
          rw [Bool.true_and, if_pos (by simpa using hb15)] at he
          exact ⟨.inr rfl, _, _, Fin.cl rfl, by rw [← he]; rfl, by rw [← he]; rfl⟩
        · refine Awp.skip ?_
          refine h8 _ ?_
          refine nT (hk := ?_)
          (refine Awp.region ?_; (repeat (first | refine sQ (hk := ?_) | refine sSkip (hk := ?_) | refine sOwn (hk := ?_))); refine aSeq_nil ?_)
          refine athen_n ⟨k + 1, ⟨by omega, by rw [Bool.true_and, if_neg (by simpa using hb15)] at he; exact he⟩, by omega, le_T⟩
  · refine Awp.exit ?_
    refine h2 _ ?_
    refine nT (hk := ?_)
    have : k = b.ins.length := by have : ¬ k < b.ins.length := by simpa using hb7
                                  omega
    subst this
    rw [List.drop_length] at he
    refine Awp.seq fun K17 h17 => ?_
    (refine Awp.region ?_; (repeat (first | refine sQ (hk := ?_) | refine sSkip (hk := ?_) | refine sOwn (hk := ?_))); refine aSeq_nil ?_)
    refine h17 _ ?_
    refine nT (hk := ?_)
    refine Awp.ret ?_
    exact ⟨.inr rfl, _, _, Fin.cl rfl, by rw [← he]; rfl, by rw [← he]; rfl⟩
end Mu
end
section
/-
  muntinref17.Great, muntinref15.Same, walked.
  Conditions: at most 2^21 of everything.
-/
namespace Mu
open Go Go.RowKit Go.Proofs

def sumA (l : List Ins) (m : Nat) : Nat := ((l.take m).map fun x => x.args.length).sum
def sumB (f : Func) (b : Nat) : Nat := ((f.blocks.take b).map fun bl => bl.ins.length + sumA bl.ins 200).sum
def great17 (f : Func) : Bool := decide (40 < f.blocks.length) || decide (250 < sumB f 60)
theorem sumA_succ {l : List Ins} {m : Nat} {x : Ins} (hx : l[m]? = some x) : sumA l (m + 1) = sumA l m + x.args.length := by
  unfold sumA
  rw [List.take_add_one, hx, List.map_append, List.sum_append]
  simp
theorem sumB_succ {f : Func} {b : Nat} {x : Block} (hx : f.blocks[b]? = some x) : sumB f (b + 1) = sumB f b + (x.ins.length + sumA x.ins 200) := by
  unfold sumB
  rw [List.take_add_one, hx, List.map_append, List.sum_append]
  simp
theorem sumA_le {l : List Ins} (h : ∀ x ∈ l, x.args.length ≤ 2097152) (m : Nat) : sumA l m ≤ m * 2097152 := by
  induction m with
  | zero => simp [sumA]
  | succ m ih =>
    cases hx : l[m]? with
    | none =>
      have : sumA l (m + 1) = sumA l m := by unfold sumA; rw [List.take_add_one, hx]; simp
      omega
    | some x =>
      rw [sumA_succ hx]
      have := h x (List.mem_of_getElem? hx)
      omega
theorem sumB_le {f : Func} (hs : smallF f) (b : Nat) : sumB f b ≤ b * 421527552 := by
  induction b with
  | zero => simp [sumB]
  | succ b ih =>
    cases hx : f.blocks[b]? with
    | none =>
      have : sumB f (b + 1) = sumB f b := by unfold sumB; rw [List.take_add_one, hx]; simp
      omega
    | some x =>
      rw [sumB_succ hx]
      have h1 := hs.all x (List.mem_of_getElem? hx)
      have h2 := h1.ins
      have h3 := sumA_le (l := x.ins) (fun y hy => by have := h1.all y hy; omega) 200
      omega
theorem sumA_end {l : List Ins} {i : Nat} (hi : i ≤ l.length) (h : ¬ (i < l.length ∧ i < 200)) (h2 : i ≤ 200) : sumA l i = sumA l 200 := by
  by_cases hl : i < l.length
  · have : i = 200 := by omega
    rw [this]
  · have : i = l.length := by omega
    unfold sumA
    rw [List.take_of_length_le (by omega), List.take_of_length_le (by omega)]
theorem sumB_end {f : Func} {b : Nat} (hi : b ≤ f.blocks.length) (h : ¬ (b < f.blocks.length ∧ b < 60)) (h2 : b ≤ 60) : sumB f b = sumB f 60 := by
  by_cases hl : b < f.blocks.length
  · have : b = 60 := by omega
    rw [this]
  · have : b = f.blocks.length := by omega
    unfold sumB
    rw [List.take_of_length_le (by omega), List.take_of_length_le (by omega)]
theorem two_tests {p q : Bool} (h : ¬ (p = true ∧ q = true)) : p = false ∨ (p = true ∧ q = false) := by cases p <;> cases q <;> simp at h ⊢

set_option maxRecDepth 100000 in
set_option maxHeartbeats 4000000 in
theorem great17_fn (f : Func) (hs : smallF f) : Fn Tryz.prog 28 [.agg (encFunc f)] (.lit (.bool (great17 f))) := by
  have hbl := hs.blocks
  refine Fn.of_awp Tryz.func28 rfl (by kernel_rfl) rfl Tryz.ntmps28 fun C hC => ?_
  simp only [List.length_cons, List.length_nil, Nat.reduceAdd, Nat.reduceSub, List.replicate_succ, List.replicate_zero, List.cons_append, List.nil_append]
  refine Awp.seq fun K1 h1 => ?_
  (refine Awp.region ?_; (repeat (first | refine sQ (hk := ?_) | refine sSkip (hk := ?_) | refine sOwn (hk := ?_))); refine aSeq_nil ?_)
  refine h1 _ ?_
  refine nT (hk := ?_)
  refine Awp.seq fun K2 h2 => ?_
  (refine Awp.region ?_; (repeat (first | refine sQ (hk := ?_) | refine sSkip (hk := ?_) | refine sOwn (hk := ?_))); refine aSeq_nil ?_)
  refine h2 _ ?_
  refine nT (hk := ?_)
  refine Awp.seq fun K3 h3 => ?_
  refine Awp.seq fun K4 h4 => ?_
  (refine Awp.region ?_; (repeat (first | refine sQ (hk := ?_) | refine sSkip (hk := ?_) | refine sOwn (hk := ?_))); refine aSeq_nil ?_)
  refine h4 _ ?_
  refine nT (hk := ?_)
  refine Awp.block ?_
  refine Awp.loopF (fun b : Nat => ⟨[.any, .ptr 0 0, .any, .lit (.int .i64 (sumB f b : Int)), .lit (.int .i64 (b : Int)), .any, .any, .any, .any, .any, .any, .any, .any, .any, .any, .any, .any, .any, .any, .any, .any, .any, .any, .any, .any, .any, .any, .any, .any, .any, .any, .any, .any, .any, .any, .any, .any, .any, .any, .any, .any, .any, .any, .any, .any, .any, .any, .any, .any, .any, .any, .any, .any, .any, .any, .any, .any, .any, .any, .any, .any, .any], [.box (encFunc f)]⟩) (fun b => b ≤ f.blocks.length ∧ b ≤ 60) (fun b => f.blocks.length - b) 0 ⟨Nat.zero_le _, Nat.zero_le _⟩ (le_T) ?_
  rintro b ⟨hb, hb60⟩
  have hsb := sumB_le hs b
  refine Awp.seq fun K5 h5 => ?_
  by_cases hgo : b < f.blocks.length ∧ b < 60
  · have hd1 : decide ((b : Int) < (f.blocks.length : Int)) = true := by simpa using hgo.1
    have hd2 : decide ((b : Int) < 60) = true := by simp; omega
    obtain ⟨bl, hbk⟩ : ∃ bl, f.blocks[b]? = some bl := ⟨_, List.getElem?_eq_getElem hgo.1⟩
    have hbs := hs.all bl (List.mem_of_getElem? hbk)
    have hbi := hbs.ins
    have hsuc := sumB_succ hbk
    refine Awp.seq fun K6 h6 => ?_
    (refine Awp.region ?_; (repeat (first | refine sQ (hk := ?_) | refine sSkip (hk := ?_) | refine sOwn (hk := ?_))); refine aSeq_nil ?_)
    refine h6 _ ?_
    refine nT (hk := ?_)
    refine Awp.cond rfl (fun hb7 => ?_) (fun hb => by cases hb)
    refine Awp.skip ?_
    refine h5 _ ?_
    refine nT (hk := ?_)
    refine Awp.seq fun K8 h8 => ?_
    refine Awp.block ?_
    refine Awp.seq fun K9 h9 => ?_
    (refine Awp.region ?_; (repeat (first | refine sQ (hk := ?_) | refine sSkip (hk := ?_) | refine sOwn (hk := ?_))); refine aSeq_nil ?_)
    refine h9 _ ?_
    refine nT (hk := ?_)
    refine Awp.seq fun K10 h10 => ?_
    (refine Awp.region ?_; (repeat (first | refine sQ (hk := ?_) | refine sSkip (hk := ?_) | refine sOwn (hk := ?_))); refine aSeq_nil ?_)
    refine h10 _ ?_
    refine nT (hk := ?_)
    refine Awp.block ?_
    refine Awp.loopF (fun i : Nat => ⟨[.any, .ptr 0 0, .any, .lit (.int .i64 ((sumB f b + bl.ins.length + sumA bl.ins i : Nat) : Int)), .lit (.int .i64 (b : Int)), .lit (.int .i64 (i : Int)), .any, .any, .any, .any, .any, .any, .any, .any, .any, .any, .any, .any, .any, .any, .any, .any, .any, .any, .any, .any, .any, .any, .any, .any, .any, .any, .any, .any, .any, .any, .any, .any, .any, .any, .any, .any, .any, .any, .any, .any, .any, .any, .any, .any, .any, .any, .any, .any, .any, .any, .any, .any, .any, .any, .any, .any], [.box (encFunc f)]⟩) (fun i => i ≤ bl.ins.length ∧ i ≤ 200) (fun i => bl.ins.length - i) 0 ⟨Nat.zero_le _, Nat.zero_le _⟩ (le_T) ?_
    rintro i ⟨hi, hi200⟩
    have hsa := sumA_le (l := bl.ins) (fun y hy => by have := hbs.all y hy; omega) i
    refine Awp.seq fun K11 h11 => ?_
    by_cases hgi : i < bl.ins.length ∧ i < 200
    · have hd3 : decide ((i : Int) < (bl.ins.length : Int)) = true := by simpa using hgi.1
      have hd4 : decide ((i : Int) < 200) = true := by simp; omega
      obtain ⟨x, hx⟩ : ∃ x, bl.ins[i]? = some x := ⟨_, List.getElem?_eq_getElem hgi.1⟩
      have hxa := hbs.all x (List.mem_of_getElem? hx)
      have hsx := sumA_succ hx
      refine Awp.seq fun K12 h12 => ?_
      (refine Awp.region ?_; (repeat (first | refine sQ (hk := ?_) | refine sSkip (hk := ?_) | refine sOwn (hk := ?_))); refine aSeq_nil ?_)
      refine h12 _ ?_
      refine nT (hk := ?_)
      refine Awp.cond rfl (fun hb13 => ?_) (fun hb => by cases hb)
      refine Awp.skip ?_
      refine h11 _ ?_
      refine nT (hk := ?_)
      refine Awp.seq fun K14 h14 => ?_
      refine Awp.block ?_
      (refine Awp.region ?_; (repeat (first | refine sQ (hk := ?_) | refine sSkip (hk := ?_) | refine sOwn (hk := ?_))); refine aSeq_nil ?_)
      refine h14 _ ?_
      refine nT (hk := ?_)
      (refine Awp.region ?_; (repeat (first | refine sQ (hk := ?_) | refine sSkip (hk := ?_) | refine sOwn (hk := ?_))); refine aSeq_nil ?_)
      refine athen_n ⟨i + 1, ⟨by omega, by omega⟩, by omega, ?_⟩
      rw [hsx, ← Nat.add_assoc]
      exact le_T
    · have htt : decide ((i : Int) < (bl.ins.length : Int)) = false ∨ (decide ((i : Int) < (bl.ins.length : Int)) = true ∧ decide ((i : Int) < 200) = false) := two_tests fun h => hgi ⟨by simpa using h.1, by have := of_decide_eq_true h.2; omega⟩
      refine Awp.seq fun K12 h12 => ?_
      have hse := sumA_end hi hgi hi200
      have hfin : ∀ s' : St, St.le C s' ⟨[.any, .ptr 0 0, .any, .lit (.int .i64 ((sumB f b + bl.ins.length + sumA bl.ins 200 : Nat) : Int)), .lit (.int .i64 (b : Int)), .any, .any, .any, .any, .any, .any, .any, .any, .any, .any, .any, .any, .any, .any, .any, .any, .any, .any, .any, .any, .any, .any, .any, .any, .any, .any, .any, .any, .any, .any, .any, .any, .any, .lit (.bool false), .any, .any, .any, .any, .any, .any, .any, .any, .any, .any, .any, .any, .any, .any, .any, .any, .any, .any, .any, .any, .any, .any, .any], [.box (encFunc f)]⟩ → K12 s' := fun s' hle => by
        refine h12 _ (Awp.via _ hle ?_)
        refine Awp.cond rfl (fun hb => by cases hb) (fun hb => ?_)
        refine Awp.exit ?_
        refine h8 _ ?_
        refine nT (hk := ?_)
        (refine Awp.region ?_; (repeat (first | refine sQ (hk := ?_) | refine sSkip (hk := ?_) | refine sOwn (hk := ?_))); refine aSeq_nil ?_)
        refine athen_n ⟨b + 1, ⟨by omega, by omega⟩, by omega, ?_⟩
        rw [hsuc, ← Nat.add_assoc]
        exact le_T
      rw [← hse] at hfin
      rcases htt with q1 | ⟨q1, q2⟩
      all_goals
        (refine Awp.region ?_; (repeat (first | refine sQ (hk := ?_) | refine sSkip (hk := ?_) | refine sOwn (hk := ?_))); refine aSeq_nil ?_)
        refine athen_n (hfin _ ?_)
        exact le_T
  · have htt : decide ((b : Int) < (f.blocks.length : Int)) = false ∨ (decide ((b : Int) < (f.blocks.length : Int)) = true ∧ decide ((b : Int) < 60) = false) := two_tests fun h => hgo ⟨by simpa using h.1, by have := of_decide_eq_true h.2; omega⟩
    refine Awp.seq fun K6 h6 => ?_
    have hse := sumB_end hb hgo hb60
    have hfin : ∀ s' : St, St.le C s' ⟨[.any, .ptr 0 0, .any, .lit (.int .i64 (sumB f 60 : Int)), .any, .any, .any, .any, .any, .any, .any, .any, .any, .any, .lit (.bool false), .any, .any, .any, .any, .any, .any, .any, .any, .any, .any, .any, .any, .any, .any, .any, .any, .any, .any, .any, .any, .any, .any, .any, .any, .any, .any, .any, .any, .any, .any, .any, .any, .any, .any, .any, .any, .any, .any, .any, .any, .any, .any, .any, .any, .any, .any, .any], [.box (encFunc f)]⟩ → K6 s' := fun s' hle => by
      refine h6 _ (Awp.via _ hle ?_)
      refine Awp.cond rfl (fun hb => by cases hb) (fun hb => ?_)
      refine Awp.exit ?_
      refine h3 _ ?_
      refine nT (hk := ?_)
      refine Awp.seq fun K20 h20 => ?_
      have hg1 : decide ((f.blocks.length : Int) > 40) = decide (40 < f.blocks.length) := by rw [decide_eq_decide]; omega
      have hg2 : decide ((sumB f 60 : Int) > 250) = decide (250 < sumB f 60) := by rw [decide_eq_decide]; omega
      rcases hq1 : decide (40 < f.blocks.length) with _ | _
      · rw [hq1] at hg1
        (refine Awp.region ?_; (repeat (first | refine sQ (hk := ?_) | refine sSkip (hk := ?_) | refine sOwn (hk := ?_))); refine aSeq_nil ?_)
        refine h20 _ ?_
        refine nT (hk := ?_)
        refine Awp.ret ?_
        have : great17 f = decide (250 < sumB f 60) := by unfold great17; rw [hq1]; rfl
        rw [this]
        exact ⟨.inr rfl, Fin.cl rfl⟩
      · rw [hq1] at hg1
        (refine Awp.region ?_; (repeat (first | refine sQ (hk := ?_) | refine sSkip (hk := ?_) | refine sOwn (hk := ?_))); refine aSeq_nil ?_)
        refine h20 _ ?_
        refine nT (hk := ?_)
        refine Awp.ret ?_
        have : great17 f = true := by unfold great17; rw [hq1]; rfl
        rw [this]
        exact ⟨.inr rfl, Fin.cl rfl⟩
    rw [← hse] at hfin
    rcases htt with q1 | ⟨q1, q2⟩
    all_goals
      (refine Awp.region ?_; (repeat (first | refine sQ (hk := ?_) | refine sSkip (hk := ?_) | refine sOwn (hk := ?_))); refine aSeq_nil ?_)
      refine athen_n (hfin _ ?_)
      exact le_T

end Mu
end
section
/-
  What is live, by the list of what waits: plain.
  Conditions: none.
-/
namespace Mu
open Go

/-- from where one goes to a block -/
def befL (f : Func) (b : Nat) : List Int := (befN f f.blocks.length).getD b []
theorem addsB_mem {f : Func} (m b : Nat) (hb : b < f.blocks.length) : ∀ (pre : List (Blk f)) (ls : List (List Int)), ls.length = f.blocks.length → ∀ x, x ∈ (addsB m pre ls).getD b [] ↔ x ∈ ls.getD b [] ∨ (x = (m : Int) ∧ ∃ y ∈ pre, y.1 = b)
  | [], ls, _, x => by simp [addsB]
  | y :: pre, ls, hl, x => by
    show x ∈ (addsB m pre (addB m ls y)).getD b [] ↔ _
    rw [addsB_mem m b hb pre (addB m ls y) (by simp [addB, hl]) x]
    have key : x ∈ (addB m ls y).getD b [] ↔ x ∈ ls.getD b [] ∨ (x = (m : Int) ∧ y.1 = b) := by
      unfold addB
      by_cases hy : y.1 = b
      · rw [← hy, List.getD_eq_getElem?_getD, List.getElem?_set_self (by rw [hl]; exact y.2)]
        simp
      · rw [List.getD_eq_getElem?_getD, List.getElem?_set_ne hy, ← List.getD_eq_getElem?_getD]
        simp [hy]
    rw [key]
    constructor
    · rintro ((h | h) | ⟨h1, z, h2, h3⟩)
      · exact .inl h
      · exact .inr ⟨h.1, y, by simp, h.2⟩
      · exact .inr ⟨h1, z, by simp [h2], h3⟩
    · rintro (h | ⟨h1, z, h2, h3⟩)
      · exact .inl (.inl h)
      · rcases List.mem_cons.1 h2 with rfl | h2
        · exact .inl (.inr ⟨h1, h3⟩)
        · exact .inr ⟨h1, z, h2, h3⟩
theorem befN_mem {f : Func} (b : Nat) (hb : b < f.blocks.length) : ∀ (m : Nat) (x : Int), x ∈ (befN f m).getD b [] ↔ ∃ k : Nat, k < m ∧ Edge f k b ∧ x = (k : Int)
  | 0, x => by
    rw [befN, List.getD_eq_getElem?_getD, List.getElem?_replicate]
    split <;> simp
  | m + 1, x => by
    rw [befN, addsB_mem m b hb _ _ (befN_length f m), befN_mem b hb m]
    constructor
    · rintro (⟨k, h1, h2, h3⟩ | ⟨h1, y, h2, h3⟩)
      · exact ⟨k, by omega, h2, h3⟩
      · exact ⟨m, by omega, ⟨y, h2, h3⟩, h1⟩
    · rintro ⟨k, h1, h2, h3⟩
      by_cases hk : k = m
      · subst hk
        obtain ⟨y, h4, h5⟩ := h2
        exact .inr ⟨h3, y, h4, h5⟩
      · exact .inl ⟨k, by omega, h2, h3⟩
theorem edge_src {f : Func} {k b : Nat} (h : Edge f k b) : k < f.blocks.length ∧ b < f.blocks.length := by
  obtain ⟨y, h1, rfl⟩ := h
  refine ⟨?_, y.2⟩
  unfold nextS at h1
  rw [if_pos (by omega)] at h1
  simp only [Int.toNat_natCast] at h1
  cases hk : f.blocks[k]? with
  | none => rw [hk] at h1; cases h1
  | some bl => exact (List.getElem?_eq_some_iff.1 hk).1
theorem befL_mem {f : Func} {b : Nat} (hb : b < f.blocks.length) (x : Int) : x ∈ befL f b ↔ ∃ k : Nat, Edge f k b ∧ x = (k : Int) := by
  unfold befL
  rw [befN_mem b hb]
  constructor
  · rintro ⟨k, _, h2, h3⟩
    exact ⟨k, h2, h3⟩
  · rintro ⟨k, h2, h3⟩
    exact ⟨k, (edge_src h2).1, h2, h3⟩

def at_ (Ss : List (Int → Bool)) (k : Nat) : Int → Bool := Ss.getD k fun _ => false
theorem at_set {Ss : List (Int → Bool)} {k j : Nat} {S : Int → Bool} (hk : k < Ss.length) : at_ (Ss.set k S) j = if j = k then S else at_ Ss j := by
  unfold at_
  by_cases hj : j = k
  · subst hj
    rw [if_pos rfl, List.getD_eq_getElem?_getD, List.getElem?_set_self hk]
    rfl
  · rw [if_neg hj, List.getD_eq_getElem?_getD, List.getElem?_set_ne (Ne.symm hj), ← List.getD_eq_getElem?_getD]
/-- how much is lacking -/
def lackS (L : List Int) (Ss : List (Int → Bool)) : Nat := (Ss.map fun S => L.length - (L.filter S).length).sum
theorem lack_set {L : List Int} : ∀ {Ss : List (Int → Bool)} {k : Nat} {S N : Int → Bool}, Ss[k]? = some S → (L.filter S).length < (L.filter N).length → lackS L (Ss.set k N) < lackS L Ss
  | [], k, S, N, h, _ => by simp at h
  | T :: Ss, 0, S, N, h, hlt => by
    have h : T = S := by simpa using h
    subst h
    have := List.length_filter_le N L
    simp only [lackS, List.set_cons_zero, List.map_cons, List.sum_cons]
    omega
  | T :: Ss, k + 1, S, N, h, hlt => by
    have := lack_set (L := L) (Ss := Ss) (k := k) (by simpa using h) hlt
    simp only [lackS, List.set_cons_succ, List.map_cons, List.sum_cons] at this ⊢
    omega
theorem lack_le (L : List Int) (Ss : List (Int → Bool)) : lackS L Ss ≤ Ss.length * L.length := by
  induction Ss with
  | nil => simp [lackS]
  | cons S Ss ih =>
    simp only [lackS, List.map_cons, List.sum_cons, List.length_cons] at ih ⊢
    rw [Nat.add_mul, Nat.one_mul]
    omega

/-- what holds between two rounds -/
structure AllI (f : Func) (L : List Int) (wait : List Nat) (Ss : List (Int → Bool)) : Prop where
  len : Ss.length = f.blocks.length
  lt : ∀ b ∈ wait, b < f.blocks.length
  sound : ∀ k r, at_ Ss k r = true → LOut f k r
  sub : ∀ k, Sub L (at_ Ss k)
  closed : ∀ k b, Edge f k b → b ∉ wait → ∀ r, inS (insOf f b) (at_ Ss b) r = true → at_ Ss k r = true
/-- .. while those before a block are looked at -/
structure AllJ (f : Func) (L : List Int) (b : Nat) (wait0 : List Nat) (Ss0 : List (Int → Bool)) (pre : List Int) (wait : List Nat) (Ss : List (Int → Bool)) : Prop where
  len : Ss.length = f.blocks.length
  lt : ∀ b ∈ wait, b < f.blocks.length
  sound : ∀ k r, at_ Ss k r = true → LOut f k r
  sub : ∀ k, Sub L (at_ Ss k)
  mono : ∀ k r, at_ Ss0 k r = true → at_ Ss k r = true
  kept : ∀ k, k ∉ wait → at_ Ss k = at_ Ss0 k ∧ k ∉ wait0
  done : ∀ k : Nat, (k : Int) ∈ pre → ∀ r, inS (insOf f b) (at_ Ss0 b) r = true → at_ Ss k r = true
  less : 2 * lackS L Ss + wait.length ≤ 2 * lackS L Ss0 + wait0.length
theorem AllI.start {f : Func} {L : List Int} {wait : List Nat} (hw : ∀ b, b ∈ wait ↔ b < f.blocks.length) : AllI f L wait (List.replicate f.blocks.length fun _ => false) := by
  have h0 : ∀ k, at_ (List.replicate f.blocks.length fun _ => false) k = fun _ => false := fun k => by
    unfold at_
    rw [List.getD_eq_getElem?_getD, List.getElem?_replicate]
    split <;> rfl
  refine ⟨by simp, fun b hb => (hw b).1 hb, fun k r hr => (by rw [h0] at hr; cases hr), fun k x hx => (by rw [h0] at hx; cases hx), fun k b he hb => ?_⟩
  exact absurd ((hw b).2 (edge_src he).2) hb
theorem AllI.split {f : Func} {L : List Int} {b : Nat} {wait0 : List Nat} {Ss : List (Int → Bool)} (h : AllI f L (wait0 ++ [b]) Ss) : AllJ f L b wait0 Ss [] wait0 Ss :=
  ⟨h.len, fun c hc => h.lt c (by simp [hc]), h.sound, h.sub, fun _ _ h => h, fun k hk => ⟨rfl, hk⟩, fun k hk => by simp at hk, Nat.le_refl _⟩
theorem AllJ.done_all {f : Func} {L : List Int} {b : Nat} {wait0 wait : List Nat} {Ss0 Ss : List (Int → Bool)} (h0 : AllI f L (wait0 ++ [b]) Ss0) (h : AllJ f L b wait0 Ss0 (befL f b) wait Ss) : AllI f L wait Ss := by
  refine ⟨h.len, h.lt, h.sound, h.sub, fun k c he hc r hr => ?_⟩
  obtain ⟨k1, k2⟩ := h.kept c hc
  rw [k1] at hr
  by_cases hcb : c = b
  · subst hcb
    exact h.done k ((befL_mem (edge_src he).2 _).2 ⟨k, he, rfl⟩) r hr
  · exact h.mono k r (h0.closed k c he (by simp [k2, hcb]) r hr)
/-- one of them is looked at -/
theorem AllJ.step {f : Func} {L : List Int} {b k : Nat} {wait0 wait : List Nat} {Ss0 Ss : List (Int → Bool)} {pre : List Int} {S : Int → Bool} (h0 : AllI f L (wait0 ++ [b]) Ss0) (h : AllJ f L b wait0 Ss0 pre wait Ss) (he : Edge f k b) (hS : Ss[k]? = some S)
    (hL : ∀ x ∈ insOf f b, ∀ r ∈ readsC x, r ∈ L) :
    let N := inS (insOf f b) (at_ Ss0 b)
    AllJ f L b wait0 Ss0 (pre ++ [(k : Int)]) (if (L.filter S).length < (L.filter (uni S N)).length then wait ++ [k] else wait) (Ss.set k (uni S N)) := by
  intro N
  have hkl : k < Ss.length := (List.getElem?_eq_some_iff.1 hS).1
  have hat : at_ Ss k = S := by unfold at_; rw [List.getD_eq_getElem?_getD, hS]; rfl
  have hN : Sub L N := (h0.sub b).inS hL
  have hNl : ∀ r, N r = true → LOut f k r := fun r hr => LOut.of_in he (fun h => h0.sound b r h) hr
  have hu : ∀ j r, at_ (Ss.set k (uni S N)) j r = true ↔ at_ Ss j r = true ∨ (j = k ∧ N r = true) := fun j r => by
    rw [at_set hkl]
    by_cases hj : j = k
    · subst hj
      rw [if_pos rfl, hat]
      simp [uni]
    · rw [if_neg hj]
      simp [hj]
  have hlen : (Ss.set k (uni S N)).length = f.blocks.length := by simp [h.len]
  refine ⟨hlen, fun c hc => ?_, fun j r hr => ?_, fun j r hr => ?_, fun j r hr => (hu j r).2 (.inl (h.mono j r hr)), fun j hj => ?_, fun j hj r hr => ?_, ?_⟩
  · split at hc
    · rcases List.mem_append.1 hc with h1 | h1
      · exact h.lt c h1
      · have : c = k := by simpa using h1
        subst this
        exact (edge_src he).1
    · exact h.lt c hc
  · rcases (hu j r).1 hr with h1 | ⟨rfl, h1⟩
    · exact h.sound j r h1
    · exact hNl r h1
  · rcases (hu j r).1 hr with h1 | ⟨rfl, h1⟩
    · exact h.sub j r h1
    · exact hN r h1
  · split at hj
    · rename_i hlt
      have hj' : j ∉ wait ∧ j ≠ k := by simpa using hj
      rw [at_set hkl, if_neg hj'.2]
      exact h.kept j hj'.1
    · rename_i hlt
      have e : uni S N = S := uni_same hN (by omega)
      rw [e, at_set hkl]
      split
      · rename_i hjk
        subst hjk
        rw [← hat]
        exact h.kept j hj
      · exact h.kept j hj
  · rw [List.mem_append] at hj
    rcases hj with hj | hj
    · exact (hu j r).2 (.inl (h.done j hj r hr))
    · have : j = k := by
        have : (j : Int) = (k : Int) := by simpa using hj
        omega
      exact (hu j r).2 (.inr ⟨this, hr⟩)
  · have h1 := h.less
    split
    · rename_i hlt
      have := lack_set (L := L) hS hlt
      simp only [List.length_append, List.length_singleton]
      omega
    · rename_i hlt
      have e : uni S N = S := uni_same hN (by omega)
      rw [e]
      have : Ss.set k S = Ss := by
        apply List.ext_getElem?
        intro j
        by_cases hj : k = j
        · subst hj
          rw [List.getElem?_set_self hkl, hS]
        · rw [List.getElem?_set_ne hj]
      rw [this]
      exact h1
/-- what is live behind a block, as a set -/
noncomputable def outS (f : Func) (k : Nat) : Int → Bool := fun r => @decide (LOut f k r) (Classical.propDecidable _)
theorem outS_iff {f : Func} {k : Nat} {r : Int} : outS f k r = true ↔ LOut f k r := by simp [outS]
theorem AllI.end_ {f : Func} {L : List Int} {Ss : List (Int → Bool)} (h : AllI f L [] Ss) : Ss = (List.range f.blocks.length).map (outS f) := by
  have key : ∀ k r, LOut f k r → at_ Ss k r = true := fun k r hl => by
    induction hl with
    | read he h1 => exact h.closed _ _ he (by simp) _ (by rw [inS_eq, h1]; rfl)
    | pass he h1 _ ih => exact h.closed _ _ he (by simp) _ (by rw [inS_eq, h1, ih]; simp)
  apply List.ext_getElem?
  intro k
  by_cases hk : k < f.blocks.length
  · rw [List.getElem?_map, List.getElem?_range hk, List.getElem?_eq_getElem (by rw [h.len]; exact hk)]
    congr 1
    funext r
    have e : at_ Ss k = Ss[k]'(by rw [h.len]; exact hk) := by unfold at_; rw [List.getD_eq_getElem?_getD, List.getElem?_eq_getElem (by rw [h.len]; exact hk)]; rfl
    rw [← e]
    cases ho : outS f k r
    · cases ha : at_ Ss k r
      · rfl
      · have := outS_iff.2 (h.sound k r ha)
        rw [ho] at this
        cases this
    · exact key k r (outS_iff.1 ho)
  · rw [List.getElem?_eq_none (by rw [h.len]; omega), List.getElem?_eq_none (by simp; omega)]
theorem rdB_in {L : List Int} {r : Int} : ∀ {ds : List Ins}, (∀ x ∈ ds, ∀ r ∈ readsC x, r ∈ L) → rdB r ds = true → r ∈ L
  | [], _, h => by simp [rdB] at h
  | x :: ds, hm, h => by
    simp only [rdB, Bool.or_eq_true, Bool.and_eq_true, List.contains_iff_mem] at h
    rcases h with h | ⟨_, h⟩
    · exact hm x (by simp) r h
    · exact rdB_in (fun y hy => hm y (by simp [hy])) h
theorem insOf_in {f : Func} {L : List Int} (hL : ∀ b ∈ f.blocks, ∀ x ∈ b.ins, ∀ r ∈ readsC x, r ∈ L) (b : Nat) : ∀ x ∈ insOf f b, ∀ r ∈ readsC x, r ∈ L := fun x hx => by
  unfold insOf at hx
  split at hx
  · rename_i bl hbl
    exact hL bl (List.mem_of_getElem? hbl) x hx
  · cases hx
theorem outS_sub {f : Func} {L : List Int} (hL : ∀ b ∈ f.blocks, ∀ x ∈ b.ins, ∀ r ∈ readsC x, r ∈ L) (k : Nat) : Sub L (outS f k) := fun r hr => by
  have key : ∀ k r, LOut f k r → r ∈ L := fun k r hl => by
    induction hl with
    | read he h1 => exact rdB_in (insOf_in hL _) h1
    | pass he h1 hl ih => exact ih
  exact key k r (outS_iff.1 hr)
end Mu
end
section
/-
  flow.Before, live.places as contracts over abstract states; a row of sets.
  Conditions: at most 2^21 of everything.
-/
namespace Mu
open Go Go.RowKit Go.Proofs Go.Maps

theorem nat_wf {k : Nat} (h : k ≤ 9223372036854775807) : wfI .i64 (k : Int) := by
  simp [wfI, Lit.wf, IntKind.min, IntKind.max, IntKind.signed, IntKind.bits]
  omega
theorem rows_fresh {W : World} {base O c : Nat} {vs : List Value} {ls : List (List Int)} (h : RowsAt W base (fun _ => False) O vs ls) (hw : ∀ l ∈ ls, okInts l) (hc : ls.length ≤ c ∧ c ≤ maxLen) :
    tInt.slice.slice.RS W (fun k => base ≤ k ∧ k < W.heap.size) [.slice (some ⟨O, 0, none⟩) ls.length c] ls := by
  have hO : O < W.heap.size := (Array.getElem?_eq_some_iff.1 h.box).1
  refine ⟨_, c, rfl, hc.1, ⟨hc.2, fun e => by cases e⟩, fun i l hl => ⟨O, 0, rfl, ⟨h.out.2, hO⟩, ?_⟩⟩
  have hil : i < vs.length := by rw [h.len]; exact (List.getElem?_eq_some_iff.1 hl).1
  obtain ⟨v, hv⟩ : ∃ v, vs[i]? = some v := ⟨_, List.getElem?_eq_getElem hil⟩
  have ho := h.own i v l hv hl
  refine ⟨[v], tInt.slice.keepS (own_intsS ho fun x hx => hw l (List.mem_of_getElem? hl) x hx) (fun _ _ => rfl) fun k hk => h.lt hv hk, fun j u hu => ?_⟩
  cases j with
  | zero =>
    cases hu
    have := h.cell hv
    show W.cell? ⟨O, 0 + i * 1 + 0, none⟩ = some v
    rw [Nat.mul_one, Nat.zero_add, Nat.add_zero]
    exact this
  | succ j => cases hu
theorem befN_ok (f : Func) (hl : f.blocks.length ≤ 2097152) : ∀ l ∈ befN f f.blocks.length, okInts l := fun l hm x hx => by
  obtain ⟨b, hb⟩ := List.mem_iff_getElem?.1 hm
  have hbl : b < f.blocks.length := by have := (List.getElem?_eq_some_iff.1 hb).1; rwa [befN_length] at this
  have hx' : x ∈ (befN f f.blocks.length).getD b [] := by rw [List.getD_eq_getElem?_getD, hb]; exact hx
  obtain ⟨k, h1, _, rfl⟩ := (befN_mem b hbl _ _).1 hx'
  exact nat_wf (by omega)
theorem before_fn (f : Func) (ho : okFunc f) (hs : smallF f) : Fn Tryz.prog 153 [.agg (encFunc f)] (.bs tInt.slice (befN f f.blocks.length)) :=
  Fn.of_fresh (by kernel_rfl) fun w vs hr => by
    obtain ⟨v, rfl, h1⟩ := arg1 hr
    unfold AV.rel at h1
    obtain ⟨cs, rfl, hcs⟩ := h1
    refine (before_any f cs w (put_func ho hcs) hs.blocks fun b hb => (hs.all b hb).ins).mono ?_
    rintro e W' ⟨O, vs', rfl, hR, hB⟩
    have hl : (befN f f.blocks.length).length = f.blocks.length := befN_length f _
    have := rows_fresh (c := f.blocks.length) hR (befN_ok f hs.blocks) ⟨by rw [hl]; exact Nat.le_refl _, by have := hs.blocks; unfold maxLen; omega⟩
    rw [hl] at this
    exact ⟨_, rfl, this, hB⟩
theorem placesL_ok {R : List Int} (hR : okInts R) (ds : List Ins) (S : Int → Bool) : ∀ l ∈ placesL R ds S, okInts l := by
  have hf : ∀ T : Int → Bool, okInts (R.filter T) := fun T x hx => hR x (List.mem_filter.1 hx).1
  have key : ∀ (is : List Nat) (p : (Int → Bool) × List (List Int)), (∀ l ∈ p.2, okInts l) → ∀ l ∈ (is.foldl (stepP R ds) p).2, okInts l := by
    intro is
    induction is with
    | nil => intro p h; exact h
    | cons i is ih =>
      intro p h
      rw [List.foldl_cons]
      refine ih _ fun l hl => ?_
      rcases List.mem_or_eq_of_mem_set hl with h1 | h1
      · exact h l h1
      · rw [h1]; exact hf _
  unfold placesL placesN
  refine key _ _ fun l hl => ?_
  rcases List.mem_or_eq_of_mem_set hl with h1 | h1
  · rw [List.eq_of_mem_replicate h1]
    intro x hx
    cases hx
  · rw [h1]; exact hf _
theorem placesL_len (R : List Int) (ds : List Ins) (S : Int → Bool) : (placesL R ds S).length = ds.length + 1 := placesN_length R ds S _
/-- a set that is only read -/
def tSet : Ty (Int → Bool) where
  size := 1
  bulk := fun _ => 1
  RS := fun w S cs d => ∃ m, cs = [.map (some m)] ∧ S m ∧ SetM w m d
  len := by rintro _ _ _ _ ⟨m, rfl, _⟩; rfl
  keepS := by
    rintro w w' S S' cs d ⟨m, rfl, h1, h2⟩ hb hS
    exact ⟨m, rfl, hS m h1, h2.keep (hb m h1)⟩
theorem enc_set : Enc tSet fun d => [.tv tSet d] := by
  intro w S h ψ cs d H
  obtain ⟨m, rfl, _⟩ := id H
  unfold AV.relL
  refine ⟨_, _, rfl, ?_, ?_⟩
  · unfold AV.rel
    exact H
  · unfold AV.relL
    rfl
instance : EncOf tSet fun d => [.tv tSet d] := ⟨enc_set, by
  rintro w S cs d ⟨m, rfl, _⟩ u hu
  simp only [List.mem_singleton] at hu
  subst hu
  rfl, by decide⟩
theorem places_fn (b : Block) (S : Int → Bool) (R : List Int) (ho : okBlock b) (hs : smallB b) (hRR : RegsR R) (hsub : Sub R S) (hx : ∀ x ∈ b.ins, ∀ r ∈ readsC x, r ∈ R) :
    Fn Tryz.prog 111 [.agg (encBlock b), .tv tSet S] (.bs tInt.slice (placesL R b.ins S)) :=
  Fn.of_fresh (by kernel_rfl) fun w vs hr => by
    unfold AV.relL at hr
    obtain ⟨v, vs', rfl, h1, h2⟩ := hr
    obtain ⟨u, rfl, h3⟩ := arg1 h2
    unfold AV.rel at h1 h3
    obtain ⟨cs, rfl, hcs⟩ := h1
    obtain ⟨m, e, _, hS⟩ := h3
    obtain rfl : u = .map (some m) := by simpa using e
    refine (places_any b cs m S R w (put_block ho.name hcs) hs.ins (fun x hx => by have := hs.all x hx; omega) hS hRR hsub.inR hx).mono ?_
    rintro e W' ⟨O, vs', rfl, hRo, hB⟩
    have hl := placesL_len R b.ins S
    have := rows_fresh (c := b.ins.length + 1) hRo (placesL_ok hRR.wf b.ins S) ⟨by rw [hl]; exact Nat.le_refl _, by have := hs.ins; unfold maxLen; omega⟩
    rw [hl] at this
    exact ⟨_, rfl, this, hB⟩
/-- a row of sets -/
def setsA (p : Nat × List Nat) (Ss : List (Int → Bool)) : Res := ⟨[], fun g => g = p.1 ∨ g ∈ p.2, fun w _ => (∃ e, w.heap[p.1]? = some (.cells (p.2.map fun m => Value.map (some m)).toArray e (0, 0))) ∧ p.2.length = Ss.length ∧ p.2.Nodup ∧ ∀ (i m : Nat) (S : Int → Bool), p.2[i]? = some m → Ss[i]? = some S → SetM w m S,
  fun h hk _ _ => ⟨let ⟨e, h1⟩ := h.1; ⟨e, (hk p.1 (.inl rfl)).trans h1⟩, h.2.1, h.2.2.1, fun i m S hm hS => (h.2.2.2 i m S hm hS).keep (hk m (.inr (List.mem_of_getElem? hm)))⟩⟩
def cellM (m : Nat) : AV := .lit (.map (some m))
theorem relL_cellM {w : World} {S : Nat → Prop} : ∀ {ms : List Nat} {cs : List Value}, AV.relL w S [] ψ0 (ms.map cellM) cs → cs = ms.map fun m => Value.map (some m)
  | [], cs, h => by unfold AV.relL at h; exact h
  | m :: ms, cs, h => by
    simp only [List.map_cons] at h
    unfold AV.relL at h
    obtain ⟨v, vs, rfl, h1, h2⟩ := h
    unfold cellM AV.rel at h1
    rw [h1, relL_cellM h2]
    rfl
section
variable {C : Ctx} {t : List AV} {h : List ABlk} {o : Oper}
theorem St.le_setsA {i j O : Nat} {ms : List Nat} {Ss : List (Int → Bool)} (hij : i ≠ j) (hi : h[i]? = some (.res (boxR O (ms.map cellM)))) (hj : h[j]? = some (.res (mapsR ms Ss))) : St.le C ⟨t, h⟩ ⟨t, (h.set j .dead).set i (.res (setsA (O, ms) Ss))⟩ :=
  St.le_merge hij hi hj rfl rfl rfl (fun g hg => hg) fun w S ⟨cs, e, h1, h2⟩ h3 _ => by
    rw [relL_cellM h2] at h1
    exact ⟨⟨e, h1⟩, h3⟩
theorem Fin.sets {i n : Nat} {p : Nat × List Nat} {Ss : List (Int → Bool)} (hi : h[i]? = some (.res (setsA p Ss))) (hn : Ss.length = n) (hb : n ≤ maxLen) (hm : mkD h = [] := by rfl) : Fin h (.lit (.slice (some ⟨p.1, 0, none⟩) n n)) (.bs tSet Ss) := ⟨hm, fun C S ψ w v hC H hv => by
  unfold AV.rel at hv
  subst hv
  obtain ⟨hF, ⟨e, hO⟩, hl, hnd, hS⟩ := H.blk i _ hi
  refine ⟨fun k => S k ∨ (setsA p Ss).F k, fun _ h => .inl h, fun k hk => ?_, fun k hk => ?_, ?_⟩
  · rcases hk with hk | hk
    · exact .inl hk
    · exact .inr (Nat.le_of_not_lt fun hlt => (hF k hk).1 (hC k hlt))
  · rcases hk with hk | hk
    · exact H.lt k hk
    · exact (hF k hk).2.2
  · unfold AV.rel
    subst hn
    refine ⟨_, _, rfl, Nat.le_refl _, ⟨hb, fun e => by cases e⟩, fun j d hd => ⟨p.1, 0, rfl, .inr (.inl rfl), ?_⟩⟩
    have hj : j < p.2.length := by rw [hl]; exact (List.getElem?_eq_some_iff.1 hd).1
    obtain ⟨m, hm⟩ : ∃ m, p.2[j]? = some m := ⟨_, List.getElem?_eq_getElem hj⟩
    refine ⟨[.map (some m)], ⟨m, rfl, .inr (.inr (List.mem_of_getElem? hm)), hS j m d hm hd⟩, fun q u hu => ?_⟩
    cases q with
    | zero =>
      cases hu
      show w.cell? ⟨p.1, 0 + j * 1 + 0, none⟩ = _
      rw [Nat.mul_one, Nat.zero_add, Nat.add_zero]
      exact box_cell hO (by rw [List.getElem?_map, hm]; rfl)
    | succ q => cases hu⟩
end
end Mu
end
section
/-
  muntinref15.Next, walked.
  Conditions: at most 2^21 of everything.
-/
namespace Mu
open Go Go.RowKit Go.Proofs

theorem nextL_out {f : Func} {b : Int} (h : ¬ (0 ≤ b ∧ b < f.blocks.length)) : nextL f b = [] := by
  unfold nextL nextS
  split
  · rw [List.getElem?_eq_none (by omega)]
    rfl
  · rfl
theorem nextL_at {f : Func} {k : Nat} {bl : Block} (h : f.blocks[k]? = some bl) : nextL f (k : Int) = (nextB f bl).map blkI := by
  unfold nextL nextS
  rw [if_pos (by omega)]
  simp [h]
theorem nextB_nil {f : Func} {bl : Block} (h : bl.ins = []) : (nextB f bl).map blkI = [] := by
  unfold nextB
  rw [h]
  rfl
def inB (f : Func) (k : Int) : Bool := decide (k ≥ 0) && decide (k < (f.blocks.length : Int))
def way1 (f : Func) (x : Ins) : Bool := ((x.op == 8) || (x.op == 9)) && inB f x.l1
def way2 (f : Func) (x : Ins) : Bool := (x.op == 9) && (x.l2 != x.l1) && inB f x.l2
theorem filtB_map (f : Func) (l : List Int) : (filtB f l).map blkI = l.filter (inB f) := by
  unfold filtB
  induction l with
  | nil => rfl
  | cons k l ih =>
    by_cases h : 0 ≤ k ∧ k < f.blocks.length
    · obtain ⟨m, rfl⟩ := Int.eq_ofNat_of_zero_le h.1
      have hm : m < f.blocks.length := by omega
      rw [List.filterMap_cons, toBlk_yes hm, List.map_cons, ih, List.filter_cons_of_pos (by simp [inB]; omega)]
      rfl
    · rw [List.filterMap_cons, toBlk_no h, ih, List.filter_cons_of_neg (by simp [inB]; omega)]
theorem nextB_last {f : Func} {bl : Block} {x : Ins} (h : bl.ins.getLast? = some x) : (nextB f bl).map blkI = (if way1 f x then [x.l1] else []) ++ if way2 f x then [x.l2] else [] := by
  unfold nextB
  rw [h]
  simp only
  rw [filtB_map]
  unfold rawWays way1 way2
  have hneg : inB f (-1) = false := by simp [inB]
  by_cases h9 : x.op = 9
  · rw [if_pos h9]
    by_cases he : x.l2 = x.l1
    · rw [if_pos he]
      cases h1 : inB f x.l1 <;> simp [h9, he, h1, hneg]
    · rw [if_neg he]
      cases h1 : inB f x.l1 <;> cases h2 : inB f x.l2 <;> simp [h9, he, h1, h2]
  · rw [if_neg h9]
    by_cases h8 : x.op = 8
    · rw [if_pos h8]
      cases h1 : inB f x.l1 <;> simp [h8, h1, hneg]
    · rw [if_neg h8]
      simp [h8, h9]

set_option maxRecDepth 100000 in
set_option maxHeartbeats 4000000 in
theorem next15_out (f : Func) (b : Int) (hout : ¬ (0 ≤ b ∧ b < f.blocks.length)) : Fn Tryz.prog 142 [.agg (encFunc f), .lit (.int .i64 b)] (.bs tInt []) := by
  refine Fn.nilRow (Fn.of_awp Tryz.func142 rfl (by kernel_rfl) rfl Tryz.ntmps142 fun C hC => ?_)
  simp only [List.length_cons, List.length_nil, Nat.reduceAdd, Nat.reduceSub, List.replicate_succ, List.replicate_zero, List.cons_append, List.nil_append]
  refine Awp.seq fun K1 h1 => ?_
  (refine Awp.region ?_; (repeat (first | refine sQ (hk := ?_) | refine sSkip (hk := ?_) | refine sOwn (hk := ?_))); refine aSeq_nil ?_)
  refine h1 _ ?_
  refine nT (hk := ?_)
  refine Awp.seq fun K2 h2 => ?_
  refine Awp.seq fun K3 h3 => ?_
  rcases hb : decide (b < 0) with _ | _
  · have hb2 : decide (b ≥ (f.blocks.length : Int)) = true := by simp at hb ⊢; omega
    (refine Awp.region ?_; (repeat (first | refine sQ (hk := ?_) | refine sSkip (hk := ?_) | refine sOwn (hk := ?_))); refine aSeq_nil ?_)
    refine h3 _ ?_
    refine nT (hk := ?_)
    refine Awp.cond rfl (fun hb4 => ?_) (fun hb4 => by cases hb4)
    refine Awp.seq fun K5 h5 => ?_
    (refine Awp.region ?_; (repeat (first | refine sQ (hk := ?_) | refine sSkip (hk := ?_) | refine sOwn (hk := ?_))); refine aSeq_nil ?_)
    refine h5 _ ?_
    refine nT (hk := ?_)
    refine Awp.ret ?_
    exact ⟨.inr rfl, Fin.cl rfl⟩
  · (refine Awp.region ?_; (repeat (first | refine sQ (hk := ?_) | refine sSkip (hk := ?_) | refine sOwn (hk := ?_))); refine aSeq_nil ?_)
    refine h3 _ ?_
    refine nT (hk := ?_)
    refine Awp.cond rfl (fun hb4 => ?_) (fun hb4 => by cases hb4)
    refine Awp.seq fun K5 h5 => ?_
    (refine Awp.region ?_; (repeat (first | refine sQ (hk := ?_) | refine sSkip (hk := ?_) | refine sOwn (hk := ?_))); refine aSeq_nil ?_)
    refine h5 _ ?_
    refine nT (hk := ?_)
    refine Awp.ret ?_
    exact ⟨.inr rfl, Fin.cl rfl⟩
set_option maxRecDepth 100000 in
set_option maxHeartbeats 4000000 in
theorem next15_nil (f : Func) (k : Nat) (bl : Block) (hk : f.blocks[k]? = some bl) (_hl : f.blocks.length ≤ 2097152) (hn : bl.ins = []) : Fn Tryz.prog 142 [.agg (encFunc f), .lit (.int .i64 (k : Int))] (.bs tInt []) := by
  have hkl : k < f.blocks.length := (List.getElem?_eq_some_iff.1 hk).1
  have hb : decide ((k : Int) < 0) = false := by simp
  have hb2 : decide ((k : Int) ≥ (f.blocks.length : Int)) = false := by simp; omega
  have hb3 : ((bl.ins.length : Int) == 0) = true := by simp [hn]
  refine Fn.nilRow (Fn.of_awp Tryz.func142 rfl (by kernel_rfl) rfl Tryz.ntmps142 fun C hC => ?_)
  simp only [List.length_cons, List.length_nil, Nat.reduceAdd, Nat.reduceSub, List.replicate_succ, List.replicate_zero, List.cons_append, List.nil_append]
  refine Awp.seq fun K1 h1 => ?_
  (refine Awp.region ?_; (repeat (first | refine sQ (hk := ?_) | refine sSkip (hk := ?_) | refine sOwn (hk := ?_))); refine aSeq_nil ?_)
  refine h1 _ ?_
  refine nT (hk := ?_)
  refine Awp.seq fun K2 h2 => ?_
  refine Awp.seq fun K3 h3 => ?_
  (refine Awp.region ?_; (repeat (first | refine sQ (hk := ?_) | refine sSkip (hk := ?_) | refine sOwn (hk := ?_))); refine aSeq_nil ?_)
  refine h3 _ ?_
  refine nT (hk := ?_)
  refine Awp.cond rfl (fun hb4 => ?_) (fun hb4 => by cases hb4)
  refine Awp.seq fun K5 h5 => ?_
  (refine Awp.region ?_; (repeat (first | refine sQ (hk := ?_) | refine sSkip (hk := ?_) | refine sOwn (hk := ?_))); refine aSeq_nil ?_)
  refine h5 _ ?_
  refine nT (hk := ?_)
  refine Awp.ret ?_
  exact ⟨.inr rfl, Fin.cl rfl⟩
set_option maxRecDepth 100000 in
set_option maxHeartbeats 8000000 in
theorem next15_at (f : Func) (k : Nat) (bl : Block) (x : Ins) (hk : f.blocks[k]? = some bl) (_hl : f.blocks.length ≤ 2097152) (hi : bl.ins.length ≤ 2097152) (hx : bl.ins.getLast? = some x) (hox : okIns x) :
    Fn Tryz.prog 142 [.agg (encFunc f), .lit (.int .i64 (k : Int))] (.bs tInt ((if way1 f x then [x.l1] else []) ++ if way2 f x then [x.l2] else [])) := by
  have hkl : k < f.blocks.length := (List.getElem?_eq_some_iff.1 hk).1
  have hpos : 0 < bl.ins.length := by
    cases hz : bl.ins with
    | nil => rw [hz] at hx; cases hx
    | cons y l => simp
  have hxa : bl.ins[((bl.ins.length : Int) - 1).toNat]? = some x := by
    rw [List.getLast?_eq_getElem?] at hx
    rw [← hx]
    congr 1
    omega
  have hb : decide ((k : Int) < 0) = false := by simp
  have hb2 : decide ((k : Int) ≥ (f.blocks.length : Int)) = false := by simp; omega
  have hb3 : ((bl.ins.length : Int) == 0) = false := beq_eq_false_iff_ne.2 (by omega)
  have ho1 := hox.l1
  have ho2 := hox.l2
  have hm1 : (1 : Nat) ≤ maxLen := by decide
  refine Fn.of_awp Tryz.func142 rfl (by kernel_rfl) rfl Tryz.ntmps142 fun C hC => ?_
  simp only [List.length_cons, List.length_nil, Nat.reduceAdd, Nat.reduceSub, List.replicate_succ, List.replicate_zero, List.cons_append, List.nil_append]
  refine Awp.seq fun K1 h1 => ?_
  (refine Awp.region ?_; (repeat (first | refine sQ (hk := ?_) | refine sSkip (hk := ?_) | refine sOwn (hk := ?_))); refine aSeq_nil ?_)
  refine h1 _ ?_
  refine nT (hk := ?_)
  refine Awp.seq fun K2 h2 => ?_
  refine Awp.seq fun K3 h3 => ?_
  (refine Awp.region ?_; (repeat (first | refine sQ (hk := ?_) | refine sSkip (hk := ?_) | refine sOwn (hk := ?_))); refine aSeq_nil ?_)
  refine h3 _ ?_
  refine nT (hk := ?_)
  refine Awp.cond rfl (fun hb4 => by cases hb4) (fun hb4 => ?_)
  refine Awp.skip ?_
  refine h2 _ ?_
  refine nT (hk := ?_)
  refine Awp.seq fun K6 h6 => ?_
  (refine Awp.drawE 70 17 16 (by kernel_rfl) (by kernel_rfl) (by decide) rfl rfl ?_; simp only [List.take_succ_cons, List.take_zero, List.drop_succ_cons, List.drop_zero]; (repeat ((first | (refine bQ_t rfl rfl rfl ?_; (first | refine BOp.q (Quiet.move rfl (by (conv => lhs; whnf); try rfl)) ⟨rfl, ?_⟩ | refine BOp.q (Quiet.assign rfl (by (conv => lhs; whnf); try rfl)) ⟨rfl, ?_⟩ | refine BOp.q (Quiet.fa_ptr rfl rfl rfl) ⟨rfl, ?_⟩ | refine BOp.q (Quiet.fa_bp rfl rfl) ⟨rfl, ?_⟩ | refine BOp.q (Quiet.fa_rp rfl rfl rfl) ⟨rfl, ?_⟩ | refine BOp.q (Quiet.load_ptr rfl rfl rfl rfl) ⟨rfl, ?_⟩ | refine BOp.q (Quiet.load_bp rfl rfl rfl) ⟨rfl, ?_⟩ | refine BOp.q (Quiet.load_rp rfl rfl rfl (by assumption) rfl) ⟨rfl, ?_⟩ | refine BOp.q (Quiet.loadA_ptr rfl rfl rfl rfl) ⟨rfl, ?_⟩ | refine BOp.q (Quiet.loadA_bp rfl rfl rfl) ⟨rfl, ?_⟩ | refine BOp.q (Quiet.ix rfl rfl rfl rfl (by assumption)) ⟨rfl, ?_⟩ | refine BOp.q (Quiet.ixi rfl rfl rfl rfl (by first | decide | omega) (by assumption)) ⟨rfl, ?_⟩ | refine BOp.q (Quiet.ixo rfl rfl rfl rfl rfl (by first | assumption | omega)) ⟨rfl, ?_⟩ | refine BOp.q (Quiet.ixoi rfl rfl rfl rfl rfl (by first | decide | omega) (by first | assumption | omega)) ⟨rfl, ?_⟩ | refine BOp.q (Quiet.ln rfl rfl) ⟨rfl, ?_⟩ | refine BOp.q (Quiet.lno rfl rfl rfl) ⟨rfl, ?_⟩ | refine BOp.q (Quiet.lnl rfl rfl) ⟨rfl, ?_⟩ | refine BOp.q (Quiet.add64 rfl rfl rfl (by omega)) ⟨rfl, ?_⟩ | refine BOp.q (Quiet.sub64 rfl rfl rfl (by omega)) ⟨rfl, ?_⟩ | refine BOp.q (Quiet.binb rfl rfl rfl rfl (by assumption)) ⟨rfl, ?_⟩ | refine BOp.q (Quiet.bin rfl rfl rfl rfl) ⟨rfl, ?_⟩ | refine BOp.q (Quiet.bnot rfl rfl) ⟨rfl, ?_⟩ | refine BOp.q (Quiet.pick rfl rfl (by (conv => lhs; whnf); try rfl)) ⟨rfl, ?_⟩ | refine BOp.q (Quiet.extract rfl rfl rfl) ⟨rfl, ?_⟩ | refine BOp.q (Quiet.lt1 rfl rfl rfl (by rfl) (by decide) (by first | exact Fit.bool | exact Fit.bs | exact Fit.int (by assumption))) ⟨rfl, ?_⟩ | refine BOp.q (Quiet.max2 rfl rfl rfl) ⟨rfl, ?_⟩ | refine BOp.q (Quiet.min2 rfl rfl rfl) ⟨rfl, ?_⟩)) | refine bQ_skip rfl rfl rfl ?_ | refine bQ_al rfl rfl rfl rfl ?_); refine bQ_nt (by (try simp only [putA, List.set_cons_zero, List.set_cons_succ]); exact rfl) ?_)); refine bQ_nil ?_; (repeat ((first | (refine aSeq_t rfl ?_; (first | refine AOp.q (Quiet.move rfl (by (conv => lhs; whnf); try rfl)) ?_ | refine AOp.q (Quiet.assign rfl (by (conv => lhs; whnf); try rfl)) ?_ | refine AOp.q (Quiet.fa_ptr rfl rfl rfl) ?_ | refine AOp.q (Quiet.fa_bp rfl rfl) ?_ | refine AOp.q (Quiet.fa_rp rfl rfl rfl) ?_ | refine AOp.q (Quiet.load_ptr rfl rfl rfl rfl) ?_ | refine AOp.q (Quiet.load_bp rfl rfl rfl) ?_ | refine AOp.q (Quiet.load_rp rfl rfl rfl (by assumption) rfl) ?_ | refine AOp.q (Quiet.loadA_ptr rfl rfl rfl rfl) ?_ | refine AOp.q (Quiet.loadA_bp rfl rfl rfl) ?_ | refine AOp.q (Quiet.ix rfl rfl rfl rfl (by assumption)) ?_ | refine AOp.q (Quiet.ixi rfl rfl rfl rfl (by first | decide | omega) (by assumption)) ?_ | refine AOp.q (Quiet.ixo rfl rfl rfl rfl rfl (by first | assumption | omega)) ?_ | refine AOp.q (Quiet.ixoi rfl rfl rfl rfl rfl (by first | decide | omega) (by first | assumption | omega)) ?_ | refine AOp.q (Quiet.ln rfl rfl) ?_ | refine AOp.q (Quiet.lno rfl rfl rfl) ?_ | refine AOp.q (Quiet.lnl rfl rfl) ?_ | refine AOp.q (Quiet.add64 rfl rfl rfl (by omega)) ?_ | refine AOp.q (Quiet.sub64 rfl rfl rfl (by omega)) ?_ | refine AOp.q (Quiet.binb rfl rfl rfl rfl (by assumption)) ?_ | refine AOp.q (Quiet.bin rfl rfl rfl rfl) ?_ | refine AOp.q (Quiet.bnot rfl rfl) ?_ | refine AOp.q (Quiet.pick rfl rfl (by (conv => lhs; whnf); try rfl)) ?_ | refine AOp.q (Quiet.extract rfl rfl rfl) ?_ | refine AOp.q (Quiet.lt1 rfl rfl rfl (by rfl) (by decide) (by first | exact Fit.bool | exact Fit.bs | exact Fit.int (by assumption))) ?_ | refine AOp.q (Quiet.max2 rfl rfl rfl) ?_ | refine AOp.q (Quiet.min2 rfl rfl rfl) ?_ | refine AOp.box rfl Parts0.agg ?_ | refine AOp.al rfl ?_ | refine AOp.stBox rfl rfl rfl (Parts.aggB rfl) rfl (Nat.le_of_ble_eq_true rfl) ?_ | refine AOp.app rfl rfl rfl rfl rfl (by first | assumption | (simp [maxLen]; done) | (simp [maxLen]; omega)) (by first | assumption | (simp; done) | (simp; omega)) ?_ | refine AOp.stRow rfl rfl rfl (by assumption) (by first | exact Fit.bool | exact Fit.bs | exact Fit.int (by assumption)) rfl ?_)) | refine aSeq_skip rfl ?_); refine aSeq_nt (by (try simp only [putA]); exact rfl) (by (try simp only [List.nil_append, List.cons_append, List.set_cons_zero, List.set_cons_succ, List.length_nil, List.length_cons, Nat.reduceAdd]); exact rfl) ?_)); refine aSeq_nil ?_)
  refine h6 _ ?_
  refine nT (hk := ?_)
  refine Awp.seq fun K7 h7 => ?_
  (refine Awp.region ?_; (repeat (first | refine sQ (hk := ?_) | refine sSkip (hk := ?_) | refine sOwn (hk := ?_))); refine aSeq_nil ?_)
  refine h7 _ ?_
  refine nT (hk := ?_)
  refine Awp.via ⟨[.any, .any, .ptr 0 0, .any, .any, .ptr 1 0, .own 2 0, .any, .any, .any, .any, .any, .any, .any, .any, .any, .any, .any, .any, .any, .any, .any, .any, .any, .any, .any, .any, .any, .any, .any, .any, .any, .any, .any, .any, .any, .any, .any, .any, .any, .any, .any, .any, .any, .any, .any, .any, .any, .any, .any, .any, .any, .any, .any, .any, .any, .any, .any, .any, .any, .any, .any, .any, .any, .any, .any, .any, .any, .any, .any, .any, .any, .any, .any, .any, .any, .any, .any, .any, .any, .any, .any, .any, .any, .any, .any, .any, .any, .any, .any, .any, .any, .any, .any, .any, .any, .any], [.box (encFunc f), .box (encIns x), .row 0 3 tInt []]⟩ ((St.le_nil 6 3 tInt rfl Nat.zero_lt_one).trans (le_T)) ?_
  refine Awp.seqc ⟨[.any, .any, .ptr 0 0, .any, .any, .ptr 1 0, .own 2 (if way1 f x then 1 else 0), .any, .any, .any, .any, .any, .any, .any, .any, .any, .any, .any, .any, .any, .any, .any, .any, .any, .any, .any, .any, .any, .any, .any, .any, .any, .any, .any, .any, .any, .any, .any, .any, .any, .any, .any, .any, .any, .any, .any, .any, .any, .any, .any, .any, .any, .any, .any, .any, .any, .any, .any, .any, .any, .any, .any, .any, .any, .any, .any, .any, .any, .any, .any, .any, .any, .any, .any, .any, .any, .any, .any, .any, .any, .any, .any, .any, .any, .any, .any, .any, .any, .any, .any, .any, .any, .any, .any, .any, .any, .any], [.box (encFunc f), .box (encIns x), .row (if way1 f x then 1 else 0) 3 tInt (if way1 f x then [x.l1] else [])]⟩ ?_ ?_
  · rcases hc1 : way1 f x with _ | _
    all_goals refine Awp.seq fun K9 h9 => ?_
    · have hcond : ((x.op == 8) = false ∧ (x.op == 9) = false) ∨ (((x.op == 8) = true ∨ ((x.op == 8) = false ∧ (x.op == 9) = true)) ∧ (decide (x.l1 ≥ 0) = false ∨ (decide (x.l1 ≥ 0) = true ∧ decide (x.l1 < (f.blocks.length : Int)) = false))) := by
        unfold way1 inB at hc1
        cases h8 : (x.op == 8) <;> cases h9' : (x.op == 9) <;> cases ha : decide (x.l1 ≥ 0) <;> cases hb' : decide (x.l1 < (f.blocks.length : Int)) <;> simp [h8, h9', ha, hb'] at hc1 ⊢
      have hfin : ∀ s' : St, St.le C s' ⟨[.any, .any, .ptr 0 0, .any, .any, .ptr 1 0, .own 2 0, .any, .any, .any, .any, .any, .any, .any, .any, .any, .any, .any, .any, .any, .any, .any, .any, .any, .any, .any, .any, .any, .any, .any, .any, .any, .any, .any, .any, .any, .any, .any, .any, .any, .any, .any, .any, .any, .any, .any, .any, .any, .any, .any, .any, .any, .any, .any, .any, .any, .any, .any, .any, .any, .any, .any, .lit (.bool false), .any, .any, .any, .any, .any, .any, .any, .any, .any, .any, .any, .any, .any, .any, .any, .any, .any, .any, .any, .any, .any, .any, .any, .any, .any, .any, .any, .any, .any, .any, .any, .any, .any, .any], [.box (encFunc f), .box (encIns x), .row 0 3 tInt []]⟩ → K9 s' := fun s' hle => by
        refine h9 _ (Awp.via _ hle ?_)
        refine Awp.cond rfl (fun hb => by cases hb) (fun hb => ?_)
        refine Awp.skip ?_
        refine athen_n ?_
        exact le_T
      rcases hcond with ⟨q1, q2⟩ | ⟨q1 | ⟨q1, q2⟩, q3 | ⟨q3, q4⟩⟩
      all_goals
        (refine Awp.region ?_; (repeat (first | refine sQ (hk := ?_) | refine sSkip (hk := ?_) | refine sOwn (hk := ?_))); refine aSeq_nil ?_)
        exact athen_n (hfin _ (le_T))
    · have hcond : ((x.op == 8) = true ∨ ((x.op == 8) = false ∧ (x.op == 9) = true)) ∧ decide (x.l1 ≥ 0) = true ∧ decide (x.l1 < (f.blocks.length : Int)) = true := by
        unfold way1 inB at hc1
        cases h8 : (x.op == 8) <;> cases h9' : (x.op == 9) <;> cases ha : decide (x.l1 ≥ 0) <;> cases hb' : decide (x.l1 < (f.blocks.length : Int)) <;> simp [h8, h9', ha, hb'] at hc1 ⊢
      have hfin : ∀ s' : St, St.le C s' ⟨[.any, .any, .ptr 0 0, .any, .any, .ptr 1 0, .own 2 0, .any, .any, .any, .any, .any, .any, .any, .any, .any, .any, .any, .any, .any, .any, .any, .any, .any, .any, .any, .any, .any, .any, .any, .any, .any, .any, .any, .any, .any, .any, .any, .any, .any, .any, .any, .any, .any, .any, .any, .any, .any, .any, .any, .any, .any, .any, .any, .any, .any, .any, .any, .any, .any, .any, .any, .lit (.bool true), .any, .any, .any, .any, .any, .any, .any, .any, .any, .any, .any, .any, .any, .any, .any, .any, .any, .any, .any, .any, .any, .any, .any, .any, .any, .any, .any, .any, .any, .any, .any, .any, .any, .any], [.box (encFunc f), .box (encIns x), .row 0 3 tInt []]⟩ → K9 s' := fun s' hle => by
        refine h9 _ (Awp.via _ hle ?_)
        refine Awp.cond rfl (fun hb => ?_) (fun hb => by cases hb)
        (refine Awp.region ?_; (repeat (first | refine sQ (hk := ?_) | refine sSkip (hk := ?_) | refine sOwn (hk := ?_))); refine aSeq_nil ?_)
        refine athen_n ?_
        exact le_T
      obtain ⟨q1 | ⟨q1, q2⟩, q3, q4⟩ := hcond
      all_goals
        (refine Awp.region ?_; (repeat (first | refine sQ (hk := ?_) | refine sSkip (hk := ?_) | refine sOwn (hk := ?_))); refine aSeq_nil ?_)
        exact athen_n (hfin _ (le_T))
  · refine Awp.seqc ⟨[.any, .any, .any, .any, .any, .any, .own 2 ((if way1 f x then 1 else 0) + if way2 f x then 1 else 0), .any, .any, .any, .any, .any, .any, .any, .any, .any, .any, .any, .any, .any, .any, .any, .any, .any, .any, .any, .any, .any, .any, .any, .any, .any, .any, .any, .any, .any, .any, .any, .any, .any, .any, .any, .any, .any, .any, .any, .any, .any, .any, .any, .any, .any, .any, .any, .any, .any, .any, .any, .any, .any, .any, .any, .any, .any, .any, .any, .any, .any, .any, .any, .any, .any, .any, .any, .any, .any, .any, .any, .any, .any, .any, .any, .any, .any, .any, .any, .any, .any, .any, .any, .any, .any, .any, .any, .any, .any, .any], [.dead, .dead, .row ((if way1 f x then 1 else 0) + if way2 f x then 1 else 0) 3 tInt ((if way1 f x then [x.l1] else []) ++ if way2 f x then [x.l2] else [])]⟩ ?_ ?_
    · rcases hc2 : way2 f x with _ | _
      all_goals refine Awp.seq fun K9 h9 => ?_
      · have hcond : (x.op == 9) = false ∨ ((x.op == 9) = true ∧ ((x.l2 != x.l1) = false ∨ ((x.l2 != x.l1) = true ∧ (decide (x.l2 ≥ 0) = false ∨ (decide (x.l2 ≥ 0) = true ∧ decide (x.l2 < (f.blocks.length : Int)) = false))))) := by
          unfold way2 inB at hc2
          cases h8 : (x.l2 != x.l1) <;> cases h9' : (x.op == 9) <;> cases ha : decide (x.l2 ≥ 0) <;> cases hb' : decide (x.l2 < (f.blocks.length : Int)) <;> simp only [h8, h9', ha, hb', Bool.and_true, Bool.and_false, Bool.true_eq_false, Bool.false_eq_true, true_and, or_true, and_true, false_and, or_false] at hc2 ⊢
        have hfin : ∀ s' : St, St.le C s' ⟨[.any, .any, .ptr 0 0, .any, .any, .ptr 1 0, .own 2 (if way1 f x then 1 else 0), .any, .any, .any, .any, .any, .any, .any, .any, .any, .any, .any, .any, .any, .any, .any, .any, .any, .any, .any, .any, .any, .any, .any, .any, .any, .any, .any, .any, .any, .any, .any, .any, .any, .any, .any, .any, .any, .any, .any, .any, .any, .any, .any, .any, .any, .any, .any, .any, .any, .any, .any, .any, .any, .any, .any, .any, .any, .any, .any, .any, .any, .any, .any, .any, .any, .any, .any, .any, .any, .any, .any, .any, .any, .any, .any, .any, .any, .any, .any, .any, .any, .any, .any, .lit (.bool false), .any, .any, .any, .any, .any, .any], [.box (encFunc f), .box (encIns x), .row (if way1 f x then 1 else 0) 3 tInt (if way1 f x then [x.l1] else [])]⟩ → K9 s' := fun s' hle => by
          refine h9 _ (Awp.via _ hle ?_)
          refine Awp.cond rfl (fun hb => by cases hb) (fun hb => ?_)
          refine Awp.skip ?_
          refine athen_n ?_
          simp only [Bool.false_eq_true, if_false, Nat.add_zero, List.append_nil]
          exact le_C (Cut.dead (Cut.dead (Cut.refl _)))
        rcases hcond with q1 | ⟨q1, q2 | ⟨q2, q3 | ⟨q3, q4⟩⟩⟩
        all_goals
          (refine Awp.region ?_; (repeat (first | refine sQ (hk := ?_) | refine sSkip (hk := ?_) | refine sOwn (hk := ?_))); refine aSeq_nil ?_)
          exact athen_n (hfin _ (le_T))
      · have hcond : (x.op == 9) = true ∧ (x.l2 != x.l1) = true ∧ decide (x.l2 ≥ 0) = true ∧ decide (x.l2 < (f.blocks.length : Int)) = true := by
          unfold way2 inB at hc2
          simpa [Bool.and_eq_true, and_assoc] using hc2
        have hfin : ∀ s' : St, St.le C s' ⟨[.any, .any, .ptr 0 0, .any, .any, .ptr 1 0, .own 2 (if way1 f x then 1 else 0), .any, .any, .any, .any, .any, .any, .any, .any, .any, .any, .any, .any, .any, .any, .any, .any, .any, .any, .any, .any, .any, .any, .any, .any, .any, .any, .any, .any, .any, .any, .any, .any, .any, .any, .any, .any, .any, .any, .any, .any, .any, .any, .any, .any, .any, .any, .any, .any, .any, .any, .any, .any, .any, .any, .any, .any, .any, .any, .any, .any, .any, .any, .any, .any, .any, .any, .any, .any, .any, .any, .any, .any, .any, .any, .any, .any, .any, .any, .any, .any, .any, .any, .any, .lit (.bool true), .any, .any, .any, .any, .any, .any], [.box (encFunc f), .box (encIns x), .row (if way1 f x then 1 else 0) 3 tInt (if way1 f x then [x.l1] else [])]⟩ → K9 s' := fun s' hle => by
          refine h9 _ (Awp.via _ hle ?_)
          refine Awp.cond rfl (fun hb => ?_) (fun hb => by cases hb)
          have hln : (if way1 f x then [x.l1] else [] : List Int).length + [x.l2].length ≤ maxLen := by split <;> simp [maxLen]
          have hlb : ((if way1 f x then [x.l1] else [] : List Int).length + [x.l2].length) * 8 ≤ 140737488355328 := by split <;> simp
          (refine Awp.region ?_; (repeat (first | refine sQ (hk := ?_) | refine sSkip (hk := ?_) | refine sOwn (hk := ?_))); refine aSeq_nil ?_)
          refine athen_n ?_
          simp only [if_true]
          exact le_C (Cut.dead (Cut.dead (Cut.refl _)))
        obtain ⟨q1, q2, q3, q4⟩ := hcond
        (refine Awp.region ?_; (repeat (first | refine sQ (hk := ?_) | refine sSkip (hk := ?_) | refine sOwn (hk := ?_))); refine aSeq_nil ?_)
        exact athen_n (hfin _ (le_T))
    · refine Awp.seq fun K10 h10 => ?_
      (refine Awp.region ?_; (repeat (first | refine sQ (hk := ?_) | refine sSkip (hk := ?_) | refine sOwn (hk := ?_))); refine aSeq_nil ?_)
      refine h10 _ ?_
      refine nT (hk := ?_)
      refine Awp.ret ?_
      exact ⟨.inr rfl, Fin.own rfl⟩
end Mu
end
section
/-
  muntinref17: behind, Ins, walked.
  Conditions: at most 2^21 of everything.
-/
namespace Mu
open Go Go.RowKit Go.Proofs

def behindB (f : Func) (ins : List Bool) (b : Int) : Bool := (nextL f b).any fun k => ins.getD k.toNat false
theorem nextL_in {f : Func} {b x : Int} (h : x ∈ nextL f b) : 0 ≤ x ∧ x.toNat < f.blocks.length := by
  unfold nextL at h
  obtain ⟨y, _, rfl⟩ := List.mem_map.1 h
  have := y.2
  simp [blkI]
  exact this
theorem next15_fn (f : Func) (b : Int) (ho : okFunc f) (hs : smallF f) : Fn Tryz.prog 142 [.agg (encFunc f), .lit (.int .i64 b)] (.bs tInt (nextL f b)) := by
  by_cases hin : 0 ≤ b ∧ b < f.blocks.length
  · obtain ⟨k, rfl⟩ := Int.eq_ofNat_of_zero_le hin.1
    have hk : k < f.blocks.length := by omega
    have hkk : f.blocks[k]? = some f.blocks[k] := List.getElem?_eq_getElem hk
    rw [nextL_at hkk]
    cases hz : (f.blocks[k]).ins.getLast? with
    | none =>
      have hn : (f.blocks[k]).ins = [] := List.getLast?_eq_none_iff.1 hz
      rw [nextB_nil hn]
      exact next15_nil f k _ hkk hs.blocks hn
    | some x =>
      rw [nextB_last hz]
      have hm := List.getElem_mem hk
      exact next15_at f k _ x hkk hs.blocks (hs.all _ hm).ins hz ((ho.blocks _ hm).ins x (List.mem_of_getLast? hz))
  · rw [nextL_out hin]
    exact next15_out f b hin

theorem any_take {l : List Int} {p : Int → Bool} {k : Nat} {x : Int} (hx : l[k]? = some x) (hn : (l.take k).any p = false) (hp : p x = false) : (l.take (k + 1)).any p = false := by
  rw [List.take_add_one, hx, List.any_append, hn]
  simp [hp]

set_option maxRecDepth 100000 in
set_option maxHeartbeats 4000000 in
theorem behind17_fn (f : Func) (ins : List Bool) (b : Int) (ho : okFunc f) (hs : smallF f) (hl : ins.length = f.blocks.length) : Fn Tryz.prog 88 [.agg (encFunc f), .bs Ty.bool ins, .lit (.int .i64 b)] (.lit (.bool (behindB f ins b))) := by
  have hnl : (nextL f b).length ≤ 2 := by unfold nextL; rw [List.length_map]; exact nextS_len f b
  refine Fn.of_awp Tryz.func88 rfl (by kernel_rfl) rfl Tryz.ntmps88 fun C hC => ?_
  simp only [List.length_cons, List.length_nil, Nat.reduceAdd, Nat.reduceSub, List.replicate_succ, List.replicate_zero, List.cons_append, List.nil_append]
  refine Awp.seq fun K1 h1 => ?_
  (refine Awp.region ?_; (repeat (first | refine sQ (hk := ?_) | refine sSkip (hk := ?_) | refine sOwn (hk := ?_))); refine aSeq_nil ?_)
  refine h1 _ ?_
  refine nT (hk := ?_)
  refine Awp.seq fun K2 h2 => ?_
  (refine Awp.region ?_; (repeat (first | refine sQ (hq := Quiet.call rfl (next15_fn f b ho hs) rfl rfl rfl) (hk := ?_) | refine sQ (hk := ?_) | refine sSkip (hk := ?_) | refine sOwn (hk := ?_))); refine aSeq_nil ?_)
  refine h2 _ ?_
  refine nT (hk := ?_)
  refine Awp.seq fun K3 h3 => ?_
  refine Awp.seq fun K4 h4 => ?_
  (refine Awp.region ?_; (repeat (first | refine sQ (hk := ?_) | refine sSkip (hk := ?_) | refine sOwn (hk := ?_))); refine aSeq_nil ?_)
  refine h4 _ ?_
  refine nT (hk := ?_)
  refine Awp.block ?_
  refine Awp.loopF (fun k : Nat => ⟨[.any, .bs Ty.bool ins, .any, .any, .any, .any, .any, .bs tInt (nextL f b), .lit (.int .i64 (k : Int)), .any, .any, .any, .any, .any, .any, .any, .any, .any, .any, .any, .any, .any, .any, .any, .any], []⟩) (fun k => k ≤ (nextL f b).length ∧ ((nextL f b).take k).any (fun k => ins.getD k.toNat false) = false) (fun k => (nextL f b).length - k) 0 ⟨Nat.zero_le _, by simp⟩ (le_C (Cut.nil _)) ?_
  rintro k ⟨hk, hno⟩
  refine Awp.seq fun K6 h6 => ?_
  refine Awp.seq fun K7 h7 => ?_
  (refine Awp.region ?_; (repeat (first | refine sQ (hk := ?_) | refine sSkip (hk := ?_) | refine sOwn (hk := ?_))); refine aSeq_nil ?_)
  refine h7 _ ?_
  refine nT (hk := ?_)
  refine Awp.cond rfl (fun hb8 => ?_) (fun hb8 => ?_)
  · have hlt : k < (nextL f b).length := by simpa using hb8
    obtain ⟨x, hx⟩ : ∃ x, (nextL f b)[k]? = some x := ⟨_, List.getElem?_eq_getElem hlt⟩
    have hxi := nextL_in (List.mem_of_getElem? hx)
    have hx0 := hxi.1
    obtain ⟨q, hq⟩ : ∃ q, ins[x.toNat]? = some q := ⟨_, List.getElem?_eq_getElem (by omega)⟩
    have hqd : ins.getD x.toNat false = q := by rw [List.getD_eq_getElem?_getD, hq]; rfl
    refine Awp.skip ?_
    refine h6 _ ?_
    refine nT (hk := ?_)
    refine Awp.seq fun K9 h9 => ?_
    refine Awp.block ?_
    refine Awp.seq fun K10 h10 => ?_
    (refine Awp.region ?_; (repeat (first | refine sQ (hk := ?_) | refine sSkip (hk := ?_) | refine sOwn (hk := ?_))); refine aSeq_nil ?_)
    refine h10 _ ?_
    refine nT (hk := ?_)
    refine Awp.cond rfl (fun hb11 => ?_) (fun hb11 => ?_)
    · refine Awp.seq fun K12 h12 => ?_
      (refine Awp.region ?_; (repeat (first | refine sQ (hk := ?_) | refine sSkip (hk := ?_) | refine sOwn (hk := ?_))); refine aSeq_nil ?_)
      refine h12 _ ?_
      refine nT (hk := ?_)
      refine Awp.ret ?_
      have hc : behindB f ins b = true := List.any_eq_true.2 ⟨x, List.mem_of_getElem? hx, by rw [hqd]; exact hb11⟩
      rw [hc]
      exact ⟨.inr rfl, Fin.cl rfl⟩
    · refine Awp.skip ?_
      refine h9 _ ?_
      refine nT (hk := ?_)
      (refine Awp.region ?_; (repeat (first | refine sQ (hk := ?_) | refine sSkip (hk := ?_) | refine sOwn (hk := ?_))); refine aSeq_nil ?_)
      refine athen_n ⟨k + 1, ⟨by omega, any_take hx hno (by rw [hqd]; exact hb11)⟩, by omega, ?_⟩
      exact le_T
  · refine Awp.exit ?_
    refine h3 _ ?_
    refine nT (hk := ?_)
    have : k = (nextL f b).length := by have : ¬ k < (nextL f b).length := by simpa using hb8
                                        omega
    have hc : behindB f ins b = false := by
      rw [this, List.take_length] at hno
      exact hno
    refine Awp.seq fun K13 h13 => ?_
    (refine Awp.region ?_; (repeat (first | refine sQ (hk := ?_) | refine sSkip (hk := ?_) | refine sOwn (hk := ?_))); refine aSeq_nil ?_)
    refine h13 _ ?_
    refine nT (hk := ?_)
    refine Awp.ret ?_
    rw [hc]
    exact ⟨.inr rfl, Fin.cl rfl⟩

def goB (f : Func) (r : Int) (out : List Bool) (b : Nat) : Bool := (readsP r (insOf f b)).1 || (!(readsP r (insOf f b)).2 && behindB f out b)
def stepI (f : Func) (r : Int) (out : List Bool) (b : Nat) : List Bool := if goB f r out b then out.set b true else out
def foldI (f : Func) (r : Int) (out : List Bool) (m : Nat) : List Bool := (List.range m).foldl (stepI f r) out
def roundsI (f : Func) (r : Int) : Nat → List Bool
  | 0 => List.replicate f.blocks.length false
  | m + 1 => foldI f r (roundsI f r m) f.blocks.length
def insI (f : Func) (r : Int) : List Bool := roundsI f r (f.blocks.length + 1)
theorem foldI_succ (f : Func) (r : Int) (out : List Bool) (m : Nat) : foldI f r out (m + 1) = stepI f r (foldI f r out m) m := by unfold foldI; rw [List.range_succ, List.foldl_append]; rfl
theorem stepI_len (f : Func) (r : Int) (out : List Bool) (b : Nat) : (stepI f r out b).length = out.length := by unfold stepI; split <;> simp
theorem foldI_len (f : Func) (r : Int) (out : List Bool) (m : Nat) : (foldI f r out m).length = out.length := by
  induction m with
  | zero => rfl
  | succ m ih => rw [foldI_succ, stepI_len, ih]
theorem roundsI_len (f : Func) (r : Int) (m : Nat) : (roundsI f r m).length = f.blocks.length := by
  induction m with
  | zero => simp [roundsI]
  | succ m ih => unfold roundsI; rw [foldI_len, ih]

set_option maxRecDepth 100000 in
set_option maxHeartbeats 4000000 in
theorem ins17_fn (f : Func) (r : Int) (ho : okFunc f) (hs : smallF f) : Fn Tryz.prog 47 [.agg (encFunc f), .lit (.int .i64 r)] (.bs Ty.bool (insI f r)) := by
  have hbl := hs.blocks
  refine Fn.of_awp Tryz.func47 rfl (by kernel_rfl) rfl Tryz.ntmps47 fun C hC => ?_
  simp only [List.length_cons, List.length_nil, Nat.reduceAdd, Nat.reduceSub, List.replicate_succ, List.replicate_zero, List.cons_append, List.nil_append]
  refine Awp.seq fun K1 h1 => ?_
  (refine Awp.region ?_; (repeat (first | refine sQ (hk := ?_) | refine sSkip (hk := ?_) | refine sOwn (hk := ?_))); refine aSeq_nil ?_)
  refine h1 _ ?_
  refine nT (hk := ?_)
  refine Awp.seq fun K2 h2 => ?_
  refine Awp.region ?_
  iterate 3 (first | refine sQ (hk := ?_) | refine sSkip (hk := ?_) | refine sOwn (hk := ?_))
  refine aSeq_t rfl ?_
  refine AOp.mk1 (e := 4) (z := .bool false) (bytes := 1) (T := Ty.bool) false rfl (by kernel_rfl) rfl (fun _ _ => rfl) rfl rfl (by omega) (by unfold maxLen; omega) ?_
  refine sNt (hk := ?_)
  iterate 1 (first | refine sQ (hk := ?_) | refine sSkip (hk := ?_) | refine sOwn (hk := ?_))
  refine aSeq_nil ?_
  refine h2 _ ?_
  refine nT (hk := ?_)
  refine Awp.seq fun K3 h3 => ?_
  refine Awp.seq fun K4 h4 => ?_
  (refine Awp.region ?_; (repeat (first | refine sQ (hk := ?_) | refine sSkip (hk := ?_) | refine sOwn (hk := ?_))); refine aSeq_nil ?_)
  refine h4 _ ?_
  refine nT (hk := ?_)
  refine Awp.block ?_
  refine Awp.loopF (fun m : Nat => ⟨[.any, .lit (.int .i64 r), .ptr 0 0, .any, .any, .own 1 0, .lit (.int .i64 (m : Int)), .any, .any, .any, .any, .any, .any, .any, .any, .any, .any, .any, .any, .any, .any, .any, .any, .any, .any, .any, .any, .any, .any, .any, .any, .any, .any, .any, .any, .any, .any, .any, .any, .any, .any, .any, .any, .any, .any, .any, .any, .any, .any, .any, .any, .any, .any], [.box (encFunc f), .row 0 4 Ty.bool (roundsI f r m)]⟩) (fun m => m ≤ f.blocks.length + 1) (fun m => f.blocks.length + 1 - m) 0 (Nat.zero_le _) (le_T) ?_
  rintro m hm
  refine Awp.seq fun K6 h6 => ?_
  refine Awp.seq fun K7 h7 => ?_
  (refine Awp.region ?_; (repeat (first | refine sQ (hk := ?_) | refine sSkip (hk := ?_) | refine sOwn (hk := ?_))); refine aSeq_nil ?_)
  refine h7 _ ?_
  refine nT (hk := ?_)
  refine Awp.cond rfl (fun hb8 => ?_) (fun hb8 => ?_)
  · have hmlt : m ≤ f.blocks.length := by simpa using hb8
    refine Awp.skip ?_
    refine h6 _ ?_
    refine nT (hk := ?_)
    refine Awp.seq fun K9 h9 => ?_
    refine Awp.block ?_
    refine Awp.seq fun K10 h10 => ?_
    (refine Awp.region ?_; (repeat (first | refine sQ (hk := ?_) | refine sSkip (hk := ?_) | refine sOwn (hk := ?_))); refine aSeq_nil ?_)
    refine h10 _ ?_
    refine nT (hk := ?_)
    refine Awp.block ?_
    refine Awp.loopF (fun k : Nat => ⟨[.any, .lit (.int .i64 r), .ptr 0 0, .any, .any, .own 1 0, .lit (.int .i64 (m : Int)), .lit (.int .i64 (k : Int)), .any, .any, .any, .any, .any, .any, .any, .any, .any, .any, .any, .any, .any, .any, .any, .any, .any, .any, .any, .any, .any, .any, .any, .any, .any, .any, .any, .any, .any, .any, .any, .any, .any, .any, .any, .any, .any, .any, .any, .any, .any, .any, .any, .any, .any], [.box (encFunc f), .row 0 4 Ty.bool (foldI f r (roundsI f r m) k)]⟩) (fun k => k ≤ f.blocks.length) (fun k => f.blocks.length - k) 0 (Nat.zero_le _) (le_T) ?_
    rintro k hk
    refine Awp.seq fun K12 h12 => ?_
    refine Awp.seq fun K13 h13 => ?_
    (refine Awp.region ?_; (repeat (first | refine sQ (hk := ?_) | refine sSkip (hk := ?_) | refine sOwn (hk := ?_))); refine aSeq_nil ?_)
    refine h13 _ ?_
    refine nT (hk := ?_)
    have hol : (foldI f r (roundsI f r m) k).length = f.blocks.length := by rw [foldI_len, roundsI_len]
    refine Awp.cond rfl (fun hb14 => ?_) (fun hb14 => ?_)
    · have hlt : k < f.blocks.length := by simpa using hb14
      obtain ⟨bl, hbk⟩ : ∃ bl, f.blocks[k]? = some bl := ⟨_, List.getElem?_eq_getElem hlt⟩
      have hmem := List.mem_of_getElem? hbk
      have hins : insOf f k = bl.ins := by unfold insOf; rw [hbk]
      have hgo : goB f r (foldI f r (roundsI f r m) k) k = ((readsP r bl.ins).1 || (!(readsP r bl.ins).2 && behindB f (foldI f r (roundsI f r m) k) k)) := by unfold goB; rw [hins]
      obtain ⟨q0, hq0⟩ : ∃ q, (foldI f r (roundsI f r m) k)[k]? = some q := ⟨_, List.getElem?_eq_getElem (by omega)⟩
      have hkl : k < (foldI f r (roundsI f r m) k).length := by omega
      have hyes : goB f r (foldI f r (roundsI f r m) k) k = true → foldI f r (roundsI f r m) (k + 1) = (foldI f r (roundsI f r m) k).set k true := fun h => by rw [foldI_succ, stepI, if_pos h]
      have hno : goB f r (foldI f r (roundsI f r m) k) k = false → foldI f r (roundsI f r m) (k + 1) = foldI f r (roundsI f r m) k := fun h => by rw [foldI_succ, stepI, if_neg (by simp [h])]
      refine Awp.skip ?_
      refine h12 _ ?_
      refine nT (hk := ?_)
      refine Awp.seq fun K15 h15 => ?_
      refine Awp.block ?_
      refine Awp.seq fun K16 h16 => ?_
      (refine Awp.region ?_; (repeat (first | refine sQ (hq := Quiet.call rfl (reads17_fn bl 0 r (ho.blocks bl hmem) (hs.all bl hmem) (Nat.zero_le _)) rfl rfl rfl) (hk := ?_) | refine sQ (hk := ?_) | refine sSkip (hk := ?_) | refine sOwn (hk := ?_))); refine aSeq_nil ?_)
      rw [List.drop_zero]
      refine h16 _ ?_
      refine nT (hk := ?_)
      rcases hr1 : (readsP r bl.ins).1 with _ | _
      · rcases hr2 : (readsP r bl.ins).2 with _ | _
        · rw [hr1, hr2] at hgo
          refine Awp.seq fun K17 h17 => ?_
          rcases hbb : behindB f (foldI f r (roundsI f r m) k) k with _ | _
          · rw [hbb] at hgo
            (refine Awp.region ?_; (repeat (first | refine sQ (hq := Quiet.lend rfl (by have := behind17_fn f (foldI f r (roundsI f r m) k) k ho hs hol; rw [hbb] at this; exact this) (.cl rfl (.own rfl (.cl rfl .nil)))) (hk := ?_) | refine sQ (hk := ?_) | refine sSkip (hk := ?_) | refine sOwn (hk := ?_))); refine aSeq_nil ?_)
            refine h17 _ ?_
            refine nT (hk := ?_)
            refine Awp.cond rfl (fun hb => by cases hb) (fun hb18 => ?_)
            refine Awp.skip ?_
            refine h15 _ ?_
            refine nT (hk := ?_)
            (refine Awp.region ?_; (repeat (first | refine sQ (hk := ?_) | refine sSkip (hk := ?_) | refine sOwn (hk := ?_))); refine aSeq_nil ?_)
            refine athen_n ⟨k + 1, by omega, by omega, ?_⟩
            rw [hno hgo]
            exact le_T
          · rw [hbb] at hgo
            (refine Awp.region ?_; (repeat (first | refine sQ (hq := Quiet.lend rfl (by have := behind17_fn f (foldI f r (roundsI f r m) k) k ho hs hol; rw [hbb] at this; exact this) (.cl rfl (.own rfl (.cl rfl .nil)))) (hk := ?_) | refine sQ (hk := ?_) | refine sSkip (hk := ?_) | refine sOwn (hk := ?_))); refine aSeq_nil ?_)
            refine h17 _ ?_
            refine nT (hk := ?_)
            refine Awp.cond rfl (fun hb18 => ?_) (fun hb => by cases hb)
            (refine Awp.region ?_; (repeat (first | refine sQ (hk := ?_) | refine sSkip (hk := ?_) | refine sOwn (hk := ?_))); refine aSeq_nil ?_)
            refine h15 _ ?_
            refine nT (hk := ?_)
            (refine Awp.region ?_; (repeat (first | refine sQ (hk := ?_) | refine sSkip (hk := ?_) | refine sOwn (hk := ?_))); refine aSeq_nil ?_)
            refine athen_n ⟨k + 1, by omega, by omega, ?_⟩
            rw [hyes hgo]
            exact le_T
        · rw [hr1, hr2] at hgo
          refine Awp.seq fun K17 h17 => ?_
          (refine Awp.region ?_; (repeat (first | refine sQ (hk := ?_) | refine sSkip (hk := ?_) | refine sOwn (hk := ?_))); refine aSeq_nil ?_)
          refine h17 _ ?_
          refine nT (hk := ?_)
          refine Awp.cond rfl (fun hb => by cases hb) (fun hb18 => ?_)
          refine Awp.skip ?_
          refine h15 _ ?_
          refine nT (hk := ?_)
          (refine Awp.region ?_; (repeat (first | refine sQ (hk := ?_) | refine sSkip (hk := ?_) | refine sOwn (hk := ?_))); refine aSeq_nil ?_)
          refine athen_n ⟨k + 1, by omega, by omega, ?_⟩
          rw [hno hgo]
          exact le_T
      · rw [hr1] at hgo
        refine Awp.seq fun K17 h17 => ?_
        (refine Awp.region ?_; (repeat (first | refine sQ (hk := ?_) | refine sSkip (hk := ?_) | refine sOwn (hk := ?_))); refine aSeq_nil ?_)
        refine h17 _ ?_
        refine nT (hk := ?_)
        refine Awp.cond rfl (fun hb18 => ?_) (fun hb => by cases hb)
        (refine Awp.region ?_; (repeat (first | refine sQ (hk := ?_) | refine sSkip (hk := ?_) | refine sOwn (hk := ?_))); refine aSeq_nil ?_)
        refine h15 _ ?_
        refine nT (hk := ?_)
        (refine Awp.region ?_; (repeat (first | refine sQ (hk := ?_) | refine sSkip (hk := ?_) | refine sOwn (hk := ?_))); refine aSeq_nil ?_)
        refine athen_n ⟨k + 1, by omega, by omega, ?_⟩
        rw [hyes hgo]
        exact le_T
    · refine Awp.exit ?_
      refine h9 _ ?_
      refine nT (hk := ?_)
      have hkk : k = f.blocks.length := by have : ¬ k < f.blocks.length := by simpa using hb14
                                           omega
      (refine Awp.region ?_; (repeat (first | refine sQ (hk := ?_) | refine sSkip (hk := ?_) | refine sOwn (hk := ?_))); refine aSeq_nil ?_)
      refine athen_n ⟨m + 1, by omega, by omega, ?_⟩
      rw [hkk]
      exact le_T
  · refine Awp.exit ?_
    refine h3 _ ?_
    refine nT (hk := ?_)
    have hmm : m = f.blocks.length + 1 := by have : ¬ m ≤ f.blocks.length := by simpa using hb8
                                             omega
    refine Awp.seq fun K19 h19 => ?_
    (refine Awp.region ?_; (repeat (first | refine sQ (hk := ?_) | refine sSkip (hk := ?_) | refine sOwn (hk := ?_))); refine aSeq_nil ?_)
    refine h19 _ ?_
    refine nT (hk := ?_)
    refine Awp.ret ?_
    rw [hmm]
    exact ⟨.inr rfl, Fin.own rfl⟩
end Mu
end
