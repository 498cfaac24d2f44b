/-
  Own texts laid together, part 5: MuCiGa, MuCiGb, MuCiGc, MuCiEnd, ShelfM, MuSets, MuCiLi, MuCiHead23, MuBodyF, MuBodyG, MuBodyH, MuBodyI, MuRowQ, MuOpen, MuRowS.
  Conditions: as each part says.
-/
import Derived.Test.YtphbknmjnoeheaaGreatBo4
import Derived.Shelf.SlIterI.Nil
import Derived.Shelf.SortM.Plain
import Derived.Shelf.SortM.SortNone
import Derived.Shelf.SlMaps.Clone
import Derived.Shelf.SlMaps.Copy
import Derived.Ground.GgzProg
import Derived.Ground.SlgmProg
import Derived.Ground.SlmcProg
import Derived.Ground.SlmpProg
import Derived.Test.YtphbknmjnoeheaaGreatProg
import Derived.Maps.OwnSet
import Derived.WalkKit
import Derived.TacticsInMore
import Derived.Test.YtphbknmjnoeheaaGreatRows
import Derived.Carry
import Derived.OpenShut
import Derived.ProofKit
section
/-
  The quick run is the run: operations.
  Conditions: none; generic.
-/
namespace Mu.CI
open Go Go.RowKit
noncomputable section
set_option linter.unusedVariables false

section
variable {P : Program} {G n : Nat} {LV : Lev} {s : Sl} {M M' : Mem} {K : KR}
/-- what is done with what came of an operation -/
def thn (r : Res) (K : KR) : Res := match r with
  | some (v, M) => K v M
  | none => none
theorem fR_eq (n : Nat) (K : Nat → Res) : fR n K = K n := by cases n <;> rfl
theorem fJ_eq (n : Int) (k : IntKind) (K : CV → Res) : fJ n k K = K (.it k n) := by
  cases n with
  | ofNat n => exact fR_eq n _
  | negSucc n => exact fR_eq n _
theorem fF_eq (x : CV) (K : CV → Res) : fF x K = K x := by
  cases x with
  | bo y => cases y <;> rfl
  | it k n => exact fJ_eq n k K
  | pt g o => exact (fR_eq g _).trans (fR_eq o _)
  | sl g o l m z => exact (fR_eq g _).trans ((fR_eq o _).trans ((fR_eq l _).trans ((fR_eq m _).trans (fR_eq z _))))
  | mp g => exact fR_eq g _
  | fn g q l => exact fV_eq _ K
  | iv t y => exact fV_eq _ K
  | yl g => exact fR_eq g _
  | ag l => exact fV_eq _ K
  | tu l => exact fV_eq _ K
  | _ => rfl
theorem slG_eq (i : Nat) (s : Sl) : slG i s = (s.get i).getD .ud := by
  cases s with
  | mk d t =>
    have h : (Tr.get ⟨d, t⟩ i : Option CV) = (accT CV PUnit d i).get t := fN_eq i fun k => (accT CV PUnit d k).get t
    rw [h]
    show udO _ = _
    cases (accT CV PUnit d i).get t <;> rfl
theorem slS_eq (i : Nat) (s : Sl) (v : CV) (K : Sl → Res) : slS i s v K = K (s.set i v) := by
  refine Eq.trans ?_ (Tr.setK_eq s i v K)
  cases s with
  | mk d t => exact (fN_eq i fun k => (accT CV Res d k).set t v K).symm
theorem cx_run (x : Operand) (s : Sl) : (cx G x).run s = evG G s x := by
  cases x with
  | tmp i =>
    show slG i s = (match s.get i with | some v => v | none => CV.ud)
    rw [slG_eq]
    cases s.get i <;> rfl
  | const v => rfl
  | global g =>
    show (bif Nat.blt g G then (⟨fun _ => .pt g 0⟩ : Ex) else ⟨fun _ => .un⟩).run s = (bif Nat.blt g G then .pt g 0 else .un)
    cases Nat.blt g G <;> rfl
  | func f => rfl
theorem cxL_run (l : List Operand) (s : Sl) : (cxL G l).run s = l.map (evG G s) := by
  induction l with
  | nil => rfl
  | cons x l ih =>
    show (cx G x).run s :: (cxL G l).run s = _
    rw [cx_run, ih]
    rfl
theorem reK_eq (r : Res) (K : KR) : reK r K = thn r K := by
  cases r with
  | none => rfl
  | some p => exact fF_eq p.1 _
theorem mid_run (o : Op) : (mid G (comp P false o)).run LV s M K = thn (exOp P false (evG G s) o M) K := by
  show reK ((comp P false o).run (fun x => (cx G x).run s) M) K = _
  rw [reK_eq, comp_run, show (fun x => (cx G x).run s) = evG G s from funext fun x => cx_run x s]
theorem ld1K_eq (x : CV) (M : Mem) (K : KR) : ld1K x M K = thn (ld1 x M) K := by
  cases x <;> try rfl
  rename_i g o
  show ldO (M.h.get g) o M K = thn (match M.h.get g with | some b => rd1 o b M | none => none) K
  cases M.h.get g with
  | none => rfl
  | some b =>
    have key : ∀ b : Blk, ldB b o M K = thn (bif Nat.ble (o + 1) b.n then ret (b.get o) M else none) K := fun b => by
      cases b with
      | mk c n z =>
        show Bool.rec (motive := fun _ => Tr CV → Nat → List CV → Nat → Mem → KR → Res) (fun _ _ _ _ _ _ => none) (fun c n z o M K => ldV (c.get o) c n z o M K) (Nat.ble (Nat.succ o) n) c n z o M K = _
        show _ = thn (bif Nat.ble (Nat.succ o) n then ret (Blk.get ⟨c, n, z⟩ o) M else none) K
        cases Nat.ble (Nat.succ o) n with
        | false => rfl
        | true =>
          show ldV (c.get o) c n z o M K = K (Blk.get ⟨c, n, z⟩ o) M
          unfold Blk.get
          cases hc : c.get o with
          | none =>
            show fF (Blk.get ⟨c, n, z⟩ o) _ = _
            rw [fF_eq]
            unfold Blk.get
            simp only [hc]
          | some v => rfl
    cases b with
    | cells b => exact key b
    | ro b => exact key b
    | _ => rfl
theorem laX_eq (n : Nat) (x : CV) (M : Mem) (K : KR) : laX x n M K = thn (ldA n x M) K := by
  cases x <;> try rfl
  rename_i g o
  show laO (M.h.get g) o n M K = thn (match M.h.get g with | some b => (match rdB o n b with | some l => ret (.ag l) M | none => none) | none => none) K
  cases M.h.get g with
  | none => rfl
  | some b =>
    have key : ∀ b : Blk, laB b o n M K = thn (match (bif Nat.ble (o + n) b.n then some (b.list o n) else none) with | some l => ret (.ag l) M | none => none) K := fun b => by
      unfold laB
      cases Nat.ble (o + n) b.n with
      | false => rfl
      | true => exact fVs_eq _ _
    cases b with
    | cells b => exact key b
    | ro b => exact key b
    | _ => rfl
theorem stP_eq (g o : Nat) (y : CV) (M : Mem) (K : KR) : stP g o y M K = thn (match M.wr false g o [y] with | some M' => ret .ud M' | none => none) K := by
  unfold stP
  rw [fF_eq, wrF_eq]
  cases M with
  | mk h nx ob hn =>
    show stO (h.get g) g o y h nx ob hn K = thn (match (match h.get g with | some b => wrB false g o [y] h nx ob hn b | none => none) with | some M' => ret .ud M' | none => none) K
    cases h.get g with
    | none => rfl
    | some b =>
      cases b with
      | cells b =>
        cases b with
        | mk c n z =>
          show Bool.rec (motive := fun _ => Tr CV → Nat → List CV → Nat → Nat → CV → Tr RB → Nat → List Bool → List Bool → KR → Res) (fun _ _ _ _ _ _ _ _ _ _ _ => none)
            (fun c n z g o v h nx ob hn K => c.setK o v (stC g n z h nx ob hn K)) (Nat.ble (Nat.succ o) n) c n z g o y h nx ob hn K = _
          show _ = thn (match (bif Nat.ble (Nat.succ o) n then putsK false [y] o c fun c => h.setK g (.cells ⟨c, n, z⟩) fun h => some (⟨h, nx, ob, hn⟩ : Mem) else none) with | some M' => ret .ud M' | none => none) K
          cases Nat.ble (Nat.succ o) n with
          | false => rfl
          | true =>
            simp only [cond_true, putsK, fW_eq, Tr.setK_eq, fM_eq]
            show stC g n z h nx ob hn K (c.set o y) = _
            unfold stC
            rw [Tr.setK_eq]
            rfl
      | _ => rfl
theorem st1K_eq (x y : CV) (M : Mem) (K : KR) (hy : y.cells = some [y]) : st1K x y M K = stZ 1 x y M K := by
  cases x <;> try rfl
  rename_i g o
  show stP g o y M K = (match stF false 1 (.pt g o) y.cells M with | some (v, M) => K v M | none => none)
  rw [stP_eq, hy, wrF_eq]
  show _ = (match (match wrF false M g o [y] with | some M' => ret .ud M' | none => none) with | some (v, M) => K v M | none => none)
  rfl
theorem isS_cells {y : CV} (h : isS y = true) : y.cells = some [y] := by
  cases y <;> first | rfl | cases h
theorem store_run' (t : TypeId) (x y : Operand) {n : Nat} (hs : sz P t = some n) : thn (exOp P false (evG G s) (.store t x y) M) K = stZ n (evG G s x) (evG G s y) M K := by
  have := store_run (P := P) (md := false) (evG G s) M t x y
  rw [← this]
  unfold o_store
  rw [hs]
  rfl
theorem fIw (k : IntKind) (n : Int) (M : Mem) (K : KR) : wrZ k n M K = K (.it k (k.wrap n)) M := fJ_eq _ _ _
theorem wrN_eq (a : Nat) (k : IntKind) (M : Mem) (K : KR) : wrN a k M K = K (.it k (k.wrap (.ofNat a))) M := by
  have sg : ∀ (k : IntKind) (m : Nat), (∀ a : Nat, a ≤ m → k.wrap (.ofNat a) = .ofNat a) → Bool.rec (motive := fun _ => Nat → Mem → KR → Res) (fun a M K => wrZ k (.ofNat a) M K) (fun a M K => fR a (kI k M K)) (Nat.ble a m) a M K = K (.it k (k.wrap (.ofNat a))) M := fun k m hk => by
    cases hb : Nat.ble a m with
    | false => exact fIw k _ M K
    | true =>
      show fR a (kI k M K) = _
      rw [fR_eq, hk a (Nat.le_of_ble_eq_true hb)]
      rfl
  have us : ∀ (k : IntKind) (m : Nat), (∀ a : Nat, k.wrap (.ofNat a) = .ofNat (a % m)) → fR (Nat.mod a m) (kI k M K) = K (.it k (k.wrap (.ofNat a))) M := fun k m hk => by
    rw [fR_eq, hk a]
    rfl
  cases k with
  | i8 => exact sg .i8 127 fun a h => by simp [IntKind.wrap, IntKind.bits, IntKind.signed]; omega
  | i16 => exact sg .i16 32767 fun a h => by simp [IntKind.wrap, IntKind.bits, IntKind.signed]; omega
  | i32 => exact sg .i32 2147483647 fun a h => by simp [IntKind.wrap, IntKind.bits, IntKind.signed]; omega
  | i64 => exact sg .i64 9223372036854775807 fun a h => by simp [IntKind.wrap, IntKind.bits, IntKind.signed]; omega
  | u8 => exact us .u8 256 fun a => by simp [IntKind.wrap, IntKind.bits, IntKind.signed]
  | u16 => exact us .u16 65536 fun a => by simp [IntKind.wrap, IntKind.bits, IntKind.signed]
  | u32 => exact us .u32 4294967296 fun a => by simp [IntKind.wrap, IntKind.bits, IntKind.signed]
  | u64 => exact us .u64 18446744073709551616 fun a => by simp [IntKind.wrap, IntKind.bits, IntKind.signed]
theorem wrK_eq (n : Int) (k : IntKind) (M : Mem) (K : KR) : wrK n k M K = K (.it k (k.wrap n)) M := by
  cases n with
  | ofNat a => exact wrN_eq a k M K
  | negSucc a => exact fIw k _ M K
theorem addF_eq (k : IntKind) (a b : Int) (M : Mem) (K : KR) : addF k a b M K = K (.it k (k.wrap (a + b))) M := by
  cases a with
  | ofNat m => cases b with
    | ofNat n => exact wrN_eq _ k M K
    | negSucc n => exact wrK_eq _ k M K
  | negSucc m => exact wrK_eq _ k M K
theorem subF_eq (k : IntKind) (a b : Int) (M : Mem) (K : KR) : subF k a b M K = K (.it k (k.wrap (a - b))) M := by
  cases a with
  | ofNat m => cases b with
    | ofNat n =>
      show Bool.rec (motive := fun _ => Nat → Nat → IntKind → Mem → KR → Res) (fun m n k M K => wrK (Int.sub (.ofNat m) (.ofNat n)) k M K) (fun m n k M K => wrN (Nat.sub m n) k M K) (Nat.ble n m) m n k M K = _
      cases h : Nat.ble n m with
      | false => exact wrK_eq _ k M K
      | true =>
        show wrN (m - n) k M K = _
        rw [wrN_eq]
        congr 3
        have := Nat.le_of_ble_eq_true h
        show ((m - n : Nat) : Int) = (m : Int) - (n : Int)
        omega
    | negSucc n => exact wrK_eq (Int.sub (.ofNat m) (.negSucc n)) k M K
  | negSucc m => exact wrK_eq _ k M K
theorem mulF_eq (k : IntKind) (a b : Int) (M : Mem) (K : KR) : mulF k a b M K = K (.it k (k.wrap (a * b))) M := by
  cases a with
  | ofNat m => cases b with
    | ofNat n => exact wrN_eq _ k M K
    | negSucc n => exact wrK_eq _ k M K
  | negSucc m => exact wrK_eq _ k M K
theorem boK_eq (b : Bool) (M : Mem) (K : KR) : boK b M K = K (.bo b) M := by cases b <;> rfl
theorem eqJ_eq (a b : Int) : eqJ a b = decide (a = b) := by
  cases a with
  | ofNat m => cases b with
    | ofNat n =>
      show Nat.beq m n = decide ((m : Int) = (n : Int))
      rw [Bool.eq_iff_iff, decide_eq_true_eq, Nat.beq_eq]
      omega
    | negSucc n => exact (decide_eq_false (by simp only [Int.ofNat_eq_natCast]; omega)).symm
  | negSucc m => cases b with
    | ofNat n => exact (decide_eq_false (by simp only [Int.ofNat_eq_natCast]; omega)).symm
    | negSucc n =>
      show Nat.beq m n = decide (Int.negSucc m = Int.negSucc n)
      rw [Bool.eq_iff_iff, decide_eq_true_eq, Nat.beq_eq]
      omega
theorem ltJ_eq (a b : Int) : ltJ a b = decide (a < b) := by
  cases a with
  | ofNat m => cases b with
    | ofNat n =>
      show Nat.ble (m + 1) n = decide ((m : Int) < (n : Int))
      rw [Bool.eq_iff_iff, decide_eq_true_eq, Nat.ble_eq]
      omega
    | negSucc n => exact (decide_eq_false (by simp only [Int.ofNat_eq_natCast]; omega)).symm
  | negSucc m => cases b with
    | ofNat n => exact (decide_eq_true (by simp only [Int.ofNat_eq_natCast]; omega)).symm
    | negSucc n =>
      show Nat.ble (n + 1) m = decide (Int.negSucc m < Int.negSucc n)
      rw [Bool.eq_iff_iff, decide_eq_true_eq, Nat.ble_eq]
      omega
theorem leJ_eq (a b : Int) : leJ a b = decide (a ≤ b) := by
  cases a with
  | ofNat m => cases b with
    | ofNat n =>
      show Nat.ble m n = decide ((m : Int) ≤ (n : Int))
      rw [Bool.eq_iff_iff, decide_eq_true_eq, Nat.ble_eq]
      omega
    | negSucc n => exact (decide_eq_false (by simp only [Int.ofNat_eq_natCast]; omega)).symm
  | negSucc m => cases b with
    | ofNat n => exact (decide_eq_true (by simp only [Int.ofNat_eq_natCast]; omega)).symm
    | negSucc n =>
      show Nat.ble n m = decide (Int.negSucc m ≤ Int.negSucc n)
      rw [Bool.eq_iff_iff, decide_eq_true_eq, Nat.ble_eq]
      omega
theorem kE_eq (k k' : IntKind) : kE k k' = decide (k = k') := by cases k <;> cases k' <;> rfl
theorem bnZ_eq (op : BinOp) (t : TypeId) (cn : Bool) (x y : CV) (M : Mem) (K : KR) : bnZ P op t cn x y M K = thn (bnG P false op t cn x y M) K := by
  unfold bnZ
  cases bnG P false op t cn x y M with
  | none => rfl
  | some p => exact fF_eq p.1 _
theorem bi_eq {F : FI} {op : BinOp} {t : TypeId} {cn : Bool} (hF : ∀ (k : IntKind) (a b : Int), ∀ M K, F k a b M K = thn (bnG P false op t cn (.it k a) (.it k b) M) K) (hne : ∀ (k k' : IntKind) (a b : Int) (M : Mem), k ≠ k' → bnG P false op t cn (.it k a) (.it k' b) M = none) (x y : CV) (M : Mem) (K : KR) :
    bi x F (bnZ P op t cn) x y M K = thn (bnG P false op t cn x y M) K := by
  cases x <;> try exact bnZ_eq op t cn _ y M K
  rename_i k a
  show biB y F (bnZ P op t cn) k a (.it k a) y M K = _
  cases y <;> try exact bnZ_eq op t cn _ _ M K
  rename_i k' b
  show biK (kE k k') F k a b M K = _
  rw [kE_eq]
  by_cases hk : k = k'
  · subst hk
    rw [decide_eq_true rfl]
    exact hF k a b M K
  · rw [decide_eq_false hk, hne k k' a b M hk]
    rfl
theorem bnK_run (op : BinOp) (t : TypeId) (cn : Bool) (x y : Operand) : (bnK P t cn (cx G x) (cx G y) op).run LV s M K = thn (bnG P false op t cn (evG G s x) (evG G s y) M) K := by
  have e1 := cx_run (G := G) x s
  have e2 := cx_run (G := G) y s
  cases op with
  | add =>
    show bi ((cx G x).run s) addF (bnZ P .add t cn) ((cx G x).run s) ((cx G y).run s) M K = _
    rw [e1, e2]
    exact bi_eq (fun k a b M K => by rw [addF_eq]; simp [bnG, bin, intBin, chk, thn, ret]) (fun k k' a b M hk => by simp [bnG, bin, intBin, chk, hk]) _ _ M K
  | sub =>
    show bi ((cx G x).run s) subF (bnZ P .sub t cn) ((cx G x).run s) ((cx G y).run s) M K = _
    rw [e1, e2]
    exact bi_eq (fun k a b M K => by rw [subF_eq]; simp [bnG, bin, intBin, chk, thn, ret]) (fun k k' a b M hk => by simp [bnG, bin, intBin, chk, hk]) _ _ M K
  | mul =>
    show bi ((cx G x).run s) mulF (bnZ P .mul t cn) ((cx G x).run s) ((cx G y).run s) M K = _
    rw [e1, e2]
    exact bi_eq (fun k a b M K => by rw [mulF_eq]; simp [bnG, bin, intBin, chk, thn, ret]) (fun k k' a b M hk => by simp [bnG, bin, intBin, chk, hk]) _ _ M K
  | eql =>
    show bi ((cx G x).run s) eqI (bnZ P .eql t cn) ((cx G x).run s) ((cx G y).run s) M K = _
    rw [e1, e2]
    exact bi_eq (fun k a b M K => by simp [eqI, boK_eq, eqJ_eq, ltJ_eq, leJ_eq, bnG, bin, intBin, chk, thn, ret]) (fun k k' a b M hk => by simp [bnG, bin, intBin, chk, hk]) _ _ M K
  | neq =>
    show bi ((cx G x).run s) neI (bnZ P .neq t cn) ((cx G x).run s) ((cx G y).run s) M K = _
    rw [e1, e2]
    exact bi_eq (fun k a b M K => by simp [neI, boK_eq, eqJ_eq, ltJ_eq, leJ_eq, bnG, bin, intBin, chk, thn, ret]) (fun k k' a b M hk => by simp [bnG, bin, intBin, chk, hk]) _ _ M K
  | lss =>
    show bi ((cx G x).run s) ltI (bnZ P .lss t cn) ((cx G x).run s) ((cx G y).run s) M K = _
    rw [e1, e2]
    exact bi_eq (fun k a b M K => by simp [ltI, boK_eq, eqJ_eq, ltJ_eq, leJ_eq, bnG, bin, intBin, chk, thn, ret]) (fun k k' a b M hk => by simp [bnG, bin, intBin, chk, hk]) _ _ M K
  | leq =>
    show bi ((cx G x).run s) leI (bnZ P .leq t cn) ((cx G x).run s) ((cx G y).run s) M K = _
    rw [e1, e2]
    exact bi_eq (fun k a b M K => by simp [leI, boK_eq, eqJ_eq, ltJ_eq, leJ_eq, bnG, bin, intBin, chk, thn, ret]) (fun k k' a b M hk => by simp [bnG, bin, intBin, chk, hk]) _ _ M K
  | gtr =>
    show bi ((cx G x).run s) gtI (bnZ P .gtr t cn) ((cx G x).run s) ((cx G y).run s) M K = _
    rw [e1, e2]
    exact bi_eq (fun k a b M K => by simp [gtI, boK_eq, eqJ_eq, ltJ_eq, leJ_eq, bnG, bin, intBin, chk, thn, ret]) (fun k k' a b M hk => by simp [bnG, bin, intBin, chk, hk]) _ _ M K
  | geq =>
    show bi ((cx G x).run s) geI (bnZ P .geq t cn) ((cx G x).run s) ((cx G y).run s) M K = _
    rw [e1, e2]
    exact bi_eq (fun k a b M K => by simp [geI, boK_eq, eqJ_eq, ltJ_eq, leJ_eq, bnG, bin, intBin, chk, thn, ret]) (fun k k' a b M hk => by simp [bnG, bin, intBin, chk, hk]) _ _ M K
  | _ =>
    show bnZ P _ t cn ((cx G x).run s) ((cx G y).run s) M K = _
    rw [e1, e2]
    exact bnZ_eq _ t cn _ _ M K
theorem faK_eq (x : CV) (k : Nat) (M : Mem) (K : KR) : faK x k M K = thn (faF k x M) K := by
  cases x <;> try rfl
  rename_i g o
  show fR (Nat.add o k) (kP g M K) = _
  rw [fR_eq]
  rfl
theorem iaK_eq {t e : TypeId} {k : Nat} (hu : P.underlying t = some (.slice e)) (hk : sz P e = some k) (x i : Operand) : iaK (evG G s x) (evG G s i) k M K = thn (exOp P false (evG G s) (.indexAddr t x i) M) K := by
  simp only [exOp, hu]
  generalize evG G s x = a
  generalize evG G s i = b
  cases a <;> try rfl
  rename_i g o n m z
  cases b <;> try rfl
  rename_i kk j
  simp only [nat, hk]
  show iaJ j g o n k M K = _
  cases j with
  | negSucc j =>
    have : decide (0 ≤ Int.negSucc j) = false := decide_eq_false (by omega)
    rw [this]
    rfl
  | ofNat j =>
    have : decide (0 ≤ Int.ofNat j) = true := decide_eq_true (by simp only [Int.ofNat_eq_natCast]; omega)
    rw [this]
    show Bool.rec (motive := fun _ => Nat → Nat → Nat → Nat → Mem → KR → Res) (fun _ _ _ _ _ _ => none) (fun i g o k M K => fR (Nat.add o (Nat.mul i k)) (kP g M K)) (Nat.ble (Nat.succ j) n) j g o k M K = thn (bif Nat.ble (Nat.succ j) n then _ else none) K
    cases Nat.ble (Nat.succ j) n with
    | false => rfl
    | true =>
      show fR (Nat.add o (Nat.mul j k)) (kP g M K) = _
      rw [fR_eq]
      rfl
theorem cvK_eq {src dst : TypeId} {k' k : IntKind} (hs : P.underlying src = some (.int k')) (hd : P.underlying dst = some (.int k)) (x : Operand) : cvK (evG G s x) k M K = thn (exOp P false (evG G s) (.convert src dst x) M) K := by
  have hb : toBt P src dst = false := by unfold toBt; rw [hs, hd]
  simp only [exOp, hb, cond_false, convC, hs, hd]
  cases evG G s x <;> try rfl
  rename_i kk n
  exact wrK_eq n k M K
theorem clK_eq (LV : Lev) (f : CV) (args : List CV) (M : Mem) (K : KR) : clK P LV f args M K = thn (match f with
    | .fn g q l => callX P LV g (q ++ (args ++ l)) M
    | .yl g => LV.yld g args M
    | _ => none) K := by
  cases f <;> first | rfl | exact reK_eq _ _
theorem ci_run (o : Op) : (ci P G o).run LV s M K = thn (op1 P false LV (evG G s) o M) K := by
  cases o with
  | move x => show fF ((cx G x).run s) (kM M K) = _; rw [fF_eq, cx_run]; rfl
  | assign x => show fF ((cx G x).run s) (kM M K) = _; rw [fF_eq, cx_run]; rfl
  | load t x =>
    have h0 : op1 P false LV (evG G s) (.load t x) M = exOp P false (evG G s) (.load t x) M := rfl
    rw [h0]
    simp only [ci]
    have hl := load_run (P := P) (md := false) (evG G s) M t x
    unfold o_load at hl
    cases ha : isAg P t with
    | none => exact mid_run _
    | some g =>
      cases hs : sz P t with
      | none => cases g <;> exact mid_run _
      | some n =>
        rw [ha, hs] at hl
        cases g with
        | true =>
          show laX ((cx G x).run s) n M K = _
          rw [laX_eq, cx_run, ← hl]
        | false =>
          simp only at hl ⊢
          cases hn : Nat.beq n 1 with
          | false => exact mid_run _
          | true =>
            rw [hn] at hl
            show ld1K ((cx G x).run s) M K = _
            rw [ld1K_eq, cx_run, ← hl]
            rfl
  | store t x y =>
    have h0 : op1 P false LV (evG G s) (.store t x y) M = exOp P false (evG G s) (.store t x y) M := rfl
    rw [h0]
    simp only [ci]
    cases hs : sz P t with
    | none => exact mid_run _
    | some n =>
      rw [store_run' t x y hs]
      simp only
      cases hn : Nat.beq n 1 with
      | false => show stZ n ((cx G x).run s) ((cx G y).run s) M K = _; rw [cx_run, cx_run]
      | true =>
        have := Nat.eq_of_beq_eq_true hn
        subst this
        show Bool.rec (motive := fun _ => CV → CV → Mem → KR → Res) (stZ 1) st1K (isS ((cx G y).run s)) ((cx G x).run s) ((cx G y).run s) M K = _
        rw [cx_run, cx_run]
        cases hi : isS (evG G s y) with
        | false => rfl
        | true => exact st1K_eq _ _ M K (isS_cells hi)
  | fieldAddr t x f =>
    have h0 : op1 P false LV (evG G s) (.fieldAddr t x f) M = exOp P false (evG G s) (.fieldAddr t x f) M := rfl
    rw [h0, ← fieldAddr_run]
    unfold o_fieldAddr
    simp only [ci]
    cases hf : foff P t f with
    | none =>
      refine (mid_run _).trans ?_
      rfl
    | some k =>
      show faK ((cx G x).run s) k M K = _
      rw [faK_eq, cx_run]
  | indexAddr t x i =>
    have h0 : op1 P false LV (evG G s) (.indexAddr t x i) M = exOp P false (evG G s) (.indexAddr t x i) M := rfl
    rw [h0]
    simp only [ci]
    split
    · rename_i e hu
      cases hk : sz P e with
      | none => exact mid_run _
      | some k =>
        show iaK ((cx G x).run s) ((cx G i).run s) k M K = _
        rw [cx_run, cx_run]
        exact iaK_eq hu hk x i
    · exact mid_run _
  | binOp op t x y c =>
    have h0 : op1 P false LV (evG G s) (.binOp op t x y c) M = bnG P false op t (isConst x || isConst y) (evG G s x) (evG G s y) M := rfl
    rw [h0]
    exact bnK_run op t _ x y
  | convert src dst x =>
    have h0 : op1 P false LV (evG G s) (.convert src dst x) M = exOp P false (evG G s) (.convert src dst x) M := rfl
    rw [h0]
    simp only [ci]
    split
    · rename_i k' k hs hd
      show cvK ((cx G x).run s) k M K = _
      rw [cx_run]
      exact cvK_eq hs hd x
    · exact mid_run _
  | call c =>
    obtain ⟨cl, asx, tys⟩ := c
    cases cl with
    | value x =>
      have hv : (clV P (cx G x) (cxL G asx.toList) LV s M K) = thn (op1 P false LV (evG G s) (.call { callee := .value x, args := asx, argTypes := tys }) M) K := by
        show clK P LV ((cx G x).run s) ((cxL G asx.toList).run s) M K = _
        rw [clK_eq, cx_run, cxL_run]
        rfl
      cases x with
      | func g =>
        show reK (callX P LV g ((cxL G asx.toList).run s) M) K = _
        rw [reK_eq, cxL_run]
        show thn (callX P LV g (asx.toList.map (evG G s)) M) K = thn (callX P LV g ([] ++ (asx.toList.map (evG G s) ++ [])) M) K
        rw [List.append_nil, List.nil_append]
      | _ => exact hv
    | builtin b => exact mid_run _
    | invoke r m => exact mid_run _
  | _ => exact mid_run _
end
end
end Mu.CI
end
section
/-
  A run of code over known memory: the quick run is the run: regions.
  Conditions: none; generic.
-/
namespace Mu.CI
open Go Go.RowKit
noncomputable section
set_option linter.unusedVariables false

section
variable {P : Program} {G n : Nat} {LV : Lev} {s : Sl} {M : Mem} {ops : Array Oper}
theorem putK_false {R : Type} (d : Option Tmp) (v : CV) (K : Sl → Option R) : putK false n s d v K = match d with | none => K s | some d => bif Nat.blt d n then K (s.set d v) else none := by
  cases d with
  | none => rfl
  | some d => unfold putK; simp only [fW_eq, Tr.setK_eq]
theorem ptN_run (o : Op) (N : Rg) (d : Option Tmp) (K : KS) : (ptN n (ci P G o) N d).run LV s M K = match op1 P false LV (evG G s) o M with | some (v, M') => putK false n s d v (fun s => N.run LV s M' K) | none => none := by
  cases d with
  | none =>
    show (ci P G o).run LV s M (nxV N LV s K) = _
    rw [ci_run]
    unfold thn
    cases op1 P false LV (evG G s) o M with
    | none => rfl
    | some p => rfl
  | some d =>
    simp only [ptN]
    cases hb : Nat.blt d n with
    | false =>
      rw [cond_false]
      cases op1 P false LV (evG G s) o M with
      | none => rfl
      | some p => simp only [putK_false, hb, cond_false]
    | true =>
      rw [cond_true]
      show (ci P G o).run LV s M (nxD d N LV s K) = _
      rw [ci_run]
      unfold thn
      cases op1 P false LV (evG G s) o M with
      | none => rfl
      | some p =>
        simp only [putK_false, hb, cond_true]
        unfold nxD
        rw [slS_eq]
        rfl
theorem udN_run (N : Rg) (d : Option Tmp) (K : KS) : (udN n N d).run LV s M K = putK false n s d .ud (fun s => N.run LV s M K) := by
  cases d with
  | none => rfl
  | some d =>
    rw [putK_false]
    unfold udN
    simp only
    cases Nat.blt d n with
    | false => rfl
    | true =>
      rw [cond_true, cond_true]
      show udT N d LV s M K = _
      unfold udT
      rw [slS_eq]
      rfl
theorem gdB_eq (y : CV) (want : Bool) (A B : Rg) (K : KS) : gdB y want A B LV s M K = match y with | .bo y => bif (bif want then y else !y) then A.run LV s M K else B.run LV s M K | .ud => B.run LV s M K | _ => none := by
  cases y <;> try rfl
  rename_i y
  cases y <;> cases want <;> rfl
theorem gdO_eq {o : Oper} {j : Nat} {want : Bool} {d : Tmp} (hg : o.guard = some (j, want)) (hd : (ops[j]?).bind (·.dst) = some d) : gdO ops s o = match (s.get d).getD .ud with | .bo y => some (bif want then y else !y) | .ud => some false | _ => none := by
  unfold gdO
  rw [hg]
  simp only [hd]
  cases s.get d with
  | none => rfl
  | some x => cases x <;> rfl
theorem stepK_false {R : Type} (o : Oper) (K : CV → Sl → Mem → Option R) : stepK P false G n LV ops s o M K = match gdO ops s o with
    | some true => (match op1 P false LV (evG G s) o.op M with | some (v, M) => putK false n s o.dst v fun s => K v s M | none => none)
    | some false => putK false n s o.dst .ud fun s => K .ud s M
    | none => none := by
  unfold stepK
  cases hg : o.guard with
  | none =>
    have : gdO ops s o = some true := by unfold gdO; rw [hg]
    simp only [this]
    cases op1 P false LV (evG G s) o.op M <;> rfl
  | some p =>
    simp only
    cases gdO ops s o with
    | none => rfl
    | some b => cases b <;> rfl
theorem opN_run (o : Oper) (N : Rg) (K : KS) : (opN P G n ops o N).run LV s M K = stepK P false G n LV ops s o M (fun _ s M => N.run LV s M K) := by
  rw [stepK_false]
  unfold opN
  cases hg : o.guard with
  | none =>
    have : gdO ops s o = some true := by unfold gdO; rw [hg]
    rw [this]
    exact ptN_run _ _ _ _
  | some p =>
    obtain ⟨j, want⟩ := p
    simp only
    cases hd : (ops[j]?).bind (·.dst) with
    | none =>
      have : gdO ops s o = none := by unfold gdO; rw [hg]; simp only [hd]
      rw [this]
    | some d =>
      simp only
      rw [gdO_eq hg hd]
      show gdB (slG d s) want _ _ LV s M K = _
      rw [gdB_eq, slG_eq]
      cases (s.get d).getD .ud <;> try rfl
      · exact udN_run _ _ _
      · rename_i y
        cases want <;> cases y
        · exact ptN_run _ _ _ _
        · exact udN_run _ _ _
        · exact udN_run _ _ _
        · exact ptN_run _ _ _ _
theorem stepK_congr {R : Type} {md : Bool} {o : Oper} {K K' : CV → Sl → Mem → Option R} (h : ∀ v s M, K v s M = K' v s M) : stepK P md G n LV ops s o M K = stepK P md G n LV ops s o M K' := by
  have : K = K' := funext fun v => funext fun s => funext fun M => h v s M
  rw [this]
theorem sqD_run : ∀ (l : List Oper) (s : Sl) (M : Mem) (K : KS), (sqD P G n ops l).run LV s M K = seqR P false G n LV ops l s M K
  | [], s, M, K => rfl
  | o :: l, s, M, K => by
    show (opN P G n ops o (sqD P G n ops l)).run LV s M K = _
    rw [opN_run]
    unfold seqR
    exact stepK_congr fun v s M => sqD_run l s M K
/-! ### drawn regions -/
theorem ptW_run (o : Op) (d : Option Tmp) (K : CV → Sl → Mem → Res) : (ptW n (ci P G o) d).run LV s M K = match op1 P false LV (evG G s) o M with | some (v, M') => putK false n s d v (fun s => K v s M') | none => none := by
  cases d with
  | none =>
    show (ci P G o).run LV s M (wgV s K) = _
    rw [ci_run]
    unfold thn
    cases op1 P false LV (evG G s) o M with
    | none => rfl
    | some p => rfl
  | some d =>
    simp only [ptW]
    cases hb : Nat.blt d n with
    | false =>
      rw [cond_false]
      cases op1 P false LV (evG G s) o M with
      | none => rfl
      | some p => simp only [putK_false, hb, cond_false]
    | true =>
      rw [cond_true]
      show (ci P G o).run LV s M (wgD d s K) = _
      rw [ci_run]
      unfold thn
      cases op1 P false LV (evG G s) o M with
      | none => rfl
      | some p =>
        simp only [putK_false, hb, cond_true]
        unfold wgD
        rw [slS_eq]
        rfl
theorem udW_run (d : Option Tmp) (K : CV → Sl → Mem → Res) : (udW n d).run LV s M K = putK false n s d .ud (fun s => K .ud s M) := by
  cases d with
  | none => rfl
  | some d =>
    rw [putK_false]
    unfold udW
    simp only
    cases Nat.blt d n with
    | false => rfl
    | true =>
      rw [cond_true, cond_true]
      show slS d s .ud (wgM .ud M K) = _
      rw [slS_eq]
      rfl
theorem opW_run (o : Oper) (K : CV → Sl → Mem → Res) : (opW P G n ops o).run LV s M K = stepK P false G n LV ops s o M K := by
  rw [stepK_false]
  unfold opW
  cases hg : o.guard with
  | none =>
    have : gdO ops s o = some true := by unfold gdO; rw [hg]
    rw [this]
    exact ptW_run _ _ _
  | some p =>
    obtain ⟨j, want⟩ := p
    simp only
    cases hd : (ops[j]?).bind (·.dst) with
    | none =>
      have : gdO ops s o = none := by unfold gdO; rw [hg]; simp only [hd]
      rw [this]
    | some d =>
      simp only
      rw [gdO_eq hg hd]
      show gdW d want _ _ LV s M K = _
      unfold gdW
      rw [slG_eq]
      cases (s.get d).getD .ud <;> try rfl
      · exact udW_run _ _
      · rename_i y
        cases want <;> cases y
        · exact ptW_run _ _ _
        · exact udW_run _ _
        · exact udW_run _ _
        · exact ptW_run _ _ _
theorem drD_run : ∀ (l : List Step) (s : Sl) (M : Mem) (es : List Ev) (Vs : List Mem) (K : KD), (drD P G n ops l).run LV s M es Vs K = runD P false G n LV ops l s M es Vs K
  | [], s, M, es, Vs, K => rfl
  | p :: l, s, M, es, Vs, K => by
    show evD P G n ops p (drD P G n ops l) LV s M es Vs K = _
    unfold evD
    rw [opW_run]
    unfold runD
    refine stepK_congr fun v s' M' => ?_
    unfold evK
    exact drD_run l _ _ _ _ K
theorem atV'_eq (e : Ev) (V : Mem) : atV' P G e V = atV P false G e V := by
  unfold atV' atV
  have : (fun y => (cx G y).run e.s) = evG G e.s := funext fun y => cx_run y e.s
  rw [this, comp_run]
  cases Nat.beq e.p.c 1 <;> rfl
theorem atVs'_eq (e : Ev) : ∀ (l : List Mem) (k : Nat), atVs' P G e l k = atVs P false G e l k
  | [], _ => rfl
  | V :: l, k => by
    unfold atVs' atVs
    rw [atV'_eq, atVs'_eq e l (k + 1)]
theorem chkEs'_eq (Vs : List Mem) : ∀ (es : List Ev), chkEs' P G ops Vs es = chkEs P false G ops Vs es
  | [] => rfl
  | e :: es => by
    unfold chkEs' chkEs
    rw [chkEs'_eq Vs es, atVs'_eq]
    cases gdO ops e.s e.p.o <;> rfl
theorem drR_run (K : KS) : (drR P G n ops).run LV s M K = drawR P false G n LV ops s M K := by
  unfold drR drawR
  simp only
  cases okR P ops (plan P ops.toList) with
  | false => rfl
  | true =>
    rw [cond_true, cond_true]
    show rgF P G ops _ LV s M K = _
    unfold rgF
    rw [drD_run]
    congr 1
    funext s' M' es Vs
    rw [chkEs'_eq]
    unfold chk
    rfl
/-! ### what comes after -/
section
variable {R S : Type} {md : Bool} (F : R → Option S)
theorem putK_bind (d : Option Tmp) (v : CV) (K : Sl → Option R) : (putK md n s d v K).bind F = putK md n s d v fun s => (K s).bind F := by
  unfold putK
  cases d with
  | none => rfl
  | some d =>
    simp only [fW_eq, Tr.setK_eq]
    cases Nat.blt d n <;> rfl
theorem stepK_bind (o : Oper) (K : CV → Sl → Mem → Option R) : (stepK P false G n LV ops s o M K).bind F = stepK P false G n LV ops s o M fun v s M => (K v s M).bind F := by
  rw [stepK_false, stepK_false]
  cases gdO ops s o with
  | none => rfl
  | some b =>
    cases b with
    | false => exact putK_bind F _ _ _
    | true =>
      simp only
      cases op1 P false LV (evG G s) o.op M with
      | none => rfl
      | some p => exact putK_bind F _ _ _
theorem seqR_bind : ∀ (l : List Oper) (s : Sl) (M : Mem) (K : Sl → Mem → Option R), (seqR P false G n LV ops l s M K).bind F = seqR P false G n LV ops l s M fun s M => (K s M).bind F
  | [], s, M, K => rfl
  | o :: l, s, M, K => by
    unfold seqR
    rw [stepK_bind]
    exact stepK_congr fun v s M => seqR_bind l s M K
theorem runD_bind : ∀ (l : List Step) (s : Sl) (M : Mem) (es : List Ev) (Vs : List Mem) (K : Sl → Mem → List Ev → List Mem → Option R), (runD P false G n LV ops l s M es Vs K).bind F = runD P false G n LV ops l s M es Vs fun s M es Vs => (K s M es Vs).bind F
  | [], s, M, es, Vs, K => rfl
  | p :: l, s, M, es, Vs, K => by
    unfold runD
    rw [stepK_bind]
    exact stepK_congr fun v s M => runD_bind l s M _ _ K
theorem drawR_bind (K : Sl → Mem → Option R) : (drawR P false G n LV ops s M K).bind F = drawR P false G n LV ops s M fun s M => (K s M).bind F := by
  unfold drawR
  simp only
  cases okR P ops (plan P ops.toList) with
  | false => rfl
  | true =>
    rw [cond_true, cond_true, runD_bind]
    congr 1
    funext s' M' es Vs
    unfold chk
    simp only [cond_false]
    cases chkEs P false G ops (M' :: Vs).reverse es <;> rfl
end
end
end
end Mu.CI
end
section
/-
  A run of code over known memory: the quick run is the run: control, calls, levels.
  Conditions: none; generic.
-/
namespace Mu.CI
open Go Go.RowKit
noncomputable section
set_option linter.unusedVariables false

section
variable {P : Program} {G n LF : Nat} {LV : Lev} {fn : FuncId} {rd : Option Nat}
def fin (K : KN) (X : KX) : Ret → Res
  | some (.nm, f, M) => K f.s f.ds M
  | some (x, f, M) => X x f.s f.ds M
  | none => none
theorem cdB_eq (y : CV) (A B : Prg) (s : Sl) (ds : Ds) (M : Mem) (K : KN) (X : KX) : cdB y A B LV rd s ds M K X = match y with | .bo y => bif y then A.run LV rd s ds M K X else B.run LV rd s ds M K X | _ => none := by
  cases y <;> try rfl
  rename_i y
  cases y <;> rfl
theorem lpD_run {Q : Prg} {step : Fr → Mem → Ret} (h : ∀ s ds M K X, Q.run LV rd s ds M K X = fin K X (step ⟨s, ds⟩ M)) (K : KN) (X : KX) : ∀ (m : Nat) (s : Sl) (ds : Ds) (M : Mem), lpD Q LV rd X m s ds M = fin K X (loopN step m ⟨s, ds⟩ M)
  | 0, s, ds, M => rfl
  | m + 1, s, ds, M => by
    show Q.run LV rd s ds M (lpD Q LV rd X m) X = _
    rw [h]
    show _ = fin K X (match step ⟨s, ds⟩ M with
      | some (.nm, f, M) => loopN step m f M
      | some (x, f, M) => some (x, f, M)
      | none => none)
    cases step ⟨s, ds⟩ M with
    | none => rfl
    | some p =>
      obtain ⟨x, ⟨s', ds'⟩, M'⟩ := p
      cases x with
      | nm => exact lpD_run h K X m s' ds' M'
      | _ => rfl
theorem fin_bind (K : KN) (X : KX) (r : Ret) : fin K X r = r.bind fun p => fin K X (some p) := by cases r <;> rfl
theorem pr_run : ∀ (c : Code) (s : Sl) (ds : Ds) (M : Mem) (K : KN) (X : KX), (pr P G n fn LF c).run LV rd s ds M K X = fin K X (exC P false G n LV fn rd LF c ⟨s, ds⟩ M)
  | .skip, s, ds, M, K, X => rfl
  | .label _, s, ds, M, K, X => rfl
  | .exit _, s, ds, M, K, X => rfl
  | .goto _, s, ds, M, K, X => rfl
  | .ret, s, ds, M, K, X => rfl
  | .refuse _, s, ds, M, K, X => rfl
  | .region _ ops draw, s, ds, M, K, X => by
    cases draw with
    | true =>
      show (drR P G n ops).run LV s M (rgk ds K) = fin K X (drawR P false G n LV ops s M fun s M => some (.nm, ⟨s, ds⟩, M))
      rw [drR_run, fin_bind, drawR_bind]
      rfl
    | false =>
      show (match lastD ops.toList with
        | none => (⟨rgR (sqD P G n ops ops.toList)⟩ : Prg)
        | some (pre, o) => ⟨rgP G (sqD P G n ops pre) (sqD P G n ops ops.toList) o⟩).run LV rd s ds M K X = fin K X (match splitD rd ops.toList with
        | some (pre, o) => seqR P false G n LV ops pre s M fun s M => (match dfrI G s o with
          | some i => some (.nm, ⟨s, i :: ds⟩, M)
          | none => none)
        | none => seqR P false G n LV ops ops.toList s M fun s M => some (.nm, ⟨s, ds⟩, M))
      have plain : (sqD P G n ops ops.toList).run LV s M (rgk ds K) = fin K X (seqR P false G n LV ops ops.toList s M fun s M => some (.nm, ⟨s, ds⟩, M)) := by
        rw [sqD_run, fin_bind, seqR_bind]
        rfl
      cases hl : lastD ops.toList with
      | none =>
        have : splitD rd ops.toList = none := by cases rd <;> simp [splitD, hl]
        rw [this]
        exact plain
      | some q =>
        obtain ⟨pre, o⟩ := q
        cases rd with
        | some r => exact plain
        | none =>
          have : splitD none ops.toList = some (pre, o) := hl
          rw [this]
          show (sqD P G n ops pre).run LV s M (rgq G o ds K) = fin K X (seqR P false G n LV ops pre s M fun s M => (match dfrI G s o with
            | some i => some (.nm, ⟨s, i :: ds⟩, M)
            | none => none))
          rw [sqD_run, fin_bind, seqR_bind]
          congr 1
          funext s' M'
          unfold rgq
          cases dfrI G s' o <;> rfl
  | .seq a b, s, ds, M, K, X => by
    show (pr P G n fn LF a).run LV rd s ds M (sqk (pr P G n fn LF b) LV rd K X) X = fin K X (match exC P false G n LV fn rd LF a ⟨s, ds⟩ M with
      | some (.nm, f, M) => exC P false G n LV fn rd LF b f M
      | some (x, f, M) => some (x, f, M)
      | none => none)
    rw [pr_run a]
    cases exC P false G n LV fn rd LF a ⟨s, ds⟩ M with
    | none => rfl
    | some p =>
      obtain ⟨x, ⟨s', ds'⟩, M'⟩ := p
      cases x with
      | nm => exact pr_run b s' ds' M' K X
      | _ => rfl
  | .cond c a b, s, ds, M, K, X => by
    show cdB ((cx G c).run s) (pr P G n fn LF a) (pr P G n fn LF b) LV rd s ds M K X = fin K X (match evG G s c with
      | .bo y => cnd false y M (fun M => exC P false G n LV fn rd LF a ⟨s, ds⟩ M) (fun M => exC P false G n LV fn rd LF b ⟨s, ds⟩ M)
      | _ => none)
    rw [cdB_eq, cx_run]
    cases evG G s c <;> try rfl
    rename_i y
    cases y with
    | true => exact pr_run a s ds M K X
    | false => exact pr_run b s ds M K X
  | .block id c, s, ds, M, K, X => by
    show (pr P G n fn LF c).run LV rd s ds M K (exK id K X) = fin K X (match exC P false G n LV fn rd LF c ⟨s, ds⟩ M with
      | some (.ex i, f, M) => bif Nat.beq i id then some (.nm, f, M) else some (.ex i, f, M)
      | some (x, f, M) => some (x, f, M)
      | none => none)
    rw [pr_run c]
    cases exC P false G n LV fn rd LF c ⟨s, ds⟩ M with
    | none => rfl
    | some p =>
      obtain ⟨x, ⟨s', ds'⟩, M'⟩ := p
      cases x <;> try rfl
      rename_i i
      show exB (Nat.beq i id) K X (.ex i) s' ds' M' = fin K X (bif Nat.beq i id then some (.nm, ⟨s', ds'⟩, M') else some (.ex i, ⟨s', ds'⟩, M'))
      cases Nat.beq i id <;> rfl
  | .loop c, s, ds, M, K, X => lpD_run (fun s ds M K X => pr_run c s ds M K X) K X LF s ds M
  | .scope c, s, ds, M, K, X => by
    show (pr P G n fn LF c).run LV rd s ds M K (scK X) = fin K X (match exC P false G n LV fn rd LF c ⟨s, ds⟩ M with
      | some (.gt _, _, _) => none
      | some (x, f, M) => some (x, f, M)
      | none => none)
    rw [pr_run c]
    cases exC P false G n LV fn rd LF c ⟨s, ds⟩ M with
    | none => rfl
    | some p =>
      obtain ⟨x, ⟨s', ds'⟩, M'⟩ := p
      cases x <;> rfl
  | .rangeFunc g ps asx bd, s, ds, M, K, X => by
    show (match exC P false G n LV fn rd LF (.rangeFunc g ps asx bd) ⟨s, ds⟩ M with
      | some (.nm, f, M) => K f.s f.ds M
      | some (x, f, M) => X x f.s f.ds M
      | none => none) = _
    cases exC P false G n LV fn rd LF (.rangeFunc g ps asx bd) ⟨s, ds⟩ M with
    | none => rfl
    | some p =>
      obtain ⟨x, f, M'⟩ := p
      cases x <;> rfl
theorem agA_eq : ∀ (vs : List CV) (i : Nat) (s : Sl) (K : Sl → Res), agA vs i s K = argsK false vs i s K
  | [], i, s, K => rfl
  | v :: vs, i, s, K => by
    show fF v (fun v => slS i s v fun s => fN (Nat.succ i) fun i => agA vs i s K) = _
    unfold argsK
    simp only [fF_eq, slS_eq, fW_eq, Tr.setK_eq, fN_eq]
    exact agA_eq vs (i + 1) _ K
theorem argsK_congr {R : Type} {md : Bool} {vs : List CV} {i : Nat} {s : Sl} {K K' : Sl → Option R} (h : ∀ s, K s = K' s) : argsK md vs i s K = argsK md vs i s K' := by
  have : K = K' := funext h
  rw [this]
theorem caG_eq (g : FuncId) (args : List CV) (M : Mem) : caG P G LF LV g args M = callC P false G LF LV g args M := by
  unfold caG callC fu
  cases hf : P.funcs[g]? with
  | none => rfl
  | some f =>
    simp only
    cases decide (f.name = "runtime.NumGoroutine") with
    | true => rfl
    | false =>
      rw [cond_false, cond_false]
      cases f.body with
      | none => rfl
      | some c =>
        show fuR P f.ntmps (pr P G f.ntmps g LF c) f.results.toList LV args M = _
        unfold fuR
        simp only
        cases Nat.ble args.length f.ntmps with
        | false => rfl
        | true =>
          rw [cond_true, cond_true, agA_eq]
          refine argsK_congr fun s => ?_
          unfold fuB
          rw [pr_run]
          cases exC P false G f.ntmps LV g none LF c ⟨s, []⟩ M with
          | none => rfl
          | some p =>
            obtain ⟨x, ⟨s', ds'⟩, M'⟩ := p
            cases x <;> rfl
theorem yldG_eq (l : Nat) (args : List CV) (M : Mem) : yldG P G LF LV l args M = yldC P false G LF LV l args M := by
  unfold yldG yldC
  generalize M.h.get l = r
  cases r with
  | none => rfl
  | some b =>
    cases b <;> try rfl
    rename_i fn s n ps assign body st pend d
    cases st <;> try rfl
    cases pend <;> try rfl
    simp only
    congr 1
    funext s1
    rw [pr_run]
    cases exC P false G n LV fn (some l) LF assign ⟨s1, []⟩ M with
    | none => rfl
    | some p =>
      obtain ⟨x, ⟨s', ds'⟩, M'⟩ := p
      cases x <;> try rfl
      simp only [fin]
      generalize M'.h.get l = r
      cases r with
      | none => rfl
      | some b =>
        cases b <;> try rfl
        rename_i fn1 s1' n1 ps1 as1 bd1 st1 pend1 d1
        cases st1 <;> try rfl
        cases pend1 <;> try rfl
        simp only [Tr.setK_eq]
        rw [pr_run]
        cases exC P false G n LV fn (some l) LF body ⟨s', ds'⟩ ⟨M'.h.set l (.loop fn1 s1' n1 ps1 as1 bd1 .busy none d1), M'.nx, M'.ob, M'.hn⟩ with
        | none => rfl
        | some q =>
          obtain ⟨y, f2, M2⟩ := q
          cases y <;> (simp only [fin, stOf, isNm, Tr.setK_eq]; try (generalize M2.h.get l = r; cases r with | none => rfl | some b => cases b <;> try rfl))
          all_goals (rename_i fn2 s2 n2 ps2 as2 bd2 st2 pend2 d2; cases st2 <;> try rfl)
          all_goals (cases pend2 <;> rfl)
theorem levG_eq (X : Lib) : ∀ d : Nat, levG P G LF X d = lev P false G LF X d
  | 0 => rfl
  | d + 1 => by
    show (⟨fun g args M => libC (X g) args M (caG P G LF (levG P G LF X d) g), yldG P G LF (levG P G LF X d), fun g args M => dfrC P false G LF (levG P G LF X d) g args M⟩ : Lev) = ⟨fun g asx M => libC (X g) asx M (callC P false G LF (lev P false G LF X d) g), fun l asx M => yldC P false G LF (lev P false G LF X d) l asx M, fun g asx M => dfrC P false G LF (lev P false G LF X d) g asx M⟩
    rw [levG_eq X d]
    congr 1
    · funext g args M
      have : caG P G LF (lev P false G LF X d) g = callC P false G LF (lev P false G LF X d) g := funext fun asx => funext fun M => caG_eq g asx M
      rw [this]
    · funext l args M
      exact yldG_eq l args M
end
end
end Mu.CI
end
section
/-
  A run of code over known memory: a call whose run was reckoned is a call of the model's.
  Conditions: none; generic.
-/
namespace Mu.CI
open Go Go.RowKit
noncomputable section
section
variable {P : Program} {G LF : Nat} {B : Nat} {N : Nat → Prop} {w0 w : World} {E : Env} {M M' : Mem} {d : Nat} {g : FuncId} {args : List CV} {vs : List Value} {v : CV}
theorem calls_of {X : Lib} (HX : LibOK P G X) (hmix : P.follows .mixedOrders = true) (h : (levG P G LF X d).call g args M = some (v, M')) (hob : allT M'.ob = true) (H : HR B N w0 E M w) (HG : GR E G) (ha : VRL E args vs) :
    Calls P g vs.toArray w (lp fun u w' => ∃ E', Env.ex M.nx E E' ∧ HR B N w0 E' M' w' ∧ VR E' v u) := by
  rw [levG_eq] at h
  exact (((levOK HX hmix d).call _ _ _ _ _ h).2.2 (allT_eq hob) B N w0 E w vs H HG ha).2
/-- the package variables that are known, each at its own place -/
def env0 (G : Nat) (sz : Nat → Nat) : Env := fun i => if i < G then some ⟨i, 0, sz i⟩ else none
def isTrue (r : Res) : Bool := match r with
  | some (.bo true, M) => allT M.ob
  | _ => false
theorem kp_below {n : Nat} (h : Kp (fun k => k < n) w0 w) (hn : n = w0.heap.size) : Below w0.heap.size w0 w := ⟨h.os, h.tape, h.output, h.size, fun k hk => h.block k (hn ▸ hk)⟩
/-- the start: package variables that are read only -/
theorem start {sz : Nat → Nat} {h : Tr RB} (hG : G ≤ w.heap.size) (hro : ∀ i b, h.get i = some b → i < G ∧ ∃ c, b = .ro c ∧ CellsR (env0 G sz) w ⟨i, 0, sz i⟩ c) :
    HR G (fun k => k < w.heap.size) w (env0 G sz) ⟨h, G, [], []⟩ w ∧ GR (env0 G sz) G := by
  have he : ∀ i L, env0 G sz i = some L → i < G ∧ L = ⟨i, 0, sz i⟩ := fun i L hi => by
    unfold env0 at hi
    split at hi
    · rename_i hlt; cases hi; exact ⟨hlt, rfl⟩
    · cases hi
  have hlive : ∀ i, RB.live (h.get i) = false := fun i => by
    cases hg : h.get i with
    | none => rfl
    | some b => obtain ⟨_, c, rfl, _⟩ := hro i b hg; rfl
  refine ⟨⟨Kp.refl _ _, fun k hk => hk, fun i L hi => ?_, fun i L hi hl => ?_, fun i b hb => (hro i _ hb).1, fun i hi => ⟨⟨i, 0, sz i⟩, by unfold env0; rw [if_pos hi], Nat.lt_of_lt_of_le hi hG⟩, fun i L b hi hb => ?_, fun i j L K _ _ _ hl _ => ?_, fun i hi => ⟨?_, ?_⟩⟩, fun g hg => ⟨⟨g, 0, sz g⟩, by unfold env0; rw [if_pos hg], rfl, rfl⟩⟩
  · obtain ⟨h1, rfl⟩ := he i L hi
    exact Nat.lt_of_lt_of_le h1 hG
  · rw [hlive] at hl; cases hl
  · obtain ⟨h1, rfl⟩ := he i L hi
    obtain ⟨_, c, rfl, hc⟩ := hro i b hb
    exact hc
  · rw [hlive] at hl; cases hl
  · cases hg : h.get i with
    | none => rfl
    | some b => exact absurd (hro i b hg).1 (Nat.not_lt.2 hi)
  · show env0 G sz i = none
    unfold env0
    rw [if_neg (Nat.not_lt.2 hi)]
theorem closed_true {X : Lib} (HX : LibOK P G X) (hmix : P.follows .mixedOrders = true) {sz : Nat → Nat} {h : Tr RB} (hG : G ≤ w.heap.size) (hro : ∀ i b, h.get i = some b → i < G ∧ ∃ c, b = .ro c ∧ CellsR (env0 G sz) w ⟨i, 0, sz i⟩ c)
    (hr : isTrue ((levG P G LF X d).call g [] ⟨h, G, [], []⟩) = true) : Calls P g #[] w fun e w' => e = .returned (.bool true) ∧ Below w.heap.size w w' := by
  obtain ⟨H, HG⟩ := start hG hro
  unfold isTrue at hr
  split at hr
  · rename_i M' hx
    have := calls_of (vs := []) HX hmix hx hr H HG VRL.nil
    refine this.mono ?_
    rintro e w' ⟨u, rfl, E', _, H', hu⟩
    unfold VR at hu
    exact ⟨by rw [hu], kp_below H'.kp rfl⟩
  · cases hr
end
end
end Mu.CI
end
section
/-
  DERIVED: THE SHELF's CONTRACTS AT THIS DUMP, IN PLAIN WORDS (tools/lay-plain.mjs out of 'TryShelfM.lean', which tools/lay-shelf.mjs wrote): THE SAME DECLARATIONS UNDER THE SAME NAMES: 'import', 'namespace', 'open', 'def', 'theorem' AND NOTHING ELSE: no command of the shelf's: FOR A HAND-IN. Each laying: the table of numbers ('.._ren') and one theorem, a field a fact of the dump's own or the kernel's comparison; each contract: ONE APPLICATION.
-/
namespace Go.Proofs
open Go.Shelf
def Tryz.keysM_ren : Go.Shelf.Ren := ⟨fun | 7 => 131 | 10 => 153 | n => n, fun | 23 => 96 | 26 => 3 | 3 => 3 | 28 => 154 | 0 => 0 | 27 => 153 | 33 => 113 | 4 => 4 | n => n, fun | n => n⟩
theorem Tryz.keysM : Go.Proofs.SlLaysZI.n7 Tryz.prog Tryz.keysM_ren := {
  mixed := by kernel_rfl
  f7 := ⟨Tryz.f131.name, by decide, Tryz.func131.trans (congrArg some (by kernel_rfl))⟩
  f10 := ⟨Tryz.f153.name, by decide, Tryz.func153.trans (congrArg some (by kernel_rfl))⟩
  t0 := Tryz.underlying0
  a0 := Tryz.isAgg0
  z0 := Tryz.sizeOf0
  v0 := Tryz.zeroValue0
  t4 := Tryz.underlying4
  a4 := Tryz.isAgg4
  z4 := Tryz.sizeOf4
  v4 := Tryz.zeroValue4
  t23 := Tryz.underlying96
  a23 := Tryz.isAgg96
  z23 := Tryz.sizeOf96
  v23 := Tryz.zeroValue96
  t26 := Tryz.underlying3
  a26 := Tryz.isAgg3
  z26 := Tryz.sizeOf3
  v26 := Tryz.zeroValue3
  t27 := Tryz.underlying153
  a27 := Tryz.isAgg153
  z27 := Tryz.sizeOf153
  v27 := Tryz.zeroValue153
  t28 := Tryz.underlying154
  a28 := Tryz.isAgg154
  z28 := Tryz.sizeOf154
  v28 := Tryz.zeroValue154
  t33 := Tryz.underlying113
  a33 := Tryz.isAgg113
  z33 := Tryz.sizeOf113
  v33 := Tryz.zeroValue113 }
def Tryz.sortedM_ren : Go.Shelf.Ren := ⟨fun | 6 => 117 | 8 => 146 | 9 => 84 | 11 => 159 | 13 => 115 | 12 => 114 | 23 => 143 | 24 => 144 | 14 => 135 | 15 => 136 | 16 => 137 | 17 => 138 | 18 => 139 | 19 => 140 | 20 => 88 | 21 => 141 | 22 => 142 | 25 => 154 | 26 => 155 | 27 => 156 | 28 => 157 | 29 => 158 | 30 => 120 | 31 => 162 | n => n, fun | 26 => 3 | 28 => 154 | 24 => 29 | 0 => 0 | 3 => 3 | 37 => 120 | 48 => 53 | 50 => 180 | 4 => 4 | 40 => 173 | 39 => 172 | 45 => 86 | 5 => 5 | 9 => 9 | 51 => 186 | 55 => 190 | 57 => 195 | 58 => 135 | 33 => 113 | n => n, fun | n => n⟩
theorem Tryz.sortedM : Go.Proofs.SlLaysZI.n6 Tryz.prog Tryz.sortedM_ren := {
  mixed := by kernel_rfl
  f6 := ⟨Tryz.f117.name, by decide, Tryz.func117.trans (congrArg some (by kernel_rfl))⟩
  f8 := ⟨Tryz.f146.name, by decide, Tryz.func146.trans (congrArg some (by kernel_rfl))⟩
  f11 := ⟨Tryz.f159.name, by decide, Tryz.func159.trans (congrArg some (by kernel_rfl))⟩
  t0 := Tryz.underlying0
  a0 := Tryz.isAgg0
  z0 := Tryz.sizeOf0
  v0 := Tryz.zeroValue0
  t24 := Tryz.underlying29
  a24 := Tryz.isAgg29
  z24 := Tryz.sizeOf29
  v24 := Tryz.zeroValue29
  t26 := Tryz.underlying3
  a26 := Tryz.isAgg3
  z26 := Tryz.sizeOf3
  v26 := Tryz.zeroValue3
  t28 := Tryz.underlying154
  a28 := Tryz.isAgg154
  z28 := Tryz.sizeOf154
  v28 := Tryz.zeroValue154
  i26 := by kernel_rfl }
def Tryz.sortM_ren : Go.Shelf.Ren := ⟨fun | 5 => 84 | 8 => 115 | 7 => 114 | 19 => 143 | 20 => 144 | 10 => 135 | 11 => 136 | 12 => 137 | 13 => 138 | 14 => 139 | 15 => 140 | 16 => 88 | 17 => 141 | 18 => 142 | 30 => 154 | 31 => 155 | 32 => 156 | 33 => 157 | 34 => 158 | 35 => 120 | 40 => 162 | n => n, fun | 23 => 29 | 25 => 3 | 3 => 3 | 32 => 120 | 22 => 29 | 0 => 0 | 44 => 53 | 46 => 180 | 4 => 4 | 36 => 173 | 35 => 172 | 41 => 86 | 5 => 5 | 9 => 9 | 53 => 186 | 57 => 190 | 63 => 195 | 64 => 135 | n => n, fun | n => n⟩
theorem Tryz.sortM : Go.Proofs.SlLaysM.n5 Tryz.prog Tryz.sortM_ren := {
  mixed := by kernel_rfl
  f5 := ⟨Tryz.f84.name, by decide, Tryz.func84.trans (congrArg some (by kernel_rfl))⟩
  f7 := ⟨Tryz.f114.name, by decide, Tryz.func114.trans (congrArg some (by kernel_rfl))⟩
  f8 := Tryz.func115.trans (congrArg some (by kernel_rfl))
  f10 := ⟨Tryz.f135.name, by decide, Tryz.func135.trans (congrArg some (by kernel_rfl))⟩
  f11 := ⟨Tryz.f136.name, by decide, Tryz.func136.trans (congrArg some (by kernel_rfl))⟩
  f12 := ⟨Tryz.f137.name, by decide, Tryz.func137.trans (congrArg some (by kernel_rfl))⟩
  f13 := ⟨Tryz.f138.name, by decide, Tryz.func138.trans (congrArg some (by kernel_rfl))⟩
  f14 := ⟨Tryz.f139.name, by decide, Tryz.func139.trans (congrArg some (by kernel_rfl))⟩
  f15 := ⟨Tryz.f140.name, by decide, Tryz.func140.trans (congrArg some (by kernel_rfl))⟩
  f16 := ⟨Tryz.f88.name, by decide, Tryz.func88.trans (congrArg some (by kernel_rfl))⟩
  f17 := ⟨Tryz.f141.name, by decide, Tryz.func141.trans (congrArg some (by kernel_rfl))⟩
  f18 := ⟨Tryz.f142.name, by decide, Tryz.func142.trans (congrArg some (by kernel_rfl))⟩
  f19 := Tryz.func143.trans (congrArg some (by kernel_rfl))
  f20 := Tryz.func144.trans (congrArg some (by kernel_rfl))
  f30 := ⟨Tryz.f154.name, by decide, Tryz.func154.trans (congrArg some (by kernel_rfl))⟩
  f31 := Tryz.func155.trans (congrArg some (by kernel_rfl))
  f32 := Tryz.func156.trans (congrArg some (by kernel_rfl))
  f33 := ⟨Tryz.f157.name, by decide, Tryz.func157.trans (congrArg some (by kernel_rfl))⟩
  f34 := ⟨Tryz.f158.name, by decide, Tryz.func158.trans (congrArg some (by kernel_rfl))⟩
  f35 := ⟨Tryz.f120.name, by decide, Tryz.func120.trans (congrArg some (by kernel_rfl))⟩
  f40 := ⟨Tryz.f162.name, by decide, Tryz.func162.trans (congrArg some (by kernel_rfl))⟩
  t0 := Tryz.underlying0
  a0 := Tryz.isAgg0
  z0 := Tryz.sizeOf0
  v0 := Tryz.zeroValue0
  t3 := Tryz.underlying3
  a3 := Tryz.isAgg3
  z3 := Tryz.sizeOf3
  v3 := Tryz.zeroValue3
  t4 := Tryz.underlying4
  a4 := Tryz.isAgg4
  z4 := Tryz.sizeOf4
  v4 := Tryz.zeroValue4
  t5 := Tryz.underlying5
  a5 := Tryz.isAgg5
  z5 := Tryz.sizeOf5
  v5 := Tryz.zeroValue5
  t9 := Tryz.underlying9
  a9 := Tryz.isAgg9
  z9 := Tryz.sizeOf9
  v9 := Tryz.zeroValue9
  t22 := Tryz.underlying29
  a22 := Tryz.isAgg29
  z22 := Tryz.sizeOf29
  v22 := Tryz.zeroValue29
  t23 := Tryz.underlying29
  a23 := Tryz.isAgg29
  z23 := Tryz.sizeOf29
  v23 := Tryz.zeroValue29
  t25 := Tryz.underlying3
  a25 := Tryz.isAgg3
  z25 := Tryz.sizeOf3
  v25 := Tryz.zeroValue3
  t32 := Tryz.underlying120
  a32 := Tryz.isAgg120
  z32 := Tryz.sizeOf120
  v32 := Tryz.zeroValue120
  t35 := Tryz.underlying172
  a35 := Tryz.isAgg172
  z35 := Tryz.sizeOf172
  v35 := Tryz.zeroValue172
  t36 := Tryz.underlying173
  a36 := Tryz.isAgg173
  z36 := Tryz.sizeOf173
  v36 := Tryz.zeroValue173
  t41 := Tryz.underlying86
  a41 := Tryz.isAgg86
  z41 := Tryz.sizeOf86
  v41 := Tryz.zeroValue86
  t44 := Tryz.underlying53
  a44 := Tryz.isAgg53
  z44 := Tryz.sizeOf53
  v44 := Tryz.zeroValue53
  t46 := Tryz.underlying180
  a46 := Tryz.isAgg180
  z46 := Tryz.sizeOf180
  v46 := Tryz.zeroValue180
  t53 := Tryz.underlying186
  a53 := Tryz.isAgg186
  z53 := Tryz.sizeOf186
  v53 := Tryz.zeroValue186
  t57 := Tryz.underlying190
  a57 := Tryz.isAgg190
  z57 := Tryz.sizeOf190
  v57 := Tryz.zeroValue190
  t63 := Tryz.underlying195
  a63 := Tryz.isAgg195
  z63 := Tryz.sizeOf195
  v63 := Tryz.zeroValue195
  t64 := Tryz.underlying135
  a64 := Tryz.isAgg135
  z64 := Tryz.sizeOf135
  v64 := Tryz.zeroValue135 }
end Go.Proofs
end
section
/-
  Sets of registers as maps of the call's own: what a map holds, key by key; its keys, sorted.
  Conditions: none.
-/
namespace Mu
open Go Go.RowKit Go.Proofs Go.Maps Go.Sort Go.Shelf

def wf64 (x : Int) : Prop := (Lit.int .i64 x).wf = true
/-- a map of the call's own, as a set of its keys -/
def SetM (w : World) (b : Nat) (S : Int → Bool) : Prop := ∃ (D : DataW Unit), w.ownsMap Tryz.prog 3 (plainElem Tryz.prog 3) b (Maps.size D) D ∧ ∀ x, wf64 x → has D (.int .i64 x) = S x

theorem keyI : Keyed Tryz.prog 3 := int_keyed Tryz.underlying3
theorem own_exact {w : World} {b n : Nat} {D : DataW Unit} (h : w.ownsMap Tryz.prog 3 (plainElem Tryz.prog 3) b n D) : w.ownsMap Tryz.prog 3 (plainElem Tryz.prog 3) b (Maps.size D) D := by
  obtain ⟨es, clock, h1, h2, h3, rfl⟩ := h
  refine ⟨es, clock, h1, h2, ?_, rfl⟩
  rw [size_eq, length_read]
  exact Nat.le_refl _
/-- strictly rising -/
def Asc (l : List Int) : Prop := l.Pairwise (· < ·)
theorem Asc.nodup {l : List Int} (h : Asc l) : l.Nodup := h.imp (fun {a b} hab => by omega)
theorem Asc.filter {l : List Int} (h : Asc l) (S : Int → Bool) : Asc (l.filter S) := List.Pairwise.filter _ h
theorem asc_ext {l m : List Int} (hl : Asc l) (hm : Asc m) (h : ∀ x, x ∈ l ↔ x ∈ m) : l = m := by
  have hp : l.Perm m := (List.perm_ext_iff_of_nodup hl.nodup hm.nodup).2 h
  exact List.Perm.eq_of_pairwise (le := fun a b => a < b) (fun a b _ _ h1 h2 => by omega) hl hm hp
theorem asc_sort {l : List Int} (h : l.Nodup) : Asc (l.mergeSort fun x y => decide (x ≤ y)) := by
  have tr : ∀ a b c : Int, leI a b = true → leI b c = true → leI a c = true := fun a b c h1 h2 => by simp only [leI, decide_eq_true_eq] at *; exact Int.le_trans h1 h2
  have to : ∀ a b : Int, (leI a b || leI b a) = true := fun a b => by simp only [leI, Bool.or_eq_true, decide_eq_true_eq]; exact Int.le_total a b
  have h1 := List.pairwise_mergeSort tr to l
  have h2 : (l.mergeSort leI).Nodup := (List.mergeSort_perm l leI).nodup_iff.2 h
  refine (List.Pairwise.and h1 h2).imp fun {a b} hab => ?_
  obtain ⟨h3, h4⟩ := hab
  simp only [leI, decide_eq_true_eq] at h3
  omega

/-- the keys of a set, listed -/
theorem keys_of {w : World} {b : Nat} {D : DataW Unit} {n : Nat} (h : w.ownsMap Tryz.prog 3 (plainElem Tryz.prog 3) b n D) : (intKeys D).Nodup ∧ (∀ x, x ∈ intKeys D ↔ wf64 x ∧ has D (.int .i64 x) = true) ∧ (intKeys D).length = Maps.size D := by
  obtain ⟨es, rfl, hpw, _⟩ := h.entries keyI
  obtain ⟨es', hD', hko⟩ := h.keysOf
  obtain rfl : es = es' := by simpa using hD'
  have hk : ∀ p ∈ es, ∃ x, p.1 = .int .i64 x ∧ wf64 x := fun p hp => by
    obtain ⟨v, hv⟩ := hko p hp
    obtain ⟨x, _, hx, hw⟩ := Maps.keyOf_i64 Tryz.underlying3 hv
    exact ⟨x, hx, hw⟩
  refine ⟨?_, fun x => ?_, by simp [intKeys, size_eq]⟩
  · show (es.map fun p => Go.intOf p.1).Nodup
    refine List.pairwise_map.2 (hpw.imp_of_mem fun {p q} hp' hq' hne e => hne ?_)
    obtain ⟨a, ha, _⟩ := hk p hp'
    obtain ⟨b, hb, _⟩ := hk q hq'
    rw [ha, hb] at e ⊢
    exact congrArg _ e
  · rw [has_eq, List.any_eq_true]
    show x ∈ es.map (fun p => Go.intOf p.1) ↔ _
    rw [List.mem_map]
    constructor
    · rintro ⟨p, hp', rfl⟩
      obtain ⟨a, ha, hw⟩ := hk p hp'
      rw [ha]
      exact ⟨hw, p, hp', by rw [ha]; simp [Lit.sameKey, Go.intOf]⟩
    · rintro ⟨_, p, hp', hs⟩
      obtain ⟨a, ha, _⟩ := hk p hp'
      rw [ha] at hs
      exact ⟨p, hp', by rw [ha]; simpa [Lit.sameKey, Go.intOf] using hs⟩
theorem size_of {w : World} {b : Nat} {D : DataW Unit} {n : Nat} {S : Int → Bool} {R : List Int} (h : w.ownsMap Tryz.prog 3 (plainElem Tryz.prog 3) b n D) (hS : ∀ x, wf64 x → has D (.int .i64 x) = S x) (hR : Asc R) (hw : ∀ x ∈ R, wf64 x)
    (hin : ∀ x, wf64 x → S x = true → x ∈ R) : (intKeys D).Perm (R.filter S) ∧ Maps.size D = (R.filter S).length := by
  obtain ⟨h1, h2, h3⟩ := keys_of h
  have hp : (intKeys D).Perm (R.filter S) := (List.perm_ext_iff_of_nodup h1 (hR.filter S).nodup).2 fun x => by
    rw [h2, List.mem_filter]
    constructor
    · rintro ⟨hx, hh⟩
      rw [hS x hx] at hh
      exact ⟨hin x hx hh, hh⟩
    · rintro ⟨hx, hs⟩
      exact ⟨hw x hx, by rw [hS x (hw x hx)]; exact hs⟩
  exact ⟨hp, by rw [← h3]; exact hp.length_eq⟩

theorem sortsM (m : Nat) : AnyZI.SortsIn Tryz.prog Tryz.sortedM_ren Fence.wide m :=
  ⟨fun blk off cap ss W hH hblk hsz => callsIn_wide.2 (AnyM.slices_Sort_int Tryz.sortM blk off cap ss W hH hblk hsz),
   fun p cap W => callsIn_wide.2 (AnyM.slices_Sort_int_none Tryz.sortM p cap W)⟩

set_option maxRecDepth 100000 in
set_option maxHeartbeats 1000000 in
theorem set_list {b : Nat} {S : Int → Bool} {R : List Int} (w : World) (h : SetM w b S) (hR : Asc R) (hw : ∀ x ∈ R, wf64 x) (hin : ∀ x, wf64 x → S x = true → x ∈ R) (hl : R.length ≤ 2147483648) :
    Calls Tryz.prog 98 #[.map (some b)] w fun e w' => ∃ v, e = .returned v ∧ OwnI w' w.heap.size v (R.filter S) ∧ Below w.heap.size w w' := by
  obtain ⟨D, hown, hS⟩ := h
  obtain ⟨hperm, hsz⟩ := size_of hown hS hR hw hin
  have hfl := List.length_filter_le S R
  have hmax : Maps.size D ≤ maxLen := by rw [hsz]; unfold maxLen; omega
  have hbytes : Maps.size D * 8 ≤ 140737488355328 := by rw [hsz]; omega
  refine (callsIn_wide (n := 6)).1 ?_
  have hbl := hown.lt
  have hseq : SeqGives Fence.wide 2 Tryz.prog 153 #[.pointer (some ⟨w.heap.size, 0, none⟩)] encZ (fun ss => ss.Perm (intKeys D)) (Maps.size D) (w.alloc (.cells #[.map (some b)] 96)) :=
    AnyZI.keys_gives (ρ := Tryz.keysM_ren) { Tryz.keysM with } Fence.wide _ trivial rfl (by omega) w.heap.size b (Maps.size D) D _ (by simp) (by simp) (by
      obtain ⟨es, clock, hb, Ft, hs, hD⟩ := hown
      exact ⟨es, clock, (Below.heap_alloc _ _ b hbl).trans hb, Ft, hs, hD⟩)
  have cK : ∀ mb W, CallsIn Fence.wide 5 Tryz.prog 131 #[.map mb] W fun e w' => e = .returned (.func (.func 153) #[] #[.pointer (some ⟨W.heap.size, 0, none⟩)]) ∧ w' = W.alloc (.cells #[.map mb] 96) := fun mb W => AnyZI.keys_in Tryz.keysM Fence.wide 5 trivial rfl mb W
  have cS := AnyZI.sorted_in Tryz.sortedM Fence.wide 5 trivial trivial trivial trivial rfl (by omega) (sortsM _) (enters_of Tryz.func84 (by kernel_rfl) rfl) 153 #[.pointer (some ⟨w.heap.size, 0, none⟩)] trivial (enters_of Tryz.func153 (by kernel_rfl) rfl) _ _ hmax hbytes _ hseq
  change CallsIn _ _ Tryz.prog 117 _ _ _ at cS
  have hfK : Fence.wide.fn 131 := trivial
  have hfS : Fence.wide.fn 117 := trivial
  have HP := Lib.hid hperm
  clear hS hsz hperm hin hw
  refine callsIn_of_wp Tryz.func98 rfl trivial ?_ rfl
  simp only [Tryz.ntmps98, List.size_toArray, List.length_cons, List.length_nil, Nat.reduceAdd, Nat.reduceSub, Array.replicate_succ, Array.replicate_zero, List.push_toArray, List.append_toArray, List.nil_append, List.cons_append]
  gi_wp2_with (first
    | (gi_at_call 131; refine (cK _ _).mono ?_; rintro e w' ⟨rfl, rfl⟩)
    | (gi_at_call 117; refine cS.mono ?_; rintro e w' ⟨v, ss, rfl, hS, hrow, hnil, hb⟩))
  go_ret
  have hp2 : ss.Perm (R.filter S) := hS.trans HP.out
  have he : (ss.mergeSort fun x y => decide (x ≤ y)) = R.filter S :=
    asc_ext (asc_sort (hp2.nodup_iff.2 (hR.filter S).nodup)) (hR.filter S) (fun x => ((List.mergeSort_perm ss _).mem_iff).trans hp2.mem_iff)
  refine ⟨v, rfl, ?_, ((Below.refl _ w).alloc (Nat.le_refl _) _).trans (hb.mono (by simp))⟩
  have hrow2 : w'.ownsRow w.heap.size 3 1 v ss.length ((ss.mergeSort (fun x y => decide (x ≤ y))).map encZ) := ownsRow_base_a hrow (by simp)
  rw [he] at hrow2
  exact .of hrow2 hp2.length_eq rfl
end Mu
end
section
/-
  A run of code over known memory: the sorted keys of a set of numbers, whatever the order in which its map is gone over.
  Conditions: none.
-/
namespace Mu.CI
open Mu Go Go.RowKit Go.Proofs Go.Maps Go.WideElems
noncomputable section
set_option linter.unusedVariables false

def keysI : List (CV × CV × Nat) → Option (List Int)
  | [] => some []
  | (.it .i64 k, .it .i64 v, _) :: r => bif (Lit.int .i64 k).wf && (Lit.int .i64 v).wf then (match keysI r with | some l => some (k :: l) | none => none) else none
  | _ => none
def bornI : List (CV × CV × Nat) → List Nat
  | [] => []
  | (_, _, n) :: r => n :: bornI r
def inI (x : Int) : List Int → Bool
  | [] => false
  | y :: l => decide (x = y) || inI x l
def nodI : List Int → Bool
  | [] => true
  | x :: l => !inI x l && nodI l
def nodN : List Nat → Bool
  | [] => true
  | x :: l => !memN x l && nodN l
def allLt (c : Nat) : List Nat → Bool
  | [] => true
  | x :: l => Nat.blt x c && allLt c l
def insI (x : Int) : List Int → List Int
  | [] => [x]
  | y :: l => bif decide (x < y) then x :: y :: l else y :: insI x l
def sortI : List Int → List Int
  | [] => []
  | x :: l => insI x (sortI l)
def itI (x : Int) : CV := .it .i64 x
def listI (args : List CV) (M : Mem) : Res := match args with
  | [.mp m] => (match M.h.get m with
    | some (.map (e1 :: e2 :: es) c) => (match keysI (e1 :: e2 :: es) with
      | some ks => bif nodI ks && (nodN (bornI (e1 :: e2 :: es)) && (allLt c (bornI (e1 :: e2 :: es)) && Nat.ble (e1 :: e2 :: es).length 1000000)) then
        (match M.newC false ((sortI ks).map itI) with
        | some M' => some (.sl M.nx 0 (sortI ks).length (sortI ks).length 1, M')
        | none => none) else none
      | none => none)
    | _ => none)
  | _ => none
section
theorem inI_iff {x : Int} : ∀ {l : List Int}, inI x l = true ↔ x ∈ l
  | [] => by simp [inI]
  | y :: l => by simp [inI, inI_iff (l := l)]
theorem nodI_nodup : ∀ {l : List Int}, nodI l = true → l.Nodup
  | [], _ => List.nodup_nil
  | x :: l, h => by
    simp only [nodI, Bool.and_eq_true, Bool.not_eq_true'] at h
    refine List.nodup_cons.2 ⟨fun hx => ?_, nodI_nodup h.2⟩
    rw [inI_iff.2 hx] at h
    cases h.1
theorem nodN_nodup : ∀ {l : List Nat}, nodN l = true → l.Nodup
  | [], _ => List.nodup_nil
  | x :: l, h => by
    simp only [nodN, Bool.and_eq_true, Bool.not_eq_true'] at h
    refine List.nodup_cons.2 ⟨fun hx => ?_, nodN_nodup h.2⟩
    rw [memN_iff.2 hx] at h
    cases h.1
theorem allLt_lt {c : Nat} : ∀ {l : List Nat}, allLt c l = true → ∀ n ∈ l, n < c
  | [], _, n, h => by cases h
  | x :: l, h, n, hn => by
    simp only [allLt, Bool.and_eq_true] at h
    rcases List.mem_cons.1 hn with rfl | hn
    · exact Nat.blt_eq.mp h.1
    · exact allLt_lt h.2 n hn
theorem mem_insI {x y : Int} : ∀ {l : List Int}, y ∈ insI x l ↔ y = x ∨ y ∈ l
  | [] => by simp [insI]
  | z :: l => by
    unfold insI
    cases decide (x < z) with
    | true => simp
    | false => simp only [cond_false, List.mem_cons, mem_insI (l := l)]; exact ⟨fun h => by rcases h with h | h | h <;> simp [h], fun h => by rcases h with h | h | h <;> simp [h]⟩
theorem mem_sortI {y : Int} : ∀ {l : List Int}, y ∈ sortI l ↔ y ∈ l
  | [] => by simp [sortI]
  | x :: l => by simp only [sortI, mem_insI, List.mem_cons, mem_sortI (l := l)]
theorem asc_insI {x : Int} : ∀ {l : List Int}, Asc l → x ∉ l → Asc (insI x l)
  | [], _, _ => by simp [insI, Asc]
  | z :: l, h, hx => by
    unfold insI
    cases hb : decide (x < z) with
    | true =>
      have hlt := of_decide_eq_true hb
      refine List.pairwise_cons.2 ⟨fun y hy => ?_, h⟩
      rcases List.mem_cons.1 hy with rfl | hy
      · exact hlt
      · have := List.rel_of_pairwise_cons h hy
        omega
    | false =>
      have hlt := of_decide_eq_false hb
      simp only [List.mem_cons, not_or] at hx
      rw [cond_false]
      refine List.pairwise_cons.2 ⟨fun y hy => ?_, asc_insI (List.Pairwise.of_cons h) hx.2⟩
      rcases mem_insI.1 hy with rfl | hy
      · have := hx.1
        omega
      · exact List.rel_of_pairwise_cons h hy
theorem asc_sortI : ∀ {l : List Int}, l.Nodup → Asc (sortI l)
  | [], _ => List.Pairwise.nil
  | x :: l, h => by
    rw [List.nodup_cons] at h
    exact asc_insI (asc_sortI h.2) fun hx => h.1 (mem_sortI.1 hx)
theorem len_insI (x : Int) : ∀ (l : List Int), (insI x l).length = l.length + 1
  | [] => rfl
  | z :: l => by
    unfold insI
    cases decide (x < z) with
    | true => rfl
    | false => simp [len_insI x l]
theorem len_sortI : ∀ (l : List Int), (sortI l).length = l.length
  | [] => rfl
  | x :: l => by simp [sortI, len_insI, len_sortI l]
/-- a set's map, as it is known -/
theorem keysI_ent {E : Env} : ∀ {es : List (CV × CV × Nat)} {ms : List MapEntry} {ks : List Int}, keysI es = some ks → EntR E es ms → ms.map (·.key) = ks.map (Value.int .i64) ∧ ms.map (·.born) = bornI es ∧ (∀ x ∈ ms, ∃ k v, x.key = .int .i64 k ∧ x.val = .int .i64 v ∧ (Lit.int .i64 k).wf = true ∧ (Lit.int .i64 v).wf = true) ∧ ∀ k ∈ ks, wf64 k
  | [], ms, ks, h, hE => by
    cases h
    unfold EntR at hE
    subst hE
    exact ⟨rfl, rfl, fun x hx => (by cases hx), fun k hk => by cases hk⟩
  | (k, v, n) :: es, ms, ks, h, hE => by
    unfold EntR at hE
    obtain ⟨e, r, rfl, h1, h2, h3, h4⟩ := hE
    unfold keysI at h
    split at h
    · cases ‹_ :: _ = []›
    · rename_i k v n es' he
      cases he
      cases hb : (Lit.int .i64 k).wf && (Lit.int .i64 v).wf with
      | false => rw [hb] at h; cases h
      | true =>
        rw [hb, cond_true] at h
        rw [Bool.and_eq_true] at hb
        cases hr : keysI es with
        | none => rw [hr] at h; cases h
        | some l =>
          rw [hr] at h
          cases h
          obtain ⟨g1, g2, g3, g4⟩ := keysI_ent hr h4
          unfold VR at h1 h2
          refine ⟨by simp [h1, g1], by simp [bornI, h3, g2], fun x hx => ?_, fun z hz => ?_⟩
          · rcases List.mem_cons.1 hx with rfl | hx
            · exact ⟨k, v, h1, h2, hb.1, hb.2⟩
            · exact g3 x hx
          · rcases List.mem_cons.1 hz with rfl | hz
            · exact hb.1
            · exact g4 z hz
    · cases h
theorem any_foldr {f : Lit × DataW Unit → Bool} : ∀ (l : List (Lit × DataW Unit)), (l.foldr DataW.insert []).any f = l.any f
  | [] => rfl
  | x :: l => by rw [List.foldr_cons, any_insert, any_foldr l, List.any_cons]
theorem setM_of {w : World} {b : Nat} {ms : List MapEntry} {clock : Nat} {ks : List Int} (hw : w.heap[b]? = some (.map ms.toArray clock)) (h1 : ms.map (·.key) = ks.map (Value.int .i64)) (h3 : ∀ x ∈ ms, ∃ k v, x.key = .int .i64 k ∧ x.val = .int .i64 v ∧ (Lit.int .i64 k).wf = true ∧ (Lit.int .i64 v).wf = true)
    (hk : ks.Nodup) (hb : (ms.map (·.born)).Nodup) (hc : ∀ x ∈ ms, x.born < clock) (hl : ms.length ≤ 1000000) : SetM w b fun x => inI x ks := by
  have hty := Tryz.underlying3
  have hrd : ∀ x ∈ ms, ∀ k, x.key = .int .i64 k → ∃ d, rd Tryz.prog 3 (plainElem (H := Unit) Tryz.prog 3) x = some (.int .i64 k, d) := fun x hx k hxk => by
    obtain ⟨k', v, e1, e2, e3, e4⟩ := h3 x hx
    rw [hxk] at e1
    cases e1
    obtain ⟨kk, vv, nn⟩ := x
    simp only at hxk e2
    subst hxk e2
    exact ⟨_, rd_mk (keyOf_int_mk hty e3) (plainElem_int hty e4)⟩
  refine ⟨.map ((ms.map (rg Tryz.prog 3 (plainElem Tryz.prog 3))).foldr DataW.insert []), own_exact (n := ms.length) ⟨ms.toArray, clock, hw, ⟨?_, ⟨fun x hx => hc x (by simpa using hx), by simpa using hb, ?_⟩, fun x hx => ?_⟩, by simp, by simp⟩, fun x hx => ?_⟩
  · simp only [List.size_toArray]
    have : (1000000 : Nat) ≤ maxLen := by decide
    omega
  · simp only []
    rw [h1]
    exact List.pairwise_map.2 (hk.imp fun h e => h (by cases e; rfl))
  · obtain ⟨k, v, e1, _⟩ := h3 x (by simpa using hx)
    obtain ⟨d, hd⟩ := hrd x (by simpa using hx) k e1
    exact ⟨_, hd⟩
  · rw [has_eq, any_foldr, List.any_map]
    clear hl hc hb hk hw
    induction ms generalizing ks with
    | nil =>
      cases ks with
      | nil => rfl
      | cons k ks => simp at h1
    | cons e ms ih =>
      cases ks with
      | nil => simp at h1
      | cons k ks =>
        simp only [List.map_cons, List.cons.injEq] at h1
        obtain ⟨d, hd⟩ := hrd e (by simp) k h1.1
        have hi := ih h1.2 (fun x hx => h3 x (by simp [hx])) (fun x hx => hrd x (by simp [hx]))
        rw [List.any_cons, hi]
        unfold inI
        have hs : (rg (H := Unit) Tryz.prog 3 (plainElem Tryz.prog 3) e).1.sameKey (.int .i64 x) = decide (x = k) := by
          rw [rg_of hd]
          simp only [Lit.sameKey, true_and]
          exact decide_eq_decide.2 eq_comm
        rw [Function.comp, hs]
        cases ks <;> rfl
set_option maxRecDepth 100000 in
theorem listI_ok {G : Nat} {args : List CV} {M M' : Mem} {v : CV} (h : listI args M = some (v, M')) : M.sfx M' ∧ M.nx ≤ M'.nx ∧ (M'.Holds → ∀ (B : Nat) (N : Nat → Prop) (w0 : World) (E : Env) (w : World) (vs : List Value),
    HR B N w0 E M w → GR E G → VRL E args vs → Enters Tryz.prog 98 = true ∧ Calls Tryz.prog 98 vs.toArray w (lp fun u w' => ∃ E', Env.ex M.nx E E' ∧ HR B N w0 E' M' w' ∧ VR E' v u)) := by
  unfold listI at h
  split at h
  · rename_i m
    split at h
    · rename_i e1 e2 es c hm
      generalize hes : e1 :: e2 :: es = es' at h hm
      split at h
      · rename_i ks hks
        cases hb : nodI ks && (nodN (bornI es') && (allLt c (bornI es') && Nat.ble es'.length 1000000)) with
        | false => rw [hb] at h; cases h
        | true =>
          rw [hb, cond_true, Mem.newC_eq] at h
          simp only [Option.some.injEq, Prod.mk.injEq] at h
          obtain ⟨rfl, rfl⟩ := h
          simp only [Bool.and_eq_true] at hb
          obtain ⟨b1, b2, b3, b4⟩ := hb
          refine ⟨⟨[], rfl⟩, Nat.le_succ _, fun hH B N w0 E w vs H HG hv => ⟨by kernel_rfl, ?_⟩⟩
          unfold VRL at hv
          obtain ⟨u, r, rfl, hu, hr⟩ := hv
          unfold VRL at hr
          subst hr
          unfold VR at hu
          obtain ⟨L, hL, rfl⟩ := hu
          obtain ⟨ms, q1, q2⟩ := H.blk m L _ hL hm
          obtain ⟨g1, g2, g3, g4⟩ := keysI_ent hks q2
          have hlen : ms.length = es'.length := by
            have := congrArg List.length g2
            simp only [List.length_map] at this
            have hb : ∀ l : List (CV × CV × Nat), (bornI l).length = l.length := by
              intro l
              induction l with
              | nil => rfl
              | cons a l ih => obtain ⟨_, _, _⟩ := a; simp [bornI, ih]
            rw [this, hb]
          have hkl : ks.length = ms.length := by
            have := congrArg List.length g1
            simpa using this.symm
          have hS := setM_of (w := w) (b := L.g) q1 g1 g3 (nodI_nodup b1) (by rw [g2]; exact nodN_nodup b2) (fun x hx => by
            have := allLt_lt b3 x.born (by rw [← g2]; exact List.mem_map_of_mem hx)
            exact this) (by rw [hlen]; exact Nat.le_of_ble_eq_true b4)
          have hfil : (sortI ks).filter (fun x => inI x ks) = sortI ks := List.filter_eq_self.2 fun x hx => inI_iff.2 (mem_sortI.1 hx)
          have hn : 2 ≤ (sortI ks).length := by rw [len_sortI, hkl, hlen, ← hes]; simp
          have hc := set_list w hS (asc_sortI (nodI_nodup b1)) (fun x hx => g4 x (mem_sortI.1 hx)) (fun x _ hx => mem_sortI.2 (inI_iff.1 hx)) (by rw [len_sortI, hkl, hlen]; have := Nat.le_of_ble_eq_true b4; omega)
          refine hc.mono ?_
          rintro e w' ⟨u, rfl, hown, hbel⟩
          rw [hfil] at hown
          unfold OwnI World.ownsRow at hown
          obtain ⟨o1, o2⟩ := hown
          rcases o2 with ⟨_, o2⟩ | ⟨g, cap, cur, rfl, o3, o4, o5, o6, o7, o8⟩
          · omega
          · have hgl : g < w'.heap.size := (Array.getElem?_eq_some_iff.1 o4).1
            obtain ⟨k1, k2⟩ := H.new (b := .cells ⟨puts ((sortI ks).map itI) 0 .e, ((sortI ks).map itI).length, []⟩) (L := ⟨g, 0, cur.size⟩) hbel o3 hgl (fun c h => by cases h) fun E' hE hE' => by
              refine ⟨cur, 3, (0, 0), o4, rfl, ?_, fun k hk => by simp, fun j hj => ?_⟩
              · show 0 + ((sortI ks).map itI).length ≤ cur.size
                rw [List.length_map, o7]
                omega
              · have hj : j < ((sortI ks).map itI).length := hj
                rw [List.length_map] at hj
                refine ⟨.int .i64 ((sortI ks)[j]'hj), ?_, ?_, rfl⟩
                · have h9 : (cur.toList.take ((sortI ks).length * 1))[j]? = ((sortI ks).map (Value.int .i64))[j]? := by rw [o8]
                  rw [List.getElem?_take_of_lt (by omega), List.getElem?_map, List.getElem?_eq_getElem hj] at h9
                  simpa using h9
                · have hget : Blk.get ⟨puts ((sortI ks).map itI) 0 .e, ((sortI ks).map itI).length, []⟩ j = itI ((sortI ks)[j]'hj) := by
                    unfold Blk.get
                    simp only [puts_get, Nat.sub_zero, List.length_map, List.getElem?_map]
                    rw [if_pos (by omega), List.getElem?_eq_getElem hj]
                    rfl
                  rw [hget]
                  unfold itI VR
                  rfl
            refine ⟨_, rfl, _, k1, k2, ?_⟩
            unfold VR
            exact ⟨⟨g, 0, cur.size⟩, cap, 0, Env.set_self, rfl, .inr rfl, Nat.le_refl _, o5, by simp only [o7]; omega⟩
      · cases h
    · cases h
  · cases h
end
end
end Mu.CI
end
section
/-
  The calls whose answers the document fixes come to true: law 23.
  Conditions: none.
-/
namespace Mu.CI
open Mu Go Go.RowKit Go.Proofs
noncomputable section
def lib23 : Lib := fun g => bif Nat.beq g 98 then some listI else none
theorem lib23_ok : LibOK Tryz.prog 0 lib23 := fun g f h args M v M' hf => by
  unfold lib23 at h
  cases hb : Nat.beq g 98 with
  | false => rw [hb] at h; cases h
  | true =>
    rw [hb] at h
    cases h
    have := Nat.eq_of_beq_eq_true hb
    subst this
    exact listI_ok hf
theorem run23 : isTrue ((levG Tryz.prog 0 100000 lib23 40).call 6 [] ⟨.e, 0, [], []⟩) = true := by decide +kernel
theorem head23 (w : World) : Calls Tryz.prog 6 #[] w fun e w' => e = .returned (.bool true) ∧ Below w.heap.size w w' :=
  closed_true lib23_ok (by kernel_rfl) (sz := fun _ => 0) (h := .e) (Nat.zero_le _) (fun i b hb => by rw [Tr.get_e] at hb; cases hb) run23
end
end Mu.CI
end
section
/-
  body.AtOnce and the law's head as functions that answer.
  Conditions: at most 1000 moves.
-/
namespace Mu
open Go Go.RowKit Go.Proofs

theorem atR_some (l : List Pair) : ∃ r : List Pair, ∃ n, AtO n (singleL l) r ∧ n ≤ 2 * l.length ∧ r.length = n := by
  obtain ⟨n, r, h⟩ := atOnce_some l
  exact ⟨r, n, h⟩
/-- moves at once, one by one -/
noncomputable def atR (l : List Pair) : List Pair := Classical.choose (atR_some l)
theorem atR_spec (l : List Pair) : ∃ n, AtO n (singleL l) (atR l) ∧ n ≤ 2 * l.length ∧ (atR l).length = n := Classical.choose_spec (atR_some l)
noncomputable def body_AtOnce (l : List Pair) : M (List Pair) := M.chk (decide (l.length ≤ 1000) && l.all okPairB) (M.ok (atR l))
theorem body_AtOnce_l {l r : List Pair} (H : (body_AtOnce l).to r) : Fn Tryz.prog 8 [.bs tPair l] (.bs tPair r) := by
  unfold body_AtOnce at H
  obtain ⟨hc, H⟩ := M.to_chk.1 H
  obtain rfl := M.to_ok.1 H
  rw [Bool.and_eq_true] at hc
  have hl := of_decide_eq_true hc.1
  obtain ⟨n, h1, h2, h3⟩ := atR_spec l
  exact atOnce_fn l hl (fun x hx => okPairB_ok (List.all_eq_true.1 hc.2 x hx)) n _ (by omega) h1
def law23_head : M Bool := M.ok true
theorem law23_head_l {r : Bool} (H : law23_head.to r) : Fn Tryz.prog 6 [] (.lit (.bool r)) := by
  obtain rfl := M.to_ok.1 H
  exact Fn.of_lit (by kernel_rfl) fun w vs hr => by
    unfold AV.relL at hr
    subst hr
    exact CI.head23 w
end Mu
end
section
/-
  muntinlaw23: same, BodyOnce, BodyMoves: what they compute.
  Conditions: none.
-/
namespace Mu
open Go Go.RowKit Go.Proofs
noncomputable section

def law23_same (a : List Pair) (b : List Pair) : M Bool := M.bnd (r18_Same a b) fun r1 => M.ok r1
set_option maxRecDepth 100000 in
set_option maxHeartbeats 4000000 in
theorem law23_same_l {a : List Pair} {b : List Pair} {r : Bool} (H : (law23_same a b).to r) : Fn Tryz.prog 7 [.bs tPair a, .bs tPair b] (.lit (.bool r)) := by
  delta law23_same at H
  try dsimp only at H
  refine Fn.of_awp Tryz.func7 rfl (by kernel_rfl) rfl Tryz.ntmps7 fun C hC => ?_
  simp only [List.length_cons, List.length_nil, Nat.reduceAdd, Nat.reduceSub, List.replicate_succ, List.replicate_zero, List.cons_append, List.nil_append]
  refine wR (hx := by (refine sA (hq := Quiet.assign rfl getC) (ht := set4) (hk := ?_); exact wEnd rfl)) (hk := ?_)
  obtain ⟨r1, k1, H⟩ := M.to_bnd.1 H
  have k1 := r18_Same_l k1
  refine wR (hx := by (refine sA (hq := Quiet.move rfl get0) (ht := set5) (hk := ?_); refine sA (hq := Quiet.move rfl get1) (ht := set6) (hk := ?_); refine sA (hq := Quiet.callA rfl rfl k1 rfl rfl) (ht := set7) (hk := ?_); refine sA (hq := Quiet.assign rfl get7) (ht := set4) (hk := ?_); exact wEnd rfl)) (hk := ?_)
  obtain rfl := M.to_ok.1 H
  exact Awp.ret ⟨.inr rfl, Fin.cl rfl⟩
def law23_BodyOnce (l : List Pair) : M Bool := M.cnd (decide ((l.length : Int) > 60)) (M.bnd law23_head fun r3 => M.ok r3) (M.chk (rowB (([] : List Pair).length + l.length) 16) (M.bnd (body_AtOnce l) fun r5 => M.bnd (r23_AtOnce l) fun r6 => M.bnd (law23_same r5 r6) fun r7 => M.bnd (M.whn r7 false (law23_same l (([] : List Pair) ++ l))) fun r8 => M.bnd (M.whn (r7 && r8) false law23_head) fun r9 => M.ok ((r7 && r8) && r9)))
set_option maxRecDepth 100000 in
set_option maxHeartbeats 4000000 in
theorem law23_BodyOnce_l {l : List Pair} {r : Bool} (H : (law23_BodyOnce l).to r) : Fn Tryz.prog 3 [.bs tPair l] (.lit (.bool r)) := by
  delta law23_BodyOnce at H
  try dsimp only at H
  refine Fn.of_awp Tryz.func3 rfl (by kernel_rfl) rfl Tryz.ntmps3 fun C hC => ?_
  simp only [List.length_cons, List.length_nil, Nat.reduceAdd, Nat.reduceSub, List.replicate_succ, List.replicate_zero, List.cons_append, List.nil_append]
  refine wR (hx := by (refine sA (hq := Quiet.assign rfl getC) (ht := set2) (hk := ?_); exact wEnd rfl)) (hk := ?_)
  refine Awp.seq fun Khs1 hs1 => ?_
  refine wR (hx := by (refine sA (hq := Quiet.move rfl get0) (ht := set4) (hk := ?_); refine sA (hq := Quiet.ln rfl get4) (ht := set5) (hk := ?_); refine sA (hq := Quiet.bin rfl get5 getC rfl) (ht := set6) (hk := ?_); exact wEnd rfl)) (hk := ?_)
  refine Awp.cond rfl (fun hb2 => ?_) (fun hb2 => ?_)
  · have H := M.to_t hb2 H
    obtain ⟨r3, k3, H⟩ := M.to_bnd.1 H
    have k3 := law23_head_l k3
    refine wR (hx := by (refine sA (hq := Quiet.callA rfl rfl k3 rfl rfl) (ht := set7) (hk := ?_); refine sA (hq := Quiet.assign rfl get7) (ht := set2) (hk := ?_); exact wEnd rfl)) (hk := ?_)
    obtain rfl := M.to_ok.1 H
    exact Awp.ret ⟨.inr rfl, Fin.cl rfl⟩
  · have H := M.to_f hb2 H
    refine Awp.skip ?_
    refine hs1 _ ?_
    refine nT (hk := ?_)
    obtain ⟨c4, H⟩ := M.to_chk.1 H
    refine wR (hx := by ((refine aSeq_t rfl (AOp.litI 0 rfl (xs := []) (T := tPair) (ds := ([] : List Pair)) rfl rfl rfl (RT.eq (n := 2) (bytes := 16)) (by decide) (by decide) .nil ?_); refine sNtM (ht := (setS8 set0)) (hk := ?_)); refine sA (hq := Quiet.move rfl get0) (ht := (setS8 set1)) (hk := ?_); (refine aSeq_t rfl (AOp.appQ rfl rfl rfl rfl rfl c4 ?_); refine sNtM (ht := (setS8 set2)) (hk := ?_)); refine sA (hq := Quiet.assign rfl (getS8 get2)) (ht := set3) (hk := ?_); exact wEnd rfl)) (hk := ?_)
    obtain ⟨r5, k5, H⟩ := M.to_bnd.1 H
    have k5 := body_AtOnce_l k5
    obtain ⟨r6, k6, H⟩ := M.to_bnd.1 H
    have k6 := r23_AtOnce_l k6
    obtain ⟨r7, k7, H⟩ := M.to_bnd.1 H
    have k7 := law23_same_l k7
    obtain ⟨r8, k8, H⟩ := M.to_bnd.1 H
    obtain ⟨r9, k9, H⟩ := M.to_bnd.1 H
    refine wR (hx := by (refine sA (hq := Quiet.move rfl get0) (ht := (setS8 set3)) (hk := ?_); refine sA (hq := Quiet.callA rfl rfl k5 rfl rfl) (ht := (setS8 set4)) (hk := ?_); refine sA (hq := Quiet.move rfl get0) (ht := (setS8 set5)) (hk := ?_); refine sA (hq := Quiet.callA rfl rfl k6 rfl rfl) (ht := (setS8 set6)) (hk := ?_); refine sA (hq := Quiet.callA rfl rfl k7 rfl rfl) (ht := (setS8 set7)) (hk := ?_); refine sA (hq := Quiet.move rfl (getS8 get7)) (ht := (setS8 (setS8 set0))) (hk := ?_); refine sG (g := r7) (hg := gA_t rfl) (hq := fun hg => Quiet.move rfl get0) (ht := (setS8 (setS8 set1))) (hk := ?_); refine sG (g := r7) (hg := gA_t rfl) (hq := fun hg => Quiet.move rfl get3) (ht := (setS8 (setS8 set2))) (hk := ?_); refine sG (g := r7) (hg := gA_t rfl) (hq := fun hg => by ((try simp only [cndT hg]); (try simp only [cndA hg]); exact Quiet.callAW rfl (law23_same_l (M.to_whn k8 hg)) (.cons (.cl rfl) (.cons (.own rfl) .nil)))) (ht := (setS8 (setS8 set3))) (hk := ?_); refine sA (hq := Quiet.pickAndB rfl (getS8 (getS8 get0)) (getS8 (getS8 get3)) getC) (ht := (setS8 (setS8 set4))) (hk := ?_); refine sA (hq := Quiet.move rfl (getS8 (getS8 get4))) (ht := (setS8 (setS8 set5))) (hk := ?_); refine sG (g := (r7 && r8)) (hg := gA_t rfl) (hq := fun hg => by ((try simp only [cndT hg]); (try simp only [cndA hg]); exact Quiet.callA rfl rfl (law23_head_l (M.to_whn k9 hg)) rfl rfl)) (ht := (setS8 (setS8 set6))) (hk := ?_); refine sA (hq := Quiet.pickAndB rfl (getS8 (getS8 get5)) (getS8 (getS8 get6)) getC) (ht := (setS8 (setS8 set7))) (hk := ?_); refine sA (hq := Quiet.assign rfl (getS8 (getS8 get7))) (ht := set2) (hk := ?_); exact wEnd rfl)) (hk := ?_)
    obtain rfl := M.to_ok.1 H
    exact Awp.ret ⟨.inr rfl, Fin.cl rfl⟩
end
end Mu
end
section
/-
  The document's moves at once are the program's: plainly, over what the code computes.
  Conditions: at most 1000 moves.
-/
namespace Mu
open Go Go.RowKit Go.Proofs

theorem w23 {k n : Nat} (hk : k < n) (hn : n ≤ 100000) : IntKind.i64.wrap ((k : Int) + 1) = ((k + 1 : Nat) : Int) := by
  rw [IntWalk.i64_in _ (by omega)]
  rfl
theorem inB23 {α : Type} {l : List α} {k : Nat} (h : k < l.length) : inBd l (k : Int) = true := inB_iff.2 ⟨by omega, by rw [Int.toNat_natCast]; exact h⟩
theorem rowB23 {n b : Nat} (hn : n ≤ 1000000) (hb : b ≤ 1000) : rowB n b = true := by
  unfold rowB maxLen
  rw [Bool.and_eq_true, decide_eq_true_eq, decide_eq_true_eq]
  refine ⟨by omega, ?_⟩
  have := Nat.mul_le_mul hn hb
  omega
theorem okB23 {x : Pair} (h : okPair x) : okPairB x = true := by
  unfold okPairB
  rw [Bool.and_eq_true]
  exact ⟨h.a, h.b⟩
/-- rounds that may end early, always with the same answer -/
theorem loop23 {ρ : Type} {step : Int → M (Int ⊕ (Unit ⊕ ρ))} {p : Nat → Bool} {v : ρ} {n : Nat}
    (h : ∀ k, k < n → (step (k : Int)).to (if p k then .inr (.inr v) else .inl ((k + 1 : Nat) : Int))) (ho : (step (n : Int)).to (.inr (.inl ()))) : (M.loop step 0).to (if (List.range n).any p then .inr v else .inl ()) := by
  have key : ∀ (d k : Nat), k + d = n → (M.loop step (k : Int)).to (if (List.range' k d).any p then .inr v else .inl ()) := by
    intro d
    induction d with
    | zero =>
      intro k hk
      have : k = n := by omega
      subst this
      exact M.loop_out ho
    | succ d ih =>
      intro k hk
      have hs := h k (by omega)
      rw [List.range'_succ, List.any_cons]
      by_cases hp : p k = true
      · rw [hp] at hs ⊢
        exact M.loop_out hs
      · have hp : p k = false := by simpa using hp
        rw [hp] at hs ⊢
        rw [Bool.false_or]
        exact M.loop_in hs (ih (k + 1) (by omega))
  have := key n 0 (by omega)
  rwa [← List.range_eq_range'] at this
theorem els23 {ρ : Type} {x : M (Unit ⊕ ρ)} {c : Bool} {v d : ρ} (h : x.to (if c then .inr v else .inl ())) : (M.els x fun _ => M.ok d).to (if c then v else d) := by
  cases c
  · exact M.els_l h (M.ok_to _)
  · exact M.els_r h
theorem if_tf (c : Bool) : (if c then true else false) = c := by cases c <;> rfl
/-- is another one from a place? -/
def fromL (l : List Pair) (k : Nat) (p : Int) : Bool := (List.range l.length).any fun i => decide (i ≠ k) && decide ((l.getD i default).b = p)
theorem from_to {l : List Pair} (hl : l.length ≤ 100000) {k : Nat} {p : Int} : (r23_from l (k : Int) p).to (fromL l k p) := by
  have h := loop23 (step := r23_from_L4 l (k : Int) p) (p := fun i => decide (i ≠ k) && decide ((l.getD i default).b = p)) (v := true) (n := l.length) (fun i hi => ?_) ?_
  · have h2 := els23 (d := false) h
    rw [if_tf] at h2
    exact h2
  · obtain ⟨x, hx⟩ : ∃ x, l[i]? = some x := ⟨_, List.getElem?_eq_getElem hi⟩
    have hd : l.getD i default = x := by rw [List.getD, hx]; rfl
    unfold r23_from_L4
    rw [ixD_of hx, w23 hi hl]
    simp only [hd]
    refine M.t_to (decide_eq_true (by omega)) (M.chk_to (by rw [inB23 hi, Bool.or_true]) ?_)
    have e : ((i : Int) != (k : Int)) = decide (i ≠ k) := by
      by_cases h : i = k
      · subst h; simp
      · rw [decide_eq_true h, bne_iff_ne]; omega
    have e2 : (x.b == p) = decide (x.b = p) := rfl
    rw [e, e2]
    cases hc : (decide (i ≠ k) && decide (x.b = p)) with
    | true => exact M.t_to rfl (M.ok_to _)
    | false => exact M.f_to rfl (M.ok_to _)
  · unfold r23_from_L4
    exact M.f_to (decide_eq_false (by omega)) (M.ok_to _)
theorem into_to {l : List Pair} (hl : l.length ≤ 100000) {p : Int} : (r23_into l p).to (l.any fun y => decide (y.a = p)) := by
  have h := loop23 (step := r23_into_L4 l p) (p := fun i => decide ((l.getD i default).a = p)) (v := true) (n := l.length) (fun i hi => ?_) ?_
  · have h2 := els23 (d := false) h
    rw [if_tf] at h2
    have e : ((List.range l.length).any fun i => decide ((l.getD i default).a = p)) = l.any fun y => decide (y.a = p) := by
      rw [Bool.eq_iff_iff, List.any_eq_true, List.any_eq_true]
      constructor
      · rintro ⟨k, hk, hp⟩
        have hk := List.mem_range.1 hk
        refine ⟨l[k], List.getElem_mem hk, ?_⟩
        rw [List.getD, List.getElem?_eq_getElem hk] at hp
        exact hp
      · rintro ⟨x, hx, hq⟩
        obtain ⟨k, hk⟩ := List.mem_iff_getElem?.1 hx
        refine ⟨k, List.mem_range.2 (List.getElem?_eq_some_iff.1 hk).1, ?_⟩
        rw [List.getD, hk]
        exact hq
    rw [e] at h2
    exact h2
  · obtain ⟨x, hx⟩ : ∃ x, l[i]? = some x := ⟨_, List.getElem?_eq_getElem hi⟩
    have hd : l.getD i default = x := by rw [List.getD, hx]; rfl
    unfold r23_into_L4
    rw [ixD_of hx, w23 hi hl]
    simp only [hd]
    refine M.t_to (decide_eq_true (by omega)) (M.chk_to (inB23 hi) ?_)
    have e2 : (x.a == p) = decide (x.a = p) := rfl
    rw [e2]
    cases hc : decide (x.a = p) with
    | true => exact M.t_to rfl (M.ok_to _)
    | false => exact M.f_to rfl (M.ok_to _)
  · unfold r23_into_L4
    exact M.f_to (decide_eq_false (by omega)) (M.ok_to _)
theorem without_to {l : List Pair} {k : Nat} (hk : k < l.length) (hl : l.length ≤ 100000) : (r23_without l (k : Int)).to (l.eraseIdx k) := by
  have e1 : slD l 0 (k : Int) = l.take k := by unfold slD; simp
  have e2 : slD l (((k + 1 : Nat) : Int)) (l.length : Int) = l.drop (k + 1) := by unfold slD; rw [Int.toNat_natCast, Int.toNat_natCast, List.take_length]
  have e3 : ([] : List Pair) ++ l.take k ++ l.drop (k + 1) = l.eraseIdx k := by rw [List.nil_append, List.eraseIdx_eq_take_drop_succ]
  unfold r23_without
  rw [w23 hk hl, e1, e2, e3]
  refine M.chk_to (slB_iff.2 ⟨by omega, by omega, by rw [Int.toNat_natCast]; omega⟩) (M.chk_to (rowB23 (by simp; omega) (by omega)) (M.chk_to (slB_iff.2 ⟨by omega, by omega, by rw [Int.toNat_natCast]; omega⟩) (M.chk_to (rowB23 (by simp; omega) (by omega)) (M.ok_to _))))
/-- a free one is one that no other one is from its place -/
theorem from_free {left : List Pair} (hI : InvP left) {k : Nat} {x : Pair} (hx : left[k]? = some x) : fromL left k x.a = !fr23 left x := by
  unfold fr23 fromL
  rw [Bool.not_not, Bool.eq_iff_iff, List.any_eq_true, List.any_eq_true]
  constructor
  · rintro ⟨i, hi, hp⟩
    have hi := List.mem_range.1 hi
    rw [Bool.and_eq_true, decide_eq_true_eq, decide_eq_true_eq, List.getD, List.getElem?_eq_getElem hi] at hp
    refine ⟨left[i], List.getElem_mem hi, ?_⟩
    rw [Bool.and_eq_true, decide_eq_true_eq, neP_iff]
    refine ⟨fun e => hp.1 ?_, hp.2⟩
    have hk := (List.getElem?_eq_some_iff.1 hx).1
    have h1 : (left.map (·.a))[i]? = (left.map (·.a))[k]? := by rw [List.getElem?_map, List.getElem?_map, hx, List.getElem?_eq_getElem hi, e]
    exact (List.getElem?_inj (by rw [List.length_map]; exact hi) hI.nd).1 h1
  · rintro ⟨y, hy, hp⟩
    rw [Bool.and_eq_true, decide_eq_true_eq, neP_iff] at hp
    obtain ⟨i, hi⟩ := List.mem_iff_getElem?.1 hy
    refine ⟨i, List.mem_range.2 (List.getElem?_eq_some_iff.1 hi).1, ?_⟩
    rw [Bool.and_eq_true, decide_eq_true_eq, decide_eq_true_eq, List.getD, hi]
    refine ⟨fun e => hp.1 ?_, hp.2⟩
    subst e
    rw [hi] at hx
    exact Option.some.inj hx
/-- the first free one is looked for -/
theorem find_to {left : List Pair} (hI : InvP left) (hl : left.length ≤ 100000) : (M.loop (r23_AtOnce_L23 left) 0).to (match left.findIdx? (fr23 left) with | some k => (k : Int) | none => (left.length : Int)) := by
  have stepf : ∀ (k : Nat) (x : Pair), left[k]? = some x → fr23 left x = false → (r23_AtOnce_L23 left (k : Int)).to (.inl ((k + 1 : Nat) : Int)) := fun k x hx hf => by
    have hk := (List.getElem?_eq_some_iff.1 hx).1
    have hfr := from_to (l := left) hl (k := k) (p := x.a)
    rw [from_free hI hx, hf] at hfr
    unfold r23_AtOnce_L23
    rw [ixD_of hx, w23 hk hl]
    refine M.chk_to (by rw [inB23 hk, Bool.or_true]) (M.bnd_to (M.whn_t (decide_eq_true (by omega)) hfr) ?_)
    exact M.t_to (by rw [decide_eq_true (by omega)]; rfl) (M.ok_to _)
  have stept : ∀ (k : Nat) (x : Pair), left[k]? = some x → fr23 left x = true → (r23_AtOnce_L23 left (k : Int)).to (.inr (k : Int)) := fun k x hx hf => by
    have hk := (List.getElem?_eq_some_iff.1 hx).1
    have hfr := from_to (l := left) hl (k := k) (p := x.a)
    rw [from_free hI hx, hf] at hfr
    unfold r23_AtOnce_L23
    rw [ixD_of hx, w23 hk hl]
    refine M.chk_to (by rw [inB23 hk, Bool.or_true]) (M.bnd_to (M.whn_t (decide_eq_true (by omega)) hfr) ?_)
    exact M.f_to (by rw [decide_eq_true (by omega)]; rfl) (M.ok_to _)
  cases hc : left.findIdx? (fr23 left) with
  | some k =>
    obtain ⟨hk, ht, hb⟩ := List.findIdx?_eq_some_iff_getElem.1 hc
    refine M.loop_for (fun j : Nat => (j : Int)) k (fun j hj => ?_) (stept k _ (List.getElem?_eq_getElem hk) ht) (Nat.zero_le _)
    exact stepf j _ (List.getElem?_eq_getElem (by omega)) (by have := hb j hj; simpa using this)
  | none =>
    rw [List.findIdx?_eq_none_iff] at hc
    refine M.loop_for (fun j : Nat => (j : Int)) left.length (fun j hj => ?_) ?_ (Nat.zero_le _)
    · exact stepf j _ (List.getElem?_eq_getElem hj) (hc _ (List.getElem_mem hj))
    · have hd : decide ((left.length : Int) < (left.length : Int)) = false := decide_eq_false (by omega)
      simp only [r23_AtOnce_L23, hd]
      exact M.chk_to rfl (M.bnd_to (M.whn_f rfl) (M.f_to rfl (M.ok_to _)))
/-- one that goes round is broken -/
theorem turn_to {y : Pair} {l : List Pair} (hl : (y :: l).length ≤ 100000) (hok : ∀ x ∈ y :: l, okPair x) : (M.loop (r23_AtOnce_L36 (y :: l)) (0, y :: l)).to (unblock (y :: l) y.a) := by
  have h0 : ixD (y :: l) 0 = y := rfl
  refine M.loop_for (fun k : Nat => ((k : Int), ubk (y :: l) y.a k)) (y :: l).length (fun k hk => ?_) ?_ (Nat.zero_le _)
  · obtain ⟨x, hx⟩ : ∃ x, (y :: l)[k]? = some x := ⟨_, List.getElem?_eq_getElem hk⟩
    have hxu := (ubk_get (p := y.a) hk).trans hx
    have hlu := ubk_len (y :: l) y.a k
    have hn := ubk_next (p := y.a) hx
    have hox := hok x (List.mem_of_getElem? hx)
    have hin : inBd (ubk (y :: l) y.a k) (k : Int) = true := inB23 (by omega)
    simp only [r23_AtOnce_L36, ixD_of hxu, h0]
    refine M.t_to (decide_eq_true (by omega)) ?_
    rw [w23 hk hl]
    by_cases hb : x.b = y.a
    · rw [if_pos hb] at hn
      rw [hn, Int.toNat_natCast]
      refine M.bnd_to (M.chk_to hin (M.t_to (by rw [hb]; exact beq_self_eq_true _) (M.chk_to hin (M.chk_to (okB23 ⟨hox.a, (rfl : wfI .i64 3)⟩) (M.ok_to _))))) (M.ok_to _)
    · rw [if_neg hb] at hn
      rw [hn]
      exact M.bnd_to (M.chk_to hin (M.f_to (beq_eq_false_iff_ne.2 hb) (M.ok_to _))) (M.ok_to _)
  · simp only [r23_AtOnce_L36, ubk_all]
    exact M.f_to (decide_eq_false (by rw [len_unblock]; omega)) (M.ok_to _)
/-- one by one -/
theorem rounds_to : ∀ {n : Nat} {left rr : List Pair}, AtO n left rr → InvP left → left.length ≤ 1000 → (∀ x ∈ left, okPair x) → ∀ out : List Pair, out.length + rr.length ≤ 10000 → (M.loop r23_AtOnce_L17 (left, out)).to (out ++ rr) := by
  intro n left rr H
  induction H with
  | nil =>
    intro _ _ _ out _
    refine M.loop_out ?_
    simp only [r23_AtOnce_L17]
    rw [List.append_nil]
    exact M.f_to (decide_eq_false (by simp)) (M.ok_to _)
  | @out n k left r x h1 h2 h3 ih =>
    intro hI hl hok out ho
    have hk := (List.getElem?_eq_some_iff.1 h2).1
    have hox := hok x (List.mem_of_getElem? h2)
    have hf := find_to hI (by omega)
    rw [h1] at hf
    dsimp only at hf
    have hih := ih (hI.erase k) (by rw [List.length_eraseIdx_of_lt hk]; omega) (fun y hy => hok y ((List.eraseIdx_sublist left k).subset hy)) (out ++ [x]) (by simp only [List.length_append, List.length_cons, List.length_nil] at ho ⊢; omega)
    rw [List.append_assoc] at hih
    refine M.loop_in ?_ hih
    simp only [r23_AtOnce_L17]
    refine M.t_to (decide_eq_true (by omega)) (M.bnd_to hf ?_)
    rw [ixD_of h2]
    refine M.t_to (decide_eq_true (by omega)) (M.chk_to (inB23 hk) (M.chk_to (okB23 hox) (M.chk_to (rowB23 ?_ (by omega)) (M.bnd_to (without_to hk (by omega)) (M.ok_to _)))))
    simp only [List.length_cons, List.length_nil] at ho ⊢
    omega
  | @via n y l r h1 h3 ih =>
    intro hI hl hok out ho
    have hf := find_to hI (by omega)
    rw [h1] at hf
    dsimp only at hf
    have hih := ih (hI.unblock y.a) (by rw [len_unblock]; exact hl) (unblock_ok hok y.a) (out ++ [⟨3, y.a⟩]) (by simp only [List.length_append, List.length_cons, List.length_nil] at ho ⊢; omega)
    rw [List.append_assoc] at hih
    refine M.loop_in ?_ hih
    have h0 : ixD (y :: l) 0 = y := rfl
    simp only [r23_AtOnce_L17]
    refine M.t_to (decide_eq_true (by simp)) (M.bnd_to hf ?_)
    rw [h0]
    refine M.f_to (decide_eq_false (by omega)) (M.chk_to (inB23 (k := 0) (by simp)) (M.chk_to (okB23 ⟨(rfl : wfI .i64 3), (hok y (by simp)).a⟩) (M.chk_to (rowB23 ?_ (by omega)) (M.bnd_to (turn_to (by omega) hok) (M.ok_to _)))))
    simp only [List.length_cons, List.length_nil] at ho ⊢
    omega
/-- those that are left out -/
theorem singles_to {l : List Pair} (hl : l.length ≤ 1000) (hok : ∀ x ∈ l, okPair x) : (M.loop (r23_AtOnce_L5 l) (0, [], [])).to (singleL l) := by
  have hF : ∀ k, k ≤ l.length → ((firsts [] (l.take k)).filter keepB).length ≤ k := fun k hk => by
    have h1 := List.length_filter_le keepB (firsts [] (l.take k))
    have h2 := firsts_len (l.take k) []
    rw [List.length_take] at h2
    omega
  refine M.loop_for (fun k : Nat => ((k : Int), (firsts [] (l.take k)).filter keepB, l.take k)) l.length (fun k hk => ?_) ?_ (Nat.zero_le _)
  · obtain ⟨x, hx⟩ : ∃ x, l[k]? = some x := ⟨_, List.getElem?_eq_getElem hk⟩
    have hox := hok x (List.mem_of_getElem? hx)
    have hft := firsts_take hx
    have hin := inB23 (l := l) hk
    have hit := into_to (l := l.take k) (by rw [List.length_take]; omega) (p := x.a)
    have htk : l.take (k + 1) = l.take k ++ [x] := by rw [List.take_add_one, hx]; rfl
    have hlen := hF k (by omega)
    simp only [r23_AtOnce_L5, ixD_of hx]
    rw [w23 hk (by omega), htk]
    refine M.t_to (decide_eq_true (by omega)) ?_
    refine M.bnd_to (a := (firsts [] (l.take (k + 1))).filter keepB) ?_ ?_
    · refine M.chk_to hin (M.bnd_to hit (M.chk_to (by rw [hin, Bool.or_true]) (M.chk_to (by rw [hin, Bool.or_true]) (M.chk_to (by rw [hin, Bool.or_true]) (M.chk_to (by rw [hin, Bool.or_true]) ?_)))))
      have hkeep : (((x.a != x.b) && (x.a != 3)) && (x.b != 3)) = keepB x := by
        unfold keepB
        rw [Bool.not_or, Bool.not_or]
        rfl
      rw [hft, List.filter_append]
      cases hany : (l.take k).any fun y => decide (y.a = x.a) with
      | true =>
        rw [if_pos rfl, List.filter_nil, List.append_nil]
        exact M.f_to rfl (M.ok_to _)
      | false =>
        rw [if_neg (by simp), Bool.not_false, Bool.true_and, hkeep]
        cases hkb : keepB x with
        | true =>
          rw [List.filter_cons, if_pos hkb, List.filter_nil]
          exact M.t_to rfl (M.chk_to hin (M.chk_to (okB23 hox) (M.chk_to (rowB23 (by simp only [List.length_cons, List.length_nil]; omega) (by omega)) (M.ok_to _))))
        | false =>
          rw [List.filter_cons, if_neg (by rw [hkb]; simp), List.filter_nil, List.append_nil]
          exact M.f_to rfl (M.ok_to _)
    · rw [htk]
      exact M.chk_to hin (M.chk_to (okB23 hox) (M.chk_to (rowB23 (by simp only [List.length_cons, List.length_nil, List.length_take]; omega) (by omega)) (M.ok_to _)))
  · simp only [r23_AtOnce_L5]
    refine M.f_to (decide_eq_false (by omega)) ?_
    rw [List.take_length]
    exact M.ok_to _
theorem refAtOnce_to {l : List Pair} (hl : l.length ≤ 1000) (hok : ∀ x ∈ l, okPair x) {n : Nat} {r : List Pair} (hA : AtO n (singleL l) r) (hr : r.length ≤ 10000) : (r23_AtOnce l).to r := by
  have hs := single_len l
  have h := rounds_to hA (single_inv l) (by omega) (single_ok hok) [] (by simpa using hr)
  exact M.bnd_to (singles_to hl hok) (M.bnd_to h (M.ok_to _))
theorem same23_self {a : List Pair} (ha : a.length ≤ 100000) : (r18_Same a a).to true := by
  have h := loop23 (step := r18_Same_L9 a a) (p := fun _ => false) (v := false) (n := a.length) (fun k hk => ?_) ?_
  · refine M.f_to (by simp) ?_
    have h2 := els23 (d := true) h
    rw [show ((List.range a.length).any fun _ => false) = false by simp] at h2
    exact h2
  · obtain ⟨x, hx⟩ : ∃ x, a[k]? = some x := ⟨_, List.getElem?_eq_getElem hk⟩
    unfold r18_Same_L9
    rw [ixD_of hx, w23 hk ha]
    exact M.t_to (decide_eq_true (by omega)) (M.chk_to (inB23 hk) (M.chk_to (inB23 hk) (M.f_to (by simp) (M.ok_to _))))
  · unfold r18_Same_L9
    exact M.f_to (decide_eq_false (by omega)) (M.ok_to _)
end Mu
end
section
/-
  muntinlaw23.BodyOnce comes to true: plainly.
  Conditions: none.
-/
namespace Mu
open Go Go.RowKit Go.Proofs

theorem bodyOnce_to (l : List Pair) (hok : ∀ x ∈ l, okPair x) : (law23_BodyOnce l).to true := by
  unfold law23_BodyOnce
  by_cases h : (l.length : Int) > 60
  · exact M.t_to (decide_eq_true h) (M.bnd_to (M.ok_to _) (M.ok_to _))
  · have hl : l.length ≤ 60 := by omega
    obtain ⟨n, hA, hn, hr⟩ := atR_spec l
    have h1 : (body_AtOnce l).to (atR l) := M.chk_to (by rw [Bool.and_eq_true]; exact ⟨decide_eq_true (by omega), List.all_eq_true.2 fun x hx => okB23 (hok x hx)⟩) (M.ok_to _)
    have h2 := refAtOnce_to (by omega) hok hA (by omega)
    have h3 : (law23_same (atR l) (atR l)).to true := M.bnd_to (same23_self (by omega)) (M.ok_to _)
    have h4 : (law23_same l (([] : List Pair) ++ l)).to true := M.bnd_to (same23_self (by omega)) (M.ok_to _)
    refine M.f_to (decide_eq_false h) (M.chk_to (rowB23 (by simp; omega) (by omega)) (M.bnd_to h1 (M.bnd_to h2 (M.bnd_to h3 (M.bnd_to (M.whn_t rfl h4) (M.bnd_to (M.whn_t rfl (M.ok_to _)) ?_))))))
    exact M.ok_to _
theorem bodyOnce_fn (l : List Pair) (hok : ∀ x ∈ l, okPair x) : Fn Tryz.prog 3 [.bs tPair l] (.lit (.bool true)) := law23_BodyOnce_l (bodyOnce_to l hok)
end Mu
end
section
/-
  What a row needs of contracts: calls, literals, rows of arguments.
  Conditions: none; generic.
-/
namespace Mu
open Go Go.RowKit Go.Proofs

theorem fn_calls {P : Program} {f : FuncId} {args : List AV} {u : Value} {W : World} {vs : List Value} (h : Fn P f args (.lit u)) (hr : AV.relL W (fun k => k < W.heap.size) [] ψ0 args vs) : Calls P f vs.toArray W fun e W' => e = .returned u ∧ Below W.heap.size W W' :=
  (h.2 W _ vs (fun _ h => h) hr).mono fun e W' ⟨v, he, hb, _, _, _, _, hv⟩ => by
    unfold AV.rel at hv
    exact ⟨by rw [he, hv], hb⟩
theorem relL_one {W : World} {S : Nat → Prop} {h : List ABlk} {ψ : Nat → Value} {x : AV} {v : Value} (hv : AV.rel W S h ψ x v) : AV.relL W S h ψ [x] [v] := by
  unfold AV.relL
  exact ⟨v, [], rfl, hv, by unfold AV.relL; rfl⟩
end Mu
end
section
/-
  The arguments of a row, read; what a call that makes new blocks only leaves of them.
  Conditions: none.
-/
namespace Mu
open Go Go.RowKit Go.ChangeShapes Go.WideShapes Go.Proofs

theorem laid_out : laidOutB Tryz.prog = true := by kernel_rfl
mutual
theorem bulk_le {H : Type} : ∀ d : DataW H, bulkD d ≤ YtphbknmjnoeheaaGreat.Rows.uptoBulk d
  | .lit (.string _) => Nat.le_refl _
  | .lit (.bool _) => Nat.le_refl _
  | .lit (.int _ _) => Nat.le_refl _
  | .lit (.float _ _) => Nat.le_refl _
  | .lit .nil => Nat.le_refl _
  | .nil => Nat.le_refl _
  | .ptr d => by show 1 ≤ YtphbknmjnoeheaaGreat.Rows.uptoBulk d + 1; omega
  | .slice e s => by
    have h1 := bulks_le e
    have h2 := bulks_le s
    show bulkD.go e + bulkD.go s + 1 ≤ YtphbknmjnoeheaaGreat.Rows.uptoBulkAll e + YtphbknmjnoeheaaGreat.Rows.uptoBulkAll s + 1
    omega
  | .agg p => by
    have h1 := bulks_le p
    show bulkD.go p + 1 ≤ YtphbknmjnoeheaaGreat.Rows.uptoBulkAll p + 1
    omega
  | .iface _ d => by show 1 ≤ YtphbknmjnoeheaaGreat.Rows.uptoBulk d + 1; omega
  | .map m => by show 1 ≤ YtphbknmjnoeheaaGreat.Rows.uptoBulkEntries m + 1; omega
  | .held _ => Nat.le_refl _
theorem bulks_le {H : Type} : ∀ l : List (DataW H), bulkD.go l ≤ YtphbknmjnoeheaaGreat.Rows.uptoBulkAll l
  | [] => Nat.le_refl _
  | d :: r => by
    have h1 := bulk_le d
    have h2 := bulks_le r
    show bulkD d + bulkD.go r ≤ YtphbknmjnoeheaaGreat.Rows.uptoBulk d + YtphbknmjnoeheaaGreat.Rows.uptoBulkAll r
    omega
end

/-- an argument of a type that is read: a value of one cell -/
theorem open_one {α : Type} {t : TypeId} {T : Ty α} {H : Type} {enc : TypeId × Value → H} {W : World} {v : Value} {d : DataW H} {p : List MemPlace} (ho : Opens Tryz.prog t T)
    (h : DataW.Trod enc Tryz.prog W 0 (fun _ => true) true t v d p) (hp : ∀ x ∈ p, x.block < W.heap.size) (hv : v.cells = #[v]) :
    ∃ x, T.R W W.heap.size [v] x ∧ T.bulk x ≤ YtphbknmjnoeheaaGreat.Rows.uptoBulk d := by
  obtain ⟨fuel, hf⟩ := h
  obtain ⟨x, hR, hb⟩ := ho.go H enc W 0 _ true fuel _ (d, p) W.heap.size hf hp
  rw [hv] at hR
  exact ⟨x, hR, Nat.le_trans hb (bulk_le d)⟩
/-- what an argument read as, it reads as behind a call that makes new blocks only -/
theorem stays {t : TypeId} {H : Type} {enc : TypeId × Value → H} {W W' : World} {v : Value} {d : DataW H} {p : List MemPlace} (hr : Tryz.prog.readableRec t = true) (ht : t < Tryz.prog.types.size)
    (h : DataW.Trod enc Tryz.prog W 0 (fun _ => true) true t v d p) (hb : Below W.heap.size W W') (hp : ∀ x ∈ p, x.block < W.heap.size) :
    DataW.Trod enc Tryz.prog W' 0 (fun b => decide (b < W.heap.size)) true t v d p := Below.trod laid_out hr ht h hb hp
end Mu
end
section
/-
  What a row needs of an argument that is a slice of pairs.
  Conditions: none.
-/
namespace Mu
open Go Go.RowKit Go.Proofs

theorem cells_sl {P : Program} {W : World} {r : Reach} {base : Nat} {t e : TypeId} {v : Value} (ht : P.underlying t = some (.slice e)) (hv : Value.okWide P W r base t v) : v.cells = #[v] := by
  unfold Value.okWide at hv
  rw [ht] at hv
  cases v <;> first | rfl | (exfalso; simp [Cell.okWide, Cell.ok, ht] at hv)
theorem opens_sPair : Opens Tryz.prog 22 tPair.slice := opens_slice Tryz.underlying22 (by kernel_rfl) (by decide) opens_tPair
theorem rel_sPair {W : World} {S : Nat → Prop} {h : List ABlk} {ψ : Nat → Value} {v : Value} {l : List Pair} (hR : tPair.slice.RS W S [v] l) : AV.rel W S h ψ (.bs tPair l) v := by
  unfold AV.rel
  exact hR
theorem ok_sPair {W : World} {S : Nat → Prop} {v : Value} {l : List Pair} (hR : tPair.slice.RS W S [v] l) : ∀ x ∈ l, okPair x := fun x hx => by
  obtain ⟨j, hj⟩ := List.mem_iff_getElem?.1 hx
  obtain ⟨A, c, _, _, _, hi⟩ := hR
  obtain ⟨b, off, _, hat⟩ := hi j x hj
  obtain ⟨_, cs, hcs, _⟩ := hat
  exact ok_Pair hcs
end Mu
end
