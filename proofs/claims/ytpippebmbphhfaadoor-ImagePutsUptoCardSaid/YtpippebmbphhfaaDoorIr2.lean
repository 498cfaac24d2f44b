/-
  Own texts laid together, part 2: MuBytes, MuTab, MuOwnG, MuClo, MuLine, MuMark, MuZeros, MuFnC2, MuBoxRow, MuLift, MuArr, MuEqS, MuLiftA, MuImg, MuImgA, MuImgB, MuImgC, MuImgD, MuImgE, MuImgF, MuImgG, ShelfS, MuImgH, MuImgI.
  Conditions: as each part says.
-/
import Derived.Test.YtpippebmbphhfaaDoorIr1
import Derived.Laws.IdiomStrings
import Derived.Laws.StructEq
import Derived.Deep.Onto
import Derived.Lib.AppendZeros
import Derived.Shelf.Strings.OnBuilder
import Derived.Shelf.Small.Strs
import Derived.Shelf.Small.Wraps
import Derived.Shelf.Strings.Prefix
import Derived.Shelf.Strings.Cut
import Derived.Shelf.Strings.Count
import Derived.Shelf.Strings.Split
import Derived.Test.YtpippebmbphhfaaDoorProg
section
/-
  Bytes: texts as rows of bytes and back.
  Conditions: none; generic.
-/
namespace Mu
open Go Go.RowKit Go.ChangeShapes Go.WideShapes Go.Proofs

def bytesOf (l : List Int) : ByteArray := ⟨(l.map fun n => UInt8.ofNat n.toNat).toArray⟩
def bytesL (s : ByteArray) : List Int := s.data.toList.map fun b => (b.toNat : Int)
theorem wf_u8 {n : Int} (h : (Lit.int .u8 n).wf = true) : 0 ≤ n ∧ n ≤ 255 := wfI_u8 h
theorem bytesL_bytesOf {l : List Int} (h : ∀ n ∈ l, 0 ≤ n ∧ n ≤ 255) : bytesL (bytesOf l) = l := by
  unfold bytesL bytesOf
  simp only [List.map_map]
  conv => rhs; rw [← List.map_id l]
  refine List.map_congr_left fun n hn => ?_
  obtain ⟨h0, h1⟩ := h n hn
  simp only [Function.comp, UInt8.toNat_ofNat', id]
  omega
theorem bytesOf_bytesL (s : ByteArray) : bytesOf (bytesL s) = s := by
  unfold bytesL bytesOf
  simp only [List.map_map]
  have : s.data.toList.map ((fun n : Int => UInt8.ofNat n.toNat) ∘ fun b : UInt8 => (b.toNat : Int)) = s.data.toList := by
    conv => rhs; rw [← List.map_id s.data.toList]
    refine List.map_congr_left fun b _ => ?_
    simp [Function.comp]
  rw [this]
theorem bytesOf_size (l : List Int) : (bytesOf l).size = l.length := by show (List.toArray _).size = _; simp
theorem bytesL_len (s : ByteArray) : (bytesL s).length = s.size := by unfold bytesL; rw [List.length_map]; exact Array.length_toList
class IntT (P : Program) (ty : TypeId) (k : outParam IntKind) : Prop where
  eq : P.underlying ty = some (.int k)
class BoolT (P : Program) (ty : TypeId) : Prop where
  eq : P.underlying ty = some .bool
class BytesT (P : Program) (ty : TypeId) (e : outParam TypeId) : Prop where
  sl : P.underlying ty = some (.slice e)
  el : P.underlying e = some (.int .u8)
section
variable {P : Program} {C : Ctx} {o : Oper} {t : List AV} {h : List ABlk}
theorem Quiet.shl {xt yt : TypeId} {x y : Operand} {k q : IntKind} {a b m : Int} (ho : o.op = .binOp .shl xt x y yt) (hx : evA t x = .lit (.int k a)) (hy : evA t y = .lit (.int q b)) (hb : 0 ≤ b) (hm : k.wrap (a * 2 ^ min b.toNat k.bits) = m) : Quiet P C t h o (.lit (.int k m)) :=
  Quiet.of_run fun S ψ w ρ _ hρ => by
    have h1 := hρ x (by simp [ho, Op.operands])
    have h2 := hρ y (by simp [ho, Op.operands])
    rw [hx] at h1
    rw [hy] at h2
    unfold AV.rel at h1 h2
    refine ⟨_, ?_, by unfold AV.rel; rfl⟩
    rw [← hm]
    simp [execOp, ho, h1, h2, eqGuard, binOp_shl, shift_shl_any _ _ _ _ hb]
theorem Quiet.shr {xt yt : TypeId} {x y : Operand} {k q : IntKind} {a b m : Int} (ho : o.op = .binOp .shr xt x y yt) (hx : evA t x = .lit (.int k a)) (hy : evA t y = .lit (.int q b)) (hb : 0 ≤ b) (hm : a / 2 ^ min b.toNat k.bits = m) : Quiet P C t h o (.lit (.int k m)) :=
  Quiet.of_run fun S ψ w ρ _ hρ => by
    have h1 := hρ x (by simp [ho, Op.operands])
    have h2 := hρ y (by simp [ho, Op.operands])
    rw [hx] at h1
    rw [hy] at h2
    unfold AV.rel at h1 h2
    refine ⟨_, ?_, by unfold AV.rel; rfl⟩
    rw [← hm]
    simp [execOp, ho, h1, h2, eqGuard, binOp_shr, shift_shr_any _ _ _ _ hb]
def isBits : BinOp → Bool
  | .and | .or | .xor | .andNot => true
  | _ => false
theorem Quiet.bit {op : BinOp} {xt yt : TypeId} {x y : Operand} {k : IntKind} {a b m : Int} (ho : o.op = .binOp op xt x y yt) (hx : evA t x = .lit (.int k a)) (hy : evA t y = .lit (.int k b)) (hop : isBits op = true) (hm : bits op k a b = m) : Quiet P C t h o (.lit (.int k m)) :=
  Quiet.of_run fun S ψ w ρ _ hρ => by
    have h1 := hρ x (by simp [ho, Op.operands])
    have h2 := hρ y (by simp [ho, Op.operands])
    rw [hx] at h1
    rw [hy] at h2
    unfold AV.rel at h1 h2
    refine ⟨_, ?_, by unfold AV.rel; rfl⟩
    rw [← hm]
    cases op <;> simp only [isBits, Bool.false_eq_true] at hop <;> simp [execOp, ho, h1, h2, eqGuard, binOp_and, binOp_or, binOp_xor, binOp_andNot, intBits_and, intBits_or, intBits_xor, intBits_andNot]
theorem Quiet.cv {src dst : TypeId} {x : Operand} {k q q' : IntKind} {n m : Int} [IntT P src q'] [IntT P dst k] (ho : o.op = .convert src dst x) (hx : evA t x = .lit (.int q n)) (hm : k.wrap n = m) : Quiet P C t h o (.lit (.int k m)) :=
  Quiet.of_run fun S ψ w ρ _ hρ => by
    have h1 := hρ x (by simp [ho, Op.operands])
    rw [hx] at h1
    unfold AV.rel at h1
    have hd : P.underlying dst = some (.int k) := IntT.eq
    have hs : (P.underlying src).isSome = true := by rw [IntT.eq (P := P) (ty := src)]; rfl
    have hk : P.intKind dst = k := by simp [Program.intKind, hd]
    have hr := run_convert_int w src dst q n hs (by rw [hk]; exact hd)
    rw [hk] at hr
    refine ⟨.int k (k.wrap n), ?_, by rw [hm]; unfold AV.rel; rfl⟩
    simp [execOp, ho, h1, hr]
theorem Quiet.cut {ty : TypeId} {x y z : Operand} {s : ByteArray} {k m : Nat} {ik ik' : IntKind} [StrT P ty] (ho : o.op = .slice ty x (some y) (some z) none) (hx : evA t x = .lit (.string s)) (hy : evA t y = .lit (.int ik (k : Int))) (hz : evA t z = .lit (.int ik' (m : Int))) (hk : k ≤ m) (hm : m ≤ s.size) : Quiet P C t h o (.lit (.string (s.extract k m))) :=
  Quiet.of_run fun S ψ w ρ H hρ => by
    have h1 := hρ x (by simp [ho, Op.operands])
    have h2 := hρ y (by simp [ho, Op.operands])
    have h3 := hρ z (by simp [ho, Op.operands])
    rw [hx] at h1
    rw [hy] at h2
    rw [hz] at h3
    unfold AV.rel at h1 h2 h3
    have hr := run_slice_string (P := P) w ty s ik ik' (k : Int) (m : Int) (StrT.eq (P := P) (ty := ty)) (by omega) (by omega) (by omega)
    rw [show ((k : Int).toNat) = k from rfl, show ((m : Int).toNat) = m from rfl] at hr
    exact ⟨_, by simp [execOp, ho, h1, h2, h3, run_sliceAt_string (P := P) w ty _ _ _ _ (StrT.eq (P := P) (ty := ty)), hr]; rfl, by unfold AV.rel; rfl⟩
theorem Quiet.cat {xt yt : TypeId} {x y : Operand} {a b : ByteArray} (ho : o.op = .binOp .add xt x y yt) (hx : evA t x = .lit (.string a)) (hy : evA t y = .lit (.string b)) (hl : a.size + b.size ≤ 1000000000000) : Quiet P C t h o (.lit (.string (a ++ b))) :=
  Quiet.of_run fun S ψ w ρ H hρ => by
    have h1 := hρ x (by simp [ho, Op.operands])
    have h2 := hρ y (by simp [ho, Op.operands])
    rw [hx] at h1
    rw [hy] at h2
    unfold AV.rel at h1 h2
    have hb : ¬ (9223372036854775807 < (a.size : Int) + (b.size : Int)) := by omega
    have hg : eqGuard BinOp.add xt x y (Value.string a) (Value.string b) = pure () := rfl
    exact ⟨_, by simp [execOp, ho, h1, h2, binOp_string_add, Op.stringOp, hg, hb]; rfl, by unfold AV.rel; rfl⟩
theorem Quiet.neS {xt yt : TypeId} {x y : Operand} {a b : ByteArray} (ho : o.op = .binOp .neq xt x y yt) (hx : evA t x = .lit (.string a)) (hy : evA t y = .lit (.string b)) : Quiet P C t h o (.lit (.bool (a != b))) :=
  Quiet.of_run fun S ψ w ρ H hρ => by
    have h1 := hρ x (by simp [ho, Op.operands])
    have h2 := hρ y (by simp [ho, Op.operands])
    rw [hx] at h1
    rw [hy] at h2
    unfold AV.rel at h1 h2
    rw [show (a != b) = !(a == b) from rfl, beq_toListBytes]
    exact ⟨_, by simp [execOp, ho, h1, h2, binOp_string_neq]; rfl, by unfold AV.rel; rfl⟩
theorem Quiet.neb {xt yt : TypeId} {x y : Operand} {a b q : Bool} [BoolT P xt] (ho : o.op = .binOp .neq xt x y yt) (hx : evA t x = .lit (.bool a)) (hy : evA t y = .lit (.bool b)) (hq : (a != b) = q) : Quiet P C t h o (.lit (.bool q)) :=
  Quiet.of_run fun S ψ w ρ _ hρ => by
    have h1 := hρ x (by simp [ho, Op.operands])
    have h2 := hρ y (by simp [ho, Op.operands])
    rw [hx] at h1
    rw [hy] at h2
    unfold AV.rel at h1 h2
    refine ⟨.bool (a != b), ?_, by rw [hq]; unfold AV.rel; rfl⟩
    simp [execOp, ho, h1, h2, eqGuard, binOp, run_equal_bool _ _ _ _ (BoolT.eq (P := P) (ty := xt)), bne]
theorem Quiet.b2s {src dst e : TypeId} {x : Operand} {l : List Int} [BytesT P src e] [StrT P dst] (ho : o.op = .convert src dst x) (hx : evA t x = .bs (Ty.int .u8) l) : Quiet P C t h o (.lit (.string (bytesOf l))) :=
  Quiet.of_run fun S ψ w ρ H hρ => by
    have h1 := hρ x (by simp [ho, Op.operands])
    rw [hx] at h1
    unfold AV.rel at h1
    obtain ⟨A, c, hv, hlc, hcm, hi⟩ := h1
    have hv : ρ x = .slice A l.length c := by simpa using hv
    have hs : P.underlying src = some (.slice e) := BytesT.sl
    have he : P.underlying e = some (.int .u8) := BytesT.el (ty := src)
    have hd : P.underlying dst = some .string := StrT.eq
    have hg : ∀ i d, l[i]? = some d → ∃ b o, A = some ⟨b, o, none⟩ ∧ (0 ≤ d ∧ d ≤ 255) ∧ w.cell? ⟨b, o + i, none⟩ = some (.int .u8 d) := fun i d hd => by
      obtain ⟨b, o, hA, hS, cs, ⟨rfl, hwf⟩, hc⟩ := hi i d hd
      refine ⟨b, o, hA, wf_u8 hwf, ?_⟩
      have := hc 0 (.int .u8 d) rfl
      have e1 : o + i * (Ty.int .u8).size + 0 = o + i := by show o + i * 1 + 0 = o + i; omega
      rwa [e1] at this
    have key : (convert src dst (ρ x)).run P w = .ok (.string (bytesOf l)) w := by
      rw [hv]
      cases l with
      | nil =>
        rw [run_convert_bytes_string w src dst e A _ c hs he hd]
        cases A with
        | none => simp [Conv.bytesToString, Sem.run_pure]; rfl
        | some a =>
          have hl := run_loadCells_list (P := P) w a ([] : List Value) (fun j v hj => by simp at hj)
          rw [run_bytesToString w a _ c [] (by simpa using hl)]
          rfl
      | cons d l =>
        obtain ⟨b, q, hA, _, _⟩ := hg 0 d rfl
        subst hA
        have hb : ∀ j (hj : j < ((d :: l).map fun n => UInt8.ofNat n.toNat).length), w.cell? (Addr.add ⟨b, q, none⟩ j) = some (.int .u8 ((((d :: l).map fun n => UInt8.ofNat n.toNat)[j]).toNat : Int)) := fun j hj => by
          have hj' : j < (d :: l).length := by simpa using hj
          obtain ⟨b', q', hA', ⟨k1, k2⟩, k3⟩ := hg j _ (List.getElem?_eq_getElem hj')
          cases hA'
          rw [show Addr.add ⟨b, q, none⟩ j = ⟨b, q + j, none⟩ from by simp [Addr.add], k3, List.getElem_map]
          congr 2
          simp only [UInt8.toNat_ofNat']
          omega
        have := run_convert_bytes_back (P := P) w src dst e ⟨b, q, none⟩ c ((d :: l).map fun n => UInt8.ofNat n.toNat) hs he hd hb
        rw [List.length_map] at this
        exact this
    exact ⟨_, by simp [execOp, ho, key]; rfl, by unfold AV.rel; rfl⟩
end
instance inMuBytes1 : BytesT Tryd.prog 40 5 := ⟨by kernel_rfl, by kernel_rfl⟩
instance inMuBytes7 : StrT Tryd.prog 9 := ⟨by kernel_rfl⟩
instance inMuBytes8 : BoolT Tryd.prog 4 := ⟨by kernel_rfl⟩
instance inMuBytes9 : IntT Tryd.prog 3 .i64 := ⟨by kernel_rfl⟩
instance inMuBytes10 : IntT Tryd.prog 5 .u8 := ⟨by kernel_rfl⟩
instance inMuBytes12 : IntT Tryd.prog 39 .u32 := ⟨by kernel_rfl⟩
instance inMuBytes13 : IntT Tryd.prog 46 .u64 := ⟨by kernel_rfl⟩
instance inMuBytes14 : IntT Tryd.prog 21 .i32 := ⟨by kernel_rfl⟩
instance inMuBytes15 : IntT Tryd.prog 2 .i64 := ⟨by kernel_rfl⟩
end Mu
end
section
/-
  Contracts that presuppose something of the world that no call changes (a table that is laid).
  Conditions: none; generic.
-/
namespace Mu
open Go Go.RowKit Go.Proofs

/-- what stays as long as the blocks that are there stay -/
def Lasts (G : World → Prop) : Prop := ∀ w w', G w → Below w.heap.size w w' → G w'
def FnT (G : World → Prop) (P : Program) (f : FuncId) (args : List AV) (r : AV) : Prop :=
  Enters P f = true ∧ ∀ (w : World) (S : Nat → Prop) (vs : List Value), G w → (∀ k, S k → k < w.heap.size) → AV.relL w S [] ψ0 args vs →
    Calls P f vs.toArray w fun e w' => ∃ v, e = .returned v ∧ Good w S [] ψ0 r v w'
theorem Quiet.callT {G : World → Prop} {P : Program} {C : Ctx} {t : List AV} {h : List ABlk} {o : Oper} {f : FuncId} {args : Array Operand} {tys : Array TypeId} {xs : List AV} {r : AV} (hC : C.std) (hL : Lasts G) (hG : G C.w0)
    (ho : o.op = .call { callee := .value (.func f), args := args, argTypes := tys }) (hF : FnT G P f xs r) (hx : args.toList.map (evA t) = xs) (hc : AV.clL xs = true) (hr : AV.cl r = true) : Quiet P C t h o r := by
  intro S ψ w ρ H hρ
  have h1 : ρ (.func f) = .func (.func f) #[] #[] := by
    have := hρ (.func f) (by rw [ho]; exact Array.mem_append.2 (.inl (by simp)))
    simpa [evA, AV.rel] using this
  rw [run_call ho hF.1 ρ w h1]
  refine ⟨rfl, ?_⟩
  have h2 : AV.relL w S h ψ xs (args.toList.map ρ) := by
    rw [← hx]
    exact relL_map fun x hx' => hρ x (by rw [ho]; exact Array.mem_append.2 (.inr (Array.mem_toList_iff.1 hx')))
  have h3 := hF.2 w S (args.toList.map ρ) (hL _ _ hG (H.bel.below hC)) H.lt (AV.relL_cl _ _ hc h2)
  rw [show (args.map ρ) = (args.toList.map ρ).toArray from (by rw [← Array.toList_map])]
  refine h3.mono ?_
  rintro e w' ⟨v, he, hb, S', k1, k2, k3, k4⟩
  exact ⟨v, he, hb, S', k1, k2, k3, AV.rel_cl _ _ hr k4⟩
theorem Quiet.callTA {G : World → Prop} {P : Program} {C : Ctx} {t : List AV} {h : List ABlk} {o : Oper} {f : FuncId} {args : Array Operand} {tys : Array TypeId} {xs : List AV} {r : AV}
    (ho : o.op = .call { callee := .value (.func f), args := args, argTypes := tys }) (hx : args.toList.map (evA t) = xs) (hC : C.std) (hL : Lasts G) (hG : G C.w0) (hF : FnT G P f xs r) (hc : AV.clL xs = true) (hr : AV.cl r = true) : Quiet P C t h o r := Quiet.callT hC hL hG ho hF hx hc hr
theorem FnT.of_awp {G : World → Prop} {P : Program} {f : FuncId} {fn : Go.Func} {c : Code} {args : List AV} {r : AV} {t : Tmp} {n : Nat} (hf : P.funcs[f]? = some fn) (hb : fn.body = some c) (hE : Enters P f = true) (hres : fn.results = #[.tmp t]) (hn : fn.ntmps = n)
    (h : ∀ C : Ctx, C.std → G C.w0 → Awp P C c (Rets t r) ⟨args ++ List.replicate (n - args.length) (.lit undef), []⟩) : FnT G P f args r := by
  refine ⟨hE, fun w S vs hG hS hr => calls_of_wp hf hb ?_⟩
  rw [hn]
  refine wp_mono ((h ⟨w, S, fun k => k < w.heap.size, none⟩ (fun _ h => h) hG).wp rfl (start_rel hS hr)) ?_
  rintro e a' w' ⟨s, ⟨he, hfin⟩, hd, S1, ψ, H, hl⟩
  rw [hfin.1] at hd
  have hv := ev_rel hl (.tmp t)
  have hg := good_final H hfin hv
  have hres' : (results fn a'.tmps).run P w' = .ok (a'.eval (.tmp t)) w' := results_tmp hres _ _ _
  rcases he with rfl | rfl
  · exact ⟨hd, _, hres', _, rfl, hg⟩
  · exact ⟨hd, _, hres', _, rfl, hg⟩
theorem fnT_calls {G : World → Prop} {P : Program} {f : FuncId} {args : List AV} {u : Value} {W : World} {vs : List Value} (h : FnT G P f args (.lit u)) (hG : G W) (hr : AV.relL W (fun k => k < W.heap.size) [] ψ0 args vs) : Calls P f vs.toArray W fun e W' => e = .returned u ∧ Below W.heap.size W W' :=
  (h.2 W _ vs hG (fun _ h => h) hr).mono fun e W' ⟨v, he, hb, _, _, _, _, hv⟩ => by
    unfold AV.rel at hv
    subst hv
    exact ⟨he, hb⟩
theorem relL_lit1 {w : World} {S : Nat → Prop} {h : List ABlk} {ψ : Nat → Value} {u : Value} {vs : List Value} (H : AV.relL w S h ψ [.lit u] vs) : vs = [u] := by
  unfold AV.relL at H
  obtain ⟨v, vs', rfl, h1, h2⟩ := H
  unfold AV.rel at h1
  unfold AV.relL at h2
  rw [h1, h2]
end Mu
end
section
/-
  Calls whose result is a fresh row, kept as one's own; functions that return such a row, or take a row and hand it back.
  Conditions: none; generic.
-/
namespace Mu
open Go Go.RowKit Go.Proofs

section
variable {P : Program} {C : Ctx} {t : List AV} {h : List ABlk} {o : Oper}
def FnOwn (P : Program) (f : FuncId) (args : List AV) (e : TypeId) {α : Type} (T : Ty α) (l : List α) : Prop :=
  Enters P f = true ∧ ∀ (w : World) (S : Nat → Prop) (vs : List Value), (∀ k, S k → k < w.heap.size) → AV.relL w S [] ψ0 args vs →
    Calls P f vs.toArray w fun r w' => ∃ v cells, r = .returned v ∧ Below w.heap.size w w' ∧ w'.ownsRow w.heap.size e T.size v l.length cells ∧ ∀ i d, l[i]? = some d → T.RS w' S ((cells.drop (i * T.size)).take T.size) d
theorem ftp_row {w : World} {e : TypeId} {α : Type} {T : Ty α} {l : List α} {ver base n sz : Nat} {cells : List Value} {v : Value} (hv : w.ownsRow base e sz v n cells) : ∀ g, ftp (some (.row ver e T l)) v g → base ≤ g := fun g hg => by
  obtain ⟨_, ⟨rfl, _⟩ | ⟨g', cap, cur, rfl, hb, _⟩⟩ := hv
  · simp [ftp, blkOf] at hg
  · simp [ftp, blkOf] at hg
    omega
theorem AOp.callOwn {f : FuncId} {args : Array Operand} {tys : Array TypeId} {xs : List AV} {K : St → Prop} {e : TypeId} {α : Type} {T : Ty α} {l : List α}
    (ho : o.op = .call { callee := .value (.func f), args := args, argTypes := tys }) (hF : FnOwn P f xs e T l) (h0 : 0 < T.size) (hx : args.toList.map (evA t) = xs) (hc : AV.clL xs = true)
    (hK : K ⟨putA t o.dst (.own h.length 0), h ++ [.row 0 e T l]⟩) : AOp P C o ⟨t, h⟩ K := by
  rintro Q' a w ⟨hd, S, ψ, H, hl⟩
  refine ⟨fun c e => (by rw [ho] at e; cases e), ?_⟩
  have h2 : AV.relL w S h ψ xs (args.toList.map a.eval) := by
    rw [← hx]
    exact relL_map fun x _ => ev_rel hl x
  unfold Oper.wp
  rw [run_call ho hF.1 a.eval w rfl]
  simp only [Oper.upon]
  rw [show (args.map a.eval) = (args.toList.map a.eval).toArray from (by rw [← Array.toList_map])]
  refine (hF.2 w S (args.toList.map a.eval) H.lt (AV.relL_cl _ _ hc h2)).mono ?_
  rintro r w' ⟨v, cells, rfl, hb, hown, hR⟩
  have X : Ext w S h ψ w' S (h ++ [.row 0 e T l]) (ψset ψ h.length v) := Ext.push _ _ fun k hk => hb.block k (H.lt k hk)
  have hB : BRel C.N w' S (h ++ [.row 0 e T l]) (ψset ψ h.length v) v (.row 0 e T l) :=
    ⟨cells, hown.mono (Nat.zero_le _), h0, hR, fun g hg => by
      have hlt := hown.lt g hg
      exact ⟨fun hN => by have := H.nlt _ hN; have := H.bel.size; omega, fun hS => by have := H.lt _ hS; omega⟩⟩
  refine ⟨_, hK, st_push (s := ⟨t, h⟩) hd hl (H.push hb hB (ftp_row hown)) X ?_⟩
  unfold AV.rel
  refine ⟨by simp, fun c' hc' => ?_⟩
  rw [List.getElem?_append_right (Nat.le_refl _)] at hc'
  simp [ABlk.ver] at hc'
  exact ⟨by omega, fun _ => ψset_self.symm⟩
end
theorem ownsRow_base {w : World} {e : TypeId} {sz n base : Nat} {v : Value} {cells : List Value} (h : w.ownsRow 0 e sz v n cells) (hg : ∀ g, v.ownBlock = some g → base ≤ g) : w.ownsRow base e sz v n cells := by
  obtain ⟨h1, h2 | ⟨g, cap, cur, rfl, _, h3⟩⟩ := h
  · exact ⟨h1, .inl h2⟩
  · exact ⟨h1, .inr ⟨g, cap, cur, rfl, hg g rfl, h3⟩⟩
def RetsO (t : Tmp) (e : TypeId) {α : Type} (T : Ty α) (l : List α) : Exit → St → Prop := fun ex s => (ex = .normal ∨ ex = .ret) ∧ mkD s.h = [] ∧ ∃ i ver, evA s.t (.tmp t) = .own i ver ∧ s.h[i]? = some (.row ver e T l)
theorem FnOwn.of_awp {P : Program} {f : FuncId} {fn : Go.Func} {c : Code} {args : List AV} {e : TypeId} {α : Type} {T : Ty α} {l : List α} {t : Tmp} {n : Nat} (hf : P.funcs[f]? = some fn) (hb : fn.body = some c) (hE : Enters P f = true) (hres : fn.results = #[.tmp t]) (hn : fn.ntmps = n)
    (hT : ∀ w S S' cs d, T.RS w S cs d → T.RS w S' cs d)
    (h : ∀ C : Ctx, C.std → Awp P C c (RetsO t e T l) ⟨args ++ List.replicate (n - args.length) (.lit undef), []⟩) : FnOwn P f args e T l := by
  refine ⟨hE, fun w S vs hS hr => calls_of_wp hf hb ?_⟩
  rw [hn]
  refine wp_mono ((h ⟨w, S, fun k => k < w.heap.size, none⟩ (fun _ h => h)).wp rfl (start_rel hS hr)) ?_
  rintro ex a' w' ⟨s, ⟨he, hm, i, ver, hx, hi⟩, hd, S1, ψ, H, hl⟩
  rw [hm] at hd
  have hv := ev_rel hl (.tmp t)
  rw [hx] at hv
  unfold AV.rel at hv
  have hv' := (hv.2 _ (by rw [hi]; rfl)).2 rfl
  obtain ⟨cells, h1, _, h2, h3⟩ := H.blk i _ hi
  have hres' : (results fn a'.tmps).run P w' = .ok (a'.eval (.tmp t)) w' := results_tmp hres _ _ _
  have hown : w'.ownsRow w.heap.size e T.size (ψ i) l.length cells := ownsRow_base h1 fun g hg => Nat.le_of_not_lt fun hlt => (h3 g hg).1 hlt
  rw [hv'] at hres'
  have hR : ∀ j d, l[j]? = some d → T.RS w' S ((cells.drop (j * T.size)).take T.size) d := fun j d hd => hT _ _ _ _ _ (h2 j d hd)
  rcases he with rfl | rfl
  · exact ⟨hd, _, hres', _, cells, rfl, H.bel.below fun _ h => h, hown, hR⟩
  · exact ⟨hd, _, hres', _, cells, rfl, H.bel.below fun _ h => h, hown, hR⟩
theorem FnOwn.fn {P : Program} {f : FuncId} {args : List AV} {e : TypeId} {α : Type} {T : Ty α} {l : List α} (h : FnOwn P f args e T l) : Fn P f args (.bs T l) := by
  refine ⟨h.1, fun w S vs hS hr => (h.2 w S vs hS hr).mono ?_⟩
  rintro r w' ⟨v, cells, rfl, hb, hown, hR⟩
  refine ⟨v, rfl, hb, fun k => S k ∨ v.ownBlock = some k, fun _ h => .inl h, fun k hk => ?_, fun k hk => ?_, ?_⟩
  · rcases hk with hk | hk
    · exact .inl hk
    · exact .inr (hown.lt k hk).1
  · rcases hk with hk | hk
    · exact Nat.lt_of_lt_of_le (hS k hk) hb.size
    · exact (hown.lt k hk).2
  · unfold AV.rel
    exact own_slice hown (fun i d hd => T.keepS (hR i d hd) (fun _ _ => rfl) fun _ h => .inl h) fun _ h => .inr h

/-- a row of the caller's, changed and handed back; with more arguments -/
def FnRowX (P : Program) (f : FuncId) (e : TypeId) {α : Type} (T : Ty α) (l : List α) (xs : List AV) (l' : List α) : Prop :=
  Enters P f = true ∧ ∀ (N S : Nat → Prop) (w : World) (v : Value) (vs : List Value), (∀ k, N k → k < w.heap.size) → (∀ k, S k → k < w.heap.size) → BRel N w S [] ψ0 v (.row 0 e T l) → AV.relL w S [] ψ0 xs vs →
    Calls P f (v :: vs).toArray w fun x w' => ∃ v', x = .returned v' ∧ w.grownBy w' (blkOf v) ∧ BRel N w' S [] ψ0 v' (.row 0 e T l') ∧ ∀ g, blkOf v' = some g → blkOf v = some g ∨ w.heap.size ≤ g
theorem FnRowX.of_awp {P : Program} {f : FuncId} {fn : Go.Func} {c : Code} {e : TypeId} {α : Type} {T : Ty α} {l l' : List α} {xs : List AV} {t : Tmp} {n : Nat} (hf : P.funcs[f]? = some fn) (hb : fn.body = some c) (hE : Enters P f = true) (hres : fn.results = #[.tmp t]) (hn : fn.ntmps = n) (hflat : ∀ w S S' cs d, T.RS w S cs d → T.RS w S' cs d)
    (h : ∀ C : Ctx, Awp P C c (RetsRow t e T l') ⟨(.own 0 0 :: xs) ++ List.replicate (n - (xs.length + 1)) (.lit undef), [.row 0 e T l]⟩) : FnRowX P f e T l xs l' := by
  refine ⟨hE, fun N S w v vs hN hS hB hr => calls_of_wp hf hb ?_⟩
  rw [hn]
  have hlv := hB.lt rfl
  have hst : St.rel ⟨w, S, fun k => k < w.heap.size ∧ blkOf v ≠ some k, none⟩ ⟨(.own 0 0 :: xs) ++ List.replicate (n - (xs.length + 1)) (.lit undef), [.row 0 e T l]⟩ { tmps := (v :: vs).toArray ++ Array.replicate (n - (v :: vs).toArray.size) undef, defers := [] } w := by
    refine ⟨rfl, S, fun _ => v, ⟨Kp.refl _ _, fun k hk => hk.1, hS, fun _ h => h, fun _ h => .inl h, fun i b hi => ?_, fun i j hij hi hj => ?_⟩, ?_⟩
    · cases i with
      | zero =>
        simp only [List.getElem?_cons_zero, Option.some.injEq] at hi
        subst hi
        obtain ⟨cells, k1, k2, k3, k4⟩ := hB
        exact ⟨cells, k1, k2, k3, fun g hg => ⟨fun hc => hc.2 (ownBlock_blkOf hg), (k4 g hg).2⟩⟩
      | succ i => simp at hi
    · cases i with
      | zero => cases j with
        | zero => exact absurd rfl hij
        | succ j => simp [ABlk.live] at hj
      | succ i => simp [ABlk.live] at hi
    · have X : Ext w S [] ψ0 w S [.row 0 e T l] (fun _ => v) := ⟨fun _ _ => rfl, fun _ h => h, by simp, fun i c' hi => by simp at hi, fun i hi => by simp at hi⟩
      simp only [Array.toList_append, Array.toList_replicate]
      refine relL_append ?_ (relL_of (by simp [relL_len hr]) fun i x u hx hu => ?_)
      · unfold AV.relL
        refine ⟨v, vs, rfl, ?_, AV.relL_ext X _ _ hr⟩
        unfold AV.rel
        refine ⟨by simp, fun c hc => ?_⟩
        simp [ABlk.ver] at hc
        exact ⟨by omega, fun _ => rfl⟩
      · rw [List.getElem?_replicate] at hx hu
        split at hx <;> cases hx
        split at hu <;> cases hu
        unfold AV.rel
        rfl
  refine wp_mono ((h ⟨w, S, fun k => k < w.heap.size ∧ blkOf v ≠ some k, none⟩).wp rfl hst) ?_
  rintro x a' w' ⟨s, ⟨hx, i, ver, hev, hi, hmk⟩, hd, S1, ψ, H, hl⟩
  rw [hmk] at hd
  have hv := ev_rel hl (.tmp t)
  rw [hev] at hv
  unfold AV.rel at hv
  have hv' := (hv.2 _ (by rw [hi]; rfl)).2 rfl
  have hBi := H.blk i _ hi
  have hlt := hBi.lt rfl
  have hres' : (results fn a'.tmps).run P w' = .ok (a'.eval (.tmp t)) w' := results_tmp hres _ _ _
  have hg : w.grownBy w' (blkOf v) := ⟨H.bel.os, H.bel.tape, H.bel.output, H.bel.size, fun k hk hne => H.bel.block k ⟨hk, fun e => hne e.symm⟩⟩
  have hfin : ∃ v', Ending.returned (a'.eval (.tmp t)) = .returned v' ∧ w.grownBy w' (blkOf v) ∧ BRel N w' S [] ψ0 v' (.row 0 e T l') ∧ ∀ g, blkOf v' = some g → blkOf v = some g ∨ w.heap.size ≤ g := by
    have hor : ∀ g, blkOf (ψ i) = some g → blkOf v = some g ∨ w.heap.size ≤ g := fun g hgg => by
      have := (hlt g hgg).1
      by_cases hc : blkOf v = some g
      · exact .inl hc
      · exact .inr (Nat.le_of_not_lt fun h => this ⟨h, hc⟩)
    obtain ⟨cells, k1, k2, k3, k4⟩ := hBi
    rw [hv']
    refine ⟨_, rfl, hg, ⟨cells, k1, k2, ?_, fun g hgg => ?_⟩, hor⟩
    · intro j d hj
      exact hflat _ _ _ _ _ (k3 j d hj)
    · refine ⟨fun hNg => ?_, fun hSg => (k4 g hgg).2 (H.sub g hSg)⟩
      rcases hor g (ownBlock_blkOf hgg) with h1 | h1
      · exact (hlv g h1).1 hNg
      · have := hN g hNg; omega
  rcases hx with rfl | rfl
  · exact ⟨hd, _, hres', hfin⟩
  · exact ⟨hd, _, hres', hfin⟩
theorem AOp.callRowX {P : Program} {C : Ctx} {o : Oper} {t : List AV} {h : List ABlk} {K : St → Prop} {f : FuncId} {x : Operand} {more : List Operand} {args : Array Operand} {tys : Array TypeId} {i ver : Nat} {e : TypeId} {α : Type} {T : Ty α} {l l' : List α} {xs : List AV}
    (ho : o.op = .call { callee := .value (.func f), args := args, argTypes := tys }) (ha : args.toList = x :: more) (hF : FnRowX P f e T l xs l') (hx : evA t x = .own i ver) (hi : h[i]? = some (.row ver e T l)) (hm : more.map (evA t) = xs) (hc : AV.clL xs = true)
    (hK : K ⟨putA t o.dst (.own i (ver + 1)), h.set i (.row (ver + 1) e T l')⟩) : AOp P C o ⟨t, h⟩ K := by
  rintro Q' a w ⟨hd, S, ψ, H, hl⟩
  refine ⟨fun c e => (by rw [ho] at e; cases e), ?_⟩
  have hx' := ev_rel hl x
  rw [show evA (St.mk t h).t x = .own i ver from hx] at hx'
  unfold AV.rel at hx'
  have hv := (hx'.2 _ (by rw [hi]; rfl)).2 rfl
  have hBi := H.blk i _ hi
  have hlt := hBi.lt rfl
  have h2 : AV.relL w S h ψ xs (more.map a.eval) := by
    rw [← hm]
    exact relL_map fun x _ => ev_rel hl x
  unfold Oper.wp
  rw [run_call ho hF.1 a.eval w rfl]
  simp only [Oper.upon]
  have hc := hF.2 C.N S w (ψ i) (more.map a.eval) (fun k hk => Nat.lt_of_lt_of_le (H.nlt k hk) H.bel.size) H.lt hBi (AV.relL_cl _ _ hc h2)
  rw [show (args.map a.eval) = (ψ i :: more.map a.eval).toArray from by
    obtain rfl : args = (x :: more).toArray := by rw [← ha]
    simp [hv]]
  refine hc.mono ?_
  rintro r w' ⟨v', rfl, hgr, hB', hor⟩
  have hblk : ∀ k, S k → w'.heap[k]? = w.heap[k]? := fun k hk => hgr.block k (H.lt k hk) fun e => (hlt k e.symm).2.2 hk
  have X : Ext w S h ψ w' S (h.set i (.row (ver + 1) e T l')) (ψset ψ i v') := Ext.set hblk hi (fun c' hc => by
    simp only [ABlk.ver, Option.some.injEq] at hc
    exact ⟨ver, rfl, by omega, fun e => by omega⟩) fun h => by simp [ABlk.isBox] at h
  refine ⟨_, hK, st_set (s := ⟨t, h⟩) hi hd hl (H.set hi rfl (Gr.of_grownBy hgr) X hB' hor) X ?_⟩
  unfold AV.rel
  refine ⟨by simp [(List.getElem?_eq_some_iff.1 hi).1], fun c' hc' => ?_⟩
  rw [List.getElem?_set_self (List.getElem?_eq_some_iff.1 hi).1] at hc'
  simp only [ABlk.ver, Option.some.injEq] at hc'
  exact ⟨by omega, fun _ => by rw [ψset_self]⟩
theorem int_flat {k : IntKind} : ∀ (w : World) (S S' : Nat → Prop) (cs : List Value) (d : Int), (Ty.int k).RS w S cs d → (Ty.int k).RS w S' cs d := fun _ _ _ _ _ h => h
end Mu
end
section
/-
  Function values: made, lent to functions, called.
  Conditions: none; generic.
-/
namespace Mu
open Go Go.RowKit Go.Proofs

section
variable {P : Program} {C : Ctx} {o : Oper} {t : List AV} {h : List ABlk}
theorem run_callV {f : FuncId} {x : Operand} {args : Array Operand} {tys : Array TypeId} {cs : Array Value} (ho : o.op = .call { callee := .value x, args := args, argTypes := tys }) (hE : Enters P f = true) (ρ : Operand → Value) (w : World) (hρ : ρ x = .func (.func f) #[] cs) :
    (execOp ρ o).run P w = .ok (.enter f (args.map ρ ++ cs)) w := by
  unfold Enters at hE
  cases hf : P.funcs[f]? with
  | none => rw [hf] at hE; cases hE
  | some fn =>
    rw [hf] at hE
    simp only [Bool.and_eq_true, Bool.not_eq_true'] at hE
    have h1 : ¬ fn.name = "runtime.NumGoroutine" := by simpa using hE.1
    have h2 : ¬ fn.body = none := fun e => by have := hE.2; rw [e] at this; cases this
    simp [execOp, ho, resolve, Deferred.ofValue, hρ, invoke, callFunc, hf, h1, h2]
theorem Quiet.mkFn {f : FuncId} {cap : Array Operand} (ho : o.op = .makeFunc (.func f) #[] cap) : Quiet P C t h o (.fn f (cap.toList.map (evA t))) :=
  Quiet.of_run fun S ψ w ρ H hρ => by
    have hl : AV.relL w S h ψ (cap.toList.map (evA t)) (cap.toList.map ρ) := relL_map fun x hx => hρ x (by rw [ho]; simpa [Op.operands] using hx)
    refine ⟨.func (.func f) #[] (cap.map ρ), by simp [execOp, ho, Instr.makeFunc], ?_⟩
    unfold AV.rel
    exact ⟨_, by rw [← Array.toList_map], hl⟩
theorem clL_append : ∀ l m : List AV, AV.clL (l ++ m) = (AV.clL l && AV.clL m)
  | [], m => by simp [AV.clL]
  | x :: l, m => by
    have e : ∀ y k, AV.clL (y :: k) = (AV.cl y && AV.clL k) := fun _ _ => by rw [AV.clL]
    rw [List.cons_append, e, e, clL_append l m, Bool.and_assoc]
mutual
theorem bd_of_cl (n : Nat) : ∀ x : AV, AV.cl x = true → AV.bd n x = true
  | .any, _ => rfl
  | .lit _, _ => rfl
  | .bs _ _, _ => rfl
  | .tv _ _, _ => rfl
  | .own _ _, h => by simp [AV.cl] at h
  | .ptr _ _, h => by simp [AV.cl] at h
  | .rp _ _ _ _, h => by simp [AV.cl] at h
  | .bp _ _ _, _ => rfl
  | .agg l, h => by unfold AV.cl at h; unfold AV.bd; exact bdL_of_cl n l h
  | .tup l, h => by unfold AV.cl at h; unfold AV.bd; exact bdL_of_cl n l h
  | .fn _ l, h => by unfold AV.cl at h; unfold AV.bd; exact bdL_of_cl n l h
theorem bdL_of_cl (n : Nat) : ∀ l : List AV, AV.clL l = true → AV.bdL n l = true
  | [], _ => rfl
  | x :: l, h => by
    unfold AV.clL at h
    rw [Bool.and_eq_true] at h
    unfold AV.bdL
    rw [bd_of_cl n x h.1, bdL_of_cl n l h.2]
    rfl
end
/-- a function value is called -/
theorem Quiet.callV {f : FuncId} {x : Operand} {args : Array Operand} {tys : Array TypeId} {l xs : List AV} {r : AV} (ho : o.op = .call { callee := .value x, args := args, argTypes := tys }) (hv : evA t x = .fn f l) (hx : args.toList.map (evA t) ++ l = xs) (hF : Fn P f xs r) (hc1 : AV.clL (args.toList.map (evA t)) = true) (hc2 : AV.clL l = true) (hr : AV.cl r = true) : Quiet P C t h o r := by
  have hc : AV.clL xs = true := by rw [← hx, clL_append, hc1, hc2]; rfl
  intro S ψ w ρ H hρ
  have h1 := hρ x (by rw [ho]; exact Array.mem_append.2 (.inl (by simp)))
  rw [hv] at h1
  unfold AV.rel at h1
  obtain ⟨cs, e, hcs⟩ := h1
  rw [run_callV ho hF.1 ρ w e]
  refine ⟨rfl, ?_⟩
  have h2 : AV.relL w S h ψ xs (args.toList.map ρ ++ cs) := by
    rw [← hx]
    exact relL_append (relL_map fun x hx' => hρ x (by rw [ho]; exact Array.mem_append.2 (.inr (Array.mem_toList_iff.1 hx')))) hcs
  have h3 := hF.2 w S (args.toList.map ρ ++ cs) H.lt (AV.relL_cl _ _ hc h2)
  rw [show (args.map ρ ++ cs.toArray) = (args.toList.map ρ ++ cs).toArray from (by simp)]
  refine h3.mono ?_
  rintro e w' ⟨v, he, hb, S', k1, k2, k3, k4⟩
  exact ⟨v, he, hb, S', k1, k2, k3, AV.rel_cl _ _ hr k4⟩

/-! ### what is the call's own, lent -/
mutual
inductive LendV (h : List ABlk) : AV → AV → Prop
  | cl {x : AV} (hx : AV.cl x = true) : LendV h x x
  | own {i ver : Nat} {e : TypeId} {α : Type} {T : Ty α} {d : List α} (hi : h[i]? = some (.row ver e T d)) : LendV h (.own i ver) (.bs T d)
  | box {i off : Nat} {cells : List AV} {α : Type} {T : Ty α} {d : α} (hi : h[i]? = some (.box cells)) (hn : ((cells.drop off).take T.size).length = T.size) (hp : ∀ (C : Ctx) (S : Nat → Prop) (ψ : Nat → Value) (w : World) (cs : List Value), HRel C h S ψ w → AV.relL w S h ψ ((cells.drop off).take T.size) cs → T.RS w S cs d) : LendV h (.ptr i off) (.bp T d 0)
  | fn {f : FuncId} {l l' : List AV} (hl : LendL h l l') : LendV h (.fn f l) (.fn f l')
  | fl {f : FuncId} : LendV h (.lit (.func (.func f) #[] #[])) (.fn f [])
inductive LendL (h : List ABlk) : List AV → List AV → Prop
  | nil : LendL h [] []
  | cons {x x' : AV} {l l' : List AV} (hx : LendV h x x') (hl : LendL h l l') : LendL h (x :: l) (x' :: l')
end
mutual
theorem LendV.rel {w : World} {S : Nat → Prop} {ψ : Nat → Value} (H : HRel C h S ψ w) : ∀ {x x' : AV} {v : Value}, LendV h x x' → AV.rel w S h ψ x v → AV.rel w (fun k => k < w.heap.size) [] ψ0 x' v
  | x, _, v, .cl hx, hr => AV.rel_cl _ _ hx (AV.rel_ext (Ext.grow h ψ (fun _ _ => rfl) H.lt : Ext w S h ψ w (fun k => k < w.heap.size) h ψ) _ _ hr)
  | _, _, v, .own (i := i) hi, hr => by
    unfold AV.rel at hr ⊢
    have hv := (hr.2 _ (by rw [hi]; rfl)).2 rfl
    subst hv
    obtain ⟨cells, k1, k0, k2, k3⟩ := H.blk _ _ hi
    exact own_slice k1 (fun i d hd => Ty.keepS _ (k2 i d hd) (fun _ _ => rfl) H.lt) fun g hg => (World.ownsRow.lt k1 g hg).2
  | _, _, v, .box (i := i) (off := off) (cells := cells) (T := T) (d := d) hi hn hp, hr => by
    unfold AV.rel at hr ⊢
    obtain ⟨g, hg, hv⟩ := hr.2 (by rw [hi]; rfl)
    obtain ⟨g', cs, e, hg', _, _, hw, hcs⟩ := H.blk _ _ hi
    rw [hg] at hg'
    cases hg'
    have hlt : g < w.heap.size := (Array.getElem?_eq_some_iff.1 hw).1
    have hl := relL_take (relL_drop hcs off) T.size
    refine ⟨g, off, by rw [hv]; rfl, hlt, (cs.drop off).take T.size, Ty.keepS _ (hp C S ψ w _ H hl) (fun _ _ => rfl) H.lt, fun j u hj => ?_⟩
    rw [List.getElem?_take] at hj
    split at hj
    · rw [List.getElem?_drop] at hj
      have : w.cell? ⟨g, off + 0 + j, none⟩ = some u := by
        unfold World.cell?
        rw [hw]
        simpa using hj
      simpa using this
    · cases hj
  | _, _, v, .fn hl, hr => by
    unfold AV.rel at hr ⊢
    obtain ⟨cs, e, hcs⟩ := hr
    exact ⟨cs, e, LendL.rel H hl hcs⟩
  | _, _, v, .fl, hr => by
    unfold AV.rel at hr ⊢
    exact ⟨[], hr, by unfold AV.relL; rfl⟩
theorem LendL.rel {w : World} {S : Nat → Prop} {ψ : Nat → Value} (H : HRel C h S ψ w) : ∀ {l l' : List AV} {vs : List Value}, LendL h l l' → AV.relL w S h ψ l vs → AV.relL w (fun k => k < w.heap.size) [] ψ0 l' vs
  | _, _, vs, .nil, hr => by
    unfold AV.relL at hr ⊢
    exact hr
  | _, _, vs, .cons hx hl, hr => by
    unfold AV.relL at hr ⊢
    obtain ⟨v, vs', e, h1, h2⟩ := hr
    exact ⟨v, vs', e, LendV.rel H hx h1, LendL.rel H hl h2⟩
end
/-- a call to which what is the call's own is lent, and whose result does not lead to memory -/
theorem Quiet.callL {f : FuncId} {args : Array Operand} {tys : Array TypeId} {xs : List AV} {u : Value}
    (ho : o.op = .call { callee := .value (.func f), args := args, argTypes := tys }) (hF : Fn P f xs (.lit u)) (hx : LendL h (args.toList.map (evA t)) xs) : Quiet P C t h o (.lit u) := by
  intro S ψ w ρ H hρ
  have h1 : ρ (.func f) = .func (.func f) #[] #[] := by
    have := hρ (.func f) (by rw [ho]; exact Array.mem_append.2 (.inl (by simp)))
    simpa [evA, AV.rel] using this
  rw [run_call ho hF.1 ρ w h1]
  refine ⟨rfl, ?_⟩
  have h2 : AV.relL w S h ψ (args.toList.map (evA t)) (args.toList.map ρ) := relL_map fun x hx' => hρ x (by rw [ho]; exact Array.mem_append.2 (.inr (Array.mem_toList_iff.1 hx')))
  have h3 := hF.2 w _ (args.toList.map ρ) (fun _ h => h) (LendL.rel H hx h2)
  rw [show (args.map ρ) = (args.toList.map ρ).toArray from (by rw [← Array.toList_map])]
  refine h3.mono ?_
  rintro e w' ⟨v, he, hb, S', k1, k2, k3, k4⟩
  refine ⟨v, he, hb, S, fun _ h => h, fun _ h => .inl h, fun k hk => Nat.lt_of_lt_of_le (H.lt k hk) hb.size, ?_⟩
  unfold AV.rel at k4 ⊢
  exact k4
/-- a box of one cell, lent -/
theorem LendV.box1 {i : Nat} {cells : List AV} {off : Nat} {x : AV} {α : Type} {T : Ty α} {d : α} (hi : h[i]? = some (.box cells)) (hx : cells[off]? = some x) (hs : T.size = 1) (hf : Fit h T x d) (hc : ∀ (w : World) (S : Nat → Prop) (ψ : Nat → Value) (v : Value), AV.rel w S h ψ x v → v.cells.toList = [v]) : LendV h (.ptr i off) (.bp T d 0) := by
  have e : (cells.drop off).take T.size = [x] := by
    rw [hs, List.take_one, List.head?_drop, hx]
    rfl
  refine .box hi (by rw [e, hs]; rfl) fun C S ψ w cs H hr => ?_
  rw [e] at hr
  unfold AV.relL at hr
  obtain ⟨v, vs, rfl, h1, h2⟩ := hr
  unfold AV.relL at h2
  subst h2
  have h3 := hf C S ψ w v H h1
  rw [hc w S ψ v h1] at h3
  exact h3
theorem LendV.litC {u : Value} (hu : u.cells.toList = [u]) (w : World) (S : Nat → Prop) (ψ : Nat → Value) (v : Value) (hv : AV.rel w S h ψ (.lit u) v) : v.cells.toList = [v] := by
  unfold AV.rel at hv
  subst hv
  exact hu
/-- a box of one int, lent -/
theorem LendV.boxI {i : Nat} {cells : List AV} {off : Nat} {k : IntKind} {n : Int} (hi : h[i]? = some (.box cells)) (hx : cells[off]? = some (.lit (.int k n))) (hn : wfI k n) : LendV h (.ptr i off) (.bp (Ty.int k) n 0) := .box1 hi hx rfl (Fit.int hn) (LendV.litC rfl)
end
end Mu
end
section
/-
  Whole regions in one step: what a region does is found by the facts that lie at hand.
  Conditions: none; generic.
-/
namespace Mu
open Go Go.RowKit Go.Proofs

section
variable {P : Program} {C : Ctx}
theorem AOp.weak {o : Oper} {s : St} {K K' : St → Prop} (hk : ∀ s, K s → K' s) (h : AOp P C o s K) : AOp P C o s K' := fun Q' a w H =>
  let ⟨h1, h2⟩ := h Q' a w H
  ⟨h1, Oper.wp_mono (fun _ _ ⟨s', k1, k2⟩ => ⟨s', hk _ k1, k2⟩) h2⟩
theorem aSeq_weak {ops : Array Oper} {K K' : St → Prop} (hk : ∀ s, K s → K' s) : ∀ {l : List Oper} {s : St}, aSeq P C ops K l s → aSeq P C ops K' l s
  | [], s, h => hk s h
  | o :: rest, s, h => by
    obtain ⟨b, hg, ht, hf⟩ := h
    exact ⟨b, hg, fun e => (ht e).weak fun s h => aSeq_weak hk h, fun e => aSeq_weak hk (hf e)⟩
theorem aQ_weak {ops : Array Oper} {h : List ABlk} {K K' : List AV → Prop} (hk : ∀ s, K s → K' s) : ∀ {l : List Oper} {t : List AV}, aQ P C ops h K l t → aQ P C ops h K' l t
  | [], s, h => hk s h
  | o :: rest, t, h => by
    obtain ⟨r, h1, h2⟩ := h
    exact ⟨r, h1, aQ_weak hk h2⟩
theorem Quiet.callA {t : List AV} {h : List ABlk} {o : Oper} {f : FuncId} {args : Array Operand} {tys : Array TypeId} {xs : List AV} {r : AV}
    (ho : o.op = .call { callee := .value (.func f), args := args, argTypes := tys }) (hx : args.toList.map (evA t) = xs) (hF : Fn P f xs r) (hc : AV.clL xs = true) (hr : AV.cl r = true) : Quiet P C t h o r := Quiet.call ho hF hx hc hr
theorem Quiet.pickOrB {t : List AV} {h : List ABlk} {o : Oper} {c a b : Operand} {q e : Bool} (ho : o.op = .pick c a b) (hc : evA t c = .lit (.bool q)) (ha : evA t a = .lit (.bool true)) (hb : evA t b = cond (!q) (.lit (.bool e)) (.lit undef)) : Quiet P C t h o (.lit (.bool (q || e))) :=
  Quiet.pickOr ho hc ha (by rw [hb]; cases q <;> rfl)
theorem Quiet.pickAndB {t : List AV} {h : List ABlk} {o : Oper} {c a b : Operand} {q e : Bool} (ho : o.op = .pick c a b) (hc : evA t c = .lit (.bool q)) (ha : evA t a = cond q (.lit (.bool e)) (.lit undef)) (hb : evA t b = .lit (.bool false)) : Quiet P C t h o (.lit (.bool (q && e))) :=
  Quiet.pickAnd ho hc (by rw [ha]; cases q <;> rfl) hb
theorem wEnd {ops : Array Oper} {s s' : St} (e : s = s') : aSeq P C ops (fun x => x = s') [] s := e
theorem qEnd {ops : Array Oper} {h : List ABlk} {t t' : List AV} (e : t = t') : aQ P C ops h (fun x => x = t') [] t := e

section
variable {t t' t'' : List AV} {h h' h'' : List ABlk} {o : Oper} {r : AV} {ops : Array Oper} {rest : List Oper} {K : St → Prop}
theorem sA (hg : gA ops t o = some true := by rfl) (hq : Quiet P C t h o r := by (first
    | exact Quiet.callA rfl rfl (by assumption) rfl rfl
    | exact Quiet.callTA rfl rfl (by assumption) (by assumption) (by assumption) (by assumption) rfl rfl
    | exact Quiet.bin rfl rfl rfl (by assumption)
    | exact Quiet.pickOr rfl rfl rfl rfl
    | exact Quiet.pickAnd rfl rfl rfl rfl
    | exact Quiet.pickOrB rfl rfl rfl rfl
    | exact Quiet.pickAndB rfl rfl rfl rfl
    | exact Quiet.pickOr' rfl rfl rfl rfl
    | exact Quiet.pickAnd' rfl rfl rfl rfl
    | exact Quiet.move rfl (by (conv => lhs; whnf); try rfl)
    | exact Quiet.assign rfl (by (conv => lhs; whnf); try rfl)
    | exact Quiet.fa_ptr rfl rfl rfl
    | exact Quiet.fa_bp rfl rfl
    | exact Quiet.fa_rp rfl rfl rfl
    | exact Quiet.faL rfl rfl
    | exact Quiet.load_ptr rfl rfl rfl rfl
    | exact Quiet.load_bp rfl rfl rfl
    | exact Quiet.load_rp rfl rfl rfl (by assumption) rfl
    | exact Quiet.loadA_ptr rfl rfl rfl rfl
    | exact Quiet.loadA_bp rfl rfl rfl
    | exact Quiet.ix rfl rfl rfl rfl (by assumption)
    | exact Quiet.ixi rfl rfl rfl rfl (by first | decide | omega) (by assumption)
    | exact Quiet.ixo rfl rfl rfl rfl rfl (by first | assumption | omega)
    | exact Quiet.ixoi rfl rfl rfl rfl rfl (by first | decide | omega) (by first | assumption | omega)
    | exact Quiet.ixl0 rfl rfl rfl (by first | assumption | omega)
    | exact Quiet.ln rfl rfl
    | exact Quiet.lno rfl rfl rfl
    | exact Quiet.lnl rfl rfl
    | exact Quiet.add64 rfl rfl rfl (by omega)
    | exact Quiet.sub64 rfl rfl rfl (by omega)
    | exact Quiet.binb rfl rfl rfl rfl (by assumption)
    | exact Quiet.bin rfl rfl rfl rfl
    | exact Quiet.bnot rfl rfl
    | exact Quiet.pick rfl rfl (by (conv => lhs; whnf); try rfl)
    | exact Quiet.extract rfl rfl rfl
    | exact Quiet.lt1 rfl rfl rfl (by rfl) (by decide) (by first | exact Fit.bool | exact Fit.bs | exact Fit.int (by assumption))
    | exact Quiet.max2 rfl rfl rfl
    | exact Quiet.min2 rfl rfl rfl
    | exact Quiet.ldL (i := 0) rfl rfl rfl (by first | rfl | assumption) rfl
    | exact Quiet.ldL (i := 1) rfl rfl rfl (by first | rfl | assumption) rfl
    | exact Quiet.ldL (i := 2) rfl rfl rfl (by first | rfl | assumption) rfl
    | exact Quiet.ldL (i := 3) rfl rfl rfl (by first | rfl | assumption) rfl
    | exact Quiet.ldL (i := 4) rfl rfl rfl (by first | rfl | assumption) rfl
    | exact Quiet.ldL (i := 5) rfl rfl rfl (by first | rfl | assumption) rfl
    | exact Quiet.ldL (i := 6) rfl rfl rfl (by first | rfl | assumption) rfl
    | exact Quiet.ldL (i := 7) rfl rfl rfl (by first | rfl | assumption) rfl
    | exact Quiet.ldL (i := 8) rfl rfl rfl (by first | rfl | assumption) rfl
    | exact Quiet.ldAL (i := 1) rfl rfl rfl rfl rfl
    | exact Quiet.ldAL (i := 2) rfl rfl rfl rfl rfl
    | exact Quiet.ldAL (i := 3) rfl rfl rfl rfl rfl
    | exact Quiet.ldAL (i := 4) rfl rfl rfl rfl rfl
    | exact Quiet.ldAL (i := 5) rfl rfl rfl rfl rfl
    | exact Quiet.ldAL (i := 6) rfl rfl rfl rfl rfl
    | exact Quiet.ldAL (i := 7) rfl rfl rfl rfl rfl
    | exact Quiet.ldAL (i := 8) rfl rfl rfl rfl rfl
    | exact Quiet.eqb rfl rfl rfl (by assumption)
    | exact Quiet.eqb rfl rfl rfl rfl
    | exact Quiet.neb rfl rfl rfl (by assumption)
    | exact Quiet.neb rfl rfl rfl rfl
    | exact Quiet.eqSs rfl rfl rfl
    | exact Quiet.eqS rfl rfl rfl
    | exact Quiet.neS rfl rfl rfl
    | exact Quiet.lnS rfl rfl
    | exact Quiet.ixS rfl rfl rfl (by assumption)
    | exact Quiet.cat rfl rfl rfl (by first | assumption | omega)
    | exact Quiet.cut rfl rfl rfl rfl (by first | assumption | omega) (by first | assumption | omega)
    | exact Quiet.cutS rfl rfl rfl (by first | assumption | omega)
    | exact Quiet.shl rfl rfl rfl (by decide) (by assumption)
    | exact Quiet.shl rfl rfl rfl (by decide) rfl
    | exact Quiet.shr rfl rfl rfl (by decide) (by assumption)
    | exact Quiet.shr rfl rfl rfl (by decide) rfl
    | exact Quiet.bit rfl rfl rfl rfl (by assumption)
    | exact Quiet.bit rfl rfl rfl rfl rfl
    | exact Quiet.mkFn rfl
    | exact Quiet.callV rfl rfl rfl (by assumption) rfl (by first | rfl | assumption) rfl
    | exact Quiet.cv rfl rfl (by assumption)
    | exact Quiet.cv rfl rfl rfl
    | exact Quiet.b2s rfl rfl
    | exact Quiet.s2b rfl rfl (by first | assumption | omega))) (ht : putA t o.dst r = t' := by ((try simp only [putA, List.set_cons_zero, List.set_cons_succ]); exact rfl)) (hk : aSeq P C ops K rest ⟨t', h⟩) : aSeq P C ops K (o :: rest) ⟨t, h⟩ := by
  subst ht
  exact aSeq_q hg hq hk
theorem qA {K : List AV → Prop} (hg : gA ops t o = some true := by rfl) (hq : Quiet P C t h o r := by (first
    | exact Quiet.callA rfl rfl (by assumption) rfl rfl
    | exact Quiet.callTA rfl rfl (by assumption) (by assumption) (by assumption) (by assumption) rfl rfl
    | exact Quiet.bin rfl rfl rfl (by assumption)
    | exact Quiet.pickOr rfl rfl rfl rfl
    | exact Quiet.pickAnd rfl rfl rfl rfl
    | exact Quiet.pickOrB rfl rfl rfl rfl
    | exact Quiet.pickAndB rfl rfl rfl rfl
    | exact Quiet.pickOr' rfl rfl rfl rfl
    | exact Quiet.pickAnd' rfl rfl rfl rfl
    | exact Quiet.move rfl (by (conv => lhs; whnf); try rfl)
    | exact Quiet.assign rfl (by (conv => lhs; whnf); try rfl)
    | exact Quiet.fa_ptr rfl rfl rfl
    | exact Quiet.fa_bp rfl rfl
    | exact Quiet.fa_rp rfl rfl rfl
    | exact Quiet.faL rfl rfl
    | exact Quiet.load_ptr rfl rfl rfl rfl
    | exact Quiet.load_bp rfl rfl rfl
    | exact Quiet.load_rp rfl rfl rfl (by assumption) rfl
    | exact Quiet.loadA_ptr rfl rfl rfl rfl
    | exact Quiet.loadA_bp rfl rfl rfl
    | exact Quiet.ix rfl rfl rfl rfl (by assumption)
    | exact Quiet.ixi rfl rfl rfl rfl (by first | decide | omega) (by assumption)
    | exact Quiet.ixo rfl rfl rfl rfl rfl (by first | assumption | omega)
    | exact Quiet.ixoi rfl rfl rfl rfl rfl (by first | decide | omega) (by first | assumption | omega)
    | exact Quiet.ixl0 rfl rfl rfl (by first | assumption | omega)
    | exact Quiet.ln rfl rfl
    | exact Quiet.lno rfl rfl rfl
    | exact Quiet.lnl rfl rfl
    | exact Quiet.add64 rfl rfl rfl (by omega)
    | exact Quiet.sub64 rfl rfl rfl (by omega)
    | exact Quiet.binb rfl rfl rfl rfl (by assumption)
    | exact Quiet.bin rfl rfl rfl rfl
    | exact Quiet.bnot rfl rfl
    | exact Quiet.pick rfl rfl (by (conv => lhs; whnf); try rfl)
    | exact Quiet.extract rfl rfl rfl
    | exact Quiet.lt1 rfl rfl rfl (by rfl) (by decide) (by first | exact Fit.bool | exact Fit.bs | exact Fit.int (by assumption))
    | exact Quiet.max2 rfl rfl rfl
    | exact Quiet.min2 rfl rfl rfl
    | exact Quiet.ldL (i := 0) rfl rfl rfl (by first | rfl | assumption) rfl
    | exact Quiet.ldL (i := 1) rfl rfl rfl (by first | rfl | assumption) rfl
    | exact Quiet.ldL (i := 2) rfl rfl rfl (by first | rfl | assumption) rfl
    | exact Quiet.ldL (i := 3) rfl rfl rfl (by first | rfl | assumption) rfl
    | exact Quiet.ldL (i := 4) rfl rfl rfl (by first | rfl | assumption) rfl
    | exact Quiet.ldL (i := 5) rfl rfl rfl (by first | rfl | assumption) rfl
    | exact Quiet.ldL (i := 6) rfl rfl rfl (by first | rfl | assumption) rfl
    | exact Quiet.ldL (i := 7) rfl rfl rfl (by first | rfl | assumption) rfl
    | exact Quiet.ldL (i := 8) rfl rfl rfl (by first | rfl | assumption) rfl
    | exact Quiet.ldAL (i := 1) rfl rfl rfl rfl rfl
    | exact Quiet.ldAL (i := 2) rfl rfl rfl rfl rfl
    | exact Quiet.ldAL (i := 3) rfl rfl rfl rfl rfl
    | exact Quiet.ldAL (i := 4) rfl rfl rfl rfl rfl
    | exact Quiet.ldAL (i := 5) rfl rfl rfl rfl rfl
    | exact Quiet.ldAL (i := 6) rfl rfl rfl rfl rfl
    | exact Quiet.ldAL (i := 7) rfl rfl rfl rfl rfl
    | exact Quiet.ldAL (i := 8) rfl rfl rfl rfl rfl
    | exact Quiet.eqb rfl rfl rfl (by assumption)
    | exact Quiet.eqb rfl rfl rfl rfl
    | exact Quiet.neb rfl rfl rfl (by assumption)
    | exact Quiet.neb rfl rfl rfl rfl
    | exact Quiet.eqSs rfl rfl rfl
    | exact Quiet.eqS rfl rfl rfl
    | exact Quiet.neS rfl rfl rfl
    | exact Quiet.lnS rfl rfl
    | exact Quiet.ixS rfl rfl rfl (by assumption)
    | exact Quiet.cat rfl rfl rfl (by first | assumption | omega)
    | exact Quiet.cut rfl rfl rfl rfl (by first | assumption | omega) (by first | assumption | omega)
    | exact Quiet.cutS rfl rfl rfl (by first | assumption | omega)
    | exact Quiet.shl rfl rfl rfl (by decide) (by assumption)
    | exact Quiet.shl rfl rfl rfl (by decide) rfl
    | exact Quiet.shr rfl rfl rfl (by decide) (by assumption)
    | exact Quiet.shr rfl rfl rfl (by decide) rfl
    | exact Quiet.bit rfl rfl rfl rfl (by assumption)
    | exact Quiet.bit rfl rfl rfl rfl rfl
    | exact Quiet.mkFn rfl
    | exact Quiet.callV rfl rfl rfl (by assumption) rfl (by first | rfl | assumption) rfl
    | exact Quiet.cv rfl rfl (by assumption)
    | exact Quiet.cv rfl rfl rfl
    | exact Quiet.b2s rfl rfl
    | exact Quiet.s2b rfl rfl (by first | assumption | omega))) (ht : putA t o.dst r = t' := by ((try simp only [putA, List.set_cons_zero, List.set_cons_succ]); exact rfl)) (hk : aQ P C ops h K rest t') : aQ P C ops h K (o :: rest) t := by
  subst ht
  exact aQ_q hg hq hk
theorem sAG {g : Bool} (hg : gA ops t o = some g := by first | rfl | exact gA_c rfl rfl) (hq : g = true → Quiet P C t h o r := by (intro hg; (try simp only [Bool.and_eq_true, beq_true, beq_false, Bool.not_eq_true', Bool.not_eq_eq_eq_not, Bool.not_true, Bool.not_false] at hg); (try simp only [hg, beq_true, beq_false, cond_true, Bool.true_and, Bool.and_true, Bool.not_false, Bool.not_true, beq_self_eq_true]); (first
    | exact Quiet.callA rfl rfl (by assumption) rfl rfl
    | exact Quiet.callTA rfl rfl (by assumption) (by assumption) (by assumption) (by assumption) rfl rfl
    | exact Quiet.bin rfl rfl rfl (by assumption)
    | exact Quiet.pickOr rfl rfl rfl rfl
    | exact Quiet.pickAnd rfl rfl rfl rfl
    | exact Quiet.pickOrB rfl rfl rfl rfl
    | exact Quiet.pickAndB rfl rfl rfl rfl
    | exact Quiet.pickOr' rfl rfl rfl rfl
    | exact Quiet.pickAnd' rfl rfl rfl rfl
    | exact Quiet.move rfl (by (conv => lhs; whnf); try rfl)
    | exact Quiet.assign rfl (by (conv => lhs; whnf); try rfl)
    | exact Quiet.fa_ptr rfl rfl rfl
    | exact Quiet.fa_bp rfl rfl
    | exact Quiet.fa_rp rfl rfl rfl
    | exact Quiet.faL rfl rfl
    | exact Quiet.load_ptr rfl rfl rfl rfl
    | exact Quiet.load_bp rfl rfl rfl
    | exact Quiet.load_rp rfl rfl rfl (by assumption) rfl
    | exact Quiet.loadA_ptr rfl rfl rfl rfl
    | exact Quiet.loadA_bp rfl rfl rfl
    | exact Quiet.ix rfl rfl rfl rfl (by assumption)
    | exact Quiet.ixi rfl rfl rfl rfl (by first | decide | omega) (by assumption)
    | exact Quiet.ixo rfl rfl rfl rfl rfl (by first | assumption | omega)
    | exact Quiet.ixoi rfl rfl rfl rfl rfl (by first | decide | omega) (by first | assumption | omega)
    | exact Quiet.ixl0 rfl rfl rfl (by first | assumption | omega)
    | exact Quiet.ln rfl rfl
    | exact Quiet.lno rfl rfl rfl
    | exact Quiet.lnl rfl rfl
    | exact Quiet.add64 rfl rfl rfl (by omega)
    | exact Quiet.sub64 rfl rfl rfl (by omega)
    | exact Quiet.binb rfl rfl rfl rfl (by assumption)
    | exact Quiet.bin rfl rfl rfl rfl
    | exact Quiet.bnot rfl rfl
    | exact Quiet.pick rfl rfl (by (conv => lhs; whnf); try rfl)
    | exact Quiet.extract rfl rfl rfl
    | exact Quiet.lt1 rfl rfl rfl (by rfl) (by decide) (by first | exact Fit.bool | exact Fit.bs | exact Fit.int (by assumption))
    | exact Quiet.max2 rfl rfl rfl
    | exact Quiet.min2 rfl rfl rfl
    | exact Quiet.ldL (i := 0) rfl rfl rfl (by first | rfl | assumption) rfl
    | exact Quiet.ldL (i := 1) rfl rfl rfl (by first | rfl | assumption) rfl
    | exact Quiet.ldL (i := 2) rfl rfl rfl (by first | rfl | assumption) rfl
    | exact Quiet.ldL (i := 3) rfl rfl rfl (by first | rfl | assumption) rfl
    | exact Quiet.ldL (i := 4) rfl rfl rfl (by first | rfl | assumption) rfl
    | exact Quiet.ldL (i := 5) rfl rfl rfl (by first | rfl | assumption) rfl
    | exact Quiet.ldL (i := 6) rfl rfl rfl (by first | rfl | assumption) rfl
    | exact Quiet.ldL (i := 7) rfl rfl rfl (by first | rfl | assumption) rfl
    | exact Quiet.ldL (i := 8) rfl rfl rfl (by first | rfl | assumption) rfl
    | exact Quiet.ldAL (i := 1) rfl rfl rfl rfl rfl
    | exact Quiet.ldAL (i := 2) rfl rfl rfl rfl rfl
    | exact Quiet.ldAL (i := 3) rfl rfl rfl rfl rfl
    | exact Quiet.ldAL (i := 4) rfl rfl rfl rfl rfl
    | exact Quiet.ldAL (i := 5) rfl rfl rfl rfl rfl
    | exact Quiet.ldAL (i := 6) rfl rfl rfl rfl rfl
    | exact Quiet.ldAL (i := 7) rfl rfl rfl rfl rfl
    | exact Quiet.ldAL (i := 8) rfl rfl rfl rfl rfl
    | exact Quiet.eqb rfl rfl rfl (by assumption)
    | exact Quiet.eqb rfl rfl rfl rfl
    | exact Quiet.neb rfl rfl rfl (by assumption)
    | exact Quiet.neb rfl rfl rfl rfl
    | exact Quiet.eqSs rfl rfl rfl
    | exact Quiet.eqS rfl rfl rfl
    | exact Quiet.neS rfl rfl rfl
    | exact Quiet.lnS rfl rfl
    | exact Quiet.ixS rfl rfl rfl (by assumption)
    | exact Quiet.cat rfl rfl rfl (by first | assumption | omega)
    | exact Quiet.cut rfl rfl rfl rfl (by first | assumption | omega) (by first | assumption | omega)
    | exact Quiet.cutS rfl rfl rfl (by first | assumption | omega)
    | exact Quiet.shl rfl rfl rfl (by decide) (by assumption)
    | exact Quiet.shl rfl rfl rfl (by decide) rfl
    | exact Quiet.shr rfl rfl rfl (by decide) (by assumption)
    | exact Quiet.shr rfl rfl rfl (by decide) rfl
    | exact Quiet.bit rfl rfl rfl rfl (by assumption)
    | exact Quiet.bit rfl rfl rfl rfl rfl
    | exact Quiet.mkFn rfl
    | exact Quiet.callV rfl rfl rfl (by assumption) rfl (by first | rfl | assumption) rfl
    | exact Quiet.cv rfl rfl (by assumption)
    | exact Quiet.cv rfl rfl rfl
    | exact Quiet.b2s rfl rfl
    | exact Quiet.s2b rfl rfl (by first | assumption | omega)))) (ht : putA t o.dst (cond g r (.lit undef)) = t' := by ((try simp only [putA, List.set_cons_zero, List.set_cons_succ]); exact rfl)) (hk : aSeq P C ops K rest ⟨t', h⟩) : aSeq P C ops K (o :: rest) ⟨t, h⟩ := sG hg hq ht hk
end
section
variable {id : Nat} {l l1 l2 : List Oper} {y : Code} {Q : Exit → St → Prop} {t t' t'' : List AV} {h h' : List ABlk}
theorem wR (hx : aSeq P C l.toArray (fun s => s = ⟨t', h'⟩) l ⟨t, h⟩ := by ((repeat (first | refine sA (hk := ?_) | refine sSkip (hk := ?_) | refine sAG (hk := ?_) | refine sOwn (hk := ?_))); exact wEnd rfl)) (hk : Awp P C y Q ⟨t', h'⟩) : Awp P C (.seq (.region id l.toArray false) y) Q ⟨t, h⟩ :=
  Awp.seq fun _ hK => Awp.region (aSeq_weak (fun s e => by subst e; exact hK _ hk) hx)
theorem wRE (hx : aSeq P C l.toArray (fun s => s = ⟨t', h'⟩) l ⟨t, h⟩ := by ((repeat (first | refine sA (hk := ?_) | refine sSkip (hk := ?_) | refine sAG (hk := ?_) | refine sOwn (hk := ?_))); exact wEnd rfl)) (hk : Q .normal ⟨t', h'⟩) : Awp P C (.region id l.toArray false) Q ⟨t, h⟩ :=
  Awp.region (aSeq_weak (fun s e => by subst e; exact hk) hx)
theorem wDE (n : Nat) (hm : P.follows .mixedOrders = true := by kernel_rfl) (hB : regB l.toArray n = true := by kernel_rfl) (h1 : l.take n = l1 := by (simp only [List.take_succ_cons, List.take_zero, List.drop_succ_cons, List.drop_zero, List.take_nil, List.drop_nil]; exact rfl)) (h2 : l.drop n = l2 := by (simp only [List.take_succ_cons, List.take_zero, List.drop_succ_cons, List.drop_zero, List.take_nil, List.drop_nil]; exact rfl))
    (hq : aQ P C l.toArray h (fun x => x = t'') l1 t := by ((repeat (first | refine qA (hk := ?_) | refine qSkip (hk := ?_) | refine qAG (hk := ?_))); exact qEnd rfl))
    (hx : aSeq P C l.toArray (fun s => s = ⟨t', h'⟩) l2 ⟨t'', h⟩ := by ((repeat (first | refine sA (hk := ?_) | refine sSkip (hk := ?_) | refine sAG (hk := ?_) | refine sOwn (hk := ?_))); exact wEnd rfl)) (hk : Q .normal ⟨t', h'⟩) : Awp P C (.region id l.toArray true) Q ⟨t, h⟩ := by
  subst h1 h2
  exact Awp.draw n hm hB (aQ_weak (fun t e => by subst e; exact aSeq_weak (fun s e => by subst e; exact hk) hx) hq)
theorem wD (n : Nat) (hm : P.follows .mixedOrders = true := by kernel_rfl) (hB : regB l.toArray n = true := by kernel_rfl) (h1 : l.take n = l1 := by (simp only [List.take_succ_cons, List.take_zero, List.drop_succ_cons, List.drop_zero, List.take_nil, List.drop_nil]; exact rfl)) (h2 : l.drop n = l2 := by (simp only [List.take_succ_cons, List.take_zero, List.drop_succ_cons, List.drop_zero, List.take_nil, List.drop_nil]; exact rfl))
    (hq : aQ P C l.toArray h (fun x => x = t'') l1 t := by ((repeat (first | refine qA (hk := ?_) | refine qSkip (hk := ?_) | refine qAG (hk := ?_))); exact qEnd rfl))
    (hx : aSeq P C l.toArray (fun s => s = ⟨t', h'⟩) l2 ⟨t'', h⟩ := by ((repeat (first | refine sA (hk := ?_) | refine sSkip (hk := ?_) | refine sAG (hk := ?_) | refine sOwn (hk := ?_))); exact wEnd rfl)) (hk : Awp P C y Q ⟨t', h'⟩) : Awp P C (.seq (.region id l.toArray true) y) Q ⟨t, h⟩ :=
  Awp.seq fun _ hK => wDE n hm hB h1 h2 hq hx (hK _ hk)
end
theorem le_TA {t t' : List AV} {h : List ABlk} (hb : bdH h = true := by rfl) (hf : Fgt h.length t t' := by ((try simp only [putA, List.set_cons_zero, List.set_cons_succ]); repeat (first | exact Fgt.nil | refine Fgt.keep rfl ?_ | refine Fgt.any ?_ | refine Fgt.keep (by first | assumption | exact bd_of_cl _ _ (by assumption)) ?_))) : St.le C ⟨t, h⟩ ⟨t', h⟩ := St.le_t hb hf
end
end Mu
end
section
/-
  '[]byte("..")': a literal that is marked; what is appended to it makes a new row. A loop's first round apart.
  Conditions: none; generic.
-/
namespace Mu
open Go Go.RowKit Go.ChangeShapes Go.WideShapes Go.Proofs

/-- a block's cells, unmarked -/
def rawR (g : Nat) (cells : List Value) (e : TypeId) : Res := ⟨[], fun k => k = g, fun w _ => w.heap[g]? = some (.cells cells.toArray e (0, 0)), fun h hk _ _ => (hk g rfl).trans h⟩
/-- a row that is only read, of its own block, whatever its mark, with no room behind it -/
def Ty.fullM (e : TypeId) : Ty (List Int) where
  size := 1
  bulk := fun _ => 1
  RS := fun w S cs ds => ∃ g fz, cs = [.slice (some ⟨g, 0, none⟩) ds.length ds.length] ∧ S g ∧ w.heap[g]? = some (.cells (ds.map (Value.int .u8)).toArray e fz) ∧ ∀ d ∈ ds, wfI .u8 d
  len := by rintro _ _ _ _ ⟨g, fz, rfl, _⟩; rfl
  keepS := by
    rintro w w' S S' cs ds ⟨g, fz, rfl, h1, h2, h3⟩ hb hS
    exact ⟨g, fz, rfl, hS g h1, (hb g h1).trans h2, h3⟩
theorem flat1 : ∀ ds : List Int, ((ds.map (Value.int .u8)).flatMap fun v => v.cells.toList) = ds.map (Value.int .u8)
  | [] => rfl
  | d :: ds => by rw [List.map_cons, List.flatMap_cons, flat1 ds]; rfl
section
variable {P : Program} {C : Ctx} {t : List AV} {h : List ABlk} {o : Oper} {K : St → Prop}
theorem AOp.litRaw {ty e : TypeId} {bytes n : Nat} {parts : Array (Nat × Operand)} {xs : List Operand} {ds : List Int} [RT P ty e 1 bytes] (ho : o.op = .buildSlice ty n parts) (hp : parts = numbered xs) (hn : n = xs.length) (hsz : n ≤ 16777216)
    (hx : xs.map (evA t) = ds.map fun d => .lit (.int .u8 d)) (hK : ∀ g, K ⟨putA t o.dst (.lit (.slice (some ⟨g, 0, none⟩) ds.length ds.length)), h ++ [.res (rawR g (ds.map (Value.int .u8)) e)]⟩) : AOp P C o ⟨t, h⟩ K := by
  subst hp hn
  refine AOp.make_res (Rs := fun g => rawR g (ds.map (Value.int .u8)) e) (val := fun g => .slice (some ⟨g, 0, none⟩) ds.length ds.length) (fun _ => rfl) (fun S ψ w ρ H hρ => ?_) hK
  have hrel : AV.relL w S h ψ (xs.map (evA t)) (xs.map ρ) := relL_map fun x hx => hρ x (by
    rw [ho]
    simp only [Op.operands, numbered, List.map_map]
    refine List.mem_toArray.2 (List.mem_map.2 ?_)
    obtain ⟨j, hj⟩ := List.mem_iff_getElem?.1 hx
    exact ⟨(x, j), by rw [List.mem_zipIdx_iff_getElem?]; exact hj, rfl⟩)
  rw [hx] at hrel
  have hvs : xs.map ρ = ds.map (Value.int .u8) := by
    have key : ∀ (ds : List Int) (vs : List Value), AV.relL w S h ψ (ds.map fun d => AV.lit (.int .u8 d)) vs → vs = ds.map (Value.int .u8) := by
      intro ds
      induction ds with
      | nil => intro vs hv; unfold AV.relL at hv; exact hv
      | cons d ds ih =>
        intro vs hv
        simp only [List.map_cons] at hv
        unfold AV.relL at hv
        obtain ⟨v, vs', rfl, h1, h2⟩ := hv
        unfold AV.rel at h1
        rw [h1, ih _ h2]
        rfl
    exact key ds _ hrel
  have hdl : ds.length = xs.length := by
    have := congrArg List.length hvs
    simpa using this.symm
  rw [run_buildOp ho, run_lit (RT.eq (P := P) (ty := ty)) (by rw [List.length_map, Nat.mul_one]; exact hsz) (fun v hv => by
    rw [hvs] at hv
    obtain ⟨d, _, rfl⟩ := List.mem_map.1 hv
    rfl)]
  have hfl : ((xs.map ρ).flatMap fun v => v.cells.toList) = ds.map (Value.int .u8) := by rw [hvs, flat1]
  rw [hfl]
  refine ⟨⟨rfl, rfl, rfl, by simp, fun k hk _ => heap_alloc_old w _ hk⟩, w.heap.size, by rw [hdl, List.length_map], ?_, fun k hk => ?_⟩
  · exact heap_alloc_new w _
  · have hk : k = w.heap.size := hk
    subst hk
    exact ⟨.inr (Nat.le_refl _), by simp⟩
theorem run_convert_mark {w : World} {ty e : TypeId} {g n c : Nat} {cs : Array Value} [BytesT P ty e] (hg : w.heap[g]? = some (.cells cs e (0, 0))) :
    ∃ w', (convert ty ty (.slice (some ⟨g, 0, none⟩) n c)).run P w = .ok (.slice (some ⟨g, 0, none⟩) n c) w' ∧ w'.os = w.os ∧ w'.tape = w.tape ∧ w'.output = w.output ∧ w'.heap.size = w.heap.size ∧ (∀ k, k ≠ g → w'.heap[k]? = w.heap[k]?) ∧ ∃ fz, w'.heap[g]? = some (.cells cs e fz) := by
  have hs : P.underlying ty = some (.slice e) := BytesT.sl
  have he : P.underlying e = some (.int .u8) := BytesT.el (ty := ty)
  have hsh : w.shape? g = some (e, cs.size) := by
    unfold World.shape?
    rw [hg]
  refine ⟨w.freeze ⟨g, cs.size, none⟩ 1, ?_, rfl, rfl, rfl, ?_, fun k hk => ?_, (cs.size, cs.size + 1), ?_⟩
  · simp [convert, run_underlying hs, run_underlying he, markStringish, hsh]
  · unfold World.freeze
    rw [if_neg (by decide)]
    simp
  · unfold World.freeze
    rw [if_neg (by decide)]
    simp [Array.getElem?_modify, Ne.symm hk]
  · unfold World.freeze
    rw [if_neg (by decide)]
    simp [Array.getElem?_modify, hg]
theorem relL_any {w : World} {S : Nat → Prop} {h : List ABlk} {ψ : Nat → Value} {l : List AV} {cs : List Value} (j : Nat) (H : AV.relL w S h ψ l cs) : AV.relL w S h ψ (l.set j .any) cs := by
  refine relL_of (by simp [relL_len H]) fun i x v hx hv => ?_
  by_cases hij : j = i
  · subst hij
    have : j < l.length := by
      rcases Nat.lt_or_ge j l.length with h | h
      · exact h
      · rw [List.getElem?_eq_none (by simpa using h)] at hx; cases hx
    rw [List.getElem?_set_self this] at hx
    cases hx
    unfold AV.rel
    trivial
  · rw [List.getElem?_set_ne hij] at hx
    obtain ⟨u, h1, h2⟩ := relL_get H hx
    rw [h1] at hv
    cases hv
    exact h2
theorem AOp.cvRaw {ty e : TypeId} {j0 i g : Nat} {ds : List Int} [BytesT P ty e] (hC : C.std) (ho : o.op = .convert ty ty (.tmp j0)) (hx : evA t (.tmp j0) = .lit (.slice (some ⟨g, 0, none⟩) ds.length ds.length)) (hi : h[i]? = some (.res (rawR g (ds.map (Value.int .u8)) e))) (hw : ∀ d ∈ ds, wfI .u8 d)
    (hK : K ⟨putA (t.set j0 .any) o.dst (.tv (Ty.fullM e) ds), h.set i .dead⟩) : AOp P C o ⟨t, h⟩ K := by
  rintro Q' a w ⟨hd, S, ψ, H, hl⟩
  refine ⟨fun c e => (by rw [ho] at e; cases e), ?_⟩
  have hx' := ev_rel hl (.tmp j0)
  rw [show evA (St.mk t h).t (.tmp j0) = _ from hx] at hx'
  unfold AV.rel at hx'
  have hBi := H.blk i _ hi
  obtain ⟨hgN, hgS, hgl⟩ := hBi.1 g rfl
  obtain ⟨w', hrun, e1, e2, e3, e4, e5, fz, e6⟩ := run_convert_mark (P := P) (w := w) (ty := ty) (n := ds.length) (c := ds.length) hBi.2
  unfold Oper.wp
  have hr : (execOp a.eval o).run P w = .ok (.value (.slice (some ⟨g, 0, none⟩) ds.length ds.length)) w' := by simp [execOp, ho, hx', hrun]
  rw [hr]
  simp only [Oper.upon]
  have hblk : ∀ k, S k → w'.heap[k]? = w.heap[k]? := fun k hk => e5 k fun e => hgS (e ▸ hk)
  have hil := (List.getElem?_eq_some_iff.1 hi).1
  have X : Ext w S h ψ w' (fun k => S k ∨ k = g) (h.set i .dead) ψ := ⟨hblk, fun k hk => .inl hk, by simp, fun j c' hj hv => by
    by_cases hji : j = i
    · subst hji
      rw [List.getElem?_set_self hil] at hv
      simp [ABlk.ver] at hv
    · rw [List.getElem?_set_ne (Ne.symm hji)] at hv ⊢
      exact ⟨c', hv, Nat.le_refl _, fun _ => ⟨rfl, rfl⟩⟩, fun j hj hv => by
    by_cases hji : j = i
    · subst hji
      rw [List.getElem?_set_self hil] at hv
      simp [ABlk.isBox] at hv
    · rw [List.getElem?_set_ne (Ne.symm hji)] at hv
      exact ⟨hv, rfl⟩⟩
  have hne : ∀ j b, j ≠ i → h[j]? = some b → ABlk.live (some b) = true → ∀ k, ftp (some b) (ψ j) k → k ≠ g := fun j b hji hj hlv k hk e => by
    subst e
    exact H.dis j i hji (by rw [hj]; exact hlv) (by rw [hi]; rfl) k (by rw [hj]; exact hk) (by rw [hi]; rfl)
  refine ⟨_, hK, by rw [put_defers, hd]; exact (mkD_set (b' := .dead) hi rfl).symm, fun k => S k ∨ k = g, ψ, ⟨H.bel.trans ⟨e1, e2, e3, by omega, fun k hk => e5 k fun e => hgN (e ▸ hk)⟩, H.nlt, fun k hk => ?_, fun k hk => .inl (H.sub k hk), fun k hk => ?_, fun j b hj => ?_, fun j k hjk hj hk q hq1 hq2 => ?_⟩, put_rel (relL_any j0 (AV.relL_ext X _ _ hl)) o.dst ?_⟩
  · rcases hk with hk | rfl
    · rw [e4]; exact H.lt k hk
    · rw [e4]; exact hgl
  · rcases hk with hk | rfl
    · exact H.new k hk
    · exact .inr (Nat.le_of_not_lt fun hlt => hgN (hC k hlt))
  · by_cases hji : j = i
    · subst hji
      rw [List.getElem?_set_self hil] at hj
      cases hj
      trivial
    · rw [List.getElem?_set_ne (Ne.symm hji)] at hj
      by_cases hlv : ABlk.live (some b) = true
      · refine (H.blk j b hj).keep X fun k hk => ?_
        have := hne j b hji hj hlv k hk
        exact ⟨e5 k this, fun hs hs' => hs'.elim hs this⟩
      · cases b <;> simp [ABlk.live] at hlv
        trivial
  · by_cases hji : j = i
    · subst hji
      rw [List.getElem?_set_self hil] at hj
      simp [ABlk.live] at hj
    · by_cases hki : k = i
      · subst hki
        rw [List.getElem?_set_self hil] at hk
        simp [ABlk.live] at hk
      · rw [List.getElem?_set_ne (Ne.symm hji)] at hj hq1
        rw [List.getElem?_set_ne (Ne.symm hki)] at hk hq2
        exact H.dis j k hjk hj hk q hq1 hq2
  · unfold AV.rel
    exact ⟨g, fz, rfl, .inr rfl, e6, hw⟩
/-- something is appended to such a row -/
theorem AOp.appM {ty : TypeId} {x y : Operand} {e : TypeId} {bytes : Nat} {l l2 : List Int} [RT P ty e 1 bytes] (ho : o.op = .call { callee := .builtin .append, args := #[x, y], argTypes := #[ty, ty] })
    (hx : evA t x = .tv (Ty.fullM e) l) (hy : evA t y = .bs (Ty.int .u8) l2) (hpos : 0 < l2.length) (hlen : l.length + l2.length ≤ maxLen) (hbytes : (l.length + l2.length) * bytes ≤ 140737488355328)
    (hK : K ⟨putA t o.dst (.own h.length 0), h ++ [.row 0 e (Ty.int .u8) (l ++ l2)]⟩) : AOp P C o ⟨t, h⟩ K := by
  rintro Q' a w ⟨hd, S, ψ, H, hl⟩
  refine ⟨fun c e => (by rw [ho] at e; cases e), ?_⟩
  have hx' := ev_rel hl x
  have hy' := ev_rel hl y
  rw [show evA (St.mk t h).t x = _ from hx] at hx'
  rw [show evA (St.mk t h).t y = _ from hy] at hy'
  unfold AV.rel at hx' hy'
  obtain ⟨g, fz, ex, hSg, hcs, hwf⟩ := hx'
  have ex : a.eval x = .slice (some ⟨g, 0, none⟩) l.length l.length := by simpa using ex
  obtain ⟨h1, ti, z, h2, h3, h4, h5, h6⟩ := rowTy_spec (RT.eq (P := P) (ty := ty))
  obtain ⟨A, c, hyv⟩ := slice_form hy'
  rw [hyv] at hy'
  obtain ⟨news, hnl, hsrc, hnR, hn1⟩ := slice_src hy' fun cs d hcs => one1_int _ _ _ _ hcs
  have hnl1 : news.length = l2.length := by rw [hnl]; exact Nat.mul_one _
  obtain ⟨b, rfl⟩ : ∃ b, A = some b := by
    have hp : 0 < news.length := by omega
    obtain ⟨ad, e2, _⟩ := (hsrc w fun _ _ => rfl).cells 0 _ (List.getElem?_eq_getElem hp)
    exact ⟨ad, e2⟩
  have hr0 := run_append_grow (P := P) (w := w) ty o.type e ti z h1 h2 h3 ⟨g, 0, none⟩ l.length l.length (l.map (Value.int .u8)) (by rw [h4]; simp) (fun j u hu => by
      have : w.cell? ⟨g, 0 + j, none⟩ = some u := by
        unfold World.cell?
        rw [hcs]
        simpa using hu
      simpa [Addr.add] using (by by_cases hj : j = 0 <;> simp [Addr.add, hj] <;> simpa [hj] using this : w.cell? (Addr.add ⟨g, 0, none⟩ j) = some u)) b l2.length c news (by rw [h4, hnl1, Nat.mul_one])
    (fun j u hu => by obtain ⟨ad, e2, hc⟩ := (hsrc w fun _ _ => rfl).cells j u hu; cases e2; exact hc) (by omega) (by unfold maxLen at hlen; omega) (by
      have := nextslicecap_le (need := l.length + l2.length) (old := l.length) (by omega)
      have h7 : Builtin.nextslicecap (l.length + l2.length) l.length * ti.bytes ≤ 2 * (l.length + l2.length) * ti.bytes := Nat.mul_le_mul_right _ this
      rw [Nat.mul_assoc, h5] at h7
      rw [h5]
      omega)
  have hr : (execOp a.eval o).run P w = .ok (.value (.slice (some ⟨w.heap.size, 0, none⟩) (l.length + l2.length) (grownCap w (l.length + l2.length) l.length e))) (w.drew.alloc (.cells ((l.map (Value.int .u8)).toArray ++ news.toArray ++ Builtin.zeroCells z.cells (grownCap w (l.length + l2.length) l.length e - (l.length + l2.length))) e)) := by
    simp [execOp, ho, resolve, invoke, builtin, ex, hyv, hr0]
  have hb : Below w.heap.size w (w.drew.alloc (.cells ((l.map (Value.int .u8)).toArray ++ news.toArray ++ Builtin.zeroCells z.cells (grownCap w (l.length + l2.length) l.length e - (l.length + l2.length))) e)) := ⟨rfl, rfl, rfl, by simp, fun k hk => heap_alloc_old w.drew _ hk⟩
  have hcap := grownCap_ge w (l.length + l2.length) l.length e
  have hzs : (Builtin.zeroCells z.cells (grownCap w (l.length + l2.length) l.length e - (l.length + l2.length))).size = grownCap w (l.length + l2.length) l.length e - (l.length + l2.length) := by
    rw [size_zeroCells, h6, Nat.mul_one]
  unfold Oper.wp
  refine AOp.newRow (s := ⟨t, h⟩) (cells := l.map (Value.int .u8) ++ news) hd H hl hr hb ⟨by show _ = _ * 1; simp [hnl1], .inr ⟨w.heap.size, _, _, by rw [List.length_append], Nat.zero_le _, heap_alloc_new w.drew _, by rw [List.length_append]; exact hcap, grownCap_le_maxLen _ _ _ _ hlen, ?_, ?_⟩⟩ Nat.zero_lt_one (fun j d hj => ?_) hK
  · show _ = _ * 1
    simp [hnl1, hzs]
    omega
  · show List.take ((l ++ l2).length * 1) _ = _
    simp only [Array.toList_append, List.length_append, Nat.mul_one]
    rw [List.take_append_of_le_length (by simp [hnl1]), List.take_of_length_le (by simp [hnl1])]
  · show (Ty.int .u8).RS _ _ (List.take 1 (List.drop (j * 1) _)) d
    rw [Nat.mul_one]
    by_cases hjl : j < l.length
    · rw [List.getElem?_append_left hjl] at hj
      have : (l.map (Value.int .u8) ++ news)[j]? = some (.int .u8 d) := by rw [List.getElem?_append_left (by simpa using hjl), List.getElem?_map, hj]; rfl
      rw [List.take_one, List.head?_drop, this]
      exact ⟨rfl, hwf d (List.mem_of_getElem? hj)⟩
    · rw [List.getElem?_append_right (by omega)] at hj
      obtain ⟨q, rfl⟩ : ∃ q, j = l.length + q := ⟨j - l.length, by omega⟩
      have := hnR q d (by simpa using hj)
      rw [show (Ty.int .u8).size = 1 from rfl, Nat.mul_one] at this
      rw [show ((l.map (Value.int .u8) ++ news).drop (l.length + q)) = news.drop q from by rw [List.drop_append, List.drop_eq_nil_of_le (by simp)]; simp]
      exact this
end
/-- a loop whose first round is told apart -/
theorem Awp.unroll {P : Program} {C : Ctx} {c : Code} {Q : Exit → St → Prop} {s : St} {β : Type} (F : β → St) (I : β → Prop) (mu : β → Nat) (h0 : Awp P C c (athen (fun s' => ∃ b, I b ∧ St.le C s' (F b)) Q) s)
    (hstep : ∀ b, I b → Awp P C c (athen (fun s' => ∃ b', I b' ∧ mu b' < mu b ∧ St.le C s' (F b')) Q) (F b)) (M : Nat) (hM : ∀ b, I b → mu b < M) : Awp P C (.loop c) Q s :=
  Awp.loop (fun m s' => (s' = s ∧ m = M) ∨ ∃ b, I b ∧ m = mu b ∧ s' = F b) M ⟨s, fun _ _ h => h, .inl ⟨rfl, rfl⟩⟩ fun m s' hJ => by
    rcases hJ with ⟨rfl, rfl⟩ | ⟨b, hb, rfl, rfl⟩
    · refine h0.mono fun e s1 hq => ?_
      cases e with
      | normal =>
        obtain ⟨b, hb, hle⟩ := hq
        exact ⟨mu b, hM b hb, F b, hle, .inr ⟨b, hb, rfl, rfl⟩⟩
      | _ => exact hq
    · refine (hstep b hb).mono fun e s1 hq => ?_
      cases e with
      | normal =>
        obtain ⟨b', hb', hlt, hle⟩ := hq
        exact ⟨mu b', hlt, F b', hle, .inr ⟨b', hb', rfl, rfl⟩⟩
      | _ => exact hq
end Mu
end
section
/-
  'append(nil, make([]T, n)...)', capacities and parts of a nil row; an append to a nil row that is only read from then on.
  Conditions: none; generic.
-/
namespace Mu
open Go Go.RowKit Go.ChangeShapes Go.WideShapes Go.Proofs

section
variable {P : Program} {C : Ctx} {t : List AV} {h : List ABlk} {o : Oper} {K : St → Prop}
theorem run_cap {ty ty' : TypeId} {a : Option Addr} {n c : Nat} {w : World} (hs : isSlice P ty = true) : (Builtin.cap_ #[ty] ty' #[.slice a n c]).run P w = .ok (.int .i64 (c : Int)) w := by
  unfold isSlice at hs
  split at hs <;> try (cases hs; done)
  rename_i e h1
  simp [Builtin.cap_, underlying, h1, goInt]
theorem Quiet.cpl {ty : TypeId} {x : Operand} {a : Option Addr} {n c : Nat} [SL P ty] (ho : o.op = .call { callee := .builtin .cap, args := #[x], argTypes := #[ty] }) (hx : evA t x = .lit (.slice a n c)) : Quiet P C t h o (.lit (.int .i64 (c : Int))) :=
  Quiet.of_run fun S ψ w ρ H hρ => by
    have h1 := hρ x (by simp [ho, Op.operands, Call.operands])
    rw [hx] at h1
    unfold AV.rel at h1
    refine ⟨_, by simp [execOp, ho, resolve, invoke, builtin, h1, run_cap (SL.eq (P := P) (ty := ty))]; rfl, ?_⟩
    unfold AV.rel
    rfl
theorem Quiet.slcNil {ty : TypeId} {x y : Operand} {k : IntKind} {n : Nat} [ES P ty n] (ho : o.op = .slice ty x none (some y) none) (hx : evA t x = .lit (.slice none 0 0)) (hy : evA t y = .lit (.int k ((0 : Nat) : Int))) : Quiet P C t h o (.lit (.slice none 0 0)) :=
  Quiet.of_run fun S ψ w ρ H hρ => by
    have h1 := hρ x (by simp [ho, Op.operands])
    have h2 := hρ y (by simp [ho, Op.operands])
    rw [hx] at h1
    rw [hy] at h2
    unfold AV.rel at h1 h2
    have hr := run_sl (P := P) (w := w) (a := none) (len := 0) (cap := 0) (lo := none) (hi := some (.int k ((0 : Nat) : Int))) (l := 0) (m := 0) (ES.eq (P := P) (ty := ty) (n := n)) rfl ⟨k, rfl⟩ (Nat.le_refl _) (Nat.le_refl _)
    have hr' : (Instr.sliceAt ty (.slice none 0 0) none (some (.int k 0)) none).run P w = .ok (.slice none 0 0) w := by simpa using hr
    refine ⟨.slice none 0 0, by simp [execOp, ho, h1, h2, hr'], ?_⟩
    unfold AV.rel
    rfl
/-- so many zeros behind a nil row -/
theorem AOp.appZ {ty tn : TypeId} {x y : Operand} {e : TypeId} {bytes n : Nat} {k kn : IntKind} [RT P ty e 1 bytes] [IntT P tn kn] {kk : IntKind} (hz0 : zeroCells? P e = some [.int kk 0]) (ho : o.op = .call { callee := .builtin .append, args := #[x, y], argTypes := #[ty, tn] })
    (hx : evA t x = .lit (.slice none 0 0)) (hy : evA t y = .lit (.int k (n : Int))) (h0 : 0 < n) (hlen : n ≤ maxLen) (hbytes : n * bytes ≤ 140737488355328)
    (hK : K ⟨putA t o.dst (.own h.length 0), h ++ [.row 0 e (Ty.int kk) (List.replicate n 0)]⟩) : AOp P C o ⟨t, h⟩ K := by
  rintro Q' a w ⟨hd, S, ψ, H, hl⟩
  refine ⟨fun c e => (by rw [ho] at e; cases e), ?_⟩
  have hx' := ev_rel hl x
  have hy' := ev_rel hl y
  rw [show evA (St.mk t h).t x = _ from hx] at hx'
  rw [show evA (St.mk t h).t y = _ from hy] at hy'
  unfold AV.rel at hx' hy'
  obtain ⟨h1, ti, z, h2, h3, h4, h5, h6⟩ := rowTy_spec (RT.eq (P := P) (ty := ty))
  have hz : z.cells.toList = [.int kk 0] := by
    unfold zeroCells? at hz0
    rw [h2] at hz0
    simp only [Option.bind_some, h3, Option.map_some, Option.some.injEq] at hz0
    exact hz0
  have hzc : z.cells = #[.int kk 0] := by
    apply Array.ext'
    rw [hz]
  have h63 : (n : Int) ≤ 9223372036854775807 := by unfold maxLen at hlen; omega
  have hr0 := Lib.run_append_nil_zeros (P := P) w ty tn o.type e ti z k kn h1 IntT.eq h2 h3 n h0 (by omega) h63 (by rw [h5]; omega)
  have hrep : ∀ m, Builtin.zeroCells z.cells m = (List.replicate m (Value.int kk 0)).toArray := fun m => by
    rw [hzc]
    apply Array.ext
    · simp [Builtin.zeroCells]
    · intro i h1 h2
      simp [Builtin.zeroCells, Nat.mod_one]
  rw [hrep, hrep] at hr0
  have hcap := grownCap_ge w n 0 e
  have hr : (execOp a.eval o).run P w = .ok (.value (.slice (some ⟨w.heap.size, 0, none⟩) n (grownCap w n 0 e))) (w.drew.alloc (.cells ((List.replicate n (Value.int kk 0)).toArray ++ (List.replicate (grownCap w n 0 e - n) (Value.int kk 0)).toArray) e)) := by
    simp [execOp, ho, resolve, invoke, builtin, hx', hy', hr0]
  have hb : Below w.heap.size w (w.drew.alloc (.cells ((List.replicate n (Value.int kk 0)).toArray ++ (List.replicate (grownCap w n 0 e - n) (Value.int kk 0)).toArray) e)) := ⟨rfl, rfl, rfl, by simp, fun k hk => heap_alloc_old w.drew _ hk⟩
  unfold Oper.wp
  refine AOp.newRow (s := ⟨t, h⟩) (cells := List.replicate n (Value.int kk 0)) hd H hl hr hb ⟨by show _ = _ * 1; simp, .inr ⟨w.heap.size, _, _, by rw [List.length_replicate], Nat.zero_le _, heap_alloc_new w.drew _, by rw [List.length_replicate]; exact hcap, grownCap_le_maxLen _ _ _ _ hlen, ?_, ?_⟩⟩ Nat.zero_lt_one (fun j d hj => ?_) hK
  · show _ = _ * 1
    simp
    omega
  · show List.take ((List.replicate n (0 : Int)).length * 1) _ = _
    simp only [List.length_replicate, Nat.mul_one, Array.toList_append]
    rw [List.take_append_of_le_length (by simp), List.take_of_length_le (by simp)]
  · show (Ty.int kk).RS _ _ (List.take 1 (List.drop (j * 1) _)) d
    rw [List.getElem?_replicate] at hj
    split at hj <;> cases hj
    rename_i hjn
    rw [Nat.mul_one, List.drop_replicate, List.take_replicate]
    have : min 1 (n - j) = 1 := by omega
    rw [this]
    refine ⟨rfl, ?_⟩
    cases kk <;> rfl
/-- something is appended to a nil row -/
theorem Quiet.appN {ty : TypeId} {x y : Operand} {e : TypeId} {bytes m : Nat} {α : Type} {T : Ty α} {l2 : List α} {enc : α → List AV} [RT P ty e m bytes] [EncOf T enc] (ho : o.op = .call { callee := .builtin .append, args := #[x, y], argTypes := #[ty, ty] })
    (hx : evA t x = .lit (.slice none 0 0)) (hy : evA t y = .bs T l2) (hs : T.size = m) (hlen : l2.length ≤ maxLen) (hbytes : l2.length * bytes ≤ 140737488355328) : Quiet P C t h o (.bs T l2) := by
  have hT : rowTy P ty = some (e, T.size, bytes) := by rw [hs]; exact RT.eq
  have h1T := EncOf.one (T := T) (enc := enc)
  intro S ψ w ρ H hρ
  have hx' := hρ x (by simp [ho, Op.operands, Call.operands])
  have hy' := hρ y (by simp [ho, Op.operands, Call.operands])
  rw [hx] at hx'
  rw [hy] at hy'
  unfold AV.rel at hx' hy'
  obtain ⟨h1, ti, z, h2, h3, h4, h5, h6⟩ := rowTy_spec hT
  obtain ⟨A, c, hyv⟩ := slice_form hy'
  rw [hyv] at hy'
  obtain ⟨news, hnl, hsrc, hnR, hn1⟩ := slice_src hy' fun cs d hcs => h1T _ _ _ _ hcs
  have h0 := EncOf.pos (T := T) (enc := enc)
  obtain ⟨v', w', hrun, hown', hgr, hob⟩ := run_more (P := P) (ty := o.type) (c := c) h1 h2 h3 h4 h5 h6 h0 (World.ownsRow_nil w 0 e T.size) (hsrc w fun _ _ => rfl) hn1 (by rw [Nat.zero_add]; exact hlen) (by rw [Nat.zero_add]; exact hbytes) (Nat.zero_le _)
  have hB : Below w.heap.size w w' := ⟨hgr.os, hgr.tape, hgr.output, hgr.size, fun k hk => hgr.block k hk (by simp [Value.ownBlock])⟩
  have hres : (execOp ρ o).run P w = .ok (.value v') w' := by
    simp [execOp, ho, resolve, invoke, builtin, hx', hyv, hrun]
  rw [hres]
  rw [Nat.zero_add, List.nil_append] at hown'
  refine ⟨hB, fun k => S k ∨ v'.ownBlock = some k, fun k hk => .inl hk, fun k hk => ?_, fun k hk => ?_, ?_⟩
  · rcases hk with hk | hk
    · exact .inl hk
    · rcases hob with h8 | h8
      · rw [h8] at hk
        simp [Value.ownBlock] at hk
      · rw [h8] at hk
        cases hk
        exact .inr (Nat.le_refl _)
  · rcases hk with hk | hk
    · exact Nat.lt_of_lt_of_le (H.lt k hk) hB.size
    · exact (World.ownsRow.lt hown' k hk).2
  · unfold AV.rel
    have hkeep : ∀ k, S k → w'.heap[k]? = w.heap[k]? := fun k hk => hB.block k (H.lt k hk)
    exact own_slice (base := 0) (e := e) hown' (fun j d hj => T.keepS (hnR j d hj) hkeep fun _ h => .inl h) fun k hk => .inr hk
end
end Mu
end
section
/-
  A contract of a function with two results: an aggregate that it names, and a value.
  Conditions: none; generic.
-/
namespace Mu
open Go Go.RowKit Go.Proofs

section
variable {P : Program}
def RetsC2 (t u : Tmp) (m : Nat) (r q : AV) : Exit → St → Prop := fun e s => (e = .normal ∨ e = .ret) ∧ ∃ i cells, evA s.t (.tmp t) = .ptr i 0 ∧ s.h[i]? = some (.box cells) ∧ cells.length = m ∧ Fin s.h (.tup [.agg cells, evA s.t (.tmp u)]) (.tup [r, q])
theorem Fn.of_awpC2 {f : FuncId} {fn : Go.Func} {c : Code} {args : List AV} {r q : AV} {t u : Tmp} {ty : TypeId} {n m : Nat} (hf : P.funcs[f]? = some fn) (hb : fn.body = some c) (hE : Enters P f = true) (hres : fn.results = #[.cell t ty, .tmp u]) (ha : aggT P ty = some (true, m)) (hn : fn.ntmps = n)
    (h : ∀ C : Ctx, C.std → Awp P C c (RetsC2 t u m r q) ⟨args ++ List.replicate (n - args.length) (.lit undef), []⟩) : Fn P f args (.tup [r, q]) := by
  refine ⟨hE, fun w S vs hS hr => calls_of_wp hf hb ?_⟩
  rw [hn]
  refine wp_mono ((h ⟨w, S, fun k => k < w.heap.size, none⟩ (fun _ h => h)).wp rfl (start_rel hS hr)) ?_
  rintro e a' w' ⟨s, ⟨he, i, cells, hev, hi, hm, hfin⟩, hd, S1, ψ, H, hl⟩
  rw [hfin.1] at hd
  have hv := ev_rel hl (.tmp t)
  rw [hev] at hv
  unfold AV.rel at hv
  obtain ⟨g, h1, h2⟩ := hv.2 (by rw [hi]; rfl)
  obtain ⟨g', cs, e', h3, _, _, h4, h5⟩ := H.blk i _ hi
  rw [h1] at h3
  cases h3
  have hc : ∀ j v, cs[j]? = some v → w'.cell? ⟨g, 0 + j, none⟩ = some v := fun j v hv => by simp [World.cell?, h4, hv]
  have hload := run_load_agg (P := P) (ty := ty) (b := g) (off := 0) ha (by rw [relL_len h5]; exact hm) hc
  have hres' : (results fn a'.tmps).run P w' = .ok (.tuple #[.agg cs.toArray, a'.eval (.tmp u)]) w' := by
    have e1 : (a'.tmps[t]?).getD undef = .pointer (some ⟨g, 0, none⟩) := by rw [← Array.getD_eq_getD_getElem?]; exact h2
    have e2 : (a'.tmps[u]?).getD undef = a'.eval (.tmp u) := by rw [← Array.getD_eq_getD_getElem?]; rfl
    unfold Instr.loadAt Instr.sureAddr at hload
    simp only [Sem.run_bind, Sem.run_pure, Result.andThen_ok] at hload
    simp [results, hres, e1, e2, asAddr, hload]
  have hrl : AV.rel w' S1 s.h ψ (.tup [.agg cells, evA s.t (.tmp u)]) (.tuple #[.agg cs.toArray, a'.eval (.tmp u)]) := by
    unfold AV.rel
    refine ⟨[.agg cs.toArray, a'.eval (.tmp u)], rfl, ?_⟩
    unfold AV.relL
    refine ⟨_, _, rfl, (by unfold AV.rel; exact ⟨cs, rfl, h5⟩), ?_⟩
    unfold AV.relL
    refine ⟨_, _, rfl, ev_rel hl (.tmp u), ?_⟩
    unfold AV.relL
    rfl
  have hg : Good w S [] ψ0 (.tup [r, q]) (.tuple #[.agg cs.toArray, a'.eval (.tmp u)]) w' := by
    first
      | exact good_final H hfin hrl
      | exact good_final (a' := a') H hfin hrl
  rcases he with rfl | rfl
  · exact ⟨hd, _, hres', _, rfl, hg⟩
  · exact ⟨hd, _, hres', _, rfl, hg⟩
end
end Mu
end
section
/-
  Rows that fields of a variable hold: a nil field as an empty row of the call's own; such a row is stored; structs with parts left out.
  Conditions: none; generic.
-/
namespace Mu
open Go Go.RowKit Go.ChangeShapes Go.WideShapes Go.Proofs

theorem Quiet.bldP {P : Program} {C : Ctx} {t : List AV} {h : List ABlk} {o : Oper} {ty : TypeId} {parts : Array (Nat × Operand)} {zs : List Value} {pl : List (Nat × Nat)} {rs : List AV} [ZC P ty zs] (ho : o.op = .build ty parts) (hpl : places? P ty = some pl)
    (hr : putCells pl (zs.map .lit) (parts.toList.map fun p => (p.1, evA t p.2)) = some rs) (h1 : (parts.toList.all fun p => litBs (evA t p.2)) = true) : Quiet P C t h o (.agg rs) :=
  Quiet.build ho ZC.eq hpl hr fun p hp => One.litBs (List.all_eq_true.1 h1 p hp)
/-- a nil field of a variable is an empty row of the call's own -/
theorem St.le_nilB {C : Ctx} {t : List AV} {h : List ABlk} (i j : Nat) (e : TypeId) {α : Type} (T : Ty α) {cells : List AV} (hi : h[i]? = some (.box cells)) (hj : cells[j]? = some (.lit (.slice none 0 0))) (h0 : 0 < T.size) :
    St.le C ⟨t, h⟩ ⟨t, h.set i (.box (cells.set j (.own h.length 0))) ++ [.row 0 e T []]⟩ := fun a w ⟨hd, S, ψ, H, hl⟩ => by
  have hil := (List.getElem?_eq_some_iff.1 hi).1
  have X1 : Ext w S h ψ w S (h ++ [.row 0 e T []]) (ψset ψ h.length (.slice none 0 0)) := Ext.push _ _ fun _ _ => rfl
  have hB : BRel C.N w S (h ++ [.row 0 e T []]) (ψset ψ h.length (.slice none 0 0)) (.slice none 0 0) (.row 0 e T []) :=
    ⟨[], World.ownsRow_nil _ _ _ _, h0, fun i d hi => by simp at hi, fun g hg => by simp [Value.ownBlock] at hg⟩
  have H1 := H.push (Below.refl _ _) hB (fun g hg => by simp [ftp, blkOf] at hg)
  have hi1 : (h ++ [ABlk.row 0 e T []])[i]? = some (.box cells) := by rw [List.getElem?_append_left hil]; exact hi
  have X2 : Ext w S (h ++ [ABlk.row 0 e T []]) (ψset ψ h.length (.slice none 0 0)) w S ((h ++ [ABlk.row 0 e T []]).set i (.box (cells.set j (.own h.length 0)))) (ψset (ψset ψ h.length (.slice none 0 0)) i (ψset ψ h.length (.slice none 0 0) i)) :=
    Ext.set (b := .box cells) (b' := .box (cells.set j (.own h.length 0))) (v' := ψset ψ h.length (.slice none 0 0) i) (fun _ _ => rfl) hi1 (fun c' hc => by simp [ABlk.ver] at hc) fun _ => ⟨rfl, rfl⟩
  obtain ⟨g, cs, e', k1, k2, k3, k4, k5⟩ := H1.blk i _ hi1
  obtain ⟨v, h1, h2⟩ := relL_get k5 hj
  unfold AV.rel at h2
  subst h2
  have hset : ∀ (φ : Nat → Value) k, ψset φ k (φ k) = φ := fun φ k => funext fun q => by unfold ψset; split <;> simp_all
  have hcell : AV.rel w S ((h ++ [ABlk.row 0 e T []]).set i (.box (cells.set j (.own h.length 0)))) (ψset (ψset ψ h.length (.slice none 0 0)) i (ψset ψ h.length (.slice none 0 0) i)) (.own h.length 0) (.slice none 0 0) := by
    unfold AV.rel
    refine ⟨by simp, fun c' hc' => ?_⟩
    rw [List.getElem?_set_ne (by omega), List.getElem?_append_right (Nat.le_refl _)] at hc'
    simp [ABlk.ver] at hc'
    exact ⟨by omega, fun _ => by rw [hset, ψset_self]⟩
  have hcs : cs.set j (.slice none 0 0) = cs := by
    apply List.ext_getElem?
    intro q
    by_cases hq : j = q
    · subst hq
      rw [List.getElem?_set_self (List.getElem?_eq_some_iff.1 h1).1, h1]
    · rw [List.getElem?_set_ne hq]
  have hB2 : BRel C.N w S ((h ++ [ABlk.row 0 e T []]).set i (.box (cells.set j (.own h.length 0)))) (ψset (ψset ψ h.length (.slice none 0 0)) i (ψset ψ h.length (.slice none 0 0) i)) (ψset ψ h.length (.slice none 0 0) i) (.box (cells.set j (.own h.length 0))) := by
    refine ⟨g, cs, e', k1, k2, k3, k4, ?_⟩
    have := relL_set (AV.relL_ext X2 _ _ k5) j hcell
    rwa [hcs] at this
  have H2 := H1.set (v' := ψset ψ h.length (.slice none 0 0) i) hi1 rfl ⟨rfl, rfl, rfl, Nat.le_refl _, fun _ _ _ => rfl⟩ X2 hB2 fun g' hg' => .inl hg'
  have hE : (h ++ [ABlk.row 0 e T []]).set i (.box (cells.set j (.own h.length 0))) = h.set i (.box (cells.set j (.own h.length 0))) ++ [.row 0 e T []] := List.set_append_left _ _ hil
  rw [hE] at H2 X2
  refine ⟨?_, S, _, H2, AV.relL_ext X2 _ _ (AV.relL_ext X1 _ _ hl)⟩
  rw [hd]
  show mkD h = mkD (h.set i _ ++ [_])
  rw [mkD_push, mkD_set (b' := .box (cells.set j (.own h.length 0))) hi rfl]
  rfl
/-- a result that says less -/
theorem Fin.weak {h : List ABlk} {x r : AV} (hx : AV.cl x = true) (hw : ∀ w S v, AV.rel w S [] ψ0 x v → AV.rel w S [] ψ0 r v) (hm : mkD h = [] := by rfl) : Fin h x r :=
  ⟨hm, fun _ S _ w v _ H hv => ⟨S, fun _ h => h, fun _ h => .inl h, H.lt, hw w S v (AV.rel_cl _ _ hx hv)⟩⟩
end Mu
end
section
/-
  Walks that show what a function computes, as a plain function (MuM): loops, ways that meet, rows read and written at any number.
  Conditions: none; generic.
-/
namespace Mu
open Go Go.RowKit Go.Proofs

/-! ### what is read of rows and texts at a number -/
def ixD {α : Type} [Inhabited α] (l : List α) (z : Int) : α := l.getD z.toNat default
def inBd {α : Type} (l : List α) (z : Int) : Bool := decide (0 ≤ z) && decide (z.toNat < l.length)
theorem inB_iff {α : Type} {l : List α} {z : Int} : inBd l z = true ↔ 0 ≤ z ∧ z.toNat < l.length := by unfold inBd; simp
theorem inB_get {α : Type} [Inhabited α] {l : List α} {z : Int} (h : inBd l z = true) : l[z.toNat]? = some (ixD l z) := by
  have h1 := (inB_iff.1 h).2
  unfold ixD
  rw [List.getD_eq_getElem?_getD, List.getElem?_eq_getElem h1]
  rfl
theorem ixD_of {α : Type} [Inhabited α] {l : List α} {k : Nat} {x : α} (h : l[k]? = some x) : ixD l (k : Int) = x := by
  unfold ixD
  rw [Int.toNat_natCast, List.getD_eq_getElem?_getD, h]
  rfl
theorem inB_of {α : Type} {l : List α} {k : Nat} (h : k < l.length) : inBd l (k : Int) = true := inB_iff.2 ⟨by omega, by simpa using h⟩
def inSt (s : ByteArray) (z : Int) : Bool := decide (0 ≤ z) && decide (z.toNat < s.size)
def chD (s : ByteArray) (z : Int) : Int := ((s.data.toList.getD z.toNat 0).toNat : Int)
def cutB (s : ByteArray) (a b : Int) : Bool := decide (0 ≤ a) && decide (a ≤ b) && decide (b.toNat ≤ s.size)
def cutD (s : ByteArray) (a b : Int) : ByteArray := s.extract a.toNat b.toNat
def slB {α : Type} (l : List α) (a b : Int) : Bool := decide (0 ≤ a) && decide (a ≤ b) && decide (b.toNat ≤ l.length)
def slD {α : Type} (l : List α) (a b : Int) : List α := (l.take b.toNat).drop a.toNat
def catB (a b : ByteArray) : Bool := decide (a.size + b.size ≤ 1000000000000)
def rowB (n bytes : Nat) : Bool := decide (n ≤ maxLen) && decide (n * bytes ≤ 140737488355328)
def makB (z : Int) (bytes : Nat) : Bool := decide (0 ≤ z) && decide (z.toNat ≤ maxLen) && decide (bytes * z.toNat ≤ 281474976710656)
def strB (s : ByteArray) : Bool := decide (s.size ≤ maxLen)
def shlV (k : IntKind) (a b : Int) : Int := k.wrap (a * 2 ^ min b.toNat k.bits)
def shrV (k : IntKind) (a b : Int) : Int := a / 2 ^ min b.toNat k.bits
def wfB (k : IntKind) (a : Int) : Bool := (Lit.int k a).wf
theorem wfB_wf {k : IntKind} {a : Int} (h : wfB k a = true) : wfI k a := h
theorem rowB_len {n b : Nat} (h : rowB n b = true) : n ≤ maxLen := by unfold rowB at h; simp at h; exact h.1
theorem rowB_bytes {n b : Nat} (h : rowB n b = true) : n * b ≤ 140737488355328 := by unfold rowB at h; simp at h; exact h.2
theorem catB_le {a b : ByteArray} (h : catB a b = true) : a.size + b.size ≤ 1000000000000 := of_decide_eq_true h
theorem strB_le {s : ByteArray} (h : strB s = true) : s.size ≤ maxLen := of_decide_eq_true h
theorem intBin_quo {k : IntKind} {a b : Int} (h : (b != 0) = true) : intBin .quo k a b = some (.int k (k.wrap (a.tdiv b))) := by
  have : b ≠ 0 := by simpa using h
  unfold intBin
  rw [if_neg this]
theorem intBin_rem {k : IntKind} {a b : Int} (h : (b != 0) = true) : intBin .rem k a b = some (.int k (a.tmod b)) := by
  have : b ≠ 0 := by simpa using h
  show (if b = 0 then none else some (Value.int k (a.tmod b))) = _
  rw [if_neg this]
theorem and_l {a b : Bool} (h : (a && b) = true) : a = true := by cases a; cases h; rfl
theorem cndA {α : Type 1} {a b : Bool} (h : a = true) (x y : α) : (bif a && b then x else y) = bif b then x else y := by subst h; rfl
theorem cndT {α : Type 1} {b : Bool} (h : b = true) (x y : α) : (bif b then x else y) = x := by subst h; rfl
/-! ### a slot is set, whatever stands in the others -/
theorem set0 {x0 r : AV} {l : List AV} : putA (x0 :: l) (some 0) r = r :: l := rfl
theorem set1 {x0 x1 r : AV} {l : List AV} : putA (x0 :: x1 :: l) (some 1) r = x0 :: r :: l := rfl
theorem set2 {x0 x1 x2 r : AV} {l : List AV} : putA (x0 :: x1 :: x2 :: l) (some 2) r = x0 :: x1 :: r :: l := rfl
theorem set3 {x0 x1 x2 x3 r : AV} {l : List AV} : putA (x0 :: x1 :: x2 :: x3 :: l) (some 3) r = x0 :: x1 :: x2 :: r :: l := rfl
theorem set4 {x0 x1 x2 x3 x4 r : AV} {l : List AV} : putA (x0 :: x1 :: x2 :: x3 :: x4 :: l) (some 4) r = x0 :: x1 :: x2 :: x3 :: r :: l := rfl
theorem set5 {x0 x1 x2 x3 x4 x5 r : AV} {l : List AV} : putA (x0 :: x1 :: x2 :: x3 :: x4 :: x5 :: l) (some 5) r = x0 :: x1 :: x2 :: x3 :: x4 :: r :: l := rfl
theorem set6 {x0 x1 x2 x3 x4 x5 x6 r : AV} {l : List AV} : putA (x0 :: x1 :: x2 :: x3 :: x4 :: x5 :: x6 :: l) (some 6) r = x0 :: x1 :: x2 :: x3 :: x4 :: x5 :: r :: l := rfl
theorem set7 {x0 x1 x2 x3 x4 x5 x6 x7 r : AV} {l : List AV} : putA (x0 :: x1 :: x2 :: x3 :: x4 :: x5 :: x6 :: x7 :: l) (some 7) r = x0 :: x1 :: x2 :: x3 :: x4 :: x5 :: x6 :: r :: l := rfl
theorem setS8 {x0 x1 x2 x3 x4 x5 x6 x7 r : AV} {l l' : List AV} {k : Nat} (e : putA l (some k) r = l') : putA (x0 :: x1 :: x2 :: x3 :: x4 :: x5 :: x6 :: x7 :: l) (some (k + 8)) r = x0 :: x1 :: x2 :: x3 :: x4 :: x5 :: x6 :: x7 :: l' := by subst e; rfl
theorem setS32 {x0 x1 x2 x3 x4 x5 x6 x7 x8 x9 x10 x11 x12 x13 x14 x15 x16 x17 x18 x19 x20 x21 x22 x23 x24 x25 x26 x27 x28 x29 x30 x31 r : AV} {l l' : List AV} {k : Nat} (e : putA l (some k) r = l') : putA (x0 :: x1 :: x2 :: x3 :: x4 :: x5 :: x6 :: x7 :: x8 :: x9 :: x10 :: x11 :: x12 :: x13 :: x14 :: x15 :: x16 :: x17 :: x18 :: x19 :: x20 :: x21 :: x22 :: x23 :: x24 :: x25 :: x26 :: x27 :: x28 :: x29 :: x30 :: x31 :: l) (some (k + 32)) r = x0 :: x1 :: x2 :: x3 :: x4 :: x5 :: x6 :: x7 :: x8 :: x9 :: x10 :: x11 :: x12 :: x13 :: x14 :: x15 :: x16 :: x17 :: x18 :: x19 :: x20 :: x21 :: x22 :: x23 :: x24 :: x25 :: x26 :: x27 :: x28 :: x29 :: x30 :: x31 :: l' := by subst e; rfl
theorem get0 {x0 : AV} {l : List AV} : evA (x0 :: l) (.tmp 0) = x0 := rfl
theorem get1 {x0 x1 : AV} {l : List AV} : evA (x0 :: x1 :: l) (.tmp 1) = x1 := rfl
theorem get2 {x0 x1 x2 : AV} {l : List AV} : evA (x0 :: x1 :: x2 :: l) (.tmp 2) = x2 := rfl
theorem get3 {x0 x1 x2 x3 : AV} {l : List AV} : evA (x0 :: x1 :: x2 :: x3 :: l) (.tmp 3) = x3 := rfl
theorem get4 {x0 x1 x2 x3 x4 : AV} {l : List AV} : evA (x0 :: x1 :: x2 :: x3 :: x4 :: l) (.tmp 4) = x4 := rfl
theorem get5 {x0 x1 x2 x3 x4 x5 : AV} {l : List AV} : evA (x0 :: x1 :: x2 :: x3 :: x4 :: x5 :: l) (.tmp 5) = x5 := rfl
theorem get6 {x0 x1 x2 x3 x4 x5 x6 : AV} {l : List AV} : evA (x0 :: x1 :: x2 :: x3 :: x4 :: x5 :: x6 :: l) (.tmp 6) = x6 := rfl
theorem get7 {x0 x1 x2 x3 x4 x5 x6 x7 : AV} {l : List AV} : evA (x0 :: x1 :: x2 :: x3 :: x4 :: x5 :: x6 :: x7 :: l) (.tmp 7) = x7 := rfl
theorem getS8 {x0 x1 x2 x3 x4 x5 x6 x7 r : AV} {l : List AV} {k : Nat} (e : evA l (.tmp k) = r) : evA (x0 :: x1 :: x2 :: x3 :: x4 :: x5 :: x6 :: x7 :: l) (.tmp (k + 8)) = r := e
theorem getS32 {x0 x1 x2 x3 x4 x5 x6 x7 x8 x9 x10 x11 x12 x13 x14 x15 x16 x17 x18 x19 x20 x21 x22 x23 x24 x25 x26 x27 x28 x29 x30 x31 r : AV} {l : List AV} {k : Nat} (e : evA l (.tmp k) = r) : evA (x0 :: x1 :: x2 :: x3 :: x4 :: x5 :: x6 :: x7 :: x8 :: x9 :: x10 :: x11 :: x12 :: x13 :: x14 :: x15 :: x16 :: x17 :: x18 :: x19 :: x20 :: x21 :: x22 :: x23 :: x24 :: x25 :: x26 :: x27 :: x28 :: x29 :: x30 :: x31 :: l) (.tmp (k + 32)) = r := e
theorem getC {l : List AV} {v : Value} : evA l (.const v) = .lit v := rfl
theorem setN {l : List AV} {r : AV} : putA l none r = l := rfl
/-! ### a nil row is an empty one -/
inductive Up : AV → AV → Prop
  | refl (x : AV) : Up x x
  | nil {α : Type} (T : Ty α) : Up (.lit (.slice none 0 0)) (.bs T [])
  | agg {l l' : List AV} : l.length = l'.length → (∀ (i : Nat) (x y : AV), l[i]? = some x → l'[i]? = some y → Up x y) → Up (.agg l) (.agg l')
  | tup {l l' : List AV} : l.length = l'.length → (∀ (i : Nat) (x y : AV), l[i]? = some x → l'[i]? = some y → Up x y) → Up (.tup l) (.tup l')
theorem Up.rel {w : World} {S : Nat → Prop} {h : List ABlk} {ψ : Nat → Value} {x y : AV} (hu : Up x y) : ∀ {v : Value}, AV.rel w S h ψ x v → AV.rel w S h ψ y v := by
  induction hu with
  | refl x => exact fun h => h
  | nil T =>
    intro v H
    unfold AV.rel at H ⊢
    rw [H]
    exact T.slice_nilS _ _
  | @agg l l' hlen hi ih =>
    intro v H
    unfold AV.rel at H ⊢
    obtain ⟨cs, e, hl⟩ := H
    refine ⟨cs, e, relL_of (by rw [relL_len hl, hlen]) fun i y u hy hu => ?_⟩
    have hlt : i < l.length := by rw [hlen]; exact (List.getElem?_eq_some_iff.1 hy).1
    obtain ⟨x, hx⟩ : ∃ x, l[i]? = some x := ⟨_, List.getElem?_eq_getElem hlt⟩
    obtain ⟨u', h1, h2⟩ := relL_get hl hx
    rw [h1] at hu
    cases hu
    exact ih i x y hx hy h2
  | @tup l l' hlen hi ih =>
    intro v H
    unfold AV.rel at H ⊢
    obtain ⟨cs, e, hl⟩ := H
    refine ⟨cs, e, relL_of (by rw [relL_len hl, hlen]) fun i y u hy hu => ?_⟩
    have hlt : i < l.length := by rw [hlen]; exact (List.getElem?_eq_some_iff.1 hy).1
    obtain ⟨x, hx⟩ : ∃ x, l[i]? = some x := ⟨_, List.getElem?_eq_getElem hlt⟩
    obtain ⟨u', h1, h2⟩ := relL_get hl hx
    rw [h1] at hu
    cases hu
    exact ih i x y hx hy h2
inductive UpL : List AV → List AV → Prop
  | nil : UpL [] []
  | cons {x y : AV} {l l' : List AV} : Up x y → UpL l l' → UpL (x :: l) (y :: l')
theorem UpL.len {l l' : List AV} (h : UpL l l') : l.length = l'.length := by
  induction h with
  | nil => rfl
  | cons _ _ ih => simp [ih]
theorem UpL.get {l l' : List AV} (h : UpL l l') : ∀ (i : Nat) (x y : AV), l[i]? = some x → l'[i]? = some y → Up x y := by
  induction h with
  | nil => intro i x y hx; simp at hx
  | cons h1 _ ih =>
    intro i x y hx hy
    cases i with
    | zero => simp at hx hy; subst hx hy; exact h1
    | succ i => exact ih i x y (by simpa using hx) (by simpa using hy)
theorem UpL.rel {w : World} {S : Nat → Prop} {h : List ABlk} {ψ : Nat → Value} {l l' : List AV} (hu : UpL l l') {cs : List Value} (H : AV.relL w S h ψ l cs) : AV.relL w S h ψ l' cs := by
  refine relL_of (by rw [relL_len H, hu.len]) fun i y u hy hv => ?_
  have hlt : i < l.length := by rw [hu.len]; exact (List.getElem?_eq_some_iff.1 hy).1
  obtain ⟨x, hx⟩ : ∃ x, l[i]? = some x := ⟨_, List.getElem?_eq_getElem hlt⟩
  obtain ⟨u', h1, h2⟩ := relL_get H hx
  rw [h1] at hv
  cases hv
  exact (hu.get i x y hx hy).rel h2
theorem Up.ag {l l' : List AV} (h : UpL l l') : Up (.agg l) (.agg l') := .agg h.len h.get
theorem Up.tp {l l' : List AV} (h : UpL l l') : Up (.tup l) (.tup l') := .tup h.len h.get

section
variable {P : Program} {C : Ctx} {t t' : List AV} {h h' : List ABlk} {o : Oper}
theorem Quiet.ixM {ty : TypeId} {x y : Operand} {ik : IntKind} {z : Int} {n : Nat} {α : Type} [Inhabited α] {T : Ty α} {l : List α} [ES P ty n] (ho : o.op = .indexAddr ty x y) (hx : evA t x = .bs T l) (hy : evA t y = .lit (.int ik z)) (hs : T.size = n) (hz : inBd l z = true) : Quiet P C t h o (.bp T (ixD l z) 0) :=
  Quiet.ixi ho hx hy hs (inB_iff.1 hz).1 (inB_get hz)
theorem Quiet.ixSM {ty : TypeId} {x y : Operand} {s : ByteArray} {z : Int} {ik : IntKind} [StrT P ty] (ho : o.op = .index ty x y) (hx : evA t x = .lit (.string s)) (hy : evA t y = .lit (.int ik z)) (hz : inSt s z = true) : Quiet P C t h o (.lit (.int .u8 (chD s z))) := by
  unfold inSt at hz
  simp only [Bool.and_eq_true, decide_eq_true_eq] at hz
  obtain ⟨h0, h1⟩ := hz
  have e : z = ((z.toNat : Nat) : Int) := by omega
  have h2 : z.toNat < s.data.toList.length := h1
  rw [e] at hy
  have := Quiet.ixS (P := P) (C := C) (h := h) ho hx hy (List.getElem?_eq_getElem h2)
  unfold chD
  rw [List.getD_eq_getElem?_getD, List.getElem?_eq_getElem h2]
  exact this
theorem cutB_iff {s : ByteArray} {a b : Int} : cutB s a b = true ↔ 0 ≤ a ∧ a ≤ b ∧ b.toNat ≤ s.size := by unfold cutB; simp [and_assoc]
theorem slB_iff {α : Type} {l : List α} {a b : Int} : slB l a b = true ↔ 0 ≤ a ∧ a ≤ b ∧ b.toNat ≤ l.length := by unfold slB; simp [and_assoc]
theorem Quiet.cutM {ty : TypeId} {x y z : Operand} {s : ByteArray} {a b : Int} {ik ik' : IntKind} [StrT P ty] (ho : o.op = .slice ty x (some y) (some z) none) (hx : evA t x = .lit (.string s)) (hy : evA t y = .lit (.int ik a)) (hz : evA t z = .lit (.int ik' b)) (hc : cutB s a b = true) : Quiet P C t h o (.lit (.string (cutD s a b))) := by
  obtain ⟨h1, h2, h3⟩ := cutB_iff.1 hc
  have e1 : a = ((a.toNat : Nat) : Int) := by omega
  have e2 : b = ((b.toNat : Nat) : Int) := by omega
  rw [e1] at hy
  rw [e2] at hz
  exact Quiet.cut ho hx hy hz (by omega) h3
theorem BndA.lo {d : Nat} {y : Operand} {ik : IntKind} {a : Int} (hy : evA t y = .lit (.int ik a)) (h0 : 0 ≤ a) : BndA t d (some y) a.toNat := ⟨ik, by rw [hy]; congr 2; omega⟩
theorem Quiet.slLM {ty : TypeId} {x y : Operand} {n : Nat} {α : Type} {T : Ty α} {l : List α} {a : Int} {ik : IntKind} [ES P ty n] (ho : o.op = .slice ty x (some y) none none) (hx : evA t x = .bs T l) (hs : T.size = n) (hy : evA t y = .lit (.int ik a)) (hc : slB l a (l.length : Int) = true) : Quiet P C t h o (.bs T (slD l a (l.length : Int))) := by
  obtain ⟨h1, h2, h3⟩ := slB_iff.1 hc
  have := Quiet.slc (P := P) (C := C) (h := h) (lo := some y) (hi := none) (m := l.length) ho hx hs (BndA.lo hy h1) rfl (by omega) (Nat.le_refl _)
  unfold slD
  rwa [Int.toNat_natCast]
theorem Quiet.shlM {xt yt : TypeId} {x y : Operand} {k q : IntKind} {a b : Int} (ho : o.op = .binOp .shl xt x y yt) (hx : evA t x = .lit (.int k a)) (hy : evA t y = .lit (.int q b)) (hb : decide (0 ≤ b) = true) : Quiet P C t h o (.lit (.int k (shlV k a b))) := Quiet.shl ho hx hy (of_decide_eq_true hb) rfl
theorem Quiet.shrM {xt yt : TypeId} {x y : Operand} {k q : IntKind} {a b : Int} (ho : o.op = .binOp .shr xt x y yt) (hx : evA t x = .lit (.int k a)) (hy : evA t y = .lit (.int q b)) (hb : decide (0 ≤ b) = true) : Quiet P C t h o (.lit (.int k (shrV k a b))) := Quiet.shr ho hx hy (of_decide_eq_true hb) rfl
theorem Quiet.quoM {xt yt : TypeId} {x y : Operand} {k : IntKind} {a b : Int} (ho : o.op = .binOp .quo xt x y yt) (hx : evA t x = .lit (.int k a)) (hy : evA t y = .lit (.int k b)) (hb : (b != 0) = true) : Quiet P C t h o (.lit (.int k (k.wrap (a.tdiv b)))) := Quiet.bin ho hx hy (intBin_quo hb)
theorem Quiet.remM {xt yt : TypeId} {x y : Operand} {k : IntKind} {a b : Int} (ho : o.op = .binOp .rem xt x y yt) (hx : evA t x = .lit (.int k a)) (hy : evA t y = .lit (.int k b)) (hb : (b != 0) = true) : Quiet P C t h o (.lit (.int k (a.tmod b))) := Quiet.bin ho hx hy (intBin_rem hb)
theorem AOp.appQ {ty : TypeId} {x y : Operand} {i ver : Nat} {e : TypeId} {bytes n : Nat} {α : Type} {T : Ty α} {l l2 : List α} {enc : α → List AV} {K : St → Prop} [RT P ty e n bytes] [EncOf T enc] (ho : o.op = .call { callee := .builtin .append, args := #[x, y], argTypes := #[ty, ty] })
    (hx : evA t x = .own i ver) (hi : h[i]? = some (.row ver e T l)) (hy : evA t y = .bs T l2) (hs : T.size = n) (hb : rowB (l.length + l2.length) bytes = true)
    (hK : K ⟨putA t o.dst (.own i (ver + 1)), h.set i (.row (ver + 1) e T (l ++ l2))⟩) : AOp P C o ⟨t, h⟩ K := AOp.app ho hx hi hy hs (rowB_len hb) (rowB_bytes hb) hK
theorem AOp.mkM {ty : TypeId} {x y : Operand} {k k' : IntKind} {z : Int} {e : TypeId} {v : Value} {bytes : Nat} {α : Type} {T : Ty α} {K : St → Prop} (d : α) (ho : o.op = .makeSlice ty x y) (hz : zeroOne P ty = some (e, v, bytes)) (hT : T.size = 1) (hd0 : ∀ w S, T.RS w S [v] d)
    (hx : evA t x = .lit (.int k z)) (hy : evA t y = .lit (.int k' z)) (hb : makB z bytes = true)
    (hK : K ⟨putA t o.dst (.own h.length 0), h ++ [.row 0 e T (List.replicate z.toNat d)]⟩) : AOp P C o ⟨t, h⟩ K := by
  unfold makB at hb
  simp only [Bool.and_eq_true, decide_eq_true_eq] at hb
  obtain ⟨⟨h0, h1⟩, h2⟩ := hb
  have e1 : z = ((z.toNat : Nat) : Int) := by omega
  rw [e1] at hx hy
  exact AOp.mk1 d ho hz hT hd0 hx hy h2 h1 hK
theorem gA_t {ops : Array Oper} {b : Bool} (hg : gA ops t o = some (b == true)) : gA ops t o = some b := by rw [hg]; cases b <;> rfl
theorem gA_f {ops : Array Oper} {b : Bool} (hg : gA ops t o = some (b == false)) : gA ops t o = some (!b) := by rw [hg]; cases b <;> rfl
theorem gA_tc {ops : Array Oper} {j : Nat} {q c : Bool} (ho : o.guard = some (j, true)) (hd : ((ops[j]?).bind (·.dst)).bind (t[·]?) = some (cond q (.lit (.bool c)) (.lit undef))) : gA ops t o = some (q && c) := by rw [gA_c ho hd]; cases c <;> rfl
theorem gA_fc {ops : Array Oper} {j : Nat} {q c : Bool} (ho : o.guard = some (j, false)) (hd : ((ops[j]?).bind (·.dst)).bind (t[·]?) = some (cond q (.lit (.bool c)) (.lit undef))) : gA ops t o = some (q && !c) := by rw [gA_c ho hd]; cases c <;> rfl
theorem Quiet.callU {f : FuncId} {args : Array Operand} {tys : Array TypeId} {xs xs' : List AV} {r : AV}
    (ho : o.op = .call { callee := .value (.func f), args := args, argTypes := tys }) (hx : args.toList.map (evA t) = xs') (hu : UpL xs' xs) (hF : Fn P f xs r) (hc : AV.clL xs' = true) (hr : AV.cl r = true) : Quiet P C t h o r :=
  Quiet.call ho ⟨hF.1, fun w S vs hS hv => hF.2 w S vs hS (hu.rel hv)⟩ hx hc hr
theorem Quiet.callUT {G : World → Prop} {f : FuncId} {args : Array Operand} {tys : Array TypeId} {xs xs' : List AV} {r : AV}
    (ho : o.op = .call { callee := .value (.func f), args := args, argTypes := tys }) (hx : args.toList.map (evA t) = xs') (hu : UpL xs' xs) (hC : C.std) (hL : Lasts G) (hG : G C.w0) (hF : FnT G P f xs r) (hc : AV.clL xs' = true) (hr : AV.cl r = true) : Quiet P C t h o r :=
  Quiet.callT hC hL hG ho ⟨hF.1, fun w S vs hg hS hv => hF.2 w S vs hg hS (hu.rel hv)⟩ hx hc hr
theorem St.le_own (j : Nat) (e : TypeId) {α : Type} (T : Ty α) (hj : t[j]? = some (.lit (.slice none 0 0))) (h0 : 0 < T.size) (ht : t.set j (.own h.length 0) = t' := by ((try simp only [List.set_cons_zero, List.set_cons_succ, List.length_nil, List.length_cons, Nat.reduceAdd]); exact rfl)) (hh : h ++ [.row 0 e T []] = h' := by ((try simp only [List.nil_append, List.cons_append]); exact rfl)) : St.le C ⟨t, h⟩ ⟨t', h'⟩ := by
  subst ht hh
  exact St.le_nil j e T hj h0
theorem leC (hc : Cut h h') (hb : bdH h' = true := by rfl) (hf : Fgt h'.length t t' := by ((try simp only [putA, List.set_cons_zero, List.set_cons_succ]); repeat (first | exact Fgt.nil | refine Fgt.keep rfl ?_ | refine Fgt.any ?_ | refine Fgt.keep (by first | assumption | exact bd_of_cl _ _ (by assumption)) ?_))) (hm : mkD h' = mkD h := by rfl) : St.le C ⟨t, h⟩ ⟨t', h'⟩ := St.le_c hc hb hf hm
theorem exN {id : Nat} {Q : Exit → St → Prop} {s : St} (hq : Q .normal s) : ablock id Q (.exit id) s := by
  unfold ablock
  simp [hq]
theorem athen_e {K : St → Prop} {Q : Exit → St → Prop} {id : Nat} {s : St} (hq : Q (.exit id) s) : athen K Q (.exit id) s := hq
theorem abN {id : Nat} {Q : Exit → St → Prop} {s : St} (hq : Q .normal s) : ablock id Q .normal s := hq
theorem Quiet.negM {xt : TypeId} {x : Operand} {k : IntKind} {a : Int} (ho : o.op = .unOp .neg xt x) (hx : evA t x = .lit (.int k a)) : Quiet P C t h o (.lit (.int k (k.wrap (0 - a)))) :=
  Quiet.of_run fun S ψ w ρ _ hρ => by
    have h1 := hρ x (by simp [ho, Op.operands])
    rw [hx] at h1
    unfold AV.rel at h1
    exact ⟨_, by simp [execOp, ho, h1]; rfl, by unfold AV.rel; rfl⟩
theorem AOp.boxI {elem : TypeId} {x : Operand} {cells : List AV} {K : St → Prop} (i : Nat) (hi : h.length = i) (ho : o.op = .box elem x) (hp : Parts0 h (evA t x) cells) (hK : K ⟨putA t o.dst (.ptr i 0), h ++ [.box cells]⟩) : AOp P C o ⟨t, h⟩ K := by
  subst hi
  exact AOp.box (s := ⟨t, h⟩) ho hp hK
theorem AOp.alI {elem : TypeId} {zs : List Value} {K : St → Prop} [ZC P elem zs] (i : Nat) (hi : h.length = i) (ho : o.op = .alloc elem) (hK : K ⟨putA t o.dst (.ptr i 0), h ++ [.box (zs.map .lit)]⟩) : AOp P C o ⟨t, h⟩ K := by
  subst hi
  exact AOp.al ho hK
theorem AOp.litI {ty e : TypeId} {bytes n : Nat} {parts : Array (Nat × Operand)} {xs : List Operand} {α : Type} {T : Ty α} {ds : List α} {K : St → Prop} (i : Nat) (hi : h.length = i) (ho : o.op = .buildSlice ty n parts) (hp : parts = numbered xs) (hn : n = xs.length)
    (hT : rowTy P ty = some (e, T.size, bytes)) (h0 : 0 < T.size) (hsz : n * T.size ≤ 16777216) (hf : Fits h T (xs.map (evA t)) ds) (hK : K ⟨putA t o.dst (.own i 0), h ++ [.row 0 e T ds]⟩) : AOp P C o ⟨t, h⟩ K := by
  subst hi
  exact AOp.lit (s := ⟨t, h⟩) ho hp hn hT h0 hsz hf hK
theorem AOp.mkI {ty : TypeId} {x y : Operand} {k k' : IntKind} {z : Int} {e : TypeId} {v : Value} {bytes : Nat} {α : Type} {T : Ty α} {K : St → Prop} (i : Nat) (hi : h.length = i) (d : α) (ho : o.op = .makeSlice ty x y) (hz : zeroOne P ty = some (e, v, bytes)) (hT : T.size = 1) (hd0 : ∀ w S, T.RS w S [v] d)
    (hx : evA t x = .lit (.int k z)) (hy : evA t y = .lit (.int k' z)) (hb : makB z bytes = true)
    (hK : K ⟨putA t o.dst (.own i 0), h ++ [.row 0 e T (List.replicate z.toNat d)]⟩) : AOp P C o ⟨t, h⟩ K := by
  subst hi
  exact AOp.mkM d ho hz hT hd0 hx hy hb hK
theorem sNtM {ops : Array Oper} {rest : List Oper} {K : St → Prop} (ht : t = t' := by exact rfl) (hh : h = h' := by ((try simp only [List.nil_append, List.cons_append, List.set_cons_zero, List.set_cons_succ, List.take_zero, List.take_succ_cons, List.drop_succ_cons, List.drop_zero, List.drop_nil, List.take_nil, List.map_cons, List.map_nil, List.append_nil, List.length_cons, List.length_nil, Nat.zero_add, Nat.reduceAdd]); exact rfl)) (hk : aSeq P C ops K rest ⟨t', h'⟩) : aSeq P C ops K rest ⟨t, h⟩ := by
  subst ht hh
  exact hk
theorem aSeq_via {ops : Array Oper} {K : St → Prop} {rest : List Oper} {s s' : St} (hg : o.guard = none) (hle : St.le C s s') (hk : aSeq P C ops K (o :: rest) s') : aSeq P C ops K (o :: rest) s := by
  obtain ⟨b, h1, h2, h3⟩ := hk
  have e : ∀ t, gA ops t o = some true := fun t => by unfold gA; rw [hg]
  rw [e] at h1
  cases h1
  exact ⟨true, e _, fun _ Q' a w H => h2 rfl Q' a w (hle a w H), fun h => by cases h⟩
theorem Awp.seqJ {x y : Code} {Q : Exit → St → Prop} {s : St} {β : Type} (J : β → Prop) (G : β → St) (hx : Awp P C x (athen (fun s' => ∃ b, J b ∧ St.le C s' (G b)) Q) s) (hy : ∀ b, J b → Awp P C y Q (G b)) : Awp P C (.seq x y) Q s :=
  Awp.seq fun K hK => hx.mono fun e s' q => by
    cases e with
    | normal =>
      obtain ⟨b, hJ, hle⟩ := q
      exact hK s' ((hy b hJ).le hle)
    | _ => exact q
theorem Awp.loopM {c : Code} {Q : Exit → St → Prop} {s : St} {σ ρ β : Type} {step : σ → M (σ ⊕ ρ)} {s0 : σ} {r : ρ} (H : (M.loop step s0).to r) (F : σ → β → St) (b0 : β) (h0 : St.le C s (F s0 b0))
    (hr : ∀ s' b x, (step s').to x → (∀ r', x = .inr r' → r' = r) → Awp P C c (athen (fun st => ∃ s'' b', x = .inl s'' ∧ St.le C st (F s'' b')) Q) (F s' b)) : Awp P C (.loop c) Q s := by
  obtain ⟨k, hk⟩ := M.to_loop.1 H
  refine Awp.loop (fun m st => ∃ s' b, st = F s' b ∧ M.Rounds step m s' r) k ⟨_, h0, s0, b0, rfl, hk⟩ ?_
  rintro m st ⟨s', b, rfl, hm⟩
  cases hm with
  | out hx =>
    refine (hr s' b _ hx fun r' e => by cases e; rfl).mono fun e s1 q => ?_
    cases e with
    | normal => obtain ⟨_, _, e, _⟩ := q; cases e
    | _ => exact q
  | on hx hm =>
    refine (hr s' b _ hx fun r' e => by cases e).mono fun e s1 q => ?_
    cases e with
    | normal =>
      obtain ⟨s2, b', e, hle⟩ := q
      cases e
      exact ⟨_, Nat.lt_succ_self _, _, hle, _, b', rfl, hm⟩
    | _ => exact q
theorem St.fzT (hC : C.std) (i : Nat) {ver : Nat} {e : TypeId} {α : Type} {T : Ty α} {l : List α} (hi : h[i]? = some (.row ver e T l)) (ht : AV.fzL i ver (.bs T l) t = t') (hh : fzH i ver (.bs T l) h = h') : St.le C ⟨t, h⟩ ⟨t', h'⟩ := by
  subst ht hh
  exact St.le_fz hC i hi
end
end Mu
end
section
/-
  Arrays of elements of one cell: made of a literal; an element's address.
  Conditions: none; generic.
-/
namespace Mu
open Go Go.RowKit Go.ChangeShapes Go.WideShapes

section
variable {P : Program} {C : Ctx} {t : List AV} {h : List ABlk} {o : Oper}
def arrOf (P : Program) (ty : TypeId) : Option (Nat × Nat) :=
  match P.underlying ty with
  | some (.array n e) => (P.info? e).map fun i => (n, i.size)
  | _ => none
/-- cells with single cells put in -/
def putCellsA : List AV → List (Nat × AV) → Option (List AV)
  | cs, [] => some cs
  | cs, (j, x) :: ps => if j < cs.length then putCellsA (cs.set j x) ps else none
theorem fill_arr {w : World} {S : Nat → Prop} {h : List ABlk} {ψ : Nat → Value} : ∀ (ps : List (Nat × AV)) (cs rs : List AV) (vs : List (Nat × Value)) (us : List Value), putCellsA cs ps = some rs → AV.relL w S h ψ cs us →
    vs.map (·.1) = ps.map (·.1) → (∀ (j : Nat) (p : Nat × AV) (v : Nat × Value), ps[j]? = some p → vs[j]? = some v → AV.rel w S h ψ p.2 v.2 ∧ v.2.oneCell' = true) →
    ∃ us', Instr.fill (fun i => some (i * 1, 1)) us.toArray vs = some us'.toArray ∧ AV.relL w S h ψ rs us'
  | [], cs, rs, vs, us, hp, hr, hv, _ => by
    cases hp
    have : vs = [] := by simpa using hv
    subst this
    exact ⟨us, rfl, hr⟩
  | (j, x) :: ps, cs, rs, vs, us, hp, hr, hv, hrel => by
    cases vs with
    | nil => simp at hv
    | cons v vs =>
      simp only [List.map_cons, List.cons.injEq] at hv
      obtain ⟨hv1, hv2⟩ := hv
      unfold putCellsA at hp
      split at hp <;> try (cases hp; done)
      rename_i hoff
      obtain ⟨h1, h2⟩ := hrel 0 _ _ rfl rfl
      have hul := relL_len hr
      obtain ⟨us', h3, h4⟩ := fill_arr ps (cs.set j x) rs vs (us.set j v.2) hp (relL_set hr j h1) hv2 fun j p v hp hv => hrel (j + 1) p v (by simpa using hp) (by simpa using hv)
      refine ⟨us', ?_, h4⟩
      obtain ⟨i, v⟩ := v
      dsimp only at hv1 h1 h2 h3
      subst hv1
      unfold Instr.fill
      simp only [Nat.mul_one, cells_one h2]
      have hc : ¬ ((decide ((#[v] : Array Value).size ≠ 1) || decide (i + (#[v] : Array Value).size > us.toArray.size)) = true) := by
        simp
        omega
      rw [if_neg hc]
      simpa using h3
theorem Quiet.bldA {ty : TypeId} {parts : Array (Nat × Operand)} {zs : List Value} {n : Nat} {rs : List AV} (ho : o.op = .build ty parts) (hz : zeroCells? P ty = some zs) (hs : arrOf P ty = some (n, 1))
    (hr : putCellsA (zs.map .lit) (parts.toList.map fun p => (p.1, evA t p.2)) = some rs) (h1 : (parts.toList.all fun p => litBs (evA t p.2)) = true) : Quiet P C t h o (.agg rs) :=
  Quiet.of_run fun S ψ w ρ H hρ => by
    unfold zeroCells? at hz
    obtain ⟨z, hz1, rfl⟩ := Option.map_eq_some_iff.1 hz
    obtain ⟨i, hi, hz2⟩ := Option.bind_eq_some_iff.1 hz1
    unfold arrOf at hs
    split at hs <;> try (cases hs; done)
    rename_i n' e hu
    cases h2 : P.info? e with
    | none => rw [h2] at hs; cases hs
    | some ie =>
      rw [h2] at hs
      simp only [Option.map_some, Option.some.injEq, Prod.mk.injEq] at hs
      obtain ⟨rfl, he1⟩ := hs
      have hmem : ∀ p ∈ parts.toList, AV.rel w S h ψ (evA t p.2) (ρ p.2) := fun p hp => hρ p.2 (by rw [ho]; exact List.mem_toArray.2 (List.mem_map.2 ⟨p, hp, rfl⟩))
      obtain ⟨us', h3, h4⟩ := fill_arr (w := w) (S := S) (h := h) (ψ := ψ) _ _ rs (parts.toList.map fun p => (p.1, ρ p.2)) z.cells.toList hr (relL_lits _) (by simp) fun j p v hp hv => by
        rw [List.getElem?_map] at hp hv
        obtain ⟨q, hq, rfl⟩ := Option.map_eq_some_iff.1 hp
        rw [hq] at hv
        cases hv
        have hqm := List.mem_of_getElem? hq
        exact ⟨hmem q hqm, One.litBs (List.all_eq_true.1 h1 q hqm) C S ψ w _ H (hmem q hqm)⟩
      refine ⟨.agg us'.toArray, ?_, by unfold AV.rel; exact ⟨us', rfl, h4⟩⟩
      have hf : Instr.fill (fun i => some (i * 1, 1)) z.cells (parts.map fun p => (p.1, ρ p.2)).toList = some us'.toArray := by simpa using h3
      simp only [execOp, ho, Instr.build, zeroValue, typeInfo, underlying, Go.sizeOf, Sem.run_bind, run_program, Result.andThen_ok, hi, hz2, Sem.run_pure, hu, h2, he1, hf]
end
end Mu
end
section
/-
  Records of numbers and bools that are compared.
  Conditions: none; generic.
-/
namespace Mu
open Go Go.RowKit Go.Proofs

/-- fields of one cell each: numbers (true) and bools (false) -/
def fldsOk (P : Program) : List Field → Nat → List Bool → Bool
  | [], _, [] => true
  | f :: fs, j, b :: bs => f.name != "_" && f.offset == j && (match P.underlying f.type with | some (.int _) => b | some .bool => !b | _ => false) && fldsOk P fs (j + 1) bs
  | _, _, _ => false
def scEq : List Bool → List Value → List Value → Option Bool
  | [], [], [] => some true
  | true :: bs, .int k a :: vs, .int k' b :: ws => if k = k' then (scEq bs vs ws).map fun r => a == b && r else none
  | false :: bs, .bool a :: vs, .bool b :: ws => (scEq bs vs ws).map fun r => a == b && r
  | _, _, _ => none
/-- a record type of such fields, as '==' reads it -/
def recT (P : Program) (ty : TypeId) (bs : List Bool) : Bool :=
  (match P.underlying ty with
    | some (.struct fs) => fldsOk P fs.toList 0 bs
    | _ => false) && !P.stoodInHeld ty && !P.eqGuardType P.depth ty
section
variable {P : Program} {w : World}
theorem run_part_num {e : TypeId} {k : IntKind} {xs : Array Value} {off : Nat} {v : Value} (he : P.underlying e = some (.int k)) (hx : xs[off]? = some v) : (part e xs off).run P w = .ok v w := by
  simp [part, isAgg, run_underlying he, hx]
theorem run_part_bit {e : TypeId} {xs : Array Value} {off : Nat} {v : Value} (he : P.underlying e = some .bool) (hx : xs[off]? = some v) : (part e xs off).run P w = .ok v w := by
  simp [part, isAgg, run_underlying he, hx]
theorem scEq_cons {b : Bool} {bs : List Bool} {vs ws : List Value} {r : Bool} (h : scEq (b :: bs) vs ws = some r) :
    (∃ k a c vs' ws' r', b = true ∧ vs = .int k a :: vs' ∧ ws = .int k c :: ws' ∧ scEq bs vs' ws' = some r' ∧ r = (a == c && r')) ∨
    (∃ a c vs' ws' r', b = false ∧ vs = .bool a :: vs' ∧ ws = .bool c :: ws' ∧ scEq bs vs' ws' = some r' ∧ r = (a == c && r')) := by
  cases vs with
  | nil => cases b <;> simp [scEq] at h
  | cons v vs =>
    cases ws with
    | nil => cases b <;> cases v <;> simp [scEq] at h
    | cons u ws =>
      cases b <;> cases v <;> cases u <;> simp only [scEq, reduceCtorEq] at h
      · obtain ⟨r', hr', rfl⟩ := Option.map_eq_some_iff.1 h
        exact .inr ⟨_, _, _, _, r', rfl, rfl, rfl, hr', rfl⟩
      · split at h
        · rename_i hk
          subst hk
          obtain ⟨r', hr', rfl⟩ := Option.map_eq_some_iff.1 h
          exact .inl ⟨_, _, _, _, _, r', rfl, rfl, rfl, hr', rfl⟩
        · cases h
theorem run_flds {d : Nat} {xs ys : Array Value} : ∀ (fs : List Field) (j : Nat) (bs : List Bool) (vs ws : List Value) (r : Bool), fldsOk P fs j bs = true → scEq bs vs ws = some r → (∀ i, xs[j + i]? = vs[i]?) → (∀ i, ys[j + i]? = ws[i]?) → (Op.eqFields (d + 1) xs ys fs).run P w = .ok r w
  | [], j, bs, vs, ws, r, h, hr, hx, hy => by
    cases bs with
    | nil =>
      cases vs <;> cases ws <;> simp [scEq] at hr
      subst hr
      rfl
    | cons b bs => simp [fldsOk] at h
  | f :: fs, j, bs, vs, ws, r, h, hr, hx, hy => by
    cases bs with
    | nil => simp [fldsOk] at h
    | cons b bs =>
      simp only [fldsOk, Bool.and_eq_true, bne_iff_ne, ne_eq, beq_iff_eq] at h
      obtain ⟨⟨⟨hn, ho⟩, ht⟩, hrest⟩ := h
      have shift : ∀ {zs : Array Value} {u : Value} {us : List Value}, (∀ i, zs[j + i]? = (u :: us)[i]?) → zs[f.offset]? = some u ∧ ∀ i, zs[j + 1 + i]? = us[i]? := fun hz => by
        refine ⟨by rw [ho]; simpa using hz 0, fun i => ?_⟩
        have := hz (i + 1)
        rw [List.getElem?_cons_succ] at this
        rw [← this]
        congr 1
        omega
      rcases scEq_cons hr with ⟨k, a, c, vs', ws', r', rfl, rfl, rfl, hr', rfl⟩ | ⟨a, c, vs', ws', r', rfl, rfl, rfl, hr', rfl⟩
      · obtain ⟨hx0, hx1⟩ := shift hx
        obtain ⟨hy0, hy1⟩ := shift hy
        have ih := run_flds (d := d) (xs := xs) (ys := ys) fs (j + 1) bs vs' ws' r' hrest hr' hx1 hy1
        cases hu : P.underlying f.type with
        | none => rw [hu] at ht; cases ht
        | some td =>
          rw [hu] at ht
          cases td <;> simp at ht
          rename_i ik
          have q : (Op.equalIn (d + 1) f.type (.int k a) (.int k c)).run P w = .ok (a == c) w := run_equalIn_int (P := P) w d f.type k ik a c hu
          simp only [Op.eqFields, hn, ne_eq, not_false_eq_true, if_true, Sem.run_bind]
          rw [run_part_num hu hx0, Result.andThen_ok, run_part_num hu hy0, Result.andThen_ok, q, Result.andThen_ok]
          cases (a == c)
          · rfl
          · simpa using ih
      · obtain ⟨hx0, hx1⟩ := shift hx
        obtain ⟨hy0, hy1⟩ := shift hy
        have ih := run_flds (d := d) (xs := xs) (ys := ys) fs (j + 1) bs vs' ws' r' hrest hr' hx1 hy1
        cases hu : P.underlying f.type with
        | none => rw [hu] at ht; cases ht
        | some td =>
          rw [hu] at ht
          cases td <;> simp at ht
          have q : (Op.equalIn (d + 1) f.type (.bool a) (.bool c)).run P w = .ok (a == c) w := run_equalIn_bool' (P := P) w d f.type a c hu
          simp only [Op.eqFields, hn, ne_eq, not_false_eq_true, if_true, Sem.run_bind]
          rw [run_part_bit hu hx0, Result.andThen_ok, run_part_bit hu hy0, Result.andThen_ok, q, Result.andThen_ok]
          cases (a == c)
          · rfl
          · simpa using ih
theorem run_sameS {ty : TypeId} {bs : List Bool} {vs ws : List Value} {r : Bool} (h : recT P ty bs = true) (hr : scEq bs vs ws = some r) : (Op.equalIn 10000 ty (.agg vs.toArray) (.agg ws.toArray)).run P w = .ok r w ∧ P.eqGuardType P.depth ty = false := by
  unfold recT at h
  simp only [Bool.and_eq_true, Bool.not_eq_true'] at h
  obtain ⟨⟨h1, h2⟩, h3⟩ := h
  refine ⟨?_, h3⟩
  split at h1
  · rename_i fs hfs
    have hF : P.fieldsOf ty = fs := by unfold Program.fieldsOf; rw [hfs]
    rw [show (10000 : Nat) = 9999 + 1 from rfl, run_equalIn_struct w 9999 ty _ _ (by rw [hF]; exact hfs) h2, hF]
    exact run_flds (d := 9998) fs.toList 0 bs vs ws r h1 hr (fun i => by simp) (fun i => by simp)
  · cases h1
end
theorem relL_litR {w : World} {S : Nat → Prop} {h : List ABlk} {ψ : Nat → Value} : ∀ (vs : List Value) {us : List Value}, AV.relL w S h ψ (vs.map .lit) us → us = vs
  | [], us, H => by
    unfold AV.relL at H
    exact H
  | v :: vs, us, H => by
    unfold List.map AV.relL at H
    obtain ⟨u, us', rfl, h1, h2⟩ := H
    unfold AV.rel at h1
    rw [h1, relL_litR vs h2]
section
variable {P : Program} {C : Ctx} {t : List AV} {h : List ABlk} {o : Oper}
theorem Quiet.eqRec {xt yt : TypeId} {x y : Operand} {bs : List Bool} {vs ws : List Value} {r : Bool} (hT : recT P xt bs = true) (ho : o.op = .binOp .eql xt x y yt) (hx : evA t x = .agg (vs.map .lit)) (hy : evA t y = .agg (ws.map .lit)) (hr : scEq bs vs ws = some r) : Quiet P C t h o (.lit (.bool r)) :=
  Quiet.of_run fun S ψ w ρ _ hρ => by
    have h1 := hρ x (by simp [ho, Op.operands])
    have h2 := hρ y (by simp [ho, Op.operands])
    rw [hx] at h1
    rw [hy] at h2
    unfold AV.rel at h1 h2
    obtain ⟨us, h1, h3⟩ := h1
    obtain ⟨us', h2, h4⟩ := h2
    rw [relL_litR _ h3] at h1
    rw [relL_litR _ h4] at h2
    obtain ⟨e1, e2⟩ := run_sameS (w := w) hT hr
    refine ⟨_, ?_, by unfold AV.rel; rfl⟩
    simp only [execOp, ho, h1, h2, Sem.run_bind]
    rw [run_eqGuard_agg w .eql xt x y _ _ e2, Result.andThen_ok, run_eql_struct, e1, Result.andThen_ok]
    rfl
end
end Mu
end
section
/-
  Walks that show M: arrays of numbers.
  Conditions: none; generic.
-/
namespace Mu
open Go Go.RowKit Go.Proofs Go.ChangeShapes Go.WideShapes

section
variable {P : Program} {C : Ctx} {t : List AV} {h : List ABlk} {o : Oper}
/-- numbers of a kind, as values -/
def ints (k : IntKind) (ds : List Int) : List AV := ds.map fun d => .lit (.int k d)
theorem relL_ints {w : World} {S : Nat → Prop} {h : List ABlk} {ψ : Nat → Value} {k : IntKind} : ∀ {ds : List Int} {cs : List Value}, AV.relL w S h ψ (ints k ds) cs → cs = ds.map (Value.int k)
  | [], cs, H => by unfold ints at H; simp only [List.map_nil, AV.relL] at H; simpa using H
  | d :: ds, cs, H => by
    unfold ints at H
    simp only [List.map_cons, AV.relL, AV.rel] at H
    obtain ⟨v, vs, rfl, rfl, h2⟩ := H
    rw [List.map_cons, relL_ints (ds := ds) h2]
def arrI (P : Program) (ty : TypeId) : Option IntKind :=
  match P.underlying ty with
  | some (.array _ e) => match P.underlying e with | some (.int k) => some k | _ => none
  | _ => none
theorem Quiet.ixAM {ty : TypeId} {x y : Operand} {k ik : IntKind} {ds : List Int} {z : Int} {n : Nat} (ho : o.op = .index ty x y) (ha : arrOf P ty = some (n, 1)) (hn : ds.length = n) (hk : arrI P ty = some k) (hx : evA t x = .agg (ints k ds)) (hy : evA t y = .lit (.int ik z)) (hz : inBd ds z = true) : Quiet P C t h o (.lit (.int k (ixD ds z))) :=
  Quiet.of_run fun S ψ w ρ H hρ => by
    have h1 := hρ x (by simp [ho, Op.operands])
    have h2 := hρ y (by simp [ho, Op.operands])
    rw [hx] at h1
    rw [hy] at h2
    unfold AV.rel at h1 h2
    obtain ⟨cs, e1, hl⟩ := h1
    have ecs := relL_ints hl
    subst ecs
    subst hn
    obtain ⟨h0, hlt⟩ := inB_iff.1 hz
    have hg := inB_get hz
    unfold arrOf at ha
    split at ha <;> try (cases ha; done)
    rename_i n' e hu
    cases hi : P.info? e with
    | none => rw [hi] at ha; cases ha
    | some i =>
      rw [hi] at ha
      simp only [Option.map_some, Option.some.injEq, Prod.mk.injEq] at ha
      obtain ⟨rfl, he1⟩ := ha
      have hb : (0 : Int) ≤ z ∧ z < (ds.length : Int) := by omega
      refine ⟨.int k (ixD ds z), ?_, by unfold AV.rel; rfl⟩
      have hke : P.underlying e = some (.int k) := by
        unfold arrI at hk
        rw [hu] at hk
        simp only at hk
        split at hk
        · rename_i q he; cases hk; exact he
        · cases hk
      have hp := run_part_num (P := P) (w := w) (e := e) (k := k) (xs := (ds.map (Value.int k)).toArray) (off := z.toNat) (v := .int k (ixD ds z)) hke (by simp [hg])
      simp [execOp, ho, e1, h2, Instr.index, asIntOf, underlying, hu, hb, Go.sizeOf, typeInfo, hi, he1, hp]
end
end Mu
end
section
/-
  Images as data.
  Conditions: none; the types' numbers are this translation's.
-/
namespace Mu
open Go Go.RowKit Go.Proofs

structure Img where
  nw : Int
  words : List Int
  heap : Int
  many : Int
  entry : Int
  starts : List Int
  stacks : Int
def tImg : Ty Img := (tInt.cons ((Ty.int .u32).slice.cons (tInt.cons (tInt.cons (tInt.cons ((Ty.int .u32).slice.cons (tInt.cons Ty.none_))))))).via (fun x => ⟨x.1, x.2.1, x.2.2.1, x.2.2.2.1, x.2.2.2.2.1, x.2.2.2.2.2.1, x.2.2.2.2.2.2.1⟩) (fun d => (d.nw, d.words, d.heap, d.many, d.entry, d.starts, d.stacks, ()))
theorem tImg_R {w : World} {S : Nat → Prop} {cs : List Value} {x : Img} : tImg.RS w S cs x ↔ ∃ s1 s5 : Value, cs = [.int .i64 x.nw, s1, .int .i64 x.heap, .int .i64 x.many, .int .i64 x.entry, s5, .int .i64 x.stacks] ∧ wfI .i64 x.nw ∧ (Ty.int .u32).slice.RS w S [s1] x.words ∧ wfI .i64 x.heap ∧ wfI .i64 x.many ∧ wfI .i64 x.entry ∧ (Ty.int .u32).slice.RS w S [s5] x.starts ∧ wfI .i64 x.stacks := by
  constructor
  · rintro ⟨⟨_, _, rfl, ⟨rfl, h0⟩, _, _, rfl, h1, _, _, rfl, ⟨rfl, h2⟩, _, _, rfl, ⟨rfl, h3⟩, _, _, rfl, ⟨rfl, h4⟩, _, _, rfl, h5, _, _, rfl, ⟨rfl, h6⟩, rfl⟩, _⟩
    have k1 := h1
    obtain ⟨A1, c1, rfl, _⟩ := h1
    have k5 := h5
    obtain ⟨A5, c5, rfl, _⟩ := h5
    exact ⟨_, _, rfl, h0, k1, h2, h3, h4, k5, h6⟩
  · rintro ⟨s1, s5, rfl, h0, h1, h2, h3, h4, h5, h6⟩
    exact ⟨⟨[_], _, rfl, ⟨rfl, h0⟩, [_], _, rfl, h1, [_], _, rfl, ⟨rfl, h2⟩, [_], _, rfl, ⟨rfl, h3⟩, [_], _, rfl, ⟨rfl, h4⟩, [_], _, rfl, h5, [_], _, rfl, ⟨rfl, h6⟩, rfl⟩, rfl⟩
theorem opens_tImg : Opens Tryd.prog 25 tImg := opens_struct Tryd.underlying25 (by kernel_rfl) (opensF_cons rfl (by kernel_rfl) (opens_int Tryd.underlying3) (opensF_cons rfl (by kernel_rfl) (opens_slice Tryd.underlying23 (by kernel_rfl) (by decide) (opens_int Tryd.underlying39)) (opensF_cons rfl (by kernel_rfl) (opens_int Tryd.underlying3) (opensF_cons rfl (by kernel_rfl) (opens_int Tryd.underlying3) (opensF_cons rfl (by kernel_rfl) (opens_int Tryd.underlying3) (opensF_cons rfl (by kernel_rfl) (opens_slice Tryd.underlying23 (by kernel_rfl) (by decide) (opens_int Tryd.underlying39)) (opensF_cons rfl (by kernel_rfl) (opens_int Tryd.underlying3) opensF_nil))))))) (fun _ => rfl)
def encImg (x : Img) : List AV := [.lit (.int .i64 x.nw), .bs (Ty.int .u32) x.words, .lit (.int .i64 x.heap), .lit (.int .i64 x.many), .lit (.int .i64 x.entry), .bs (Ty.int .u32) x.starts, .lit (.int .i64 x.stacks)]
theorem enc_Img : Enc tImg encImg := by
  intro w S h ψ cs d H
  obtain ⟨s1, s5, rfl, h0, h1, h2, h3, h4, h5, h6⟩ := tImg_R.1 H
  simp only [encImg, AV.relL, AV.rel]
  exact ⟨_, _, rfl, rfl, _, _, rfl, h1, _, _, rfl, rfl, _, _, rfl, rfl, _, _, rfl, rfl, _, _, rfl, h5, _, _, rfl, rfl, rfl⟩
theorem one1_Img : One1 tImg := one1_of_enc enc_Img fun d x hx => by
  simp only [encImg, List.mem_cons, List.not_mem_nil, or_false] at hx
  rcases hx with rfl | rfl | rfl | rfl | rfl | rfl | rfl <;> first | exact .inl ⟨_, rfl, rfl⟩ | exact .inr ⟨_, _, _, rfl⟩
instance inMuImg1 : EncOf tImg encImg := ⟨enc_Img, one1_Img, by decide⟩
structure okImg (x : Img) : Prop where
  nw : wfI .i64 x.nw
  heap : wfI .i64 x.heap
  many : wfI .i64 x.many
  entry : wfI .i64 x.entry
  stacks : wfI .i64 x.stacks
theorem ok_Img {w : World} {S : Nat → Prop} {cs : List Value} {x : Img} (H : tImg.RS w S cs x) : okImg x := by
  obtain ⟨s1, s5, rfl, h0, h1, h2, h3, h4, h5, h6⟩ := tImg_R.1 H
  exact ⟨h0, h2, h3, h4, h6⟩
theorem plImg : places? Tryd.prog 25 = some [(0, 1), (1, 1), (2, 1), (3, 1), (4, 1), (5, 1), (6, 1)] := by kernel_rfl
instance inMuImg2 : AG Tryd.prog 25 true 7 := ⟨by kernel_rfl⟩
instance inMuImg3 : SZ Tryd.prog 25 7 := ⟨by kernel_rfl⟩
instance inMuImg4 : FO Tryd.prog 25 0 0 := ⟨by kernel_rfl⟩
instance inMuImg5 : FO Tryd.prog 25 1 1 := ⟨by kernel_rfl⟩
instance inMuImg6 : FO Tryd.prog 25 2 2 := ⟨by kernel_rfl⟩
instance inMuImg7 : FO Tryd.prog 25 3 3 := ⟨by kernel_rfl⟩
instance inMuImg8 : FO Tryd.prog 25 4 4 := ⟨by kernel_rfl⟩
instance inMuImg9 : FO Tryd.prog 25 5 5 := ⟨by kernel_rfl⟩
instance inMuImg10 : FO Tryd.prog 25 6 6 := ⟨by kernel_rfl⟩
instance inMuImg11 : ZC Tryd.prog 25 [.int .i64 0, .slice none 0 0, .int .i64 0, .int .i64 0, .int .i64 0, .slice none 0 0, .int .i64 0] := ⟨by kernel_rfl⟩
instance inMuImg13 : AG Tryd.prog 23 false 1 := ⟨by kernel_rfl⟩
instance inMuImg14 : SZ Tryd.prog 23 1 := ⟨by kernel_rfl⟩
instance inMuImg15 : ES Tryd.prog 23 1 := ⟨by kernel_rfl⟩
instance inMuImg16 : SL Tryd.prog 23 := ⟨by kernel_rfl⟩
instance inMuImg17 : RT Tryd.prog 23 39 1 4 := ⟨by kernel_rfl⟩
instance inMuImg22 : RT Tryd.prog 40 5 1 1 := ⟨by kernel_rfl⟩
instance inMuImg23 : AG Tryd.prog 5 false 1 := ⟨by kernel_rfl⟩
instance inMuImg24 : SZ Tryd.prog 5 1 := ⟨by kernel_rfl⟩
instance inMuImg25 : AG Tryd.prog 39 false 1 := ⟨by kernel_rfl⟩
instance inMuImg26 : SZ Tryd.prog 39 1 := ⟨by kernel_rfl⟩
end Mu
end
section
/-
  image.fits, address, slices.IndexFunc, ContainsFunc; image.May and the document's May.
  Conditions: rows of at most 2^31.
-/
namespace Mu
open Go Go.RowKit Go.Proofs

theorem Fin.eqb {h : List ABlk} {a b : Bool} (e : a = b) (hm : mkD h = [] := by rfl) : Fin h (.lit (.bool a)) (.lit (.bool b)) := by subst e; exact Fin.cl rfl hm
/-- an address is a multiple of four, of one of so many words -/
def fitsB (a m : Int) : Bool := decide (0 ≤ a ∧ a % 4 = 0 ∧ a < 4 * m)
theorem wrap_in {a : Int} (h : wfI .i64 a) : IntKind.i64.wrap a = a := IntWalk.i64_in _ (wfI_i64 h)
theorem fits_eq {a m : Int} (h : wfI .i64 a) : (decide (a ≥ 0) && a.tmod 4 == 0 && decide (IntKind.i64.wrap (a.tdiv 4) < m)) = fitsB a m := by
  have hb := wfI_i64 h
  unfold fitsB
  rw [Bool.eq_iff_iff]
  simp only [Bool.and_eq_true, decide_eq_true_eq, beq_iff_eq]
  constructor
  · rintro ⟨⟨h1, h2⟩, h3⟩
    rw [Int.tdiv_eq_ediv_of_nonneg h1, IntWalk.i64_in _ (by omega)] at h3
    rw [Int.tmod_eq_emod_of_nonneg h1] at h2
    omega
  · rintro ⟨h1, h2, h3⟩
    rw [Int.tdiv_eq_ediv_of_nonneg h1, IntWalk.i64_in _ (by omega), Int.tmod_eq_emod_of_nonneg h1]
    omega
theorem address_eq {a m : Int} (h : wfI .i64 a) (hm : 0 ≤ m ∧ m ≤ 2147483648) : (decide (a ≥ 0) && a.tmod 4 == 0 && decide (a < IntKind.i64.wrap (4 * m))) = fitsB a m := by
  have hb := wfI_i64 h
  unfold fitsB
  rw [Bool.eq_iff_iff]
  simp only [Bool.and_eq_true, decide_eq_true_eq, beq_iff_eq]
  rw [IntWalk.i64_in _ (by omega)]
  constructor
  · rintro ⟨⟨h1, h2⟩, h3⟩
    rw [Int.tmod_eq_emod_of_nonneg h1] at h2
    omega
  · rintro ⟨h1, h2, h3⟩
    rw [Int.tmod_eq_emod_of_nonneg h1]
    omega
set_option maxRecDepth 100000 in
theorem fits_fn (a m : Int) (h : wfI .i64 a) : Fn Tryd.prog 41 [.lit (.int .i64 a), .lit (.int .i64 m)] (.lit (.bool (fitsB a m))) := by
  refine Fn.of_awp Tryd.func41 rfl (by kernel_rfl) rfl Tryd.ntmps41 fun C hC => ?_
  simp only [List.length_cons, List.length_nil, Nat.reduceAdd, Nat.reduceSub, List.replicate_succ, List.replicate_zero, List.cons_append, List.nil_append]
  refine wR (hk := ?_)
  refine wR (hk := ?_)
  exact Awp.ret ⟨.inr rfl, Fin.eqb (fits_eq h)⟩
set_option maxRecDepth 100000 in
theorem address_fn (a m : Int) (h : wfI .i64 a) (hm : 0 ≤ m ∧ m ≤ 2147483648) : Fn Tryd.prog 42 [.lit (.int .i64 a), .lit (.int .i64 m)] (.lit (.bool (fitsB a m))) := by
  refine Fn.of_awp Tryd.func42 rfl (by kernel_rfl) rfl Tryd.ntmps42 fun C hC => ?_
  simp only [List.length_cons, List.length_nil, Nat.reduceAdd, Nat.reduceSub, List.replicate_succ, List.replicate_zero, List.cons_append, List.nil_append]
  refine wR (hk := ?_)
  refine wR (hk := ?_)
  exact Awp.ret ⟨.inr rfl, Fin.eqb (address_eq h hm)⟩

theorem wf_u32_i64 {a : Int} (h : wfI .u32 a) : wfI .i64 a := by
  have := wfI_u32 h
  simp [wfI, Lit.wf, IntKind.min, IntKind.max, IntKind.signed, IntKind.bits]
  omega
set_option maxRecDepth 100000 in
theorem may1_fn (a n : Int) (h : wfI .u32 a) : Fn Tryd.prog 40 [.lit (.int .u32 a), .bp (Ty.int .i64) n 0] (.lit (.bool (!fitsB a n))) := by
  have hcv : IntKind.wrap .i64 a = a := wrap_in (wf_u32_i64 h)
  have hf := fits_fn a n (wf_u32_i64 h)
  refine Fn.of_awp Tryd.func40 rfl (by kernel_rfl) rfl Tryd.ntmps40 fun C hC => ?_
  simp only [List.length_cons, List.length_nil, Nat.reduceAdd, Nat.reduceSub, List.replicate_succ, List.replicate_zero, List.cons_append, List.nil_append]
  refine wR (hk := ?_)
  refine wR (hk := ?_)
  exact Awp.ret ⟨.inr rfl, Fin.cl rfl⟩

/-- where the first one is of which something holds; -1: there is none -/
def idxF (p : Int → Bool) (l : List Int) : Int := match l.findIdx? p with | some i => (i : Int) | none => -1
theorem idxF_at {p : Int → Bool} {l : List Int} {k : Nat} (h : ∀ x ∈ l.take k, p x = false) {x : Int} (hx : l[k]? = some x) (hp : p x = true) : idxF p l = (k : Int) := by
  have : l.findIdx? p = some k := by
    rw [List.findIdx?_eq_some_iff_getElem]
    obtain ⟨hk, e⟩ := List.getElem?_eq_some_iff.1 hx
    refine ⟨hk, by rw [e]; exact hp, fun j hj => ?_⟩
    have := h (l[j]'(by omega)) (by
      rw [List.mem_take_iff_getElem]
      exact ⟨j, by omega, rfl⟩)
    rw [this]
    simp
  unfold idxF
  rw [this]
theorem idxF_none {p : Int → Bool} {l : List Int} (h : ∀ x ∈ l, p x = false) : idxF p l = -1 := by
  have : l.findIdx? p = none := by
    rw [List.findIdx?_eq_none_iff]
    exact h
  unfold idxF
  rw [this]
theorem take_snoc_all {p : Int → Bool} {l : List Int} {k : Nat} (h : ∀ x ∈ l.take k, p x = false) {x : Int} (hx : l[k]? = some x) (hp : p x = false) : ∀ y ∈ l.take (k + 1), p y = false := by
  rw [List.take_add_one, hx]
  intro y hy
  rcases List.mem_append.1 hy with hy | hy
  · exact h y hy
  · rw [List.mem_singleton.1 hy]; exact hp
set_option maxRecDepth 100000 in
theorem indexFunc_fn (l : List Int) (hl : l.length ≤ 2147483648) (f : FuncId) (caps : List AV) (hcl : AV.clL caps = true) (p : Int → Bool) (hp : ∀ x ∈ l, Fn Tryd.prog f (.lit (.int .u32 x) :: caps) (.lit (.bool (p x)))) : Fn Tryd.prog 60 [.bs (Ty.int .u32) l, .fn f caps] (.lit (.int .i64 (idxF p l))) := by
  have hcf : AV.cl (.fn f caps) = true := by unfold AV.cl; exact hcl
  refine Fn.of_awp Tryd.func60 rfl (by kernel_rfl) rfl Tryd.ntmps60 fun C hC => ?_
  simp only [List.length_cons, List.length_nil, Nat.reduceAdd, Nat.reduceSub, List.replicate_succ, List.replicate_zero, List.cons_append, List.nil_append]
  refine wR (hk := ?_)
  refine Awp.seq fun K2 h2 => ?_
  refine wR (hk := ?_)
  refine Awp.block ?_
  refine Awp.loopF (fun k : Nat => ⟨[.bs (Ty.int .u32) l, .fn f caps, .any, .any, .any, .any, .any, .lit (.int .i64 (l.length : Int)), .lit (.int .i64 (k : Int)), .any, .any, .any, .any, .any, .any, .any, .any, .any, .any], []⟩) (fun k => k ≤ l.length ∧ ∀ x ∈ l.take k, p x = false) (fun k => l.length - k) 0 ⟨Nat.zero_le _, by simp⟩ (le_TA) ?_
  rintro k ⟨hk, hno⟩
  refine wR (hk := ?_)
  refine Awp.seq fun K6 h6 => ?_
  refine Awp.cond rfl (fun hb7 => ?_) (fun hb7 => ?_)
  · have hlt : k < l.length := by simpa using hb7
    obtain ⟨x, hx⟩ : ∃ x, l[k]? = some x := ⟨_, List.getElem?_eq_getElem hlt⟩
    have hpx := hp x (List.mem_of_getElem? hx)
    refine Awp.skip ?_
    refine h6 _ ?_
    refine nT (hk := ?_)
    refine Awp.seq fun K8 h8 => ?_
    refine Awp.block ?_
    refine wR (hk := ?_)
    refine wR (hk := ?_)
    refine Awp.cond rfl (fun hb11 => ?_) (fun hb11 => ?_)
    · refine wR (hk := ?_)
      rw [idxF_at hno hx hb11]
      exact Awp.ret ⟨.inr rfl, Fin.cl rfl⟩
    · refine Awp.skip ?_
      refine h8 _ ?_
      refine nT (hk := ?_)
      refine wRE (hk := ?_)
      refine athen_n ⟨k + 1, ⟨by omega, take_snoc_all hno hx hb11⟩, by omega, le_TA⟩
  · refine Awp.exit ?_
    refine h2 _ ?_
    refine nT (hk := ?_)
    refine wR (hk := ?_)
    have hke : k = l.length := by have : ¬ k < l.length := (by simpa using hb7); omega
    rw [idxF_none (by rw [hke, List.take_length] at hno; exact hno)]
    exact Awp.ret ⟨.inr rfl, Fin.cl rfl⟩
theorem idxF_any {p : Int → Bool} {l : List Int} : decide (idxF p l ≥ 0) = l.any p := by
  unfold idxF
  cases h : l.findIdx? p with
  | none =>
    rw [List.findIdx?_eq_none_iff] at h
    have : l.any p = false := by rw [List.any_eq_false]; intro x hx; rw [h x hx]; simp
    rw [this]
    rfl
  | some i =>
    rw [List.findIdx?_eq_some_iff_getElem] at h
    obtain ⟨hi, hp, _⟩ := h
    have : l.any p = true := List.any_eq_true.2 ⟨_, List.getElem_mem hi, hp⟩
    rw [this]
    exact decide_eq_true (by simp only; omega)
set_option maxRecDepth 100000 in
theorem containsFunc_fn (l : List Int) (hl : l.length ≤ 2147483648) (f : FuncId) (caps : List AV) (hcl : AV.clL caps = true) (p : Int → Bool) (hp : ∀ x ∈ l, Fn Tryd.prog f (.lit (.int .u32 x) :: caps) (.lit (.bool (p x)))) : Fn Tryd.prog 39 [.bs (Ty.int .u32) l, .fn f caps] (.lit (.bool (l.any p))) := by
  have hcf : AV.cl (.fn f caps) = true := by unfold AV.cl; exact hcl
  have hI := indexFunc_fn l hl f caps hcl p hp
  refine Fn.of_awp Tryd.func39 rfl (by kernel_rfl) rfl Tryd.ntmps39 fun C hC => ?_
  simp only [List.length_cons, List.length_nil, Nat.reduceAdd, Nat.reduceSub, List.replicate_succ, List.replicate_zero, List.cons_append, List.nil_append]
  refine wR (hk := ?_)
  refine wR (hx := by ((repeat (first | refine sA (hq := Quiet.call rfl hI rfl (by show (true && (AV.cl (.fn f caps) && true)) = true; rw [hcf]; rfl) rfl) (hk := ?_) | refine sA (hk := ?_) | refine sSkip (hk := ?_) | refine sAG (hq := by (intro hg; (try simp only [Bool.and_eq_true, beq_true, beq_false, Bool.not_eq_true', Bool.not_eq_eq_eq_not, Bool.not_true, Bool.not_false] at hg); (try simp only [hg, beq_true, beq_false, cond_true, Bool.true_and, Bool.and_true, Bool.not_false, Bool.not_true, beq_self_eq_true]); exact Quiet.call rfl hI rfl (by show (true && (AV.cl (.fn f caps) && true)) = true; rw [hcf]; rfl) rfl)) (hk := ?_) | refine sAG (hk := ?_) | refine sOwn (hk := ?_))); exact wEnd rfl)) (hk := ?_)
  exact Awp.ret ⟨.inr rfl, Fin.eqb idxF_any⟩
end Mu
end
section
/-
  image.May and the document's May: which images may be.
  Conditions: data of at most 2^31.
-/
namespace Mu
open Go Go.RowKit Go.Proofs

/-- an image that may be -/
def MayP (x : Img) : Prop :=
  ((2 ≤ x.nw ∧ x.nw ≤ 32) ∧ (x.words.length : Int) ≤ 1048576 ∧ (x.starts.length : Int) ≤ 4) ∧ ((0 ≤ x.heap ∧ x.heap % 4 = 0) ∧ (0 ≤ x.many ∧ x.many ≤ x.words.length) ∧ x.heap / 4 + x.many ≤ x.words.length) ∧
  (fitsB x.entry x.words.length = true ∨ (x.words.length : Int) = 0 ∧ x.entry = 0) ∧ (∀ a ∈ x.starts, fitsB a x.words.length = true) ∧ (4 * (x.words.length : Int) ≤ x.stacks ∧ x.stacks ≤ 4194304 ∧ x.stacks % 8 = 0)
instance decMayP (x : Img) : Decidable (MayP x) := by unfold MayP; infer_instance
def mayB (x : Img) : Bool := decide (MayP x)
theorem mayB_iff {x : Img} : mayB x = true ↔ MayP x := decide_eq_true_iff
structure FineImg (x : Img) : Prop where
  ok : okImg x
  w : x.words.length ≤ 1000000000
  s : x.starts.length ≤ 1000000000
  wfs : ∀ a ∈ x.starts, wfI .u32 a
  wfw : ∀ a ∈ x.words, wfI .u32 a
theorem any_not {l : List Int} {n : Int} : (l.any fun a => !fitsB a n) = false ↔ ∀ a ∈ l, fitsB a n = true := by
  rw [List.any_eq_false]
  constructor
  · intro h a ha
    have := h a ha
    simpa using this
  · intro h a ha
    simp [h a ha]
theorem heap_eq {h m n : Int} (hw : wfI .i64 h) (_hm : wfI .i64 m) (hn : 0 ≤ n ∧ n ≤ 2147483648) :
    (decide (h ≥ 0) && h.tmod 4 == 0 && decide (m ≥ 0) && decide (m ≤ n) && decide (IntKind.i64.wrap (h.tdiv 4) ≤ IntKind.i64.wrap (n - m))) = decide ((0 ≤ h ∧ h % 4 = 0) ∧ (0 ≤ m ∧ m ≤ n) ∧ h / 4 + m ≤ n) := by
  have hb := wfI_i64 hw
  rw [Bool.eq_iff_iff]
  simp only [Bool.and_eq_true, decide_eq_true_eq, beq_iff_eq]
  constructor
  · rintro ⟨⟨⟨⟨h1, h2⟩, h3⟩, h4⟩, h5⟩
    rw [Int.tdiv_eq_ediv_of_nonneg h1, IntWalk.i64_in _ (by omega), IntWalk.i64_in _ (by omega)] at h5
    rw [Int.tmod_eq_emod_of_nonneg h1] at h2
    omega
  · rintro ⟨⟨h1, h2⟩, ⟨h3, h4⟩, h5⟩
    rw [Int.tdiv_eq_ediv_of_nonneg h1, IntWalk.i64_in _ (by omega), IntWalk.i64_in _ (by omega), Int.tmod_eq_emod_of_nonneg h1]
    omega
theorem stacks_eq {s n : Int} (hw : wfI .i64 s) (hn : 0 ≤ n ∧ n ≤ 2147483648) :
    (decide (s ≥ 0) && decide (s ≤ 4194304) && s.tmod 8 == 0 && decide (s ≥ IntKind.i64.wrap (4 * n))) = decide (4 * n ≤ s ∧ s ≤ 4194304 ∧ s % 8 = 0) := by
  have hb := wfI_i64 hw
  rw [Bool.eq_iff_iff, IntWalk.i64_in _ (by omega)]
  simp only [Bool.and_eq_true, decide_eq_true_eq, beq_iff_eq]
  constructor
  · rintro ⟨⟨⟨h1, h2⟩, h3⟩, h4⟩
    rw [Int.tmod_eq_emod_of_nonneg h1] at h3
    omega
  · rintro ⟨h1, h2, h3⟩
    rw [Int.tmod_eq_emod_of_nonneg (by omega)]
    omega
set_option maxRecDepth 100000 in
set_option maxHeartbeats 2000000 in
theorem may_fn (x : Img) (H : FineImg x) : Fn Tryd.prog 17 [.agg (encImg x)] (.lit (.bool (mayB x))) := by
  have hn0 : 0 ≤ (x.words.length : Int) ∧ (x.words.length : Int) ≤ 2147483648 := by have := H.w; omega
  have hnw : wfI .i64 (x.words.length : Int) := by
    have := H.w
    simp [wfI, Lit.wf, IntKind.min, IntKind.max, IntKind.signed, IntKind.bits]
    omega
  have hC1 := containsFunc_fn x.starts (by have := H.s; omega) 40 [.bp (Ty.int .i64) (x.words.length : Int) 0] rfl (fun a => !fitsB a x.words.length) fun a ha => may1_fn a _ (H.wfs a ha)
  have hft := fits_fn x.entry x.words.length H.ok.entry
  refine Fn.of_awp Tryd.func17 rfl (by kernel_rfl) rfl Tryd.ntmps17 fun C hC => ?_
  simp only [List.length_cons, List.length_nil, Nat.reduceAdd, Nat.reduceSub, List.replicate_succ, List.replicate_zero, List.cons_append, List.nil_append]
  refine wR (hk := ?_)
  refine wR (hk := ?_)
  refine wR (hk := ?_)
  refine wR (hk := ?_)
  refine wR (hx := by ((repeat (first | refine sA (hq := Quiet.callL rfl hC1 (.cons (.cl rfl) (.cons (.fn (.cons (.boxI rfl rfl hnw) .nil)) .nil))) (hk := ?_) | refine sA (hk := ?_) | refine sSkip (hk := ?_) | refine sAG (hq := by (intro hg; (try simp only [Bool.and_eq_true, beq_true, beq_false, Bool.not_eq_true', Bool.not_eq_eq_eq_not, Bool.not_true, Bool.not_false] at hg); (try simp only [hg, beq_true, beq_false, cond_true, Bool.true_and, Bool.and_true, Bool.not_false, Bool.not_true, beq_self_eq_true]); exact Quiet.callL rfl hC1 (.cons (.cl rfl) (.cons (.fn (.cons (.boxI rfl rfl hnw) .nil)) .nil)))) (hk := ?_) | refine sAG (hk := ?_) | refine sOwn (hk := ?_))); exact wEnd rfl)) (hk := ?_)
  have e4 := heap_eq H.ok.heap H.ok.many hn0
  have e5 := stacks_eq H.ok.stacks hn0
  refine wR (hk := ?_)
  refine Awp.ret ⟨.inr rfl, Fin.eqb ?_⟩
  rw [e4, e5]
  rw [Bool.eq_iff_iff, mayB_iff]
  unfold MayP
  simp only [Bool.and_eq_true, Bool.or_eq_true, decide_eq_true_eq, beq_iff_eq, Bool.not_eq_true', any_not]
  constructor
  · rintro ⟨⟨⟨⟨⟨⟨⟨h1, h2⟩, h3⟩, h4⟩, h5⟩, h6⟩, h7⟩, h8⟩
    exact ⟨⟨⟨h1, h2⟩, h3, h4⟩, h5, h8, h7, h6⟩
  · rintro ⟨⟨⟨h1, h2⟩, h3, h4⟩, h5, h8, h7, h6⟩
    exact ⟨⟨⟨⟨⟨⟨⟨h1, h2⟩, h3⟩, h4⟩, h5⟩, h6⟩, h7⟩, h8⟩
theorem fits_all_take {l : List Int} {k : Nat} {n : Int} (h : ∀ a ∈ l.take k, fitsB a n = true) {x : Int} (hx : l[k]? = some x) (hp : fitsB x n = true) : ∀ a ∈ l.take (k + 1), fitsB a n = true := by
  rw [List.take_add_one, hx]
  intro y hy
  rcases List.mem_append.1 hy with hy | hy
  · exact h y hy
  · rw [List.mem_singleton.1 hy]; exact hp
theorem refMay1 {x : Img} (H : FineImg x) {n : Int} (hn : n = x.words.length) :
    (decide (x.nw < 2) || decide (x.nw > 32) || decide (n > 1048576) || decide ((x.starts.length : Int) > 4) || decide (x.heap < 0) || x.heap.tmod 4 != 0 || decide (x.many < 0) || decide (x.many > n) || decide (IntKind.i64.wrap (IntKind.i64.wrap (x.heap.tdiv 4) + x.many) > n)) =
    !decide (((2 ≤ x.nw ∧ x.nw ≤ 32) ∧ n ≤ 1048576 ∧ (x.starts.length : Int) ≤ 4) ∧ ((0 ≤ x.heap ∧ x.heap % 4 = 0) ∧ (0 ≤ x.many ∧ x.many ≤ n) ∧ x.heap / 4 + x.many ≤ n)) := by
  have hb := wfI_i64 H.ok.heap
  have hw := H.w
  rw [Bool.eq_iff_iff]
  simp only [Bool.or_eq_true, decide_eq_true_eq, bne_iff_ne, Bool.not_eq_true', decide_eq_false_iff_not]
  by_cases h1 : 0 ≤ x.heap
  · rw [Int.tmod_eq_emod_of_nonneg h1, Int.tdiv_eq_ediv_of_nonneg h1, IntWalk.i64_in (x.heap / 4) (by omega)]
    by_cases h2 : 0 ≤ x.many ∧ x.many ≤ n
    · rw [IntWalk.i64_in (x.heap / 4 + x.many) (by omega)]
      omega
    · constructor <;> intro h <;> omega
  · constructor <;> intro h <;> omega
set_option maxRecDepth 100000 in
set_option maxHeartbeats 2000000 in
theorem refMay_fn (x : Img) (H : FineImg x) : Fn Tryd.prog 18 [.agg (encImg x)] (.lit (.bool (mayB x))) := by
  have hn0 : 0 ≤ (x.words.length : Int) ∧ (x.words.length : Int) ≤ 2147483648 := by have := H.w; omega
  have hs0 := H.s
  have hft := address_fn x.entry x.words.length H.ok.entry hn0
  refine Fn.of_awp Tryd.func18 rfl (by kernel_rfl) rfl Tryd.ntmps18 fun C hC => ?_
  simp only [List.length_cons, List.length_nil, Nat.reduceAdd, Nat.reduceSub, List.replicate_succ, List.replicate_zero, List.cons_append, List.nil_append]
  refine wR (hk := ?_)
  refine wR (hk := ?_)
  refine Awp.seq fun K3 h3 => ?_
  refine wR (hk := ?_)
  have e1 := refMay1 H rfl
  refine Awp.cond rfl (fun hb5 => ?_) (fun hb5 => ?_)
  · refine wR (hk := ?_)
    have hb : (!decide _) = true := e1.symm.trans hb5
    have : mayB x = false := decide_eq_false fun h => by
      rw [decide_eq_true ⟨h.1, h.2.1⟩] at hb
      cases hb
    rw [this]
    exact Awp.ret ⟨.inr rfl, Fin.cl rfl⟩
  · have hb : (!decide _) = false := e1.symm.trans hb5
    have hA := of_decide_eq_true (by simpa using hb)
    refine Awp.skip ?_
    refine h3 _ ?_
    refine nT (hk := ?_)
    refine Awp.seq fun K8 h8 => ?_
    refine wR (hk := ?_)
    refine Awp.cond rfl (fun hb10 => ?_) (fun hb10 => ?_)
    · refine wR (hk := ?_)
      have hc : (x.words.length : Int) == 0 && x.entry != 0 || decide ((x.words.length : Int) > 0) && !fitsB x.entry x.words.length := by
        first | exact hb10 | simpa using hb10
      have : mayB x = false := decide_eq_false fun h => by
        obtain ⟨_, _, h3, _⟩ := h
        simp only [Bool.or_eq_true, Bool.and_eq_true, beq_iff_eq, bne_iff_ne, decide_eq_true_eq, Bool.not_eq_true'] at hc
        rcases h3 with h3 | ⟨h3, h4⟩
        · rcases hc with ⟨hc, _⟩ | ⟨_, hc⟩
          · unfold fitsB at h3
            have := of_decide_eq_true h3
            omega
          · rw [hc] at h3; cases h3
        · rcases hc with ⟨_, hc⟩ | ⟨hc, _⟩ <;> omega
      rw [this]
      exact Awp.ret ⟨.inr rfl, Fin.cl rfl⟩
    · have hc : ¬ ((x.words.length : Int) == 0 && x.entry != 0 || decide ((x.words.length : Int) > 0) && !fitsB x.entry x.words.length) = true := fun h => by
        have : _ = false := hb10
        first | (rw [show ((x.words.length : Int) == 0 && x.entry != 0 || decide ((x.words.length : Int) > 0) && !fitsB x.entry x.words.length) = false from hb10] at h; cases h) | simp_all
      have hE : fitsB x.entry x.words.length = true ∨ (x.words.length : Int) = 0 ∧ x.entry = 0 := by
        simp only [Bool.or_eq_true, Bool.and_eq_true, beq_iff_eq, bne_iff_ne, decide_eq_true_eq, Bool.not_eq_true', not_or, not_and, Bool.not_eq_false] at hc
        by_cases h0 : (x.words.length : Int) = 0
        · exact .inr ⟨h0, Classical.not_not.1 (hc.1 h0)⟩
        · exact .inl (hc.2 (by omega))
      refine Awp.skip ?_
      refine h8 _ ?_
      refine nT (hk := ?_)
      refine Awp.seq fun K13 h13 => ?_
      refine wR (hk := ?_)
      refine Awp.block ?_
      refine Awp.loopF (fun k : Nat => ⟨[.any, .ptr 0 0, .any, .lit (.int .i64 (x.words.length : Int)), .lit (.int .i64 (k : Int)), .any, .any, .any, .any, .any, .any, .any, .any, .any, .any, .any, .any, .any, .any, .any, .any, .any, .any, .any, .any, .any, .any, .any, .any, .any, .any, .any, .any, .any, .any, .any, .any, .any, .any, .any, .any, .any, .any, .any, .any, .any, .any, .any, .any, .any, .any, .any, .any, .any, .any, .any, .any, .any, .any, .any, .any, .any, .any, .any, .any, .any, .any, .any, .any, .any, .any, .any, .any, .any, .any, .any, .any, .any, .any, .any, .any, .any, .any, .any, .any, .any, .any, .any, .any, .any, .any, .any, .any, .any, .any, .any, .any, .any, .any, .any, .any, .any, .any, .any, .any, .any, .any, .any], [.box (encImg x)]⟩) (fun k => k ≤ x.starts.length ∧ ∀ a ∈ x.starts.take k, fitsB a x.words.length = true) (fun k => x.starts.length - k) 0 ⟨Nat.zero_le _, by simp⟩ (le_TA) ?_
      rintro k ⟨hk, hal⟩
      refine Awp.seq fun K16 h16 => ?_
      refine wR (hk := ?_)
      refine Awp.cond rfl (fun hb18 => ?_) (fun hb18 => ?_)
      · have hlt : k < x.starts.length := by simpa using hb18
        obtain ⟨a, ha⟩ : ∃ a, x.starts[k]? = some a := ⟨_, List.getElem?_eq_getElem hlt⟩
        have haw := H.wfs a (List.mem_of_getElem? ha)
        have hcv : IntKind.wrap .i64 a = a := wrap_in (wf_u32_i64 haw)
        have had := address_fn a x.words.length (wf_u32_i64 haw) hn0
        refine Awp.skip ?_
        refine h16 _ ?_
        refine nT (hk := ?_)
        refine Awp.seq fun K19 h19 => ?_
        refine Awp.block ?_
        refine wR (hk := ?_)
        refine Awp.cond rfl (fun hb21 => ?_) (fun hb21 => ?_)
        · refine wR (hk := ?_)
          have : mayB x = false := decide_eq_false fun h => by
            have h1 := h.2.2.2.1 a (List.mem_of_getElem? ha)
            have h2 : (!fitsB a x.words.length) = true := hb21
            rw [h1] at h2
            cases h2
          rw [this]
          exact Awp.ret ⟨.inr rfl, Fin.cl rfl⟩
        · refine Awp.skip ?_
          refine h19 _ ?_
          refine nT (hk := ?_)
          refine wRE (hk := ?_)
          refine athen_n ⟨k + 1, ⟨by omega, fits_all_take hal ha (by have h2 : (!fitsB a x.words.length) = false := hb21; simpa using h2)⟩, by omega, le_TA⟩
      · refine Awp.exit ?_
        refine h13 _ ?_
        refine nT (hk := ?_)
        have hke : k = x.starts.length := by have : ¬ k < x.starts.length := (by simpa using hb18); omega
        have hal : ∀ a ∈ x.starts, fitsB a x.words.length = true := by rw [hke, List.take_length] at hal; exact hal
        refine wR (hk := ?_)
        refine Awp.ret ⟨.inr rfl, Fin.eqb ?_⟩
        have e5 : (decide (x.stacks ≥ IntKind.i64.wrap (4 * (x.words.length : Int))) && decide (x.stacks ≤ 4194304) && x.stacks.tmod 8 == 0) = decide (4 * (x.words.length : Int) ≤ x.stacks ∧ x.stacks ≤ 4194304 ∧ x.stacks % 8 = 0) := by
          rw [Bool.eq_iff_iff, IntWalk.i64_in _ (by omega)]
          simp only [Bool.and_eq_true, decide_eq_true_eq, beq_iff_eq]
          constructor
          · rintro ⟨⟨h1, h2⟩, h3⟩
            rw [Int.tmod_eq_emod_of_nonneg (by omega)] at h3
            omega
          · rintro ⟨h1, h2, h3⟩
            rw [Int.tmod_eq_emod_of_nonneg (by omega)]
            omega
        rw [e5]
        rw [Bool.eq_iff_iff, mayB_iff, decide_eq_true_eq]
        unfold MayP
        exact ⟨fun h => ⟨hA.1, hA.2, hE, hal, h⟩, fun h => h.2.2.2.2⟩
end Mu
end
section
/-
  Numbers as bytes: four, sum, put, image.Put; the document's Bytes, Numbers, Put.
  Conditions: rows of at most 2^31.
-/
namespace Mu
open Go Go.RowKit Go.Proofs

theorem bytesOf_append (a b : List Int) : bytesOf (a ++ b) = bytesOf a ++ bytesOf b := by
  unfold bytesOf
  apply ByteArray.ext
  rw [ByteArray.data_append]
  simp
def bytes4 (n : Int) : List Int := [n / 16777216, n / 65536 % 256, n / 256 % 256, n % 256]
def allU32 (l : List Int) : Prop := ∀ a ∈ l, wfI .u32 a
theorem u8_of {a : Int} (h0 : 0 ≤ a) (h1 : a ≤ 255) : wfI .u8 a := by
  simp [wfI, Lit.wf, IntKind.min, IntKind.max, IntKind.signed, IntKind.bits]
  omega
theorem bytes4_u8 {n : Int} (h : wfI .u32 n) : wfI .u8 (n / 16777216) ∧ wfI .u8 (n / 65536 % 256) ∧ wfI .u8 (n / 256 % 256) ∧ wfI .u8 (n % 256) := by
  have := wfI_u32 h
  exact ⟨u8_of (by omega) (by omega), u8_of (by omega) (by omega), u8_of (by omega) (by omega), u8_of (by omega) (by omega)⟩
theorem wrap_u8m (a : Int) : IntKind.u8.wrap a = a % 256 := by
  simp [IntKind.wrap, IntKind.signed, IntKind.bits]
theorem wrap_u32m (a : Int) : IntKind.u32.wrap a = a % 4294967296 := by
  simp [IntKind.wrap, IntKind.signed, IntKind.bits]
theorem quo_u32 {a : Int} (m : Int) (hm : 0 < m) (h : wfI .u32 a) : intBin .quo .u32 a m = some (.int .u32 (a / m)) := by
  have hb := wfI_u32 h
  unfold intBin
  simp only
  have h1 : 0 ≤ a / m := Int.ediv_nonneg hb.1 (by omega)
  have h2 : a / m ≤ a := Int.ediv_le_self _ hb.1
  rw [if_neg (by omega), Int.tdiv_eq_ediv_of_nonneg hb.1, wrap_u32m, Int.emod_eq_of_lt h1 (by omega)]
theorem rem_u32 {a m : Int} (hm : 0 < m) (h : 0 ≤ a) : intBin .rem .u32 a m = some (.int .u32 (a % m)) := by
  unfold intBin
  simp only
  rw [if_neg (by omega), Int.tmod_eq_emod_of_nonneg h]
theorem div_nn {a : Int} (m : Int) (hm : 0 < m) (h : wfI .u32 a) : 0 ≤ a / m := Int.ediv_nonneg (wfI_u32 h).1 (by omega)
set_option maxRecDepth 100000 in
set_option maxHeartbeats 2000000 in
theorem four_fn (n : Int) (h : wfI .u32 n) : Fn Tryd.prog 53 [.lit (.int .u32 n)] (.lit (.string (bytesOf (bytes4 n)))) := by
  have hb := wfI_u32 h
  obtain ⟨w1, w2, w3, w4⟩ := bytes4_u8 h
  have q1 := quo_u32 16777216 (by decide) h
  have q2 := quo_u32 65536 (by decide) h
  have q3 := quo_u32 256 (by decide) h
  have r2 := rem_u32 (m := 256) (by decide) (div_nn 65536 (by decide) h)
  have r3 := rem_u32 (m := 256) (by decide) (div_nn 256 (by decide) h)
  have r4 := rem_u32 (m := 256) (by decide) hb.1
  have c1 : IntKind.u8.wrap (n / 16777216) = n / 16777216 := by rw [wrap_u8m]; omega
  have c2 : IntKind.u8.wrap (n / 65536 % 256) = n / 65536 % 256 := by rw [wrap_u8m]; omega
  have c3 : IntKind.u8.wrap (n / 256 % 256) = n / 256 % 256 := by rw [wrap_u8m]; omega
  have c4 : IntKind.u8.wrap (n % 256) = n % 256 := by rw [wrap_u8m]; omega
  refine Fn.of_awp Tryd.func53 rfl (by kernel_rfl) rfl Tryd.ntmps53 fun C hC => ?_
  simp only [List.length_cons, List.length_nil, Nat.reduceAdd, Nat.reduceSub, List.replicate_succ, List.replicate_zero, List.cons_append, List.nil_append]
  refine wR (hk := ?_)
  refine wR (hx := by ((repeat (first | refine sA (hq := Quiet.lt (xs := [.tmp 5, .tmp 9, .tmp 13, .tmp 16]) (T := Ty.int .u8) (ds := bytes4 n) rfl rfl rfl (by rfl) (by decide) (.cons (Fit.int w1) (.cons (Fit.int w2) (.cons (Fit.int w3) (.cons (Fit.int w4) .nil))))) (hk := ?_) | refine sA (hk := ?_) | refine sSkip (hk := ?_) | refine sAG (hq := by (intro hg; (try simp only [Bool.and_eq_true, beq_true, beq_false, Bool.not_eq_true', Bool.not_eq_eq_eq_not, Bool.not_true, Bool.not_false] at hg); (try simp only [hg, beq_true, beq_false, cond_true, Bool.true_and, Bool.and_true, Bool.not_false, Bool.not_true, beq_self_eq_true]); exact Quiet.lt (xs := [.tmp 5, .tmp 9, .tmp 13, .tmp 16]) (T := Ty.int .u8) (ds := bytes4 n) rfl rfl rfl (by rfl) (by decide) (.cons (Fit.int w1) (.cons (Fit.int w2) (.cons (Fit.int w3) (.cons (Fit.int w4) .nil)))))) (hk := ?_) | refine sAG (hk := ?_) | refine sOwn (hk := ?_))); exact wEnd rfl)) (hk := ?_)
  exact Awp.ret ⟨.inr rfl, Fin.cl rfl⟩

/-- the check of numbers -/
def sumF (l : List Int) : Int := l.foldl (fun w n => (3 * (w + n)) % 4294967296) 1
theorem sumF_next {l : List Int} {k : Nat} {x : Int} (h : l[k]? = some x) : sumF (l.take (k + 1)) = (3 * (sumF (l.take k) + x)) % 4294967296 := by
  unfold sumF
  rw [List.take_add_one, h, List.foldl_append]
  rfl
theorem sumF_wf (l : List Int) : wfI .u32 (sumF l) := by
  have : ∀ (l : List Int) (w : Int), (0 ≤ w ∧ w ≤ 4294967295) → 0 ≤ l.foldl (fun w n => (3 * (w + n)) % 4294967296) w ∧ l.foldl (fun w n => (3 * (w + n)) % 4294967296) w ≤ 4294967295 := by
    intro l
    induction l with
    | nil => intro w h; exact h
    | cons x l ih => intro w h; exact ih _ ⟨by dsimp only; omega, by dsimp only; omega⟩
  have := this l 1 ⟨by decide, by decide⟩
  unfold sumF
  simp [wfI, Lit.wf, IntKind.min, IntKind.max, IntKind.signed, IntKind.bits]
  omega
theorem sum_step (w x : Int) : IntKind.u32.wrap (3 * IntKind.u32.wrap (w + x)) = (3 * (w + x)) % 4294967296 := by
  rw [wrap_u32m, wrap_u32m]
  omega
theorem sum_step' (w x : Int) : IntKind.u32.wrap (IntKind.u32.wrap (w + x) * 3) = (3 * (w + x)) % 4294967296 := by
  rw [wrap_u32m, wrap_u32m]
  omega
set_option maxRecDepth 100000 in
theorem sum_fn (l : List Int) (hl : l.length ≤ 2147483648) : Fn Tryd.prog 22 [.bs (Ty.int .u32) l] (.lit (.int .u32 (sumF l))) := by
  refine Fn.of_awp Tryd.func22 rfl (by kernel_rfl) rfl Tryd.ntmps22 fun C hC => ?_
  simp only [List.length_cons, List.length_nil, Nat.reduceAdd, Nat.reduceSub, List.replicate_succ, List.replicate_zero, List.cons_append, List.nil_append]
  refine wR (hk := ?_)
  refine wR (hk := ?_)
  refine Awp.seq fun K3 h3 => ?_
  refine wR (hk := ?_)
  refine Awp.block ?_
  refine Awp.loopF (fun k : Nat => ⟨[.any, .any, .any, .lit (.int .u32 (sumF (l.take k))), .any, .any, .bs (Ty.int .u32) l, .lit (.int .i64 (l.length : Int)), .lit (.int .i64 (k : Int)), .any, .any, .any, .any, .any, .any, .any, .any, .any], []⟩) (fun k => k ≤ l.length) (fun k => l.length - k) 0 (Nat.zero_le _) (le_TA) ?_
  intro k hk
  refine wR (hk := ?_)
  refine Awp.seq fun K7 h7 => ?_
  refine Awp.cond rfl (fun hb8 => ?_) (fun hb8 => ?_)
  · have hlt : k < l.length := by simpa using hb8
    obtain ⟨x, hx⟩ : ∃ x, l[k]? = some x := ⟨_, List.getElem?_eq_getElem hlt⟩
    have hmul : intBin .mul .u32 3 (IntKind.u32.wrap (sumF (l.take k) + x)) = some (.int .u32 (sumF (l.take (k + 1)))) := by unfold intBin; rw [sumF_next hx, sum_step]
    refine Awp.skip ?_
    refine h7 _ ?_
    refine nT (hk := ?_)
    refine Awp.seq fun K9 h9 => ?_
    refine Awp.block ?_
    refine wR (hk := ?_)
    refine wRE (hk := ?_)
    refine h9 _ ?_
    refine nT (hk := ?_)
    refine wRE (hk := ?_)
    refine athen_n ⟨k + 1, by omega, by omega, le_TA⟩
  · have hke : k = l.length := by have : ¬ k < l.length := (by simpa using hb8); omega
    subst hke
    rw [List.take_length]
    refine Awp.exit ?_
    refine h3 _ ?_
    refine nT (hk := ?_)
    refine wR (hk := ?_)
    exact Awp.ret ⟨.inr rfl, Fin.cl rfl⟩

/-- the bytes of numbers -/
def bytesN (l : List Int) : List Int := l.flatMap bytes4
theorem bytesN_next {l : List Int} {k : Nat} {x : Int} (h : l[k]? = some x) : bytesN (l.take (k + 1)) = bytesN (l.take k) ++ bytes4 x := by
  unfold bytesN
  rw [List.take_add_one, h, List.flatMap_append]
  simp
theorem bytesN_len (l : List Int) : (bytesN l).length = 4 * l.length := by
  unfold bytesN
  induction l with
  | nil => rfl
  | cons x l ih => rw [List.flatMap_cons, List.length_append, ih, List.length_cons]; show 4 + _ = _; omega
def magicL : List Int := [77, 78, 84, 78]
set_option maxRecDepth 100000 in
set_option maxHeartbeats 1000000 in
theorem putB_fn (b l : List Int) (hu : allU32 l) (hb : b.length ≤ 10000000000) (hl : l.length ≤ 2147483648) : FnRowX Tryd.prog 25 5 (Ty.int .u8) b [.bs (Ty.int .u32) l] (b ++ bytesN l) := by
  refine FnRowX.of_awp Tryd.func25 rfl (by kernel_rfl) rfl Tryd.ntmps25 int_flat fun C => ?_
  simp only [List.length_cons, List.length_nil, Nat.reduceAdd, Nat.reduceSub, List.replicate_succ, List.replicate_zero, List.cons_append, List.nil_append]
  refine wR (hk := ?_)
  refine Awp.seq fun K2 h2 => ?_
  refine wR (hk := ?_)
  refine Awp.block ?_
  refine Awp.loopF (fun p : Nat × Nat => ⟨[.own 0 p.2, .bs (Ty.int .u32) l, .any, .any, .any, .any, .any, .bs (Ty.int .u32) l, .lit (.int .i64 (l.length : Int)), .lit (.int .i64 (p.1 : Int)), .any, .any, .any, .any, .any, .any, .any, .any, .any, .any, .any, .any, .any, .any, .any, .any, .any, .any, .any], [.row p.2 5 (Ty.int .u8) (b ++ bytesN (l.take p.1))]⟩) (fun p => p.1 ≤ l.length) (fun p => l.length - p.1) (0, 0) (Nat.zero_le _) (by rw [show b ++ bytesN (l.take (0, 0).1) = b by simp [bytesN]]; exact le_TA) ?_
  rintro ⟨k, ver⟩ hk
  dsimp only at hk ⊢
  refine wR (hk := ?_)
  refine Awp.seq fun K6 h6 => ?_
  refine Awp.cond rfl (fun hb7 => ?_) (fun hb7 => ?_)
  · have hlt : k < l.length := by simpa using hb7
    obtain ⟨x, hx⟩ : ∃ x, l[k]? = some x := ⟨_, List.getElem?_eq_getElem hlt⟩
    have hxw := hu x (List.mem_of_getElem? hx)
    obtain ⟨w1, w2, w3, w4⟩ := bytes4_u8 hxw
    have hxb := wfI_u32 hxw
    have c1 : IntKind.u8.wrap (x / 16777216) = x / 16777216 := by rw [wrap_u8m]; omega
    have c2 : IntKind.u8.wrap (x / 65536) = x / 65536 % 256 := wrap_u8m _
    have c3 : IntKind.u8.wrap (x / 256) = x / 256 % 256 := wrap_u8m _
    have c4 : IntKind.u8.wrap x = x % 256 := wrap_u8m _
    have s1 : x / 2 ^ min (24 : Int).toNat IntKind.u32.bits = x / 16777216 := rfl
    have s2 : x / 2 ^ min (16 : Int).toNat IntKind.u32.bits = x / 65536 := rfl
    have s3 : x / 2 ^ min (8 : Int).toNat IntKind.u32.bits = x / 256 := rfl
    have hnx := bytesN_next hx
    have hbl : (b ++ bytesN (l.take k)).length ≤ 20000000000 := by rw [List.length_append, bytesN_len, List.length_take]; omega
    have happ : b ++ bytesN (l.take (k + 1)) = (b ++ bytesN (l.take k)) ++ bytes4 x := by rw [hnx, List.append_assoc]
    generalize b ++ bytesN (l.take k) = B0 at hbl happ ⊢
    have hm1 : B0.length + (bytes4 x).length ≤ maxLen := by unfold maxLen bytes4; simp only [List.length_cons, List.length_nil]; omega
    have hm2 : (B0.length + (bytes4 x).length) * 1 ≤ 140737488355328 := by unfold bytes4; simp only [List.length_cons, List.length_nil]; omega
    refine Awp.skip ?_
    refine h6 _ ?_
    refine nT (hk := ?_)
    refine Awp.seq fun K8 h8 => ?_
    refine Awp.block ?_
    refine wR (hk := ?_)
    refine wRE (hx := by ((repeat (first | refine sA (hq := Quiet.lt (xs := [.tmp 16, .tmp 19, .tmp 22, .tmp 24]) (T := Ty.int .u8) (ds := bytes4 x) rfl rfl rfl (by rfl) (by decide) (.cons (Fit.int w1) (.cons (Fit.int w2) (.cons (Fit.int w3) (.cons (Fit.int w4) .nil))))) (hk := ?_) | (refine aSeq_t rfl (AOp.app rfl rfl rfl rfl rfl hm1 hm2 ?_); refine sNt (hk := ?_)) | refine sA (hk := ?_) | refine sSkip (hk := ?_) | refine sAG (hq := by (intro hg; (try simp only [Bool.and_eq_true, beq_true, beq_false, Bool.not_eq_true', Bool.not_eq_eq_eq_not, Bool.not_true, Bool.not_false] at hg); (try simp only [hg, beq_true, beq_false, cond_true, Bool.true_and, Bool.and_true, Bool.not_false, Bool.not_true, beq_self_eq_true]); exact Quiet.lt (xs := [.tmp 16, .tmp 19, .tmp 22, .tmp 24]) (T := Ty.int .u8) (ds := bytes4 x) rfl rfl rfl (by rfl) (by decide) (.cons (Fit.int w1) (.cons (Fit.int w2) (.cons (Fit.int w3) (.cons (Fit.int w4) .nil)))))) (hk := ?_) | refine sAG (hk := ?_) | refine sOwn (hk := ?_))); exact wEnd rfl)) (hk := ?_)
    refine h8 _ ?_
    refine nT (hk := ?_)
    refine wRE (hk := ?_)
    refine athen_n ⟨(k + 1, ver + 1), by dsimp only; omega, by dsimp only; omega, ?_⟩
    dsimp only
    rw [happ]
    exact le_TA
  · refine Awp.exit ?_
    refine h2 _ ?_
    refine nT (hk := ?_)
    refine wR (hk := ?_)
    have hke : k = l.length := by have : ¬ k < l.length := (by simpa using hb7); omega
    refine Awp.ret ⟨.inr rfl, 0, ver, rfl, ?_, rfl⟩
    rw [hke, List.take_length]
    rfl

/-! ### a first row of marked bytes -/
set_option maxRecDepth 100000 in
set_option maxHeartbeats 2000000 in
theorem putA_fn (b l : List Int) (hu : allU32 l) (hb : b.length ≤ 10000000000) (hl : l.length ≤ 2147483648) (hpos : 0 < l.length) : FnOwn Tryd.prog 25 [.tv (Ty.fullM 5) b, .bs (Ty.int .u32) l] 5 (Ty.int .u8) (b ++ bytesN l) := by
  obtain ⟨x0, hx0⟩ : ∃ x, l[0]? = some x := ⟨_, List.getElem?_eq_getElem hpos⟩
  have hw0 := hu x0 (List.mem_of_getElem? hx0)
  obtain ⟨w1, w2, w3, w4⟩ := bytes4_u8 hw0
  have hxb := wfI_u32 hw0
  have c1 : IntKind.u8.wrap (x0 / 16777216) = x0 / 16777216 := by rw [wrap_u8m]; omega
  have c2 : IntKind.u8.wrap (x0 / 65536) = x0 / 65536 % 256 := wrap_u8m _
  have c3 : IntKind.u8.wrap (x0 / 256) = x0 / 256 % 256 := wrap_u8m _
  have c4 : IntKind.u8.wrap x0 = x0 % 256 := wrap_u8m _
  have s1 : x0 / 2 ^ min (24 : Int).toNat IntKind.u32.bits = x0 / 16777216 := rfl
  have s2 : x0 / 2 ^ min (16 : Int).toNat IntKind.u32.bits = x0 / 65536 := rfl
  have s3 : x0 / 2 ^ min (8 : Int).toNat IntKind.u32.bits = x0 / 256 := rfl
  have hnx0 := bytesN_next hx0
  have hm1 : b.length + (bytes4 x0).length ≤ maxLen := by unfold maxLen bytes4; simp only [List.length_cons, List.length_nil]; omega
  have hm2 : (b.length + (bytes4 x0).length) * 1 ≤ 140737488355328 := by unfold bytes4; simp only [List.length_cons, List.length_nil]; omega
  refine FnOwn.of_awp Tryd.func25 rfl (by kernel_rfl) rfl Tryd.ntmps25 int_flat fun C hC => ?_
  simp only [List.length_cons, List.length_nil, Nat.reduceAdd, Nat.reduceSub, List.replicate_succ, List.replicate_zero, List.cons_append, List.nil_append]
  refine wR (hk := ?_)
  refine Awp.seq fun K2 h2 => ?_
  refine wR (hk := ?_)
  refine Awp.block ?_
  refine Awp.unroll (fun p : Nat × Nat => ⟨[.own 0 p.2, .bs (Ty.int .u32) l, .any, .any, .any, .any, .any, .bs (Ty.int .u32) l, .lit (.int .i64 (l.length : Int)), .lit (.int .i64 (p.1 : Int)), .any, .any, .any, .any, .any, .any, .any, .any, .any, .any, .any, .any, .any, .any, .any, .any, .any, .any, .any], [.row p.2 5 (Ty.int .u8) (b ++ bytesN (l.take p.1))]⟩) (fun p => p.1 ≤ l.length) (fun p => l.length - p.1) ?_ ?_ (l.length + 1) (fun p _ => by omega)
  · refine wR (hk := ?_)
    refine Awp.seq fun K6 h6 => ?_
    refine Awp.cond rfl (fun hb7 => ?_) (fun hb7 => ?_)
    · refine Awp.skip ?_
      refine h6 _ ?_
      refine nT (hk := ?_)
      refine Awp.seq fun K8 h8 => ?_
      refine Awp.block ?_
      refine wR (hk := ?_)
      refine wRE (hx := by ((repeat (first | refine sA (hq := Quiet.lt (xs := [.tmp 16, .tmp 19, .tmp 22, .tmp 24]) (T := Ty.int .u8) (ds := bytes4 x0) rfl rfl rfl (by rfl) (by decide) (.cons (Fit.int w1) (.cons (Fit.int w2) (.cons (Fit.int w3) (.cons (Fit.int w4) .nil))))) (hk := ?_) | (refine aSeq_t rfl (AOp.appM rfl rfl rfl (Nat.zero_lt_succ _) hm1 hm2 ?_); refine sNt (hk := ?_)) | refine sA (hk := ?_) | refine sSkip (hk := ?_) | refine sAG (hq := by (intro hg; (try simp only [Bool.and_eq_true, beq_true, beq_false, Bool.not_eq_true', Bool.not_eq_eq_eq_not, Bool.not_true, Bool.not_false] at hg); (try simp only [hg, beq_true, beq_false, cond_true, Bool.true_and, Bool.and_true, Bool.not_false, Bool.not_true, beq_self_eq_true]); exact Quiet.lt (xs := [.tmp 16, .tmp 19, .tmp 22, .tmp 24]) (T := Ty.int .u8) (ds := bytes4 x0) rfl rfl rfl (by rfl) (by decide) (.cons (Fit.int w1) (.cons (Fit.int w2) (.cons (Fit.int w3) (.cons (Fit.int w4) .nil)))))) (hk := ?_) | refine sAG (hk := ?_) | refine sOwn (hk := ?_))); exact wEnd rfl)) (hk := ?_)
      refine h8 _ ?_
      refine nT (hk := ?_)
      refine wRE (hk := ?_)
      refine athen_n ⟨(1, 0), by dsimp only; omega, ?_⟩
      dsimp only
      rw [hnx0, show bytesN (l.take 0) = [] by simp [bytesN], List.nil_append]
      exact le_TA
    · exfalso
      have h0 : ¬ ((0 : Int) < (l.length : Int)) := by simpa using hb7
      omega
  · rintro ⟨k, ver⟩ hk
    dsimp only at hk ⊢
    refine wR (hk := ?_)
    refine Awp.seq fun K6b h6b => ?_
    refine Awp.cond rfl (fun hb7b => ?_) (fun hb7b => ?_)
    · have hlt : k < l.length := by simpa using hb7b
      obtain ⟨x, hx⟩ : ∃ x, l[k]? = some x := ⟨_, List.getElem?_eq_getElem hlt⟩
      have hxw := hu x (List.mem_of_getElem? hx)
      obtain ⟨w1, w2, w3, w4⟩ := bytes4_u8 hxw
      have hxb := wfI_u32 hxw
      have c1 : IntKind.u8.wrap (x / 16777216) = x / 16777216 := by rw [wrap_u8m]; omega
      have c2 : IntKind.u8.wrap (x / 65536) = x / 65536 % 256 := wrap_u8m _
      have c3 : IntKind.u8.wrap (x / 256) = x / 256 % 256 := wrap_u8m _
      have c4 : IntKind.u8.wrap x = x % 256 := wrap_u8m _
      have s1 : x / 2 ^ min (24 : Int).toNat IntKind.u32.bits = x / 16777216 := rfl
      have s2 : x / 2 ^ min (16 : Int).toNat IntKind.u32.bits = x / 65536 := rfl
      have s3 : x / 2 ^ min (8 : Int).toNat IntKind.u32.bits = x / 256 := rfl
      have hnx := bytesN_next hx
      have hbl : (b ++ bytesN (l.take k)).length ≤ 20000000000 := by rw [List.length_append, bytesN_len, List.length_take]; omega
      have happ : b ++ bytesN (l.take (k + 1)) = (b ++ bytesN (l.take k)) ++ bytes4 x := by rw [hnx, List.append_assoc]
      generalize b ++ bytesN (l.take k) = B0 at hbl happ ⊢
      have hm1 : B0.length + (bytes4 x).length ≤ maxLen := by unfold maxLen bytes4; simp only [List.length_cons, List.length_nil]; omega
      have hm2 : (B0.length + (bytes4 x).length) * 1 ≤ 140737488355328 := by unfold bytes4; simp only [List.length_cons, List.length_nil]; omega
      refine Awp.skip ?_
      refine h6b _ ?_
      refine nT (hk := ?_)
      refine Awp.seq fun K8b h8b => ?_
      refine Awp.block ?_
      refine wR (hk := ?_)
      refine wRE (hx := by ((repeat (first | refine sA (hq := Quiet.lt (xs := [.tmp 16, .tmp 19, .tmp 22, .tmp 24]) (T := Ty.int .u8) (ds := bytes4 x) rfl rfl rfl (by rfl) (by decide) (.cons (Fit.int w1) (.cons (Fit.int w2) (.cons (Fit.int w3) (.cons (Fit.int w4) .nil))))) (hk := ?_) | (refine aSeq_t rfl (AOp.app rfl rfl rfl rfl rfl hm1 hm2 ?_); refine sNt (hk := ?_)) | refine sA (hk := ?_) | refine sSkip (hk := ?_) | refine sAG (hq := by (intro hg; (try simp only [Bool.and_eq_true, beq_true, beq_false, Bool.not_eq_true', Bool.not_eq_eq_eq_not, Bool.not_true, Bool.not_false] at hg); (try simp only [hg, beq_true, beq_false, cond_true, Bool.true_and, Bool.and_true, Bool.not_false, Bool.not_true, beq_self_eq_true]); exact Quiet.lt (xs := [.tmp 16, .tmp 19, .tmp 22, .tmp 24]) (T := Ty.int .u8) (ds := bytes4 x) rfl rfl rfl (by rfl) (by decide) (.cons (Fit.int w1) (.cons (Fit.int w2) (.cons (Fit.int w3) (.cons (Fit.int w4) .nil)))))) (hk := ?_) | refine sAG (hk := ?_) | refine sOwn (hk := ?_))); exact wEnd rfl)) (hk := ?_)
      refine h8b _ ?_
      refine nT (hk := ?_)
      refine wRE (hk := ?_)
      refine athen_n ⟨(k + 1, ver + 1), by dsimp only; omega, by dsimp only; omega, ?_⟩
      dsimp only
      rw [happ]
      exact le_TA
    · refine Awp.exit ?_
      refine h2 _ ?_
      refine nT (hk := ?_)
      refine wR (hk := ?_)
      have hke : k = l.length := by have : ¬ k < l.length := (by simpa using hb7b); omega
      refine Awp.ret ⟨.inr rfl, rfl, 0, ver, rfl, ?_⟩
      rw [hke, List.take_length]
      rfl
end Mu
end
section
/-
  All numbers of an image: slices.Grow, Concat, image.numbers; the document's Numbers.
  Conditions: rows of at most 2^31.
-/
namespace Mu
open Go Go.RowKit Go.Proofs
instance inMuImgD3 : ES Tryd.prog 89 1 := ⟨by kernel_rfl⟩
instance inMuImgD4 : SL Tryd.prog 89 := ⟨by kernel_rfl⟩
instance inMuImgD5 : RT Tryd.prog 89 23 1 24 := ⟨by kernel_rfl⟩
theorem add_n {n m : Nat} (hn : n + m < 9223372036854775808) : intBin .add .i64 (n : Int) (m : Int) = some (.int .i64 ((n + m : Nat) : Int)) := by
  unfold intBin
  simp only
  rw [IntWalk.i64_in _ (by omega)]
  rfl
set_option maxRecDepth 100000 in
theorem grow_own (n : Nat) (hn : n ≤ 10000000000) : FnOwn Tryd.prog 62 [.lit (.slice none 0 0), .lit (.int .i64 (n : Int))] 39 (Ty.int .u32) [] := by
  have h13 : intBin .sub .i64 ((0 : Nat) : Int) ((0 : Nat) : Int) = some (.int .i64 ((0 : Nat) : Int)) := rfl
  have h14 : intBin .sub .i64 (n : Int) ((0 : Nat) : Int) = some (.int .i64 (n : Int)) := by
    unfold intBin
    simp only
    rw [IntWalk.i64_in _ (by omega)]
    simp
  have hm1 : n ≤ maxLen := by unfold maxLen; omega
  have hm2 : n * 4 ≤ 140737488355328 := by omega
  refine FnOwn.of_awp Tryd.func62 rfl (by kernel_rfl) rfl Tryd.ntmps62 int_flat fun C hC => ?_
  simp only [List.length_cons, List.length_nil, Nat.reduceAdd, Nat.reduceSub, List.replicate_succ, List.replicate_zero, List.cons_append, List.nil_append]
  refine wR (hk := ?_)
  refine Awp.seq fun K2 h2 => ?_
  refine wR (hk := ?_)
  refine Awp.cond rfl (fun hb4 => ?_) (fun hb4 => ?_)
  · have := of_decide_eq_true hb4
    omega
  · refine Awp.skip ?_
    refine h2 _ ?_
    refine nT (hk := ?_)
    refine Awp.seq fun K6 h6 => ?_
    refine wR (hx := by ((repeat (first | refine sA (hq := Quiet.cpl rfl rfl) (hk := ?_) | refine sA (hk := ?_) | refine sSkip (hk := ?_) | refine sAG (hq := by (intro hg; (try simp only [Bool.and_eq_true, beq_true, beq_false, Bool.not_eq_true', Bool.not_eq_eq_eq_not, Bool.not_true, Bool.not_false] at hg); (try simp only [hg, beq_true, beq_false, cond_true, Bool.true_and, Bool.and_true, Bool.not_false, Bool.not_true, beq_self_eq_true]); exact Quiet.cpl rfl rfl)) (hk := ?_) | refine sAG (hk := ?_) | refine sOwn (hk := ?_))); exact wEnd rfl)) (hk := ?_)
    refine wR (hk := ?_)
    refine Awp.cond rfl (fun hb9 => ?_) (fun hb9 => ?_)
    · have hpos : 0 < n := by have := of_decide_eq_true hb9; omega
      refine wRE (hx := by ((repeat (first | refine sA (hq := Quiet.cpl rfl rfl) (hk := ?_) | refine sA (hq := Quiet.slcNil rfl rfl rfl) (hk := ?_) | (refine aSeq_t rfl (AOp.appZ (kk := .u32) (by kernel_rfl) rfl rfl rfl hpos hm1 hm2 ?_); refine sNt (hk := ?_)) | (refine aSeq_t rfl (AOp.cutRow (m := 0) rfl rfl rfl rfl ⟨_, rfl⟩ (Nat.zero_le _) ?_); refine sNt (hk := ?_)) | refine sA (hk := ?_) | refine sSkip (hk := ?_) | refine sAG (hq := by (intro hg; (try simp only [Bool.and_eq_true, beq_true, beq_false, Bool.not_eq_true', Bool.not_eq_eq_eq_not, Bool.not_true, Bool.not_false] at hg); (try simp only [hg, beq_true, beq_false, cond_true, Bool.true_and, Bool.and_true, Bool.not_false, Bool.not_true, beq_self_eq_true]); exact Quiet.cpl rfl rfl)) (hk := ?_) | refine sAG (hq := by (intro hg; (try simp only [Bool.and_eq_true, beq_true, beq_false, Bool.not_eq_true', Bool.not_eq_eq_eq_not, Bool.not_true, Bool.not_false] at hg); (try simp only [hg, beq_true, beq_false, cond_true, Bool.true_and, Bool.and_true, Bool.not_false, Bool.not_true, beq_self_eq_true]); exact Quiet.slcNil rfl rfl rfl)) (hk := ?_) | refine sAG (hk := ?_) | refine sOwn (hk := ?_))); exact wEnd rfl)) (hk := ?_)
      refine h6 _ ?_
      refine nT (hk := ?_)
      refine wR (hk := ?_)
      exact Awp.ret ⟨.inr rfl, rfl, 0, 1, rfl, rfl⟩
    · refine Awp.skip ?_
      refine h6 _ ?_
      refine nT (hk := ?_)
      refine wR (hk := ?_)
      refine Awp.via _ (St.le_nil 4 39 (Ty.int .u32) rfl (by decide)) ?_
      exact Awp.ret ⟨.inr rfl, rfl, 0, 0, rfl, rfl⟩

def lenS (ll : List (List Int)) : Nat := (ll.map List.length).sum
theorem lenS_next {ll : List (List Int)} {k : Nat} {x : List Int} (h : ll[k]? = some x) : lenS (ll.take (k + 1)) = lenS (ll.take k) + x.length := by
  unfold lenS
  rw [List.take_add_one, h]
  simp
theorem lenS_take (ll : List (List Int)) (k : Nat) : lenS (ll.take k) ≤ lenS ll := by
  unfold lenS
  conv => rhs; rw [← List.take_append_drop k ll]
  rw [List.map_append, List.sum_append]
  omega
theorem flat_next {ll : List (List Int)} {k : Nat} {x : List Int} (h : ll[k]? = some x) : (ll.take (k + 1)).flatten = (ll.take k).flatten ++ x := by
  rw [List.take_add_one, h]
  simp
theorem flat_len (ll : List (List Int)) : ll.flatten.length = lenS ll := by
  unfold lenS
  rw [List.length_flatten]
set_option maxRecDepth 100000 in
set_option maxHeartbeats 1000000 in
theorem concat_own (ll : List (List Int)) (hl : ll.length ≤ 2147483648) (ht : lenS ll ≤ 5000000000) : FnOwn Tryd.prog 45 [.bs (Ty.int .u32).slice ll] 39 (Ty.int .u32) ll.flatten := by
  have hgr := grow_own (lenS ll) (by omega)
  refine FnOwn.of_awp Tryd.func45 rfl (by kernel_rfl) rfl Tryd.ntmps45 int_flat fun C hC => ?_
  simp only [List.length_cons, List.length_nil, Nat.reduceAdd, Nat.reduceSub, List.replicate_succ, List.replicate_zero, List.cons_append, List.nil_append]
  refine wR (hk := ?_)
  refine wR (hk := ?_)
  refine Awp.seq fun K3 h3 => ?_
  refine wR (hk := ?_)
  refine Awp.block ?_
  refine Awp.loopF (fun k : Nat => ⟨[.bs (Ty.int .u32).slice ll, .any, .any, .lit (.int .i64 (lenS (ll.take k) : Int)), .any, .any, .any, .any, .any, .bs (Ty.int .u32).slice ll, .lit (.int .i64 (ll.length : Int)), .lit (.int .i64 (k : Int)), .any, .any, .any, .any, .any, .any, .any, .any, .any, .any, .any, .any, .any, .any, .any, .any, .any, .any, .any, .any, .any, .any, .any, .any], []⟩) (fun k => k ≤ ll.length) (fun k => ll.length - k) 0 (Nat.zero_le _) (by rw [show lenS (ll.take 0) = 0 by rw [List.take_zero]; rfl]; exact le_TA) ?_
  intro k hk
  refine wR (hk := ?_)
  refine Awp.seq fun K7 h7 => ?_
  refine Awp.cond rfl (fun hb8 => ?_) (fun hb8 => ?_)
  · have hlt : k < ll.length := by simpa using hb8
    obtain ⟨x, hx⟩ : ∃ x, ll[k]? = some x := ⟨_, List.getElem?_eq_getElem hlt⟩
    have hnx := lenS_next hx
    have hle := lenS_take ll (k + 1)
    have hadd : intBin .add .i64 (lenS (ll.take k) : Int) (x.length : Int) = some (.int .i64 (lenS (ll.take (k + 1)) : Int)) := by
      rw [hnx]
      exact add_n (by omega)
    refine Awp.skip ?_
    refine h7 _ ?_
    refine nT (hk := ?_)
    refine Awp.seq fun K9 h9 => ?_
    refine Awp.block ?_
    refine wR (hk := ?_)
    refine wR (hk := ?_)
    refine wR (hk := ?_)
    refine Awp.cond rfl (fun hb13 => ?_) (fun hb13 => ?_)
    · have := of_decide_eq_true hb13
      omega
    · refine Awp.skip ?_
      refine h9 _ ?_
      refine nT (hk := ?_)
      refine wRE (hk := ?_)
      refine athen_n ⟨k + 1, by omega, by omega, le_TA⟩
  · refine Awp.exit ?_
    refine h3 _ ?_
    refine nT (hk := ?_)
    have hke : k = ll.length := by have : ¬ k < ll.length := (by simpa using hb8); omega
    have hall : lenS (ll.take k) = lenS ll := by rw [hke, List.take_length]
    rw [hall]
    refine wR (hx := by ((repeat (first | (refine aSeq_t rfl (AOp.callOwn rfl hgr (by decide) rfl rfl ?_); refine sNt (hk := ?_)) | refine sA (hk := ?_) | refine sSkip (hk := ?_) | refine sAG (hk := ?_) | refine sOwn (hk := ?_))); exact wEnd rfl)) (hk := ?_)
    refine Awp.seq fun K17 h17 => ?_
    refine wR (hk := ?_)
    refine Awp.block ?_
    refine Awp.loopF (fun p : Nat × Nat => ⟨[.any, .any, .any, .any, .any, .any, .own 0 p.2, .any, .any, .any, .any, .any, .any, .any, .any, .any, .any, .any, .any, .any, .any, .any, .any, .any, .any, .bs (Ty.int .u32).slice ll, .lit (.int .i64 (ll.length : Int)), .lit (.int .i64 (p.1 : Int)), .any, .any, .any, .any, .any, .any, .any, .any], [.row p.2 39 (Ty.int .u32) (ll.take p.1).flatten]⟩) (fun p => p.1 ≤ ll.length) (fun p => ll.length - p.1) (0, 0) (Nat.zero_le _) (le_TA) ?_
    rintro ⟨j, ver⟩ hj
    dsimp only at hj ⊢
    refine wR (hk := ?_)
    refine Awp.seq fun K21 h21 => ?_
    refine Awp.cond rfl (fun hb22 => ?_) (fun hb22 => ?_)
    · have hlt : j < ll.length := by simpa using hb22
      obtain ⟨x, hx⟩ : ∃ x, ll[j]? = some x := ⟨_, List.getElem?_eq_getElem hlt⟩
      have hnx := lenS_next hx
      have hle := lenS_take ll (j + 1)
      have hfl := flat_len (ll.take j)
      have hfx := flat_next hx
      generalize (ll.take j).flatten = F0 at hfl hfx ⊢
      have hm1 : F0.length + x.length ≤ maxLen := by unfold maxLen; omega
      have hm2 : (F0.length + x.length) * 4 ≤ 140737488355328 := by omega
      refine Awp.skip ?_
      refine h21 _ ?_
      refine nT (hk := ?_)
      refine Awp.seq fun K23 h23 => ?_
      refine Awp.block ?_
      refine wR (hk := ?_)
      refine wRE (hk := ?_)
      refine h23 _ ?_
      refine nT (hk := ?_)
      refine wRE (hk := ?_)
      refine athen_n ⟨(j + 1, ver + 1), by dsimp only; omega, by dsimp only; omega, ?_⟩
      dsimp only
      rw [hfx]
      exact le_TA
    · refine Awp.exit ?_
      refine h17 _ ?_
      refine nT (hk := ?_)
      refine wR (hk := ?_)
      have hje : j = ll.length := by have : ¬ j < ll.length := (by simpa using hb22); omega
      refine Awp.ret ⟨.inr rfl, rfl, 0, ver, rfl, ?_⟩
      rw [hje, List.take_length]
      rfl

/-- all numbers of an image -/
def headL (x : Img) : List Int := [IntKind.u32.wrap x.nw, IntKind.u32.wrap x.heap, IntKind.u32.wrap x.many, IntKind.u32.wrap x.entry, IntKind.u32.wrap x.stacks, IntKind.u32.wrap x.starts.length, IntKind.u32.wrap x.words.length]
def numsL (x : Img) : List Int := headL x ++ x.starts ++ x.words
theorem wrap_wf32 (a : Int) : wfI .u32 (IntKind.u32.wrap a) := by
  rw [wrap_u32m]
  simp [wfI, Lit.wf, IntKind.min, IntKind.max, IntKind.signed, IntKind.bits]
  omega
theorem headL_u (x : Img) : allU32 (headL x) := fun a ha => by
  simp only [headL, List.mem_cons, List.not_mem_nil, or_false] at ha
  rcases ha with rfl | rfl | rfl | rfl | rfl | rfl | rfl <;> exact wrap_wf32 _
theorem numsL_u {x : Img} (H : FineImg x) : allU32 (numsL x) := fun a ha => by
  unfold numsL at ha
  rcases List.mem_append.1 ha with ha | ha
  · rcases List.mem_append.1 ha with ha | ha
    · exact headL_u x a ha
    · exact H.wfs a ha
  · exact H.wfw a ha
theorem numsL_len (x : Img) : (numsL x).length = 7 + x.starts.length + x.words.length := by
  unfold numsL
  rw [List.length_append, List.length_append]
  rfl
theorem headFit {h : List ABlk} (x : Img) : Fits h (Ty.int .u32) [.lit (.int .u32 (IntKind.u32.wrap x.nw)), .lit (.int .u32 (IntKind.u32.wrap x.heap)), .lit (.int .u32 (IntKind.u32.wrap x.many)), .lit (.int .u32 (IntKind.u32.wrap x.entry)), .lit (.int .u32 (IntKind.u32.wrap x.stacks)), .lit (.int .u32 (IntKind.u32.wrap x.starts.length)), .lit (.int .u32 (IntKind.u32.wrap x.words.length))] (headL x) :=
  .cons (Fit.int (wrap_wf32 _)) (.cons (Fit.int (wrap_wf32 _)) (.cons (Fit.int (wrap_wf32 _)) (.cons (Fit.int (wrap_wf32 _)) (.cons (Fit.int (wrap_wf32 _)) (.cons (Fit.int (wrap_wf32 _)) (.cons (Fit.int (wrap_wf32 _)) .nil))))))
set_option maxRecDepth 100000 in
set_option maxHeartbeats 1000000 in
theorem numbers_fn (x : Img) (H : FineImg x) : Fn Tryd.prog 24 [.agg (encImg x)] (.bs (Ty.int .u32) (numsL x)) := by
  have hw := H.w
  have hs := H.s
  have hc := (concat_own [headL x, x.starts, x.words] (by simp) (by unfold lenS; simp [headL]; omega)).fn
  have he : [headL x, x.starts, x.words].flatten = numsL x := by unfold numsL; simp
  rw [he] at hc
  refine Fn.of_awp Tryd.func24 rfl (by kernel_rfl) rfl Tryd.ntmps24 fun C hC => ?_
  simp only [List.length_cons, List.length_nil, Nat.reduceAdd, Nat.reduceSub, List.replicate_succ, List.replicate_zero, List.cons_append, List.nil_append]
  refine wR (hk := ?_)
  refine wR (hx := by ((repeat (first | refine sA (hq := Quiet.lt (xs := [.tmp 6, .tmp 9, .tmp 12, .tmp 15, .tmp 18, .tmp 22, .tmp 26]) (T := Ty.int .u32) (ds := headL x) rfl rfl rfl (by rfl) (by decide) (headFit x)) (hk := ?_) | refine sA (hk := ?_) | refine sSkip (hk := ?_) | refine sAG (hq := by (intro hg; (try simp only [Bool.and_eq_true, beq_true, beq_false, Bool.not_eq_true', Bool.not_eq_eq_eq_not, Bool.not_true, Bool.not_false] at hg); (try simp only [hg, beq_true, beq_false, cond_true, Bool.true_and, Bool.and_true, Bool.not_false, Bool.not_true, beq_self_eq_true]); exact Quiet.lt (xs := [.tmp 6, .tmp 9, .tmp 12, .tmp 15, .tmp 18, .tmp 22, .tmp 26]) (T := Ty.int .u32) (ds := headL x) rfl rfl rfl (by rfl) (by decide) (headFit x))) (hk := ?_) | refine sAG (hk := ?_) | refine sOwn (hk := ?_))); exact wEnd rfl)) (hk := ?_)
  refine wR (hx := by ((repeat (first | refine sA (hq := Quiet.lt (xs := [.tmp 28, .tmp 30, .tmp 32]) (T := (Ty.int .u32).slice) (ds := [headL x, x.starts, x.words]) rfl rfl rfl (by rfl) (by decide) (.cons Fit.bs (.cons Fit.bs (.cons Fit.bs .nil)))) (hk := ?_) | refine sA (hk := ?_) | refine sSkip (hk := ?_) | refine sAG (hq := by (intro hg; (try simp only [Bool.and_eq_true, beq_true, beq_false, Bool.not_eq_true', Bool.not_eq_eq_eq_not, Bool.not_true, Bool.not_false] at hg); (try simp only [hg, beq_true, beq_false, cond_true, Bool.true_and, Bool.and_true, Bool.not_false, Bool.not_true, beq_self_eq_true]); exact Quiet.lt (xs := [.tmp 28, .tmp 30, .tmp 32]) (T := (Ty.int .u32).slice) (ds := [headL x, x.starts, x.words]) rfl rfl rfl (by rfl) (by decide) (.cons Fit.bs (.cons Fit.bs (.cons Fit.bs .nil))))) (hk := ?_) | refine sAG (hk := ?_) | refine sOwn (hk := ?_))); exact wEnd rfl)) (hk := ?_)
  exact Awp.ret ⟨.inr rfl, Fin.cl rfl⟩
set_option maxRecDepth 100000 in
set_option maxHeartbeats 1000000 in
theorem refNumbers_fn (x : Img) (H : FineImg x) : Fn Tryd.prog 34 [.agg (encImg x)] (.bs (Ty.int .u32) (numsL x)) := by
  have hw := H.w
  have hs := H.s
  have hl0 : (headL x).length = 7 := rfl
  have hl1 : (headL x ++ x.starts).length = 7 + x.starts.length := by rw [List.length_append]; rfl
  have hm1 : (headL x).length + x.starts.length ≤ maxLen := by rw [hl0]; unfold maxLen; omega
  have hm2 : ((headL x).length + x.starts.length) * 4 ≤ 140737488355328 := by rw [hl0]; omega
  have hm3 : (headL x ++ x.starts).length + x.words.length ≤ maxLen := by rw [hl1]; unfold maxLen; omega
  have hm4 : ((headL x ++ x.starts).length + x.words.length) * 4 ≤ 140737488355328 := by rw [hl1]; omega
  refine Fn.of_awp Tryd.func34 rfl (by kernel_rfl) rfl Tryd.ntmps34 fun C hC => ?_
  simp only [List.length_cons, List.length_nil, Nat.reduceAdd, Nat.reduceSub, List.replicate_succ, List.replicate_zero, List.cons_append, List.nil_append]
  refine wR (hk := ?_)
  refine wR (hx := by ((repeat (first | (refine aSeq_t rfl (AOp.lit (s := ⟨_, _⟩) (xs := [.tmp 6, .tmp 9, .tmp 12, .tmp 15, .tmp 18, .tmp 22, .tmp 26]) (T := Ty.int .u32) (ds := headL x) rfl rfl rfl (RT.eq (n := 1) (bytes := 4)) (by decide) (by decide) (headFit x) ?_); refine sNt (hk := ?_)) | refine sA (hk := ?_) | refine sSkip (hk := ?_) | refine sAG (hk := ?_) | refine sOwn (hk := ?_))); exact wEnd rfl)) (hk := ?_)
  refine wR (hk := ?_)
  refine wR (hk := ?_)
  exact Awp.ret ⟨.inr rfl, Fin.own rfl⟩
end Mu
end
section
/-
  image.Put; the document's Bytes, Put, num.
  Conditions: rows of at most 2^31.
-/
namespace Mu
open Go Go.RowKit Go.Proofs

section
variable {P : Program} {C : Ctx} {o : Oper} {t : List AV} {h : List ABlk}
theorem run_b2s {w : World} {S : Nat → Prop} {src dst e : TypeId} {v : Value} {l : List Int} [BytesT P src e] [StrT P dst] (h1 : (Ty.int .u8).slice.RS w S [v] l) : (convert src dst v).run P w = .ok (.string (bytesOf l)) w := by
  obtain ⟨A, c, hv, hlc, hcm, hi⟩ := h1
  have hv : v = .slice A l.length c := by simpa using hv
  have hs : P.underlying src = some (.slice e) := BytesT.sl
  have he : P.underlying e = some (.int .u8) := BytesT.el (ty := src)
  have hd : P.underlying dst = some .string := StrT.eq
  have hg : ∀ i d, l[i]? = some d → ∃ b o, A = some ⟨b, o, none⟩ ∧ (0 ≤ d ∧ d ≤ 255) ∧ w.cell? ⟨b, o + i, none⟩ = some (.int .u8 d) := fun i d hd => by
    obtain ⟨b, o, hA, hS, cs, ⟨rfl, hwf⟩, hc⟩ := hi i d hd
    refine ⟨b, o, hA, wf_u8 hwf, ?_⟩
    have := hc 0 (.int .u8 d) rfl
    have e1 : o + i * (Ty.int .u8).size + 0 = o + i := by show o + i * 1 + 0 = o + i; omega
    rwa [e1] at this
  rw [hv]
  cases l with
  | nil =>
    rw [run_convert_bytes_string w src dst e A _ c hs he hd]
    cases A with
    | none => simp [Conv.bytesToString, Sem.run_pure]; rfl
    | some a =>
      have hl := run_loadCells_list (P := P) w a ([] : List Value) (fun j v hj => by simp at hj)
      rw [run_bytesToString w a _ c [] (by simpa using hl)]
      rfl
  | cons d l =>
    obtain ⟨b, q, hA, _, _⟩ := hg 0 d rfl
    subst hA
    have hb : ∀ j (hj : j < ((d :: l).map fun n => UInt8.ofNat n.toNat).length), w.cell? (Addr.add ⟨b, q, none⟩ j) = some (.int .u8 ((((d :: l).map fun n => UInt8.ofNat n.toNat)[j]).toNat : Int)) := fun j hj => by
      have hj' : j < (d :: l).length := by simpa using hj
      obtain ⟨b', q', hA', ⟨k1, k2⟩, k3⟩ := hg j _ (List.getElem?_eq_getElem hj')
      cases hA'
      rw [show Addr.add ⟨b, q, none⟩ j = ⟨b, q + j, none⟩ from by simp [Addr.add], k3, List.getElem_map]
      congr 2
      simp only [UInt8.toNat_ofNat']
      omega
    have := run_convert_bytes_back (P := P) w src dst e ⟨b, q, none⟩ c ((d :: l).map fun n => UInt8.ofNat n.toNat) hs he hd hb
    rw [List.length_map] at this
    exact this
/-- the text of a row of the call's own -/
theorem Quiet.b2sO {src dst e e' : TypeId} {x : Operand} {i ver : Nat} {l : List Int} [BytesT P src e] [StrT P dst] (ho : o.op = .convert src dst x) (hx : evA t x = .own i ver) (hi : h[i]? = some (.row ver e' (Ty.int .u8) l)) : Quiet P C t h o (.lit (.string (bytesOf l))) :=
  Quiet.of_run fun S ψ w ρ H hρ => by
    have h1 := hρ x (by simp [ho, Op.operands])
    rw [hx] at h1
    unfold AV.rel at h1
    have hv := (h1.2 _ (by rw [hi]; rfl)).2 rfl
    obtain ⟨cells, k1, k0, k2, k3⟩ := H.blk _ _ hi
    have hr : (Ty.int .u8).slice.RS w (fun k => k < w.heap.size) [ψ i] l := own_slice k1 (fun i d hd => Ty.keepS _ (k2 i d hd) (fun _ _ => rfl) H.lt) fun g hg => (World.ownsRow.lt k1 g hg).2
    rw [← hv] at hr
    exact ⟨_, by simp [execOp, ho, run_b2s (P := P) (src := src) (dst := dst) hr]; rfl, by unfold AV.rel; rfl⟩
end
/-- an image's bytes -/
def putL (x : Img) : List Int := magicL ++ bytesN (numsL x) ++ bytes4 (sumF (numsL x))
def putStr (x : Img) : ByteArray := bytesOf (putL x)
def putS (x : Img) : ByteArray := if mayB x = true then putStr x else ⟨#[]⟩
def putE (x : Img) : Int := if mayB x = true then 0 else 5
theorem bytesN_one (n : Int) : bytesN [n] = bytes4 n := by unfold bytesN; simp
theorem magicFit : ∀ d ∈ magicL, wfI .u8 d := fun d hd => by
  simp only [magicL, List.mem_cons, List.not_mem_nil, or_false] at hd
  rcases hd with rfl | rfl | rfl | rfl <;> exact u8_of (by decide) (by decide)
set_option maxRecDepth 100000 in
set_option maxHeartbeats 1000000 in
theorem put_fn (x : Img) (H : FineImg x) : Fn Tryd.prog 11 [.agg (encImg x)] (.tup [.lit (.string (putS x)), .lit (.int .i64 (putE x))]) := by
  have hw := H.w
  have hs := H.s
  have hlen := numsL_len x
  have hu := numsL_u H
  have hmay := may_fn x H
  have hnum := numbers_fn x H
  have hsum := sum_fn (numsL x) (by omega)
  have hsw := sumF_wf (numsL x)
  have hpA := putA_fn magicL (numsL x) hu (by decide) (by omega) (by omega)
  have hpB := putB_fn (magicL ++ bytesN (numsL x)) [sumF (numsL x)] (fun a ha => by rw [List.mem_singleton.1 ha]; exact hsw) (by rw [List.length_append, bytesN_len]; show 4 + _ ≤ _; omega) (by simp)
  rw [bytesN_one] at hpB
  refine Fn.of_awp2 Tryd.func11 rfl (by kernel_rfl) rfl Tryd.ntmps11 fun C hC => ?_
  simp only [List.length_cons, List.length_nil, Nat.reduceAdd, Nat.reduceSub, List.replicate_succ, List.replicate_zero, List.cons_append, List.nil_append]
  refine wR (hk := ?_)
  refine Awp.seq fun K2 h2 => ?_
  refine wR (hk := ?_)
  refine Awp.cond rfl (fun hb4 => ?_) (fun hb4 => ?_)
  · refine wR (hk := ?_)
    have hf : mayB x = false := by have : (!mayB x) = true := hb4; simpa using this
    have e1 : putS x = ⟨#[]⟩ := if_neg (by rw [hf]; simp)
    have e2 : putE x = 5 := if_neg (by rw [hf]; simp)
    rw [e1, e2]
    exact Awp.ret ⟨.inr rfl, _, _, Fin.cl rfl, rfl, rfl⟩
  · refine Awp.skip ?_
    refine h2 _ ?_
    refine nT (hk := ?_)
    refine wR (hk := ?_)
    refine wR (hx := by ((repeat (first | (refine aSeq_t rfl (AOp.litRaw (xs := [.const (.int .u8 77), .const (.int .u8 78), .const (.int .u8 84), .const (.int .u8 78)]) (ds := magicL) rfl rfl rfl (by decide) rfl fun g => ?_); refine sNt (hk := ?_)) | (refine aSeq_t rfl (AOp.cvRaw (i := 1) (ds := magicL) hC rfl rfl rfl magicFit ?_); refine sNt (hk := ?_)) | (refine aSeq_t rfl (AOp.callOwn rfl hpA (by decide) rfl rfl ?_); refine sNt (hk := ?_)) | (refine aSeq_t rfl (AOp.callRowX (more := [.tmp 16]) rfl rfl hpB rfl rfl rfl rfl ?_); refine sNt (hk := ?_)) | refine sA (hq := Quiet.b2sO rfl rfl rfl) (hk := ?_) | refine sA (hk := ?_) | refine sSkip (hk := ?_) | refine sAG (hq := by (intro hg; (try simp only [Bool.and_eq_true, beq_true, beq_false, Bool.not_eq_true', Bool.not_eq_eq_eq_not, Bool.not_true, Bool.not_false] at hg); (try simp only [hg, beq_true, beq_false, cond_true, Bool.true_and, Bool.and_true, Bool.not_false, Bool.not_true, beq_self_eq_true]); exact Quiet.b2sO rfl rfl rfl)) (hk := ?_) | refine sAG (hk := ?_) | refine sOwn (hk := ?_))); exact wEnd rfl)) (hk := ?_)
    have hf : mayB x = true := by have : (!mayB x) = false := hb4; simpa using this
    have e1 : putS x = bytesOf (magicL ++ bytesN (numsL x) ++ bytes4 (sumF (numsL x))) := if_pos hf
    have e2 : putE x = 0 := if_pos hf
    rw [e1, e2]
    exact Awp.ret ⟨.inr rfl, _, _, Fin.cl rfl, rfl, rfl⟩
set_option maxRecDepth 100000 in
set_option maxHeartbeats 1000000 in
theorem refBytes_fn (l : List Int) (hu : allU32 l) (hl : l.length ≤ 10000000000) : Fn Tryd.prog 33 [.bs (Ty.int .u32) l] (.lit (.string (bytesOf (magicL ++ bytesN l ++ bytes4 (sumF l))))) := by
  have hfs := four_fn (sumF l) (sumF_wf l)
  refine Fn.of_awp Tryd.func33 rfl (by kernel_rfl) rfl Tryd.ntmps33 fun C hC => ?_
  simp only [List.length_cons, List.length_nil, Nat.reduceAdd, Nat.reduceSub, List.replicate_succ, List.replicate_zero, List.cons_append, List.nil_append]
  refine wR (hk := ?_)
  refine wR (hk := ?_)
  refine wR (hk := ?_)
  refine Awp.seq fun K4 h4 => ?_
  refine wR (hk := ?_)
  refine Awp.block ?_
  refine Awp.loopF (fun k : Nat => ⟨[.bs (Ty.int .u32) l, .any, .any, .lit (.string (bytesOf (magicL ++ bytesN (l.take k)))), .lit (.int .u32 (sumF (l.take k))), .lit (.int .i64 (k : Int)), .any, .any, .any, .any, .any, .any, .any, .any, .any, .any, .any, .any, .any, .any, .any, .any, .any, .any, .any, .any, .any, .any, .any, .any], []⟩) (fun k => k ≤ l.length) (fun k => l.length - k) 0 (Nat.zero_le _) (le_TA) ?_
  intro k hk
  refine Awp.seq fun K7 h7 => ?_
  refine wR (hk := ?_)
  refine Awp.cond rfl (fun hb9 => ?_) (fun hb9 => ?_)
  · have hlt : k < l.length := by simpa using hb9
    obtain ⟨x, hx⟩ : ∃ x, l[k]? = some x := ⟨_, List.getElem?_eq_getElem hlt⟩
    have hmul : intBin .mul .u32 (IntKind.u32.wrap (sumF (l.take k) + x)) 3 = some (.int .u32 (sumF (l.take (k + 1)))) := by unfold intBin; rw [sumF_next hx, sum_step']
    have hf4 := four_fn x (hu x (List.mem_of_getElem? hx))
    have hnx := bytesN_next hx
    have hcat : (bytesOf (magicL ++ bytesN (l.take k))).size + (bytesOf (bytes4 x)).size ≤ 1000000000000 := by
      rw [bytesOf_size, bytesOf_size, List.length_append, bytesN_len, List.length_take]
      show 4 + _ + 4 ≤ _
      omega
    have happ : bytesOf (magicL ++ bytesN (l.take (k + 1))) = bytesOf (magicL ++ bytesN (l.take k)) ++ bytesOf (bytes4 x) := by rw [hnx, ← List.append_assoc, bytesOf_append]
    refine Awp.skip ?_
    refine h7 _ ?_
    refine nT (hk := ?_)
    refine Awp.seq fun K10 h10 => ?_
    refine Awp.block ?_
    refine wR (hk := ?_)
    refine wRE (hk := ?_)
    refine h10 _ ?_
    refine nT (hk := ?_)
    refine wRE (hk := ?_)
    refine athen_n ⟨k + 1, by omega, by omega, ?_⟩
    rw [happ]
    exact le_TA
  · refine Awp.exit ?_
    refine h4 _ ?_
    refine nT (hk := ?_)
    have hke : k = l.length := by have : ¬ k < l.length := (by simpa using hb9); omega
    subst hke
    rw [List.take_length]
    have hcat : (bytesOf (magicL ++ bytesN l)).size + (bytesOf (bytes4 (sumF l))).size ≤ 1000000000000 := by
      rw [bytesOf_size, bytesOf_size, List.length_append, bytesN_len]
      show 4 + _ + 4 ≤ _
      omega
    refine wR (hk := ?_)
    rw [bytesOf_append (magicL ++ bytesN l)]
    exact Awp.ret ⟨.inr rfl, Fin.cl rfl⟩
set_option maxRecDepth 100000 in
theorem refPut_fn (x : Img) (H : FineImg x) : Fn Tryd.prog 15 [.agg (encImg x)] (.tup [.lit (.string (putS x)), .lit (.int .i64 (putE x))]) := by
  have hw := H.w
  have hs := H.s
  have hlen := numsL_len x
  have hmay := refMay_fn x H
  have hnum := refNumbers_fn x H
  have hby := refBytes_fn (numsL x) (numsL_u H) (by omega)
  refine Fn.of_awp2 Tryd.func15 rfl (by kernel_rfl) rfl Tryd.ntmps15 fun C hC => ?_
  simp only [List.length_cons, List.length_nil, Nat.reduceAdd, Nat.reduceSub, List.replicate_succ, List.replicate_zero, List.cons_append, List.nil_append]
  refine wR (hk := ?_)
  refine Awp.seq fun K2 h2 => ?_
  refine wR (hk := ?_)
  refine Awp.cond rfl (fun hb4 => ?_) (fun hb4 => ?_)
  · refine wR (hk := ?_)
    have hf : mayB x = false := by have : (!mayB x) = true := hb4; simpa using this
    have e1 : putS x = ⟨#[]⟩ := if_neg (by rw [hf]; simp)
    have e2 : putE x = 5 := if_neg (by rw [hf]; simp)
    rw [e1, e2]
    exact Awp.ret ⟨.inr rfl, _, _, Fin.cl rfl, rfl, rfl⟩
  · refine Awp.skip ?_
    refine h2 _ ?_
    refine nT (hk := ?_)
    refine wR (hk := ?_)
    have hf : mayB x = true := by have : (!mayB x) = false := hb4; simpa using this
    have e1 : putS x = bytesOf (magicL ++ bytesN (numsL x) ++ bytes4 (sumF (numsL x))) := if_pos hf
    have e2 : putE x = 0 := if_pos hf
    rw [e1, e2]
    exact Awp.ret ⟨.inr rfl, _, _, Fin.cl rfl, rfl, rfl⟩
/-- the number of four bytes -/
def num4 (a b c d : Int) : Int := 16777216 * a + 65536 * b + 256 * c + d
end Mu
end
section
/-
  Words of bytes; rows of words that are the same; images that are.
  Conditions: rows of at most 2^31.
-/
namespace Mu
open Go Go.RowKit Go.Proofs

/-! ### rows that are the same -/
theorem take_eq_next {l m : List Int} {k : Nat} {x y : Int} (h : l.take k = m.take k) (hx : l[k]? = some x) (hy : m[k]? = some y) (e : x = y) : l.take (k + 1) = m.take (k + 1) := by
  rw [List.take_add_one, List.take_add_one, h, hx, hy, e]
set_option maxRecDepth 100000 in
set_option maxHeartbeats 1000000 in
theorem equal_fn (l m : List Int) (hl : l.length ≤ 2147483648) : Fn Tryd.prog 43 [.bs (Ty.int .u32) l, .bs (Ty.int .u32) m] (.lit (.bool (decide (l = m)))) := by
  refine Fn.of_awp Tryd.func43 rfl (by kernel_rfl) rfl Tryd.ntmps43 fun C hC => ?_
  simp only [List.length_cons, List.length_nil, Nat.reduceAdd, Nat.reduceSub, List.replicate_succ, List.replicate_zero, List.cons_append, List.nil_append]
  refine wR (hk := ?_)
  refine Awp.seq fun K2 h2 => ?_
  refine wR (hk := ?_)
  refine Awp.cond rfl (fun hb4 => ?_) (fun hb4 => ?_)
  · refine wR (hk := ?_)
    have hne : l ≠ m := fun e => by subst e; simp at hb4
    rw [decide_eq_false hne]
    exact Awp.ret ⟨.inr rfl, Fin.cl rfl⟩
  · have hlen : l.length = m.length := by
      have : ((l.length : Int) != (m.length : Int)) = false := hb4
      have : (l.length : Int) = m.length := by simpa using this
      omega
    refine Awp.skip ?_
    refine h2 _ ?_
    refine nT (hk := ?_)
    refine Awp.seq fun K7 h7 => ?_
    refine wR (hk := ?_)
    refine Awp.block ?_
    refine Awp.loopF (fun k : Nat => ⟨[.bs (Ty.int .u32) l, .bs (Ty.int .u32) m, .any, .any, .any, .any, .any, .any, .any, .any, .any, .any, .lit (.int .i64 (l.length : Int)), .lit (.int .i64 (k : Int)), .any, .any, .any, .any, .any, .any, .any, .any, .any, .any, .any, .any], []⟩) (fun k => k ≤ l.length ∧ l.take k = m.take k) (fun k => l.length - k) 0 ⟨Nat.zero_le _, rfl⟩ (le_TA) ?_
    rintro k ⟨hk, heq⟩
    refine wR (hk := ?_)
    refine Awp.seq fun K11 h11 => ?_
    refine Awp.cond rfl (fun hb12 => ?_) (fun hb12 => ?_)
    · have hlt : k < l.length := by simpa using hb12
      obtain ⟨x, hx⟩ : ∃ x, l[k]? = some x := ⟨_, List.getElem?_eq_getElem hlt⟩
      obtain ⟨y, hy⟩ : ∃ y, m[k]? = some y := ⟨_, List.getElem?_eq_getElem (by omega)⟩
      refine Awp.skip ?_
      refine h11 _ ?_
      refine nT (hk := ?_)
      refine Awp.seq fun K13 h13 => ?_
      refine Awp.block ?_
      refine wR (hk := ?_)
      refine wD 9 (hk := ?_)
      refine Awp.cond rfl (fun hb16 => ?_) (fun hb16 => ?_)
      · refine wR (hk := ?_)
        have hne : l ≠ m := fun e => by
          subst e
          rw [hx] at hy
          cases hy
          simp at hb16
        rw [decide_eq_false hne]
        exact Awp.ret ⟨.inr rfl, Fin.cl rfl⟩
      · refine Awp.skip ?_
        refine h13 _ ?_
        refine nT (hk := ?_)
        refine wRE (hk := ?_)
        refine athen_n ⟨k + 1, ⟨by omega, take_eq_next heq hx hy (by have : (x != y) = false := hb16; simpa using this)⟩, by omega, le_TA⟩
    · refine Awp.exit ?_
      refine h7 _ ?_
      refine nT (hk := ?_)
      refine wR (hk := ?_)
      have hke : k = l.length := by have : ¬ k < l.length := (by simpa using hb12); omega
      have he : l = m := by rw [hke, List.take_length, hlen, List.take_length] at heq; exact heq
      rw [decide_eq_true he]
      exact Awp.ret ⟨.inr rfl, Fin.cl rfl⟩
/-- two images are the same -/
def sameB (a b : Img) : Bool := decide (a.nw = b.nw ∧ a.heap = b.heap ∧ a.many = b.many ∧ a.entry = b.entry ∧ a.stacks = b.stacks ∧ a.words = b.words ∧ a.starts = b.starts)
theorem sameB_iff {a b : Img} : sameB a b = true ↔ a = b := by
  unfold sameB
  rw [decide_eq_true_eq]
  constructor
  · rintro ⟨h1, h2, h3, h4, h5, h6, h7⟩
    cases a
    cases b
    simp_all
  · rintro rfl
    exact ⟨rfl, rfl, rfl, rfl, rfl, rfl, rfl⟩
set_option maxRecDepth 100000 in
set_option maxHeartbeats 2000000 in
theorem same31_fn (a b : Img) (ha : FineImg a) : Fn Tryd.prog 19 [.agg (encImg a), .agg (encImg b)] (.lit (.bool (sameB a b))) := by
  have he1 := equal_fn a.words b.words (by have := ha.w; omega)
  have he2 := equal_fn a.starts b.starts (by have := ha.s; omega)
  refine Fn.of_awp Tryd.func19 rfl (by kernel_rfl) rfl Tryd.ntmps19 fun C hC => ?_
  simp only [List.length_cons, List.length_nil, Nat.reduceAdd, Nat.reduceSub, List.replicate_succ, List.replicate_zero, List.cons_append, List.nil_append]
  refine wR (hk := ?_)
  refine wR (hk := ?_)
  refine Awp.ret ⟨.inr rfl, Fin.eqb ?_⟩
  unfold sameB
  rw [Bool.eq_iff_iff]
  simp only [Bool.and_eq_true, decide_eq_true_eq, beq_iff_eq]
  constructor
  · rintro ⟨⟨⟨⟨⟨⟨h1, h2⟩, h3⟩, h4⟩, h5⟩, h6⟩, h7⟩
    exact ⟨h1, h2, h3, h4, h5, h6, h7⟩
  · rintro ⟨h1, h2, h3, h4, h5, h6, h7⟩
    exact ⟨⟨⟨⟨⟨⟨h1, h2⟩, h3⟩, h4⟩, h5⟩, h6⟩, h7⟩
/-! ### words of bytes -/
def allU8 (l : List Int) : Prop := ∀ a ∈ l, 0 ≤ a ∧ a ≤ 255
def wordsOf : List Int → List Int
  | a :: b :: c :: d :: r => num4 a b c d :: wordsOf r
  | _ => []
theorem wordsOf_len : ∀ l : List Int, (wordsOf l).length = l.length / 4
  | [] => by simp [wordsOf]
  | [_] => by simp [wordsOf]
  | [_, _] => by simp [wordsOf]
  | [_, _, _] => by simp [wordsOf]
  | a :: b :: c :: d :: r => by
    unfold wordsOf
    rw [List.length_cons, wordsOf_len r]
    simp only [List.length_cons]
    omega
theorem wordsOf_at : ∀ (k : Nat) (l : List Int) {a b c d : Int}, l[4 * k]? = some a → l[4 * k + 1]? = some b → l[4 * k + 2]? = some c → l[4 * k + 3]? = some d → (wordsOf l)[k]? = some (num4 a b c d)
  | 0, l, a, b, c, d, h0, h1, h2, h3 => by
    have hl := (List.getElem?_eq_some_iff.1 h3).1
    rcases l with _ | ⟨w, _ | ⟨x, _ | ⟨y, _ | ⟨z, r⟩⟩⟩⟩ <;> try (exfalso; simp only [List.length_cons, List.length_nil] at hl; omega)
    simp only [Nat.mul_zero, Nat.zero_add, List.getElem?_cons_zero, List.getElem?_cons_succ, Option.some.injEq] at h0 h1 h2 h3
    subst h0 h1 h2 h3
    rfl
  | k + 1, l, a, b, c, d, h0, h1, h2, h3 => by
    have hl := (List.getElem?_eq_some_iff.1 h3).1
    rcases l with _ | ⟨w, _ | ⟨x, _ | ⟨y, _ | ⟨z, r⟩⟩⟩⟩ <;> try (exfalso; simp only [List.length_cons, List.length_nil] at hl; omega)
    unfold wordsOf
    rw [List.getElem?_cons_succ]
    refine wordsOf_at k r ?_ ?_ ?_ ?_
    · simpa [show 4 * (k + 1) = 4 * k + 4 by omega] using h0
    · simpa [show 4 * (k + 1) + 1 = 4 * k + 1 + 4 by omega] using h1
    · simpa [show 4 * (k + 1) + 2 = 4 * k + 2 + 4 by omega] using h2
    · simpa [show 4 * (k + 1) + 3 = 4 * k + 3 + 4 by omega] using h3
theorem or_u32 (k p q : Nat) (hq : q < 2 ^ k) (hp : 2 ^ k * p + q < 4294967296) : bits .or .u32 ((2 ^ k * p : Nat) : Int) (q : Int) = ((2 ^ k * p + q : Nat) : Int) := by
  have h1 : 2 ^ k * p < 4294967296 := by omega
  have h2 : q < 4294967296 := by omega
  unfold bits
  simp only
  have e : (BitVec.ofInt IntKind.u32.bits ((2 ^ k * p : Nat) : Int) ||| BitVec.ofInt IntKind.u32.bits (q : Int)).toNat = 2 ^ k * p + q := by
    rw [BitVec.toNat_or, BitVec.ofInt_natCast, BitVec.ofInt_natCast, BitVec.toNat_ofNat, BitVec.toNat_ofNat, show IntKind.u32.bits = 32 from rfl, Nat.mod_eq_of_lt h1, Nat.mod_eq_of_lt h2, Nat.two_pow_add_eq_or_of_lt hq]
  rw [e, wrap_u32m]
  omega
theorem bytesOf_at {l : List Int} {k : Nat} {a : Int} (h : l[k]? = some a) : (bytesOf l).data.toList[k]? = some (UInt8.ofNat a.toNat) := by
  unfold bytesOf
  simp [h]
theorem ofNat_toNat {a : Int} (h : 0 ≤ a ∧ a ≤ 255) : (((UInt8.ofNat a.toNat).toNat : Nat) : Int) = a := by
  simp only [UInt8.toNat_ofNat']
  omega
theorem cut_bytes (l : List Int) (k : Nat) : (bytesOf l).extract k (bytesOf l).size = bytesOf (l.drop k) := by
  apply ByteArray.ext
  rw [ByteArray.data_extract, bytesOf_size]
  unfold bytesOf
  simp only
  apply Array.ext'
  simp only [Array.toList_extract, List.extract_eq_take_drop, List.map_drop]
  first | (rw [List.take_of_length_le (by simp)]) | (simp; rw [List.take_of_length_le (by simp)])
/-- a shift to the left, as one fact -/
structure ShlF (k : IntKind) (a b m : Int) : Prop where
  h : k.wrap (a * 2 ^ min b.toNat k.bits) = m
theorem Quiet.shlF {P : Program} {C : Ctx} {t : List AV} {h : List ABlk} {o : Oper} {xt yt : TypeId} {x y : Operand} {k q : IntKind} {a b m : Int} (ho : o.op = .binOp .shl xt x y yt) (hx : evA t x = .lit (.int k a)) (hy : evA t y = .lit (.int q b)) (hb : 0 ≤ b) (hm : ShlF k a b m) : Quiet P C t h o (.lit (.int k m)) :=
  Quiet.shl ho hx hy hb hm.h
theorem num4_wf {a b c d : Int} (ha : 0 ≤ a ∧ a ≤ 255) (hb : 0 ≤ b ∧ b ≤ 255) (hc : 0 ≤ c ∧ c ≤ 255) (hd : 0 ≤ d ∧ d ≤ 255) : wfI .u32 (num4 a b c d) := by
  unfold num4
  simp [wfI, Lit.wf, IntKind.min, IntKind.max, IntKind.signed, IntKind.bits]
  omega
set_option maxRecDepth 100000 in
set_option maxHeartbeats 4000000 in
theorem words_fn (l : List Int) (hu : allU8 l) (hl : l.length ≤ 10000000000) : Fn Tryd.prog 21 [.lit (.string (bytesOf l))] (.bs (Ty.int .u32) (wordsOf l)) := by
  have hwl := wordsOf_len l
  refine Fn.of_awp Tryd.func21 rfl (by kernel_rfl) rfl Tryd.ntmps21 fun C hC => ?_
  simp only [List.length_cons, List.length_nil, Nat.reduceAdd, Nat.reduceSub, List.replicate_succ, List.replicate_zero, List.cons_append, List.nil_append]
  refine wR (hk := ?_)
  refine wR (hk := ?_)
  refine Awp.seq fun K3 h3 => ?_
  refine Awp.block ?_
  refine Awp.loopF (fun p : Nat × Nat => ⟨[.lit (.string (bytesOf (l.drop (4 * p.1)))), .any, .any, .own 0 p.2, .any, .any, .any, .any, .any, .any, .any, .any, .any, .any, .any, .any, .any, .any, .any, .any, .any, .any, .any, .any, .any, .any, .any, .any, .any, .any, .any], [.row p.2 39 (Ty.int .u32) ((wordsOf l).take p.1)]⟩) (fun p => 4 * p.1 ≤ l.length) (fun p => l.length - 4 * p.1) (0, 0) (Nat.zero_le _) ((St.le_nil 3 39 (Ty.int .u32) rfl (by decide)).trans (le_TA)) ?_
  rintro ⟨k, ver⟩ hk
  dsimp only at hk ⊢
  have hsz : (bytesOf (l.drop (4 * k))).size = l.length - 4 * k := by rw [bytesOf_size, List.length_drop]
  refine Awp.seq fun K5 h5 => ?_
  refine wR (hk := ?_)
  refine Awp.cond rfl (fun hb7 => ?_) (fun hb7 => ?_)
  · have hlt : 4 * k + 4 ≤ l.length := by
      have : ((bytesOf (l.drop (4 * k))).size : Int) ≥ 4 := of_decide_eq_true hb7
      omega
    obtain ⟨a, ha⟩ : ∃ a, l[4 * k]? = some a := ⟨_, List.getElem?_eq_getElem (by omega)⟩
    obtain ⟨b, hb⟩ : ∃ b, l[4 * k + 1]? = some b := ⟨_, List.getElem?_eq_getElem (by omega)⟩
    obtain ⟨c, hc⟩ : ∃ c, l[4 * k + 2]? = some c := ⟨_, List.getElem?_eq_getElem (by omega)⟩
    obtain ⟨d, hd⟩ : ∃ d, l[4 * k + 3]? = some d := ⟨_, List.getElem?_eq_getElem (by omega)⟩
    have ua := hu a (List.mem_of_getElem? ha)
    have ub := hu b (List.mem_of_getElem? hb)
    have uc := hu c (List.mem_of_getElem? hc)
    have ud := hu d (List.mem_of_getElem? hd)
    have hnw := wordsOf_at k l ha hb hc hd
    have hww := num4_wf ua ub uc ud
    have i0 : (bytesOf (l.drop (4 * k))).data.toList[0]? = some (UInt8.ofNat a.toNat) := bytesOf_at (by rw [List.getElem?_drop]; exact ha)
    have i1 : (bytesOf (l.drop (4 * k))).data.toList[1]? = some (UInt8.ofNat b.toNat) := bytesOf_at (by rw [List.getElem?_drop]; exact hb)
    have i2 : (bytesOf (l.drop (4 * k))).data.toList[2]? = some (UInt8.ofNat c.toNat) := bytesOf_at (by rw [List.getElem?_drop]; exact hc)
    have i3 : (bytesOf (l.drop (4 * k))).data.toList[3]? = some (UInt8.ofNat d.toNat) := bytesOf_at (by rw [List.getElem?_drop]; exact hd)
    obtain ⟨an, rfl⟩ := Int.eq_ofNat_of_zero_le ua.1
    obtain ⟨bn, rfl⟩ := Int.eq_ofNat_of_zero_le ub.1
    obtain ⟨cn, rfl⟩ := Int.eq_ofNat_of_zero_le uc.1
    obtain ⟨dn, rfl⟩ := Int.eq_ofNat_of_zero_le ud.1
    have w0 : IntKind.u32.wrap ((UInt8.ofNat (an : Int).toNat).toNat : Int) = (an : Int) := by rw [ofNat_toNat ua, wrap_u32m]; omega
    have w1 : IntKind.u32.wrap ((UInt8.ofNat (bn : Int).toNat).toNat : Int) = (bn : Int) := by rw [ofNat_toNat ub, wrap_u32m]; omega
    have w2 : IntKind.u32.wrap ((UInt8.ofNat (cn : Int).toNat).toNat : Int) = (cn : Int) := by rw [ofNat_toNat uc, wrap_u32m]; omega
    have w3 : IntKind.u32.wrap ((UInt8.ofNat (dn : Int).toNat).toNat : Int) = (dn : Int) := by rw [ofNat_toNat ud, wrap_u32m]; omega
    have s0 : ShlF .u32 (an : Int) 24 ((2 ^ 24 * an : Nat) : Int) := ⟨by rw [wrap_u32m, show min (24 : Int).toNat IntKind.u32.bits = 24 from rfl]; omega⟩
    have s1 : ShlF .u32 (bn : Int) 16 ((2 ^ 16 * bn : Nat) : Int) := ⟨by rw [wrap_u32m, show min (16 : Int).toNat IntKind.u32.bits = 16 from rfl]; omega⟩
    have s2 : ShlF .u32 (cn : Int) 8 ((2 ^ 8 * cn : Nat) : Int) := ⟨by rw [wrap_u32m, show min (8 : Int).toNat IntKind.u32.bits = 8 from rfl]; omega⟩
    have o1 : bits .or .u32 ((2 ^ 24 * an : Nat) : Int) ((2 ^ 16 * bn : Nat) : Int) = ((2 ^ 16 * (2 ^ 8 * an + bn) : Nat) : Int) := by rw [or_u32 24 an (2 ^ 16 * bn) (by omega) (by omega)]; omega
    have o2 : bits .or .u32 ((2 ^ 16 * (2 ^ 8 * an + bn) : Nat) : Int) ((2 ^ 8 * cn : Nat) : Int) = ((2 ^ 8 * (2 ^ 8 * (2 ^ 8 * an + bn) + cn) : Nat) : Int) := by rw [or_u32 16 (2 ^ 8 * an + bn) (2 ^ 8 * cn) (by omega) (by omega)]; omega
    have o3 : bits .or .u32 ((2 ^ 8 * (2 ^ 8 * (2 ^ 8 * an + bn) + cn) : Nat) : Int) (dn : Int) = num4 an bn cn dn := by rw [or_u32 8 (2 ^ 8 * (2 ^ 8 * an + bn) + cn) dn (by omega) (by omega)]; unfold num4; omega
    generalize ((2 ^ 24 * an : Nat) : Int) = p0 at s0 o1
    generalize ((2 ^ 16 * bn : Nat) : Int) = p1 at s1 o1
    generalize ((2 ^ 8 * cn : Nat) : Int) = p2 at s2 o2
    generalize ((2 ^ 16 * (2 ^ 8 * an + bn) : Nat) : Int) = p3 at o1 o2
    generalize ((2 ^ 8 * (2 ^ 8 * (2 ^ 8 * an + bn) + cn) : Nat) : Int) = p4 at o2 o3
    have hcut : 4 ≤ (bytesOf (l.drop (4 * k))).size := by omega
    have htk : (wordsOf l).take (k + 1) = (wordsOf l).take k ++ [num4 an bn cn dn] := by rw [List.take_add_one, hnw]; rfl
    have htl : ((wordsOf l).take k).length ≤ 10000000000 := by rw [List.length_take]; omega
    have hdr : l.drop (4 * (k + 1)) = (l.drop (4 * k)).drop 4 := by rw [List.drop_drop]; congr 1
    generalize (wordsOf l).take k = W0 at htk htl ⊢
    have hm1 : W0.length + [num4 an bn cn dn].length ≤ maxLen := by unfold maxLen; simp only [List.length_cons, List.length_nil]; omega
    have hm2 : (W0.length + [num4 an bn cn dn].length) * 4 ≤ 140737488355328 := by simp only [List.length_cons, List.length_nil]; omega
    refine Awp.skip ?_
    refine h5 _ ?_
    refine nT (hk := ?_)
    refine Awp.seq fun K8 h8 => ?_
    refine Awp.block ?_
    refine wDE 20 (hq := by ((repeat (first | refine qA (hq := Quiet.shlF rfl rfl rfl (by decide) (by assumption)) (hk := ?_) | refine qA (hq := Quiet.ixS (k := 0) rfl rfl rfl i0) (hk := ?_) | refine qA (hq := Quiet.ixS (k := 1) rfl rfl rfl i1) (hk := ?_) | refine qA (hq := Quiet.ixS (k := 2) rfl rfl rfl i2) (hk := ?_) | refine qA (hq := Quiet.ixS (k := 3) rfl rfl rfl i3) (hk := ?_) | refine qA (hk := ?_) | refine qSkip (hk := ?_) | refine qAG (hq := by (intro hg; (try simp only [Bool.and_eq_true, beq_true, beq_false, Bool.not_eq_true', Bool.not_eq_eq_eq_not, Bool.not_true, Bool.not_false] at hg); (try simp only [hg, beq_true, beq_false, cond_true, Bool.true_and, Bool.and_true, Bool.not_false, Bool.not_true, beq_self_eq_true]); exact Quiet.shlF rfl rfl rfl (by decide) (by assumption))) (hk := ?_) | refine qAG (hq := by (intro hg; (try simp only [Bool.and_eq_true, beq_true, beq_false, Bool.not_eq_true', Bool.not_eq_eq_eq_not, Bool.not_true, Bool.not_false] at hg); (try simp only [hg, beq_true, beq_false, cond_true, Bool.true_and, Bool.and_true, Bool.not_false, Bool.not_true, beq_self_eq_true]); exact Quiet.ixS (k := 0) rfl rfl rfl i0)) (hk := ?_) | refine qAG (hq := by (intro hg; (try simp only [Bool.and_eq_true, beq_true, beq_false, Bool.not_eq_true', Bool.not_eq_eq_eq_not, Bool.not_true, Bool.not_false] at hg); (try simp only [hg, beq_true, beq_false, cond_true, Bool.true_and, Bool.and_true, Bool.not_false, Bool.not_true, beq_self_eq_true]); exact Quiet.ixS (k := 1) rfl rfl rfl i1)) (hk := ?_) | refine qAG (hq := by (intro hg; (try simp only [Bool.and_eq_true, beq_true, beq_false, Bool.not_eq_true', Bool.not_eq_eq_eq_not, Bool.not_true, Bool.not_false] at hg); (try simp only [hg, beq_true, beq_false, cond_true, Bool.true_and, Bool.and_true, Bool.not_false, Bool.not_true, beq_self_eq_true]); exact Quiet.ixS (k := 2) rfl rfl rfl i2)) (hk := ?_) | refine qAG (hq := by (intro hg; (try simp only [Bool.and_eq_true, beq_true, beq_false, Bool.not_eq_true', Bool.not_eq_eq_eq_not, Bool.not_true, Bool.not_false] at hg); (try simp only [hg, beq_true, beq_false, cond_true, Bool.true_and, Bool.and_true, Bool.not_false, Bool.not_true, beq_self_eq_true]); exact Quiet.ixS (k := 3) rfl rfl rfl i3)) (hk := ?_) | refine qAG (hk := ?_))); exact qEnd rfl)) (hx := by ((repeat (first | refine sA (hq := Quiet.shlF rfl rfl rfl (by decide) (by assumption)) (hk := ?_) | refine sA (hq := Quiet.ixS (k := 0) rfl rfl rfl i0) (hk := ?_) | refine sA (hq := Quiet.ixS (k := 1) rfl rfl rfl i1) (hk := ?_) | refine sA (hq := Quiet.ixS (k := 2) rfl rfl rfl i2) (hk := ?_) | refine sA (hq := Quiet.ixS (k := 3) rfl rfl rfl i3) (hk := ?_) | refine sA (hk := ?_) | refine sSkip (hk := ?_) | refine sAG (hq := by (intro hg; (try simp only [] at hg); (try simp only [hg, beq_true, beq_false, cond_true, Bool.true_and, Bool.and_true, Bool.not_false, Bool.not_true, beq_self_eq_true]); exact Quiet.shlF rfl rfl rfl (by decide) (by assumption))) (hk := ?_) | refine sAG (hq := by (intro hg; (try simp only [] at hg); (try simp only [hg, beq_true, beq_false, cond_true, Bool.true_and, Bool.and_true, Bool.not_false, Bool.not_true, beq_self_eq_true]); exact Quiet.ixS (k := 0) rfl rfl rfl i0)) (hk := ?_) | refine sAG (hq := by (intro hg; (try simp only [] at hg); (try simp only [hg, beq_true, beq_false, cond_true, Bool.true_and, Bool.and_true, Bool.not_false, Bool.not_true, beq_self_eq_true]); exact Quiet.ixS (k := 1) rfl rfl rfl i1)) (hk := ?_) | refine sAG (hq := by (intro hg; (try simp only [] at hg); (try simp only [hg, beq_true, beq_false, cond_true, Bool.true_and, Bool.and_true, Bool.not_false, Bool.not_true, beq_self_eq_true]); exact Quiet.ixS (k := 2) rfl rfl rfl i2)) (hk := ?_) | refine sAG (hq := by (intro hg; (try simp only [] at hg); (try simp only [hg, beq_true, beq_false, cond_true, Bool.true_and, Bool.and_true, Bool.not_false, Bool.not_true, beq_self_eq_true]); exact Quiet.ixS (k := 3) rfl rfl rfl i3)) (hk := ?_) | refine sAG (hk := ?_) | refine sOwn (hk := ?_))); exact wEnd rfl)) (hk := ?_)
    refine h8 _ ?_
    refine nT (hk := ?_)
    refine wRE (hx := by ((repeat (first | refine sA (hq := Quiet.cutS (k := 4) rfl rfl rfl hcut) (hk := ?_) | refine sA (hk := ?_) | refine sSkip (hk := ?_) | refine sAG (hq := by (intro hg; (try simp only [Bool.and_eq_true, beq_true, beq_false, Bool.not_eq_true', Bool.not_eq_eq_eq_not, Bool.not_true, Bool.not_false] at hg); (try simp only [hg, beq_true, beq_false, cond_true, Bool.true_and, Bool.and_true, Bool.not_false, Bool.not_true, beq_self_eq_true]); exact Quiet.cutS (k := 4) rfl rfl rfl hcut)) (hk := ?_) | refine sAG (hk := ?_) | refine sOwn (hk := ?_))); exact wEnd rfl)) (hk := ?_)
    refine athen_n ⟨(k + 1, ver + 1), by dsimp only; omega, by dsimp only; omega, ?_⟩
    dsimp only
    rw [htk, hdr, ← cut_bytes (l.drop (4 * k)) 4]
    exact le_TA
  · refine Awp.exit ?_
    refine h3 _ ?_
    refine nT (hk := ?_)
    refine wR (hk := ?_)
    have hge : ¬ 4 * k + 4 ≤ l.length := fun h => by
      have : ¬ ((bytesOf (l.drop (4 * k))).size : Int) ≥ 4 := of_decide_eq_false hb7
      omega
    have hke : (wordsOf l).take k = wordsOf l := List.take_of_length_le (by omega)
    rw [hke]
    exact Awp.ret ⟨.inr rfl, Fin.own rfl⟩
end Mu
end
section
/-
  The image whose bytes they are: muntinref31.Get.
  Conditions: at most 10^9 bytes.
-/
namespace Mu
open Go Go.RowKit Go.Proofs

def zImg : Img := ⟨0, [], 0, 0, 0, [], 0⟩
/-- the numbers behind the head -/
def midL (L : List Int) : List Int := ((wordsOf L).drop 8).take ((L.length - 36) / 4)
def atW (L : List Int) (k : Nat) : Int := (wordsOf L).getD k 0
def refX (L : List Int) : Img := ⟨atW L 1, (midL L).drop (atW L 6).toNat, atW L 2, atW L 3, atW L 4, (midL L).take (atW L 6).toNat, atW L 5⟩
def getOK (L : List Int) : Bool := decide (36 ≤ L.length) && (mayB (refX L) && decide (putL (refX L) = L))
def getX (L : List Int) : Img := if getOK L = true then refX L else zImg
def getE (L : List Int) : Int := if getOK L = true then 0 else 5
theorem wordsOf_u : ∀ {l : List Int}, allU8 l → allU32 (wordsOf l)
  | [], _ => fun a ha => by simp [wordsOf] at ha
  | [_], _ => fun a ha => by simp [wordsOf] at ha
  | [_, _], _ => fun a ha => by simp [wordsOf] at ha
  | [_, _, _], _ => fun a ha => by simp [wordsOf] at ha
  | a :: b :: c :: d :: r, h => fun x hx => by
    unfold wordsOf at hx
    rcases List.mem_cons.1 hx with rfl | hx
    · exact num4_wf (h a (by simp)) (h b (by simp)) (h c (by simp)) (h d (by simp))
    · exact wordsOf_u (fun y hy => h y (by simp [hy])) x hx
theorem atW_u {L : List Int} (h : allU8 L) (k : Nat) : wfI .u32 (atW L k) := by
  unfold atW
  rw [List.getD_eq_getElem?_getD]
  cases hk : (wordsOf L)[k]? with
  | none => exact (by decide : (Lit.int .u32 0).wf = true)
  | some x => exact wordsOf_u h x (List.mem_of_getElem? hk)
theorem midL_u {L : List Int} (h : allU8 L) : allU32 (midL L) := fun a ha => wordsOf_u h a (List.mem_of_mem_drop (List.mem_of_mem_take ha))
theorem refX_fine {L : List Int} (h : allU8 L) (hl : L.length ≤ 1000000000) : FineImg (refX L) := by
  have hm : (midL L).length ≤ 1000000000 := by
    unfold midL
    rw [List.length_take]
    omega
  refine ⟨⟨wf_u32_i64 (atW_u h 1), wf_u32_i64 (atW_u h 2), wf_u32_i64 (atW_u h 3), wf_u32_i64 (atW_u h 4), wf_u32_i64 (atW_u h 5)⟩, ?_, ?_, fun a ha => ?_, fun a ha => ?_⟩
  · show ((midL L).drop _).length ≤ _
    rw [List.length_drop]
    omega
  · show ((midL L).take _).length ≤ _
    rw [List.length_take]
    omega
  · exact midL_u h a (List.mem_of_mem_take ha)
  · exact midL_u h a (List.mem_of_mem_drop ha)
theorem bytes4_8 {n : Int} (h : wfI .u32 n) : allU8 (bytes4 n) := fun a ha => by
  have := wfI_u32 h
  simp only [bytes4, List.mem_cons, List.not_mem_nil, or_false] at ha
  rcases ha with rfl | rfl | rfl | rfl <;> omega
theorem bytesN_8 {l : List Int} (h : allU32 l) : allU8 (bytesN l) := fun a ha => by
  unfold bytesN at ha
  obtain ⟨x, hx, hax⟩ := List.mem_flatMap.1 ha
  exact bytes4_8 (h x hx) a hax
theorem putL_8 {x : Img} (H : FineImg x) : allU8 (putL x) := fun a ha => by
  unfold putL at ha
  rcases List.mem_append.1 ha with ha | ha
  · rcases List.mem_append.1 ha with ha | ha
    · exact wfI_u8 (magicFit a ha)
    · exact bytesN_8 (numsL_u H) a ha
  · exact bytes4_8 (sumF_wf _) a ha
theorem ba_beq (a b : ByteArray) : (a == b) = decide (a = b) := by
  cases a with
  | mk x =>
    cases b with
    | mk y =>
      show (x == y) = _
      rw [Bool.eq_iff_iff, decide_eq_true_eq, beq_iff_eq]
      constructor
      · rintro rfl; rfl
      · intro h; cases h; rfl
theorem ba_bne (a b : ByteArray) : (a != b) = !decide (a = b) := by
  show (!(a == b)) = _
  rw [ba_beq]
theorem zero_fin {h : List ABlk} {e : Int} (hm : mkD h = [] := by rfl) : Fin h (.tup [.agg [.lit (.int .i64 0), .lit (.slice none 0 0), .lit (.int .i64 0), .lit (.int .i64 0), .lit (.int .i64 0), .lit (.slice none 0 0), .lit (.int .i64 0)], .lit (.int .i64 e)]) (.tup [.agg (encImg zImg), .lit (.int .i64 e)]) :=
  Fin.weak rfl (fun w S v hv => by
    simp only [AV.rel, AV.relL, encImg, zImg] at hv ⊢
    obtain ⟨cs, rfl, _, _, rfl, ⟨cs', rfl, _, _, rfl, rfl, _, _, rfl, rfl, _, _, rfl, rfl, _, _, rfl, rfl, _, _, rfl, rfl, _, _, rfl, rfl, _, _, rfl, rfl, rfl⟩, _, _, rfl, rfl, rfl⟩ := hv
    exact ⟨_, rfl, _, _, rfl, ⟨_, rfl, _, _, rfl, rfl, _, _, rfl, Ty.slice_nilS _ _ _, _, _, rfl, rfl, _, _, rfl, rfl, _, _, rfl, rfl, _, _, rfl, Ty.slice_nilS _ _ _, _, _, rfl, rfl, rfl⟩, _, _, rfl, rfl, rfl⟩) hm
theorem aggImg : aggT Tryd.prog 25 = some (true, 7) := by kernel_rfl
end Mu
end
section
/-
  The shelf's contracts at this dump, in plain words: texts.
  Conditions: as each says.
-/
namespace Go.Proofs
open Go.Shelf
def Tryd.lays156_ren : Go.Shelf.Ren := ⟨fun | 156 => 38 | 165 => 57 | 166 => 58 | 169 => 59 | 240 => 76 | 241 => 77 | 276 => 89 | 277 => 90 | n => n, fun | 31 => 51 | 9 => 9 | 3 => 3 | 4 => 4 | 0 => 0 | 20 => 20 | 72 => 81 | 76 => 85 | 70 => 79 | 37 => 40 | 75 => 84 | 127 => 101 | 164 => 110 | 5 => 5 | 80 => 56 | n => n, fun | n => n⟩
theorem Tryd.lays156 : Go.Proofs.Lays.n156 Tryd.prog Tryd.lays156_ren := {
  mixed := by kernel_rfl
  f156 := Tryd.func38.trans (congrArg some (by kernel_rfl))
  f165 := Tryd.func57.trans (congrArg some (by kernel_rfl))
  f166 := Tryd.func58.trans (congrArg some (by kernel_rfl))
  f169 := Tryd.func59.trans (congrArg some (by kernel_rfl))
  f240 := Tryd.func76.trans (congrArg some (by kernel_rfl))
  f241 := Tryd.func77.trans (congrArg some (by kernel_rfl))
  f276 := Tryd.func89.trans (congrArg some (by kernel_rfl))
  f277 := Tryd.func90.trans (congrArg some (by kernel_rfl))
  t0 := Tryd.underlying0
  a0 := Tryd.isAgg0
  z0 := Tryd.sizeOf0
  v0 := Tryd.zeroValue0
  t3 := Tryd.underlying3
  a3 := Tryd.isAgg3
  z3 := Tryd.sizeOf3
  v3 := Tryd.zeroValue3
  t4 := Tryd.underlying4
  a4 := Tryd.isAgg4
  z4 := Tryd.sizeOf4
  v4 := Tryd.zeroValue4
  t9 := Tryd.underlying9
  a9 := Tryd.isAgg9
  z9 := Tryd.sizeOf9
  v9 := Tryd.zeroValue9
  t20 := Tryd.underlying20
  a20 := Tryd.isAgg20
  z20 := Tryd.sizeOf20
  v20 := Tryd.zeroValue20
  t31 := Tryd.underlying51
  a31 := Tryd.isAgg51
  z31 := Tryd.sizeOf51
  v31 := Tryd.zeroValue51
  t37 := Tryd.underlying40
  a37 := Tryd.isAgg40
  z37 := Tryd.sizeOf40
  v37 := Tryd.zeroValue40
  t70 := Tryd.underlying79
  a70 := Tryd.isAgg79
  z70 := Tryd.sizeOf79
  v70 := Tryd.zeroValue79
  t72 := Tryd.underlying81
  a72 := Tryd.isAgg81
  z72 := Tryd.sizeOf81
  v72 := Tryd.zeroValue81
  t75 := Tryd.underlying84
  a75 := Tryd.isAgg84
  z75 := Tryd.sizeOf84
  v75 := Tryd.zeroValue84
  t76 := Tryd.underlying85
  a76 := Tryd.isAgg85
  z76 := Tryd.sizeOf85
  v76 := Tryd.zeroValue85
  t127 := Tryd.underlying101
  a127 := Tryd.isAgg101
  z127 := Tryd.sizeOf101
  v127 := Tryd.zeroValue101
  t164 := Tryd.underlying110
  a164 := Tryd.isAgg110
  z164 := Tryd.sizeOf110
  v164 := Tryd.zeroValue110 }
theorem Tryd.Builder_Extra_156 : Builder.Extra Tryd.prog Tryd.lays156_ren := {
  sizeBuilder := by kernel_rfl
  liesBuilder := by kernel_rfl
  t5 := Tryd.underlying5
  a5 := Tryd.isAgg5
  z5 := Tryd.sizeOf5
  v5 := Tryd.zeroValue5
  infoByte := by kernel_rfl
  cellsByte := by kernel_rfl
  sizeByte := by kernel_rfl
  neB5 := by decide }
open Go.RowKit in
/-- No element: the empty string; the world is as it was. (Whatever the slice's address and capacity: a nil slice too.) (LAID: no walk: one application.) -/
theorem Tryd.strings_Join_none (a : Option Addr) (c : Nat) (sep : ByteArray) (w : World) :
    Calls Tryd.prog 38 #[.slice a 0 c, .string sep] w fun e w' => e = .returned (.string ⟨#[]⟩) ∧ w' = w := Any.strings_Join_none Tryd.lays156 Tryd.Builder_Extra_156 a c sep w
open Go.RowKit in
/-- strings.Join: "Join concatenates the elements of its first argument to create a single string. The separator string sep is placed between elements in the resulting string.": HOWEVER MANY ELEMENTS. Below the heap's end the world is as it was. (LAID: no walk: one application.) -/
theorem Tryd.strings_Join (bk o c : Nat) (xs : List ByteArray) (sep : ByteArray) (w : World) (hcells : ∀ (j : Nat) x, xs[j]? = some x → w.cell? ⟨bk, o + j, none⟩ = some (.string x)) (hbk : bk < w.heap.size) (hN : xs.length ≤ 140737488355328) (hcap : xs.length ≤ c) (hlen : (Lib.join (xs.map (·.data.toList)) sep.data.toList).length ≤ 140737488355328) :
    Calls Tryd.prog 38 #[.slice (some ⟨bk, o, none⟩) xs.length c, .string sep] w fun e w' => e = .returned (.string ⟨(Lib.join (xs.map (·.data.toList)) sep.data.toList).toArray⟩) ∧ Below w.heap.size w w' := Any.strings_Join Tryd.lays156 Tryd.Builder_Extra_156 bk o c xs sep w hcells hbk hN hcap hlen
def Tryd.lays137_ren : Go.Shelf.Ren := ⟨fun | 137 => 49 | 217 => 68 | 266 => 84 | n => n, fun | 9 => 9 | 5 => 5 | 3 => 3 | n => n, fun | n => n⟩
theorem Tryd.lays137 : Go.Proofs.Lays.n137 Tryd.prog Tryd.lays137_ren := {
  mixed := by kernel_rfl
  f137 := Tryd.func49.trans (congrArg some (by kernel_rfl))
  f217 := Tryd.func68.trans (congrArg some (by kernel_rfl))
  f266 := Tryd.func84.trans (congrArg some (by kernel_rfl))
  t3 := Tryd.underlying3
  a3 := Tryd.isAgg3
  z3 := Tryd.sizeOf3
  v3 := Tryd.zeroValue3
  t5 := Tryd.underlying5
  a5 := Tryd.isAgg5
  z5 := Tryd.sizeOf5
  v5 := Tryd.zeroValue5
  t9 := Tryd.underlying9
  a9 := Tryd.isAgg9
  z9 := Tryd.sizeOf9
  v9 := Tryd.zeroValue9 }
open Go.RowKit in
/-- strings.IndexByte: "IndexByte returns the index of the first instance of c in s, or -1 if c is not present in s.": IT RETURNS 'Lib.indexByte s c'; the world is as it was. (LAID: no walk: one application.) -/
theorem Tryd.strings_IndexByte (s : ByteArray) (c : Int) (w : World) :
    Calls Tryd.prog 49 #[.string s, .int .u8 c] w fun e w' => e = .returned (.int .i64 (Lib.indexByte s.data.toList c.toNat.toUInt8)) ∧ w' = w := Any.strings_IndexByte Tryd.lays137 s c w
def Tryd.lays103_ren : Go.Shelf.Ren := ⟨fun | 103 => 20 | 210 => 44 | 206 => 61 | n => n, fun | 9 => 9 | 4 => 4 | 24 => 43 | 3 => 3 | n => n, fun | n => n⟩
theorem Tryd.lays103 : Go.Proofs.Lays.n103 Tryd.prog Tryd.lays103_ren := {
  mixed := by kernel_rfl
  f103 := Tryd.func20.trans (congrArg some (by kernel_rfl))
  f206 := Tryd.func61.trans (congrArg some (by kernel_rfl))
  f210 := Tryd.func44.trans (congrArg some (by kernel_rfl))
  t3 := Tryd.underlying3
  a3 := Tryd.isAgg3
  z3 := Tryd.sizeOf3
  v3 := Tryd.zeroValue3
  t4 := Tryd.underlying4
  a4 := Tryd.isAgg4
  z4 := Tryd.sizeOf4
  v4 := Tryd.zeroValue4
  t9 := Tryd.underlying9
  a9 := Tryd.isAgg9
  z9 := Tryd.sizeOf9
  v9 := Tryd.zeroValue9
  t24 := Tryd.underlying43
  a24 := Tryd.isAgg43
  z24 := Tryd.sizeOf43
  v24 := Tryd.zeroValue43 }
open Go.RowKit in
/-- strings.CutPrefix: "CutPrefix returns s without the provided leading prefix string and reports whether it found the prefix. If s doesn't start with prefix, CutPrefix returns s, false. If prefix is the empty string, CutPrefix returns s, true.": IT RETURNS '(Lib.trimPrefix s p, Lib.hasPrefix s p)'; the world is as it was. (LAID: no walk: one application.) -/
theorem Tryd.strings_CutPrefix (s p : ByteArray) (w : World) :
    Calls Tryd.prog 20 #[.string s, .string p] w fun e w' => e = .returned (.tuple #[.string ⟨(Lib.trimPrefix s.data.toList p.data.toList).toArray⟩, .bool (Lib.hasPrefix s.data.toList p.data.toList)]) ∧ w' = w := Any.strings_CutPrefix Tryd.lays103 s p w
def Tryd.lays145_ren : Go.Shelf.Ren := ⟨fun | 145 => 29 | 220 => 48 | 219 => 67 | 217 => 68 | 225 => 81 | 224 => 82 | 267 => 83 | 266 => 84 | 314 => 92 | n => n, fun | 9 => 9 | 4 => 4 | 59 => 54 | 3 => 3 | 5 => 5 | 46 => 41 | 146 => 113 | 51 => 39 | n => n, fun | 1 => 0 | n => n⟩
theorem Tryd.lays145 : Go.Proofs.Lays.n145 Tryd.prog Tryd.lays145_ren := {
  mixed := by kernel_rfl
  f145 := Tryd.func29.trans (congrArg some (by kernel_rfl))
  f217 := Tryd.func68.trans (congrArg some (by kernel_rfl))
  f219 := Tryd.func67.trans (congrArg some (by kernel_rfl))
  f220 := Tryd.func48.trans (congrArg some (by kernel_rfl))
  f224 := Tryd.func82.trans (congrArg some (by kernel_rfl))
  f225 := Tryd.func81.trans (congrArg some (by kernel_rfl))
  f266 := Tryd.func84.trans (congrArg some (by kernel_rfl))
  f267 := Tryd.func83.trans (congrArg some (by kernel_rfl))
  f314 := Tryd.func92.trans (congrArg some (by kernel_rfl))
  t3 := Tryd.underlying3
  a3 := Tryd.isAgg3
  z3 := Tryd.sizeOf3
  v3 := Tryd.zeroValue3
  t4 := Tryd.underlying4
  a4 := Tryd.isAgg4
  z4 := Tryd.sizeOf4
  v4 := Tryd.zeroValue4
  t5 := Tryd.underlying5
  a5 := Tryd.isAgg5
  z5 := Tryd.sizeOf5
  v5 := Tryd.zeroValue5
  t9 := Tryd.underlying9
  a9 := Tryd.isAgg9
  z9 := Tryd.sizeOf9
  v9 := Tryd.zeroValue9
  t46 := Tryd.underlying41
  a46 := Tryd.isAgg41
  z46 := Tryd.sizeOf41
  v46 := Tryd.zeroValue41
  t51 := Tryd.underlying39
  a51 := Tryd.isAgg39
  z51 := Tryd.sizeOf39
  v51 := Tryd.zeroValue39
  t59 := Tryd.underlying54
  a59 := Tryd.isAgg54
  z59 := Tryd.sizeOf54
  v59 := Tryd.zeroValue54
  t146 := Tryd.underlying113
  a146 := Tryd.isAgg113
  z146 := Tryd.sizeOf113
  v146 := Tryd.zeroValue113
  g1 := by kernel_rfl }
open Go.RowKit Go.Lib in
/-- strings.Cut: "Cut slices s around the first instance of sep, returning the text before and after sep. The found result reports whether sep appears in s. If sep does not appear in s, cut returns s, "", false.": IT RETURNS 'Lib.cut s sep'; the world is as it was but for the count of draws. (LAID: no walk: one application.) -/
theorem Tryd.strings_Cut (s sep : ByteArray) (m : Int) (w : World) (hs : s.size < 4294967281) (hm : w.cell? ⟨0, 0, none⟩ = some (.int .i64 m)) :
    Calls Tryd.prog 29 #[.string s, .string sep] w fun e w' => e = .returned (.tuple #[.string ⟨(Lib.cut s.data.toList sep.data.toList).1.toArray⟩, .string ⟨(Lib.cut s.data.toList sep.data.toList).2.1.toArray⟩, .bool (Lib.cut s.data.toList sep.data.toList).2.2]) ∧ ∃ n, w' = w.drewN n := Any.strings_Cut Tryd.lays145 s sep m w hs hm
def Tryd.lays102_ren : Go.Shelf.Ren := ⟨fun | 102 => 27 | 209 => 47 | 207 => 66 | n => n, fun | 9 => 9 | 4 => 4 | 3 => 3 | n => n, fun | n => n⟩
theorem Tryd.lays102 : Go.Proofs.Lays.n102 Tryd.prog Tryd.lays102_ren := {
  mixed := by kernel_rfl
  f102 := Tryd.func27.trans (congrArg some (by kernel_rfl))
  f207 := Tryd.func66.trans (congrArg some (by kernel_rfl))
  f209 := Tryd.func47.trans (congrArg some (by kernel_rfl))
  t3 := Tryd.underlying3
  a3 := Tryd.isAgg3
  z3 := Tryd.sizeOf3
  v3 := Tryd.zeroValue3
  t4 := Tryd.underlying4
  a4 := Tryd.isAgg4
  z4 := Tryd.sizeOf4
  v4 := Tryd.zeroValue4
  t9 := Tryd.underlying9
  a9 := Tryd.isAgg9
  z9 := Tryd.sizeOf9
  v9 := Tryd.zeroValue9 }
open Go.RowKit Go.Lib in
/-- strings.TrimSuffix: "TrimSuffix returns s without the provided trailing suffix string. If s doesn't end with suffix, s is returned unchanged.": IT RETURNS 'Lib.trimSuffix s suffix'; the world is as it was. (LAID: no walk: one application.) -/
theorem Tryd.strings_TrimSuffix (s p : ByteArray) (w : World) (hs : s.size ≤ 9223372036854775807) :
    Calls Tryd.prog 27 #[.string s, .string p] w fun e w' => e = .returned (.string ⟨(Lib.trimSuffix s.data.toList p.data.toList).toArray⟩) ∧ w' = w := Any.strings_TrimSuffix Tryd.lays102 s p w hs
def Tryd.lays146_ren : Go.Shelf.Ren := ⟨fun | 146 => 26 | 221 => 46 | 268 => 63 | 138 => 64 | 143 => 65 | 195 => 78 | 197 => 79 | 218 => 80 | 219 => 67 | 260 => 91 | 217 => 68 | 225 => 81 | 224 => 82 | 267 => 83 | 266 => 84 | 314 => 92 | n => n, fun | 9 => 9 | 31 => 51 | 3 => 3 | 4 => 4 | 0 => 0 | 105 => 103 | 21 => 21 | 5 => 5 | 46 => 41 | 119 => 123 | 139 => 126 | 138 => 125 | 146 => 113 | 51 => 39 | n => n, fun | 1 => 0 | 3 => 2 | 4 => 3 | n => n⟩
theorem Tryd.lays146 : Go.Proofs.Lays.n146 Tryd.prog Tryd.lays146_ren := {
  mixed := by kernel_rfl
  f138 := Tryd.func64.trans (congrArg some (by kernel_rfl))
  f143 := Tryd.func65.trans (congrArg some (by kernel_rfl))
  f146 := Tryd.func26.trans (congrArg some (by kernel_rfl))
  f195 := Tryd.func78.trans (congrArg some (by kernel_rfl))
  f197 := Tryd.func79.trans (congrArg some (by kernel_rfl))
  f217 := Tryd.func68.trans (congrArg some (by kernel_rfl))
  f218 := Tryd.func80.trans (congrArg some (by kernel_rfl))
  f219 := Tryd.func67.trans (congrArg some (by kernel_rfl))
  f221 := Tryd.func46.trans (congrArg some (by kernel_rfl))
  f224 := Tryd.func82.trans (congrArg some (by kernel_rfl))
  f225 := Tryd.func81.trans (congrArg some (by kernel_rfl))
  f260 := Tryd.func91.trans (congrArg some (by kernel_rfl))
  f266 := Tryd.func84.trans (congrArg some (by kernel_rfl))
  f267 := Tryd.func83.trans (congrArg some (by kernel_rfl))
  f268 := Tryd.func63.trans (congrArg some (by kernel_rfl))
  f314 := Tryd.func92.trans (congrArg some (by kernel_rfl))
  t0 := Tryd.underlying0
  a0 := Tryd.isAgg0
  z0 := Tryd.sizeOf0
  v0 := Tryd.zeroValue0
  t3 := Tryd.underlying3
  a3 := Tryd.isAgg3
  z3 := Tryd.sizeOf3
  v3 := Tryd.zeroValue3
  t4 := Tryd.underlying4
  a4 := Tryd.isAgg4
  z4 := Tryd.sizeOf4
  v4 := Tryd.zeroValue4
  t5 := Tryd.underlying5
  a5 := Tryd.isAgg5
  z5 := Tryd.sizeOf5
  v5 := Tryd.zeroValue5
  t9 := Tryd.underlying9
  a9 := Tryd.isAgg9
  z9 := Tryd.sizeOf9
  v9 := Tryd.zeroValue9
  t21 := Tryd.underlying21
  a21 := Tryd.isAgg21
  z21 := Tryd.sizeOf21
  v21 := Tryd.zeroValue21
  t31 := Tryd.underlying51
  a31 := Tryd.isAgg51
  z31 := Tryd.sizeOf51
  v31 := Tryd.zeroValue51
  t46 := Tryd.underlying41
  a46 := Tryd.isAgg41
  z46 := Tryd.sizeOf41
  v46 := Tryd.zeroValue41
  t51 := Tryd.underlying39
  a51 := Tryd.isAgg39
  z51 := Tryd.sizeOf39
  v51 := Tryd.zeroValue39
  t105 := Tryd.underlying103
  a105 := Tryd.isAgg103
  z105 := Tryd.sizeOf103
  v105 := Tryd.zeroValue103
  t119 := Tryd.underlying123
  a119 := Tryd.isAgg123
  z119 := Tryd.sizeOf123
  t138 := Tryd.underlying125
  a138 := Tryd.isAgg125
  z138 := Tryd.sizeOf125
  v138 := Tryd.zeroValue125
  t139 := Tryd.underlying126
  a139 := Tryd.isAgg126
  z139 := Tryd.sizeOf126
  v139 := Tryd.zeroValue126
  t146 := Tryd.underlying113
  a146 := Tryd.isAgg113
  z146 := Tryd.sizeOf113
  v146 := Tryd.zeroValue113
  g1 := by kernel_rfl
  g3 := by kernel_rfl
  g4 := by kernel_rfl }
open Go.RowKit Go.Lib in
/-- strings.Split. (LAID: no walk: one application.) -/
theorem Tryd.strings_Split (s sep : ByteArray) (m : Int) (w : World) (hs : s.size < 4294967281) (hm : w.cell? ⟨0, 0, none⟩ = some (.int .i64 m)) (h1 : 1 ≤ sep.size) :
    Calls Tryd.prog 26 #[.string s, .string sep] w fun e w' =>
      e = .returned (.slice (some ⟨w.heap.size, 0, none⟩) (Lib.countB s sep + 1) (Lib.countB s sep + 1)) ∧ w' = w.alloc (.cells ((Lib.splitB sep 0 (Lib.countB s sep) s).map Value.string).toArray 9) := Any.strings_Split Tryd.lays146 (by kernel_rfl) s sep m w hs hm h1
end Go.Proofs
end
section
/-
  The image whose bytes they are, in plain words; strings.CutPrefix.
  Conditions: rows of bytes, at most 10^9.
-/
namespace Mu
open Go Go.RowKit Go.Proofs

theorem bytes4_num4 {a b c d : Int} (_ha : 0 ≤ a ∧ a ≤ 255) (hb : 0 ≤ b ∧ b ≤ 255) (hc : 0 ≤ c ∧ c ≤ 255) (hd : 0 ≤ d ∧ d ≤ 255) : bytes4 (num4 a b c d) = [a, b, c, d] := by
  unfold bytes4 num4
  congr 1
  · omega
  congr 1
  · omega
  congr 1
  · omega
  congr 1
  omega
theorem num4_bytes4 {n : Int} (h : wfI .u32 n) : num4 (n / 16777216) (n / 65536 % 256) (n / 256 % 256) (n % 256) = n := by
  have := wfI_u32 h
  unfold num4
  omega
theorem bytesN_words : ∀ {l : List Int}, allU8 l → l.length % 4 = 0 → bytesN (wordsOf l) = l
  | [], _, _ => rfl
  | [_], _, h => by simp at h
  | [_, _], _, h => by simp at h
  | [_, _, _], _, h => by simp at h
  | a :: b :: c :: d :: r, hu, h => by
    have ih := bytesN_words (l := r) (fun x hx => hu x (by simp [hx])) (by simp only [List.length_cons] at h; omega)
    unfold wordsOf bytesN
    rw [List.flatMap_cons, bytes4_num4 (hu a (by simp)) (hu b (by simp)) (hu c (by simp)) (hu d (by simp))]
    unfold bytesN at ih
    rw [ih]
    rfl
theorem words_bytesN : ∀ {l : List Int}, allU32 l → wordsOf (bytesN l) = l
  | [], _ => rfl
  | n :: r, h => by
    have ih := words_bytesN (l := r) fun x hx => h x (by simp [hx])
    unfold bytesN at ih ⊢
    rw [List.flatMap_cons]
    show num4 _ _ _ _ :: wordsOf (List.flatMap bytes4 r) = n :: r
    rw [ih, num4_bytes4 (h n (by simp))]
theorem wrap_fit {a : Int} (h : wfI .u32 a) : IntKind.u32.wrap a = a := by
  have := wfI_u32 h
  rw [wrap_u32m]
  omega
theorem wrap_len {n : Nat} (h : n ≤ 1000000000) : IntKind.u32.wrap (n : Int) = n := by
  rw [wrap_u32m]
  omega
section
variable {R mid : List Int} {n0 n1 n2 n3 n4 n5 n6 last : Int}
theorem ref_mid (hW : wordsOf R = n0 :: n1 :: n2 :: n3 :: n4 :: n5 :: n6 :: (mid ++ [last])) : midL (magicL ++ R) = mid := by
  have hlen : R.length / 4 = 8 + mid.length := by
    rw [← wordsOf_len, hW]
    simp only [List.length_cons, List.length_append, List.length_nil]
    omega
  unfold midL
  have e : wordsOf (magicL ++ R) = num4 77 78 84 78 :: wordsOf R := rfl
  rw [e, hW]
  have e2 : ((magicL ++ R).length - 36) / 4 = mid.length := by
    rw [List.length_append]
    show (4 + R.length - 36) / 4 = _
    omega
  rw [e2]
  show (mid ++ [last]).take mid.length = mid
  rw [List.take_left]
theorem ref_parts (hW : wordsOf R = n0 :: n1 :: n2 :: n3 :: n4 :: n5 :: n6 :: (mid ++ [last])) : refX (magicL ++ R) = ⟨n0, mid.drop n5.toNat, n1, n2, n3, mid.take n5.toNat, n4⟩ := by
  have e : wordsOf (magicL ++ R) = num4 77 78 84 78 :: wordsOf R := rfl
  unfold refX
  rw [ref_mid hW]
  unfold atW
  rw [e, hW]
  rfl
theorem get_yes (hW : wordsOf R = n0 :: n1 :: n2 :: n3 :: n4 :: n5 :: n6 :: (mid ++ [last])) (hR : R.length % 4 = 0) (hu : allU8 R) (hl : R.length ≤ 900000000) : getOK (magicL ++ R) = (mayB (refX (magicL ++ R)) && (decide (sumF (n0 :: n1 :: n2 :: n3 :: n4 :: n5 :: n6 :: mid) = last) && decide (n5 + n6 = (mid.length : Int)))) := by
  have hlen : R.length / 4 = 8 + mid.length := by
    rw [← wordsOf_len, hW]
    simp only [List.length_cons, List.length_append, List.length_nil]
    omega
  have hwu := wordsOf_u hu
  rw [hW] at hwu
  have w0 := hwu n0 (by simp)
  have w1 := hwu n1 (by simp)
  have w2 := hwu n2 (by simp)
  have w3 := hwu n3 (by simp)
  have w4 := hwu n4 (by simp)
  have w5 := hwu n5 (by simp)
  have w6 := hwu n6 (by simp)
  have wl := hwu last (by simp)
  have b5 := wfI_u32 w5
  have b6 := wfI_u32 w6
  have hlen36 : 36 ≤ (magicL ++ R).length := by rw [List.length_append]; show 36 ≤ 4 + R.length; omega
  have hnums : numsL (refX (magicL ++ R)) = n0 :: n1 :: n2 :: n3 :: n4 :: IntKind.u32.wrap ((mid.take n5.toNat).length : Int) :: IntKind.u32.wrap ((mid.drop n5.toNat).length : Int) :: mid := by
    rw [ref_parts hW]
    unfold numsL headL
    dsimp only
    rw [wrap_fit w0, wrap_fit w1, wrap_fit w2, wrap_fit w3, wrap_fit w4]
    simp only [List.cons_append, List.nil_append, List.take_append_drop]
  have hput : decide (putL (refX (magicL ++ R)) = magicL ++ R) = (decide (sumF (n0 :: n1 :: n2 :: n3 :: n4 :: n5 :: n6 :: mid) = last) && decide (n5 + n6 = (mid.length : Int))) := by
    rw [Bool.eq_iff_iff, Bool.and_eq_true, decide_eq_true_eq, decide_eq_true_eq, decide_eq_true_eq]
    unfold putL
    rw [hnums, List.append_assoc, List.append_right_inj]
    have l1 : IntKind.u32.wrap ((mid.take n5.toNat).length : Int) = ((mid.take n5.toNat).length : Int) := wrap_len (by rw [List.length_take]; omega)
    have l2 : IntKind.u32.wrap ((mid.drop n5.toNat).length : Int) = ((mid.drop n5.toNat).length : Int) := wrap_len (by rw [List.length_drop]; omega)
    rw [l1, l2]
    have k1 := List.length_take (i := n5.toNat) (l := mid)
    have k2 := List.length_drop (i := n5.toNat) (l := mid)
    constructor
    · intro h
      have hN : allU32 (n0 :: n1 :: n2 :: n3 :: n4 :: ((mid.take n5.toNat).length : Int) :: ((mid.drop n5.toNat).length : Int) :: mid) := by
        rw [← l1, ← l2, ← hnums]
        exact numsL_u (refX_fine (fun a ha => by
          rcases List.mem_append.1 ha with ha | ha
          · exact wfI_u8 (magicFit a ha)
          · exact hu a ha) (by rw [List.length_append]; show 4 + R.length ≤ _; omega))
      have h2 := congrArg wordsOf h
      rw [← bytesN_one, show ∀ a b : List Int, bytesN a ++ bytesN b = bytesN (a ++ b) from fun a b => by unfold bytesN; rw [List.flatMap_append], words_bytesN (fun a ha => by
        rcases List.mem_append.1 ha with ha | ha
        · exact hN a ha
        · rw [List.mem_singleton.1 ha]; exact sumF_wf _), hW] at h2
      simp only [List.cons_append, List.cons.injEq, true_and] at h2
      obtain ⟨e5, e6, h3⟩ := h2
      rw [e5, e6] at h3
      have e7 := (List.append_inj' h3 rfl).2
      simp only [List.cons.injEq, and_true] at e7
      exact ⟨e7, by omega⟩
    · rintro ⟨hs, hn⟩
      have e5 : ((mid.take n5.toNat).length : Int) = n5 := by omega
      have e6 : ((mid.drop n5.toNat).length : Int) = n6 := by omega
      rw [e5, e6, hs, ← bytesN_one, show ∀ a b : List Int, bytesN a ++ bytesN b = bytesN (a ++ b) from fun a b => by unfold bytesN; rw [List.flatMap_append]]
      have : bytesN (wordsOf R) = R := bytesN_words hu hR
      rw [hW] at this
      exact this
  unfold getOK
  rw [decide_eq_true hlen36, Bool.true_and, hput]
end
theorem get_magic {L : List Int} (h : L.take 4 ≠ magicL) : getOK L = false := by
  unfold getOK
  have : putL (refX L) ≠ L := fun e => h (by rw [← e]; rfl)
  rw [decide_eq_false this, Bool.and_false, Bool.and_false]
theorem get_mod {L : List Int} (h : L.length % 4 ≠ 0) : getOK L = false := by
  unfold getOK
  have : putL (refX L) ≠ L := fun e => h (by
    rw [← e]
    unfold putL
    rw [List.length_append, List.length_append, bytesN_len]
    show (4 + _ + 4) % 4 = 0
    omega)
  rw [decide_eq_false this, Bool.and_false, Bool.and_false]
theorem get_short {L : List Int} (h : L.length < 36) : getOK L = false := by
  unfold getOK
  rw [decide_eq_false (by omega), Bool.false_and]
/-! ### strings.CutPrefix of the magic -/
theorem ba_mk (a : ByteArray) : (⟨a.data.toList.toArray⟩ : ByteArray) = a := by cases a; rfl
theorem cut_list (l : List Int) : (bytesOf l).data.toList = l.map fun n => UInt8.ofNat n.toNat := by unfold bytesOf; simp
theorem relL_lit2 {w : World} {S : Nat → Prop} {h : List ABlk} {ψ : Nat → Value} {u v : Value} {vs : List Value} (H : AV.relL w S h ψ [.lit u, .lit v] vs) : vs = [u, v] := by
  simp only [AV.relL, AV.rel] at H
  obtain ⟨_, _, rfl, rfl, _, _, rfl, rfl, rfl⟩ := H
  rfl
def magB : ByteArray := ⟨#[77, 78, 84, 78]⟩
theorem cut_is {R : List Int} : Fn Tryd.prog 20 [.lit (.string (bytesOf (magicL ++ R))), .lit (.string magB)] (.tup [.lit (.string (bytesOf R)), .lit (.bool true)]) := by
  refine ⟨by kernel_rfl, fun w S vs hS hr => ?_⟩
  obtain rfl := relL_lit2 hr
  refine (Tryd.strings_CutPrefix (bytesOf (magicL ++ R)) magB w).mono fun e w' ⟨he, hw⟩ => ?_
  subst hw
  have hp : Lib.hasPrefix (bytesOf (magicL ++ R)).data.toList magB.data.toList = true := by
    rw [cut_list]
    unfold Lib.hasPrefix magB magicL
    simp
  have ht : (⟨(Lib.trimPrefix (bytesOf (magicL ++ R)).data.toList magB.data.toList).toArray⟩ : ByteArray) = bytesOf R := by
    unfold Lib.trimPrefix
    rw [if_pos hp, cut_list]
    unfold bytesOf magicL magB
    simp
  rw [hp, ht] at he
  refine ⟨_, he, Below.refl _ _, S, fun _ h => h, fun _ h => .inl h, hS, ?_⟩
  simp only [AV.rel, AV.relL]
  exact ⟨_, rfl, _, _, rfl, rfl, _, _, rfl, rfl, rfl⟩
theorem cut_not {L : List Int} (hL : allU8 L) (h : L.take 4 ≠ magicL) : Fn Tryd.prog 20 [.lit (.string (bytesOf L)), .lit (.string magB)] (.tup [.lit (.string (bytesOf L)), .lit (.bool false)]) := by
  refine ⟨by kernel_rfl, fun w S vs hS hr => ?_⟩
  obtain rfl := relL_lit2 hr
  refine (Tryd.strings_CutPrefix (bytesOf L) magB w).mono fun e w' ⟨he, hw⟩ => ?_
  subst hw
  have hp : Lib.hasPrefix (bytesOf L).data.toList magB.data.toList = false := by
    rw [Bool.eq_false_iff]
    intro hp
    apply h
    unfold Lib.hasPrefix at hp
    rw [List.isPrefixOf_iff_prefix] at hp
    obtain ⟨t, ht⟩ := hp
    have e : L = magicL ++ t.map fun b => (b.toNat : Int) := by
      rw [← bytesL_bytesOf hL]
      unfold bytesL
      rw [← ht]
      rfl
    rw [e]
    rfl
  have ht : (⟨(Lib.trimPrefix (bytesOf L).data.toList magB.data.toList).toArray⟩ : ByteArray) = bytesOf L := by
    unfold Lib.trimPrefix
    rw [if_neg (by rw [hp]; exact Bool.false_ne_true), ba_mk]
  rw [hp, ht] at he
  refine ⟨_, he, Below.refl _ _, S, fun _ h => h, fun _ h => .inl h, hS, ?_⟩
  simp only [AV.rel, AV.relL]
  exact ⟨_, rfl, _, _, rfl, rfl, _, _, rfl, rfl, rfl⟩
end Mu
end
section
/-
  The image whose bytes they are: image.Get.
  Conditions: at most 9 * 10^8 bytes.
-/
namespace Mu
open Go Go.RowKit Go.Proofs

theorem words_last {R : List Int} (h : 8 ≤ (wordsOf R).length) : ∃ n0 n1 n2 n3 n4 n5 n6 mid last, wordsOf R = n0 :: n1 :: n2 :: n3 :: n4 :: n5 :: n6 :: (mid ++ [last]) := by
  rcases hw : wordsOf R with _ | ⟨n0, _ | ⟨n1, _ | ⟨n2, _ | ⟨n3, _ | ⟨n4, _ | ⟨n5, _ | ⟨n6, r⟩⟩⟩⟩⟩⟩⟩ <;> rw [hw] at h <;> try (exfalso; simp only [List.length_cons, List.length_nil] at h; omega)
  have hr : r ≠ [] := fun e => by subst e; simp only [List.length_cons, List.length_nil] at h; omega
  exact ⟨n0, n1, n2, n3, n4, n5, n6, r.dropLast, r.getLast hr, by rw [List.dropLast_concat_getLast hr]⟩
theorem rem4 {n : Nat} : intBin .rem .i64 (n : Int) 4 = some (.int .i64 ((n % 4 : Nat) : Int)) := by
  unfold intBin
  simp only
  rw [if_neg (by decide)]
  rfl
set_option maxRecDepth 100000 in
set_option maxHeartbeats 4000000 in
theorem get31_not (L : List Int) (hL : allU8 L) (hl : L.length ≤ 900000000) (hno : L.take 4 ≠ magicL) : Fn Tryd.prog 8 [.lit (.string (bytesOf L))] (.tup [.agg (encImg (getX L)), .lit (.int .i64 (getE L))]) := by
  have hcp := cut_not hL hno
  have hwf := words_fn L hL (by omega)
  have hok := get_magic hno
  have e1 : getX L = zImg := if_neg (by rw [hok]; simp)
  have e2 : getE L = 5 := if_neg (by rw [hok]; simp)
  refine Fn.of_awpC2 Tryd.func8 rfl (by kernel_rfl) rfl aggImg Tryd.ntmps8 fun C hC => ?_
  simp only [List.length_cons, List.length_nil, Nat.reduceAdd, Nat.reduceSub, List.replicate_succ, List.replicate_zero, List.cons_append, List.nil_append]
  refine wR (hk := ?_)
  refine wR (hk := ?_)
  refine wR (hk := ?_)
  refine Awp.seq fun K4 h4 => ?_
  refine wR (hk := ?_)
  refine Awp.cond rfl (fun hb6 => ?_) (fun hb6 => ?_)
  · refine wR (hx := by ((repeat (first | refine sA (hq := Quiet.bldP (rs := [.lit (.int .i64 0), .lit (.slice none 0 0), .lit (.int .i64 0), .lit (.int .i64 0), .lit (.int .i64 0), .lit (.slice none 0 0), .lit (.int .i64 0)]) rfl plImg rfl rfl) (hk := ?_) | refine sA (hk := ?_) | refine sSkip (hk := ?_) | refine sAG (hq := by (intro hg; (try simp only [] at hg); (try simp only [Bool.not_false]); exact Quiet.bldP (rs := [.lit (.int .i64 0), .lit (.slice none 0 0), .lit (.int .i64 0), .lit (.int .i64 0), .lit (.int .i64 0), .lit (.slice none 0 0), .lit (.int .i64 0)]) rfl plImg rfl rfl)) (hk := ?_) | refine sAG (hk := ?_) | refine sOwn (hk := ?_))); exact wEnd rfl)) (hk := ?_)
    rw [e1, e2]
    exact Awp.ret ⟨.inr rfl, 0, _, rfl, rfl, rfl, zero_fin⟩
  · exact absurd hb6 (by simp)
set_option maxRecDepth 100000 in
set_option maxHeartbeats 8000000 in
theorem get31_yes (R : List Int) (hu : allU8 R) (hl : R.length ≤ 900000000) : Fn Tryd.prog 8 [.lit (.string (bytesOf (magicL ++ R)))] (.tup [.agg (encImg (getX (magicL ++ R))), .lit (.int .i64 (getE (magicL ++ R)))]) := by
  have hsz : (bytesOf R).size = R.length := bytesOf_size R
  have hcp := cut_is (R := R)
  have hwf := words_fn R hu (by omega)
  have hwl := wordsOf_len R
  have hrem : intBin .rem .i64 ((bytesOf R).size : Int) 4 = some (.int .i64 ((R.length % 4 : Nat) : Int)) := by rw [hsz]; exact rem4
  refine Fn.of_awpC2 Tryd.func8 rfl (by kernel_rfl) rfl aggImg Tryd.ntmps8 fun C hC => ?_
  simp only [List.length_cons, List.length_nil, Nat.reduceAdd, Nat.reduceSub, List.replicate_succ, List.replicate_zero, List.cons_append, List.nil_append]
  refine wR (hk := ?_)
  refine wR (hk := ?_)
  refine wR (hk := ?_)
  refine Awp.seq fun K4 h4 => ?_
  refine wR (hk := ?_)
  refine Awp.cond rfl (fun hb6 => ?_) (fun hb6 => ?_)
  · refine wR (hx := by ((repeat (first | refine sA (hq := Quiet.bldP (rs := [.lit (.int .i64 0), .lit (.slice none 0 0), .lit (.int .i64 0), .lit (.int .i64 0), .lit (.int .i64 0), .lit (.slice none 0 0), .lit (.int .i64 0)]) rfl plImg rfl rfl) (hk := ?_) | refine sA (hk := ?_) | refine sSkip (hk := ?_) | refine sAG (hq := by (intro hg; (try simp only [] at hg); (try simp only [beq_false, Bool.not_true]); exact Quiet.bldP (rs := [.lit (.int .i64 0), .lit (.slice none 0 0), .lit (.int .i64 0), .lit (.int .i64 0), .lit (.int .i64 0), .lit (.slice none 0 0), .lit (.int .i64 0)]) rfl plImg rfl rfl)) (hk := ?_) | refine sAG (hk := ?_) | refine sOwn (hk := ?_))); exact wEnd rfl)) (hk := ?_)
    have h1 : (((R.length % 4 : Nat) : Int) != 0 || decide (((wordsOf R).length : Int) < 8)) = true := hb6
    have hno : getOK (magicL ++ R) = false := by
      rw [Bool.or_eq_true] at h1
      rcases h1 with h | h
      · have : ((R.length % 4 : Nat) : Int) ≠ 0 := by simpa using h
        exact get_mod (by rw [List.length_append]; show (4 + R.length) % 4 ≠ 0; omega)
      · have : ((wordsOf R).length : Int) < 8 := of_decide_eq_true h
        exact get_short (by rw [List.length_append]; show 4 + R.length < 36; omega)
    have e1 : getX (magicL ++ R) = zImg := if_neg (by rw [hno]; simp)
    have e2 : getE (magicL ++ R) = 5 := if_neg (by rw [hno]; simp)
    rw [e1, e2]
    exact Awp.ret ⟨.inr rfl, 0, _, rfl, rfl, rfl, zero_fin⟩
  · have h1 : (((R.length % 4 : Nat) : Int) != 0 || decide (((wordsOf R).length : Int) < 8)) = false := hb6
    obtain ⟨h2, h3⟩ := Bool.or_eq_false_iff.1 h1
    have hR : R.length % 4 = 0 := by
      have : ((R.length % 4 : Nat) : Int) = 0 := by simpa using h2
      omega
    obtain ⟨n0, n1, n2, n3, n4, n5, n6, mid, last, hW⟩ := words_last (R := R) (by
      have : ¬ ((wordsOf R).length : Int) < 8 := of_decide_eq_false h3
      omega)
    have hyes := get_yes hW hR hu hl
    have hpar := ref_parts hW
    have hX : FineImg (refX (magicL ++ R)) := refX_fine (fun a ha => by
      rcases List.mem_append.1 ha with ha | ha
      · exact wfI_u8 (magicFit a ha)
      · exact hu a ha) (by rw [List.length_append]; show 4 + R.length ≤ _; omega)
    have hwu := wordsOf_u hu
    rw [hW] at hwu hwl
    have hml : mid.length ≤ 900000000 := by
      simp only [List.length_cons, List.length_append, List.length_nil] at hwl
      omega
    have w0 := hwu n0 (by simp)
    have w1 := hwu n1 (by simp)
    have w2 := hwu n2 (by simp)
    have w3 := hwu n3 (by simp)
    have w4 := hwu n4 (by simp)
    have w5 := hwu n5 (by simp)
    have w6 := hwu n6 (by simp)
    have b5 := wfI_u32 w5
    have b6 := wfI_u32 w6
    have c0 : IntKind.i64.wrap n0 = n0 := wrap_in (wf_u32_i64 w0)
    have c1 : IntKind.i64.wrap n1 = n1 := wrap_in (wf_u32_i64 w1)
    have c2 : IntKind.i64.wrap n2 = n2 := wrap_in (wf_u32_i64 w2)
    have c3 : IntKind.i64.wrap n3 = n3 := wrap_in (wf_u32_i64 w3)
    have c4 : IntKind.i64.wrap n4 = n4 := wrap_in (wf_u32_i64 w4)
    have d5 : IntKind.u64.wrap n5 = n5 := IntWalk.u64_in _ (by omega)
    have d6 : IntKind.u64.wrap n6 = n6 := IntWalk.u64_in _ (by omega)
    have hown : (n0 :: n1 :: n2 :: n3 :: n4 :: n5 :: n6 :: mid).length = mid.length + 7 := rfl
    have hall : (n0 :: n1 :: n2 :: n3 :: n4 :: n5 :: n6 :: (mid ++ [last])).length = mid.length + 8 := by simp only [List.length_cons, List.length_append, List.length_nil]
    have hs1 : intBin .sub .i64 ((n0 :: n1 :: n2 :: n3 :: n4 :: n5 :: n6 :: (mid ++ [last])).length : Int) 1 = some (.int .i64 ((mid.length + 7 : Nat) : Int)) := by
      rw [hall]
      unfold intBin
      simp only
      rw [IntWalk.i64_in _ (by omega)]
      congr 2
      omega
    have hlast : (n0 :: n1 :: n2 :: n3 :: n4 :: n5 :: n6 :: (mid ++ [last]))[mid.length + 7]? = some last := by
      show (mid ++ [last])[mid.length]? = some last
      simp
    have hcut : ((n0 :: n1 :: n2 :: n3 :: n4 :: n5 :: n6 :: (mid ++ [last])).take (mid.length + 7)).drop 0 = n0 :: n1 :: n2 :: n3 :: n4 :: n5 :: n6 :: mid := by
      show n0 :: n1 :: n2 :: n3 :: n4 :: n5 :: n6 :: (mid ++ [last]).take mid.length = _
      rw [List.take_left]
    have i0 : (n0 :: n1 :: n2 :: n3 :: n4 :: n5 :: n6 :: (mid ++ [last]))[0]? = some n0 := rfl
    have i1 : (n0 :: n1 :: n2 :: n3 :: n4 :: n5 :: n6 :: (mid ++ [last]))[1]? = some n1 := rfl
    have i2 : (n0 :: n1 :: n2 :: n3 :: n4 :: n5 :: n6 :: (mid ++ [last]))[2]? = some n2 := rfl
    have i3 : (n0 :: n1 :: n2 :: n3 :: n4 :: n5 :: n6 :: (mid ++ [last]))[3]? = some n3 := rfl
    have i4 : (n0 :: n1 :: n2 :: n3 :: n4 :: n5 :: n6 :: (mid ++ [last]))[4]? = some n4 := rfl
    have i5 : (n0 :: n1 :: n2 :: n3 :: n4 :: n5 :: n6 :: (mid ++ [last]))[5]? = some n5 := rfl
    have i6 : (n0 :: n1 :: n2 :: n3 :: n4 :: n5 :: n6 :: (mid ++ [last]))[6]? = some n6 := rfl
    have hsum := sum_fn (n0 :: n1 :: n2 :: n3 :: n4 :: n5 :: n6 :: mid) (by rw [hown]; omega)
    have hadd : intBin .add .u64 n5 n6 = some (.int .u64 (n5 + n6)) := by
      unfold intBin
      simp only
      rw [IntWalk.u64_in _ (by omega)]
    have hs7 : intBin .sub .i64 ((n0 :: n1 :: n2 :: n3 :: n4 :: n5 :: n6 :: mid).length : Int) 7 = some (.int .i64 (mid.length : Int)) := by
      rw [hown]
      unfold intBin
      simp only
      rw [IntWalk.i64_in _ (by omega)]
      rw [show ((mid.length + 7 : Nat) : Int) - 7 = (mid.length : Int) by omega]
    have dm : IntKind.u64.wrap (mid.length : Int) = (mid.length : Int) := IntWalk.u64_in _ (by omega)
    rw [hW]
    refine Awp.skip ?_
    refine h4 _ ?_
    refine nT (hk := ?_)
    refine wD 13 (hq := by ((repeat (first | refine qA (hq := Quiet.ix (k := mid.length + 7) rfl rfl rfl rfl hlast) (hk := ?_) | refine qA (hq := Quiet.slc (l := 0) (m := mid.length + 7) rfl rfl rfl rfl ⟨_, rfl⟩ (Nat.zero_le _) (by rw [hall]; omega)) (hk := ?_) | refine qA (hk := ?_) | refine qSkip (hk := ?_) | refine qAG (hq := by (intro hg; (try simp only [Bool.and_eq_true, beq_true, beq_false, Bool.not_eq_true', Bool.not_eq_eq_eq_not, Bool.not_true, Bool.not_false] at hg); (try simp only [hg, beq_true, beq_false, cond_true, Bool.true_and, Bool.and_true, Bool.not_false, Bool.not_true, beq_self_eq_true]); exact Quiet.ix (k := mid.length + 7) rfl rfl rfl rfl hlast)) (hk := ?_) | refine qAG (hq := by (intro hg; (try simp only [Bool.and_eq_true, beq_true, beq_false, Bool.not_eq_true', Bool.not_eq_eq_eq_not, Bool.not_true, Bool.not_false] at hg); (try simp only [hg, beq_true, beq_false, cond_true, Bool.true_and, Bool.and_true, Bool.not_false, Bool.not_true, beq_self_eq_true]); exact Quiet.slc (l := 0) (m := mid.length + 7) rfl rfl rfl rfl ⟨_, rfl⟩ (Nat.zero_le _) (by rw [hall]; omega))) (hk := ?_) | refine qAG (hk := ?_))); exact qEnd rfl)) (hx := by ((repeat (first | refine sA (hq := Quiet.ix (k := mid.length + 7) rfl rfl rfl rfl hlast) (hk := ?_) | refine sA (hq := Quiet.slc (l := 0) (m := mid.length + 7) rfl rfl rfl rfl ⟨_, rfl⟩ (Nat.zero_le _) (by rw [hall]; omega)) (hk := ?_) | refine sA (hk := ?_) | refine sSkip (hk := ?_) | refine sAG (hq := by (intro hg; (try simp only [Bool.and_eq_true, beq_true, beq_false, Bool.not_eq_true', Bool.not_eq_eq_eq_not, Bool.not_true, Bool.not_false] at hg); (try simp only [hg, beq_true, beq_false, cond_true, Bool.true_and, Bool.and_true, Bool.not_false, Bool.not_true, beq_self_eq_true]); exact Quiet.ix (k := mid.length + 7) rfl rfl rfl rfl hlast)) (hk := ?_) | refine sAG (hq := by (intro hg; (try simp only [Bool.and_eq_true, beq_true, beq_false, Bool.not_eq_true', Bool.not_eq_eq_eq_not, Bool.not_true, Bool.not_false] at hg); (try simp only [hg, beq_true, beq_false, cond_true, Bool.true_and, Bool.and_true, Bool.not_false, Bool.not_true, beq_self_eq_true]); exact Quiet.slc (l := 0) (m := mid.length + 7) rfl rfl rfl rfl ⟨_, rfl⟩ (Nat.zero_le _) (by rw [hall]; omega))) (hk := ?_) | refine sAG (hk := ?_) | refine sOwn (hk := ?_))); exact wEnd rfl)) (hk := ?_)
    rw [hcut]
    refine Awp.via ⟨[.any, .any, .ptr 0 0, .lit (.int .i64 0), .any, .any, .bs (Ty.int .u32) (n0 :: n1 :: n2 :: n3 :: n4 :: n5 :: n6 :: (mid ++ [last])), .lit (.int .u32 last), .bs (Ty.int .u32) (n0 :: n1 :: n2 :: n3 :: n4 :: n5 :: n6 :: mid), .any, .any, .any, .any, .any, .any, .any, .any, .any, .any, .any, .any, .any, .any, .any, .any, .any, .any, .any, .any, .any, .any, .any, .any, .any, .any, .any, .any, .any, .any, .any, .any, .any, .any, .any, .any, .any, .any, .any, .any, .any, .any, .any, .any, .any, .any, .any, .any, .any, .any, .any, .any, .any, .any, .any, .any, .any, .any, .any, .any, .any, .any, .any, .any, .any, .any, .any, .any, .any, .any, .any, .any, .any, .any, .any, .any, .any, .any, .any, .any, .any, .any, .any, .any, .any, .any, .any, .any, .any, .any, .any, .any, .any, .any, .any, .any, .any, .any, .any, .any, .any, .any, .any, .any], [.box [.lit (.int .i64 0), .lit (.slice none 0 0), .lit (.int .i64 0), .lit (.int .i64 0), .lit (.int .i64 0), .lit (.slice none 0 0), .lit (.int .i64 0)]]⟩ (le_TA) ?_
    refine Awp.seq fun K10 h10 => ?_
    (refine Awp.drawE 25 22 21 (by kernel_rfl) (by kernel_rfl) (by decide) rfl rfl ?_; simp only [List.take_succ_cons, List.take_zero, List.drop_succ_cons, List.drop_zero]; (repeat ((first | (refine bQ_t rfl rfl rfl ?_; (first | refine BOp.q (Quiet.ix (k := 0) rfl rfl rfl rfl i0) ⟨rfl, ?_⟩ | refine BOp.q (Quiet.ix (k := 1) rfl rfl rfl rfl i1) ⟨rfl, ?_⟩ | refine BOp.q (Quiet.ix (k := 2) rfl rfl rfl rfl i2) ⟨rfl, ?_⟩ | refine BOp.q (Quiet.ix (k := 3) rfl rfl rfl rfl i3) ⟨rfl, ?_⟩ | refine BOp.q (Quiet.ix (k := 4) rfl rfl rfl rfl i4) ⟨rfl, ?_⟩ | refine BOp.q (Quiet.cv rfl rfl c0) ⟨rfl, ?_⟩ | refine BOp.q (Quiet.cv rfl rfl c1) ⟨rfl, ?_⟩ | refine BOp.q (Quiet.cv rfl rfl c2) ⟨rfl, ?_⟩ | refine BOp.q (Quiet.cv rfl rfl c3) ⟨rfl, ?_⟩ | refine BOp.q (Quiet.cv rfl rfl c4) ⟨rfl, ?_⟩ | refine BOp.q (Quiet.bldP (rs := [.lit (.int .i64 n0), .lit (.slice none 0 0), .lit (.int .i64 n1), .lit (.int .i64 n2), .lit (.int .i64 n3), .lit (.slice none 0 0), .lit (.int .i64 n4)]) rfl plImg rfl rfl) ⟨rfl, ?_⟩ | refine BOp.q (Quiet.move rfl (by (conv => lhs; whnf); try rfl)) ⟨rfl, ?_⟩ | refine BOp.q (Quiet.assign rfl (by (conv => lhs; whnf); try rfl)) ⟨rfl, ?_⟩ | refine BOp.q (Quiet.fa_ptr rfl rfl rfl) ⟨rfl, ?_⟩ | refine BOp.q (Quiet.fa_bp rfl rfl) ⟨rfl, ?_⟩ | refine BOp.q (Quiet.fa_rp rfl rfl rfl) ⟨rfl, ?_⟩ | refine BOp.q (Quiet.load_ptr rfl rfl rfl rfl) ⟨rfl, ?_⟩ | refine BOp.q (Quiet.load_bp rfl rfl rfl) ⟨rfl, ?_⟩ | refine BOp.q (Quiet.load_rp rfl rfl rfl (by assumption) rfl) ⟨rfl, ?_⟩ | refine BOp.q (Quiet.loadA_ptr rfl rfl rfl rfl) ⟨rfl, ?_⟩ | refine BOp.q (Quiet.loadA_bp rfl rfl rfl) ⟨rfl, ?_⟩ | refine BOp.q (Quiet.ix rfl rfl rfl rfl (by assumption)) ⟨rfl, ?_⟩ | refine BOp.q (Quiet.ixi rfl rfl rfl rfl (by first | decide | omega) (by assumption)) ⟨rfl, ?_⟩ | refine BOp.q (Quiet.ixo rfl rfl rfl rfl rfl (by first | assumption | omega)) ⟨rfl, ?_⟩ | refine BOp.q (Quiet.ixoi rfl rfl rfl rfl rfl (by first | decide | omega) (by first | assumption | omega)) ⟨rfl, ?_⟩ | refine BOp.q (Quiet.ln rfl rfl) ⟨rfl, ?_⟩ | refine BOp.q (Quiet.lno rfl rfl rfl) ⟨rfl, ?_⟩ | refine BOp.q (Quiet.lnl rfl rfl) ⟨rfl, ?_⟩ | refine BOp.q (Quiet.add64 rfl rfl rfl (by omega)) ⟨rfl, ?_⟩ | refine BOp.q (Quiet.sub64 rfl rfl rfl (by omega)) ⟨rfl, ?_⟩ | refine BOp.q (Quiet.binb rfl rfl rfl rfl (by assumption)) ⟨rfl, ?_⟩ | refine BOp.q (Quiet.bin rfl rfl rfl rfl) ⟨rfl, ?_⟩ | refine BOp.q (Quiet.bnot rfl rfl) ⟨rfl, ?_⟩ | refine BOp.q (Quiet.pick rfl rfl (by (conv => lhs; whnf); try rfl)) ⟨rfl, ?_⟩ | refine BOp.q (Quiet.extract rfl rfl rfl) ⟨rfl, ?_⟩ | refine BOp.q (Quiet.lt1 rfl rfl rfl (by rfl) (by decide) (by first | exact Fit.bool | exact Fit.bs | exact Fit.int (by assumption))) ⟨rfl, ?_⟩ | refine BOp.q (Quiet.max2 rfl rfl rfl) ⟨rfl, ?_⟩ | refine BOp.q (Quiet.min2 rfl rfl rfl) ⟨rfl, ?_⟩)) | refine bQ_skip rfl rfl rfl ?_ | refine bQ_al rfl rfl rfl rfl ?_); refine bQ_nt (by (try simp only [putA, List.set_cons_zero, List.set_cons_succ]); exact rfl) ?_)); refine bQ_nil ?_; (repeat ((first | (refine aSeq_t rfl ?_; (first | refine AOp.q (Quiet.ix (k := 0) rfl rfl rfl rfl i0) ?_ | refine AOp.q (Quiet.ix (k := 1) rfl rfl rfl rfl i1) ?_ | refine AOp.q (Quiet.ix (k := 2) rfl rfl rfl rfl i2) ?_ | refine AOp.q (Quiet.ix (k := 3) rfl rfl rfl rfl i3) ?_ | refine AOp.q (Quiet.ix (k := 4) rfl rfl rfl rfl i4) ?_ | refine AOp.q (Quiet.cv rfl rfl c0) ?_ | refine AOp.q (Quiet.cv rfl rfl c1) ?_ | refine AOp.q (Quiet.cv rfl rfl c2) ?_ | refine AOp.q (Quiet.cv rfl rfl c3) ?_ | refine AOp.q (Quiet.cv rfl rfl c4) ?_ | refine AOp.q (Quiet.bldP (rs := [.lit (.int .i64 n0), .lit (.slice none 0 0), .lit (.int .i64 n1), .lit (.int .i64 n2), .lit (.int .i64 n3), .lit (.slice none 0 0), .lit (.int .i64 n4)]) rfl plImg rfl rfl) ?_ | refine AOp.q (Quiet.move rfl (by (conv => lhs; whnf); try rfl)) ?_ | refine AOp.q (Quiet.assign rfl (by (conv => lhs; whnf); try rfl)) ?_ | refine AOp.q (Quiet.fa_ptr rfl rfl rfl) ?_ | refine AOp.q (Quiet.fa_bp rfl rfl) ?_ | refine AOp.q (Quiet.fa_rp rfl rfl rfl) ?_ | refine AOp.q (Quiet.load_ptr rfl rfl rfl rfl) ?_ | refine AOp.q (Quiet.load_bp rfl rfl rfl) ?_ | refine AOp.q (Quiet.load_rp rfl rfl rfl (by assumption) rfl) ?_ | refine AOp.q (Quiet.loadA_ptr rfl rfl rfl rfl) ?_ | refine AOp.q (Quiet.loadA_bp rfl rfl rfl) ?_ | refine AOp.q (Quiet.ix rfl rfl rfl rfl (by assumption)) ?_ | refine AOp.q (Quiet.ixi rfl rfl rfl rfl (by first | decide | omega) (by assumption)) ?_ | refine AOp.q (Quiet.ixo rfl rfl rfl rfl rfl (by first | assumption | omega)) ?_ | refine AOp.q (Quiet.ixoi rfl rfl rfl rfl rfl (by first | decide | omega) (by first | assumption | omega)) ?_ | refine AOp.q (Quiet.ln rfl rfl) ?_ | refine AOp.q (Quiet.lno rfl rfl rfl) ?_ | refine AOp.q (Quiet.lnl rfl rfl) ?_ | refine AOp.q (Quiet.add64 rfl rfl rfl (by omega)) ?_ | refine AOp.q (Quiet.sub64 rfl rfl rfl (by omega)) ?_ | refine AOp.q (Quiet.binb rfl rfl rfl rfl (by assumption)) ?_ | refine AOp.q (Quiet.bin rfl rfl rfl rfl) ?_ | refine AOp.q (Quiet.bnot rfl rfl) ?_ | refine AOp.q (Quiet.pick rfl rfl (by (conv => lhs; whnf); try rfl)) ?_ | refine AOp.q (Quiet.extract rfl rfl rfl) ?_ | refine AOp.q (Quiet.lt1 rfl rfl rfl (by rfl) (by decide) (by first | exact Fit.bool | exact Fit.bs | exact Fit.int (by assumption))) ?_ | refine AOp.q (Quiet.max2 rfl rfl rfl) ?_ | refine AOp.q (Quiet.min2 rfl rfl rfl) ?_ | refine AOp.box rfl Parts0.agg ?_ | refine AOp.al rfl ?_ | refine AOp.stBox rfl rfl rfl (Parts.aggB rfl) rfl (Nat.le_of_ble_eq_true rfl) ?_ | refine AOp.app rfl rfl rfl rfl rfl (by first | assumption | (simp [maxLen]; done) | (simp [maxLen]; omega)) (by first | assumption | (simp; done) | (simp; omega)) ?_ | refine AOp.stRow rfl rfl rfl (by assumption) (by first | exact Fit.bool | exact Fit.bs | exact Fit.int (by assumption)) rfl ?_)) | refine aSeq_skip rfl ?_); refine aSeq_nt (by (try simp only [putA]); exact rfl) (by (try simp only [List.nil_append, List.cons_append, List.set_cons_zero, List.set_cons_succ, List.length_nil, List.length_cons, Nat.reduceAdd]); exact rfl) ?_)); refine aSeq_nil ?_)
    refine h10 _ ?_
    refine nT (hk := ?_)
    refine Awp.seq fun K11 h11 => ?_
    refine wD 10 (hk := ?_)
    refine wR (hk := ?_)
    have hraw : (sumF (n0 :: n1 :: n2 :: n3 :: n4 :: n5 :: n6 :: mid) != last || n5 + n6 != (mid.length : Int)) = !(decide (sumF (n0 :: n1 :: n2 :: n3 :: n4 :: n5 :: n6 :: mid) = last) && decide (n5 + n6 = (mid.length : Int))) := by
      rw [Bool.eq_iff_iff]
      simp only [Bool.or_eq_true, bne_iff_ne, Bool.not_eq_true', Bool.and_eq_false_iff, decide_eq_false_iff_not]
    refine Awp.cond rfl (fun hb14 => ?_) (fun hb14 => ?_)
    · refine wR (hx := by ((repeat (first | refine sA (hq := Quiet.bldP (rs := [.lit (.int .i64 0), .lit (.slice none 0 0), .lit (.int .i64 0), .lit (.int .i64 0), .lit (.int .i64 0), .lit (.slice none 0 0), .lit (.int .i64 0)]) rfl plImg rfl rfl) (hk := ?_) | refine sA (hk := ?_) | refine sSkip (hk := ?_) | refine sAG (hq := by (intro hg; (try simp only [] at hg); (try simp only [beq_false]); exact Quiet.bldP (rs := [.lit (.int .i64 0), .lit (.slice none 0 0), .lit (.int .i64 0), .lit (.int .i64 0), .lit (.int .i64 0), .lit (.slice none 0 0), .lit (.int .i64 0)]) rfl plImg rfl rfl)) (hk := ?_) | refine sAG (hk := ?_) | refine sOwn (hk := ?_))); exact wEnd rfl)) (hk := ?_)
      have h1 := hraw.symm.trans hb14
      rw [Bool.not_eq_true'] at h1
      have hno : getOK (magicL ++ R) = false := by rw [hyes, h1, Bool.and_false]
      have e1 : getX (magicL ++ R) = zImg := if_neg (by rw [hno]; simp)
      have e2 : getE (magicL ++ R) = 5 := if_neg (by rw [hno]; simp)
      rw [e1, e2]
      exact Awp.ret ⟨.inr rfl, 0, _, rfl, rfl, rfl, zero_fin⟩
    · have h1 := hraw.symm.trans hb14
      rw [Bool.not_eq_false'] at h1
      rw [h1, Bool.and_true] at hyes
      rw [Bool.and_eq_true] at h1
      obtain ⟨hsm, hnm⟩ := h1
      have hn56 : n5 + n6 = (mid.length : Int) := of_decide_eq_true hnm
      obtain ⟨m, rfl⟩ : ∃ m : Nat, n5 = (m : Int) := ⟨n5.toNat, by omega⟩
      have hmm : m ≤ mid.length := by omega
      have c5 : IntKind.i64.wrap (m : Int) = (m : Int) := wrap_in (wf_u32_i64 w5)
      have hat : intBin .add .i64 7 (m : Int) = some (.int .i64 ((m + 7 : Nat) : Int)) := by
        unfold intBin
        simp only
        rw [IntWalk.i64_in _ (by omega)]
        congr 2
        omega
      have e7 : ((n0 :: n1 :: n2 :: n3 :: n4 :: (m : Int) :: n6 :: mid).take (m + 7)).drop 7 = mid.take m := rfl
      have e8 : ((n0 :: n1 :: n2 :: n3 :: n4 :: (m : Int) :: n6 :: mid).take (mid.length + 7)).drop (m + 7) = mid.drop m := by
        show (mid.take mid.length).drop m = _
        rw [List.take_length]
      have hl7 : (mid.take m).length ≤ maxLen := by rw [List.length_take]; unfold maxLen; omega
      have hl8 : (mid.drop m).length ≤ maxLen := by rw [List.length_drop]; unfold maxLen; omega
      have hz7 : (mid.take m).length * 4 ≤ 140737488355328 := by rw [List.length_take]; omega
      have hz8 : (mid.drop m).length * 4 ≤ 140737488355328 := by rw [List.length_drop]; omega
      have hl9 : (((n0 :: n1 :: n2 :: n3 :: n4 :: (m : Int) :: n6 :: mid).take (mid.length + 7)).drop (m + 7)).length ≤ maxLen := by rw [e8]; exact hl8
      have hz9 : (((n0 :: n1 :: n2 :: n3 :: n4 :: (m : Int) :: n6 :: mid).take (mid.length + 7)).drop (m + 7)).length * 4 ≤ 140737488355328 := by rw [e8]; exact hz8
      rw [Int.toNat_natCast] at hpar
      have hmay := may_fn _ hX
      rw [hpar] at hmay
      refine Awp.skip ?_
      refine h11 _ ?_
      refine nT (hk := ?_)
      refine wR (hk := ?_)
      refine wD 13 (hq := by ((repeat (first | refine qA (hq := Quiet.slc (l := 7) (m := m + 7) rfl rfl rfl ⟨_, rfl⟩ ⟨_, rfl⟩ (by omega) (by rw [hown]; omega)) (hk := ?_) | refine qA (hq := Quiet.slc (l := m + 7) (m := mid.length + 7) rfl rfl rfl ⟨_, rfl⟩ rfl (by omega) (Nat.le_refl _)) (hk := ?_) | refine qA (hq := Quiet.appN rfl rfl rfl rfl hl7 hz7) (hk := ?_) | refine qA (hq := Quiet.appN rfl rfl rfl rfl hl9 hz9) (hk := ?_) | refine qA (hk := ?_) | refine qSkip (hk := ?_) | refine qAG (hq := by (intro hg; (try simp only [Bool.and_eq_true, beq_true, beq_false, Bool.not_eq_true', Bool.not_eq_eq_eq_not, Bool.not_true, Bool.not_false] at hg); (try simp only [hg, beq_true, beq_false, cond_true, Bool.true_and, Bool.and_true, Bool.not_false, Bool.not_true, beq_self_eq_true]); exact Quiet.slc (l := 7) (m := m + 7) rfl rfl rfl ⟨_, rfl⟩ ⟨_, rfl⟩ (by omega) (by rw [hown]; omega))) (hk := ?_) | refine qAG (hq := by (intro hg; (try simp only [Bool.and_eq_true, beq_true, beq_false, Bool.not_eq_true', Bool.not_eq_eq_eq_not, Bool.not_true, Bool.not_false] at hg); (try simp only [hg, beq_true, beq_false, cond_true, Bool.true_and, Bool.and_true, Bool.not_false, Bool.not_true, beq_self_eq_true]); exact Quiet.slc (l := m + 7) (m := mid.length + 7) rfl rfl rfl ⟨_, rfl⟩ rfl (by omega) (Nat.le_refl _))) (hk := ?_) | refine qAG (hq := by (intro hg; (try simp only [Bool.and_eq_true, beq_true, beq_false, Bool.not_eq_true', Bool.not_eq_eq_eq_not, Bool.not_true, Bool.not_false] at hg); (try simp only [hg, beq_true, beq_false, cond_true, Bool.true_and, Bool.and_true, Bool.not_false, Bool.not_true, beq_self_eq_true]); exact Quiet.appN rfl rfl rfl rfl hl7 hz7)) (hk := ?_) | refine qAG (hq := by (intro hg; (try simp only [Bool.and_eq_true, beq_true, beq_false, Bool.not_eq_true', Bool.not_eq_eq_eq_not, Bool.not_true, Bool.not_false] at hg); (try simp only [hg, beq_true, beq_false, cond_true, Bool.true_and, Bool.and_true, Bool.not_false, Bool.not_true, beq_self_eq_true]); exact Quiet.appN rfl rfl rfl rfl hl9 hz9)) (hk := ?_) | refine qAG (hk := ?_))); exact qEnd rfl)) (hx := by ((repeat (first | refine sA (hq := Quiet.slc (l := 7) (m := m + 7) rfl rfl rfl ⟨_, rfl⟩ ⟨_, rfl⟩ (by omega) (by rw [hown]; omega)) (hk := ?_) | refine sA (hq := Quiet.slc (l := m + 7) (m := mid.length + 7) rfl rfl rfl ⟨_, rfl⟩ rfl (by omega) (Nat.le_refl _)) (hk := ?_) | refine sA (hq := Quiet.appN rfl rfl rfl rfl hl7 hz7) (hk := ?_) | refine sA (hq := Quiet.appN rfl rfl rfl rfl hl9 hz9) (hk := ?_) | (refine aSeq_t rfl (AOp.stBox (new := [_]) rfl rfl rfl (Parts.one One.bs) rfl (Nat.le_of_ble_eq_true rfl) ?_); refine sNt (hk := ?_)) | refine sA (hk := ?_) | refine sSkip (hk := ?_) | refine sAG (hq := by (intro hg; (try simp only [Bool.and_eq_true, beq_true, beq_false, Bool.not_eq_true', Bool.not_eq_eq_eq_not, Bool.not_true, Bool.not_false] at hg); (try simp only [hg, beq_true, beq_false, cond_true, Bool.true_and, Bool.and_true, Bool.not_false, Bool.not_true, beq_self_eq_true]); exact Quiet.slc (l := 7) (m := m + 7) rfl rfl rfl ⟨_, rfl⟩ ⟨_, rfl⟩ (by omega) (by rw [hown]; omega))) (hk := ?_) | refine sAG (hq := by (intro hg; (try simp only [Bool.and_eq_true, beq_true, beq_false, Bool.not_eq_true', Bool.not_eq_eq_eq_not, Bool.not_true, Bool.not_false] at hg); (try simp only [hg, beq_true, beq_false, cond_true, Bool.true_and, Bool.and_true, Bool.not_false, Bool.not_true, beq_self_eq_true]); exact Quiet.slc (l := m + 7) (m := mid.length + 7) rfl rfl rfl ⟨_, rfl⟩ rfl (by omega) (Nat.le_refl _))) (hk := ?_) | refine sAG (hq := by (intro hg; (try simp only [Bool.and_eq_true, beq_true, beq_false, Bool.not_eq_true', Bool.not_eq_eq_eq_not, Bool.not_true, Bool.not_false] at hg); (try simp only [hg, beq_true, beq_false, cond_true, Bool.true_and, Bool.and_true, Bool.not_false, Bool.not_true, beq_self_eq_true]); exact Quiet.appN rfl rfl rfl rfl hl7 hz7)) (hk := ?_) | refine sAG (hq := by (intro hg; (try simp only [Bool.and_eq_true, beq_true, beq_false, Bool.not_eq_true', Bool.not_eq_eq_eq_not, Bool.not_true, Bool.not_false] at hg); (try simp only [hg, beq_true, beq_false, cond_true, Bool.true_and, Bool.and_true, Bool.not_false, Bool.not_true, beq_self_eq_true]); exact Quiet.appN rfl rfl rfl rfl hl9 hz9)) (hk := ?_) | refine sAG (hk := ?_) | refine sOwn (hk := ?_))); exact wEnd rfl)) (hk := ?_)
      rw [e8]
      refine Awp.seq fun K19 h19 => ?_
      refine wR (hk := ?_)
      refine Awp.cond rfl (fun hb21 => ?_) (fun hb21 => ?_)
      · refine wR (hx := by ((repeat (first | refine sA (hq := Quiet.bldP (rs := [.lit (.int .i64 0), .lit (.slice none 0 0), .lit (.int .i64 0), .lit (.int .i64 0), .lit (.int .i64 0), .lit (.slice none 0 0), .lit (.int .i64 0)]) rfl plImg rfl rfl) (hk := ?_) | refine sA (hk := ?_) | refine sSkip (hk := ?_) | refine sAG (hq := by (intro hg; (try simp only [] at hg); (try simp only [beq_false]); exact Quiet.bldP (rs := [.lit (.int .i64 0), .lit (.slice none 0 0), .lit (.int .i64 0), .lit (.int .i64 0), .lit (.int .i64 0), .lit (.slice none 0 0), .lit (.int .i64 0)]) rfl plImg rfl rfl)) (hk := ?_) | refine sAG (hk := ?_) | refine sOwn (hk := ?_))); exact wEnd rfl)) (hk := ?_)
        have h2 : (!mayB ⟨n0, mid.drop m, n1, n2, n3, mid.take m, n4⟩) = true := hb21
        rw [Bool.not_eq_true'] at h2
        have hno : getOK (magicL ++ R) = false := by rw [hyes, hpar, h2]
        have e1 : getX (magicL ++ R) = zImg := if_neg (by rw [hno]; simp)
        have e2 : getE (magicL ++ R) = 5 := if_neg (by rw [hno]; simp)
        rw [e1, e2]
        exact Awp.ret ⟨.inr rfl, 0, _, rfl, rfl, rfl, zero_fin⟩
      · refine Awp.skip ?_
        refine h19 _ ?_
        refine nT (hk := ?_)
        refine wR (hk := ?_)
        have h2 : (!mayB ⟨n0, mid.drop m, n1, n2, n3, mid.take m, n4⟩) = false := hb21
        rw [Bool.not_eq_false'] at h2
        have hok : getOK (magicL ++ R) = true := by rw [hyes, hpar, h2]
        have e1 : getX (magicL ++ R) = refX (magicL ++ R) := if_pos hok
        have e2 : getE (magicL ++ R) = 0 := if_pos hok
        rw [e1, e2, hpar]
        exact Awp.ret ⟨.inr rfl, 0, _, rfl, rfl, rfl, Fin.cl rfl⟩
theorem get31_fn (L : List Int) (hL : allU8 L) (hl : L.length ≤ 900000000) : Fn Tryd.prog 8 [.lit (.string (bytesOf L))] (.tup [.agg (encImg (getX L)), .lit (.int .i64 (getE L))]) := by
  by_cases h : L.take 4 = magicL
  · have e : L = magicL ++ L.drop 4 := by rw [← h, List.take_append_drop]
    have := get31_yes (L.drop 4) (fun a ha => hL a (List.mem_of_mem_drop ha)) (by rw [List.length_drop]; omega)
    rwa [← e] at this
  · exact get31_not L hL hl h
end Mu
end
