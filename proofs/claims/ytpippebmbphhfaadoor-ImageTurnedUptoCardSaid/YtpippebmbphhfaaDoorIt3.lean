/-
  Own texts laid together, part 3: MuInstT, MuWrapI, MuWrapS, MuRead0, MuInstD, MuDrawG, MuImgK, MuStrR, MuImgT, MuLaw31, MuImgP, MuLaw31T, MuRowQ, MuRowI, MuOpen.
  Conditions: as each part says.
-/
import Derived.Test.YtpippebmbphhfaaDoorIt2
import Derived.Lib.SplitLaws
import Derived.Test.YtpippebmbphhfaaDoorRows
import Derived.Carry
import Derived.OpenShut
import Derived.ProofKit
section
/-
  Bits are taken off a word that is left: inst.Decode$1.
  Conditions: at most 31 bits.
-/
namespace Mu
open Go Go.RowKit Go.Proofs

set_option maxRecDepth 100000 in
set_option maxHeartbeats 2000000 in
theorem take_fn (g L b : Nat) (hL : L < 4294967296) (hb : b ≤ 31) : FnTurn Tryd.prog 73 (boxR g [.lit (.int .u32 (L : Int))]) [.lit (.int .u64 (b : Int)), .lit (.pointer (some ⟨g, 0, none⟩))] (fun _ : Unit => boxR g [.lit (.int .u32 ((L / 2 ^ b : Nat) : Int))]) (fun _ => .int .u32 ((L % 2 ^ b : Nat) : Int)) := by
  have hpow : 2 ^ b ≤ 2147483648 := by
    have : 2 ^ b ≤ 2 ^ 31 := Nat.pow_le_pow_right (by decide) hb
    have e : (2 : Nat) ^ 31 = 2147483648 := rfl
    omega
  have hpos : 0 < 2 ^ b := Nat.pow_pos (by decide)
  have hb0 : (0 : Int) ≤ (b : Int) := by omega
  have s0 : ShlF .u32 1 (b : Int) ((2 ^ b : Nat) : Int) := ⟨by
    have e1 : min (b : Int).toNat IntKind.u32.bits = b := by
      rw [Int.toNat_natCast]
      exact Nat.min_eq_left (by show b ≤ 32; omega)
    rw [e1, wrap_u32m, Int.one_mul]
    have : ((2 : Int) ^ b) = ((2 ^ b : Nat) : Int) := by rw [Int.natCast_pow]; rfl
    rw [this]
    omega⟩
  have s1 : intBin .sub .u32 ((2 ^ b : Nat) : Int) 1 = some (.int .u32 ((2 ^ b - 1 : Nat) : Int)) := by
    unfold intBin
    simp only
    rw [wrap_u32m]
    congr 2
    omega
  have s2 : bits .and .u32 (L : Int) ((2 ^ b - 1 : Nat) : Int) = ((L % 2 ^ b : Nat) : Int) := and_u32 b L (by omega) hL
  have s3 : (L : Int) / 2 ^ min (b : Int).toNat IntKind.u32.bits = ((L / 2 ^ b : Nat) : Int) := by
    have e1 : min (b : Int).toNat IntKind.u32.bits = b := by
      rw [Int.toNat_natCast]
      exact Nat.min_eq_left (by show b ≤ 32; omega)
    have : ((2 : Int) ^ b) = ((2 ^ b : Nat) : Int) := by rw [Int.natCast_pow]; rfl
    rw [e1, this, Int.natCast_ediv]
  generalize ((2 ^ b : Nat) : Int) = p0 at s0 s1
  generalize ((2 ^ b - 1 : Nat) : Int) = p1 at s1 s2
  refine FnTurn.of_awp Tryd.func73 rfl (by kernel_rfl) rfl Tryd.ntmps73 rfl (fun _ _ _ _ h => h) fun C => ?_
  simp only [List.length_cons, List.length_nil, Nat.reduceAdd, Nat.reduceSub, List.replicate_succ, List.replicate_zero, List.cons_append, List.nil_append]
  refine wR (hk := ?_)
  refine wR (hx := by ((repeat (first | refine sA (hq := Quiet.ldL (i := 0) (g := g) rfl rfl rfl rfl rfl) (hk := ?_) | refine sA (hq := Quiet.shlF rfl rfl rfl hb0 s0) (hk := ?_) | refine sA (hk := ?_) | refine sSkip (hk := ?_) | refine sAG (hq := by (intro hg; (try simp only [Bool.and_eq_true, beq_true, beq_false, Bool.not_eq_true', Bool.not_eq_eq_eq_not, Bool.not_true, Bool.not_false] at hg); (try simp only [hg, beq_true, beq_false, cond_true, Bool.true_and, Bool.and_true, Bool.not_false, Bool.not_true, beq_self_eq_true]); exact Quiet.ldL (i := 0) (g := g) rfl rfl rfl rfl rfl)) (hk := ?_) | refine sAG (hq := by (intro hg; (try simp only [Bool.and_eq_true, beq_true, beq_false, Bool.not_eq_true', Bool.not_eq_eq_eq_not, Bool.not_true, Bool.not_false] at hg); (try simp only [hg, beq_true, beq_false, cond_true, Bool.true_and, Bool.and_true, Bool.not_false, Bool.not_true, beq_self_eq_true]); exact Quiet.shlF rfl rfl rfl hb0 s0)) (hk := ?_) | refine sAG (hk := ?_) | refine sOwn (hk := ?_))); exact wEnd rfl)) (hk := ?_)
  refine wR (hx := by ((repeat (first | refine sA (hq := Quiet.ldL (i := 0) (g := g) rfl rfl rfl rfl rfl) (hk := ?_) | refine sA (hq := Quiet.shr rfl rfl rfl hb0 s3) (hk := ?_) | (refine aSeq_t rfl (AOp.stL (i := 0) (g := g) (new := [_]) rfl rfl rfl (Parts.one (One.lit rfl)) rfl rfl (Nat.le_of_ble_eq_true rfl) ?_); refine sNt (hk := ?_)) | refine sA (hk := ?_) | refine sSkip (hk := ?_) | refine sAG (hq := by (intro hg; (try simp only [Bool.and_eq_true, beq_true, beq_false, Bool.not_eq_true', Bool.not_eq_eq_eq_not, Bool.not_true, Bool.not_false] at hg); (try simp only [hg, beq_true, beq_false, cond_true, Bool.true_and, Bool.and_true, Bool.not_false, Bool.not_true, beq_self_eq_true]); exact Quiet.ldL (i := 0) (g := g) rfl rfl rfl rfl rfl)) (hk := ?_) | refine sAG (hq := by (intro hg; (try simp only [Bool.and_eq_true, beq_true, beq_false, Bool.not_eq_true', Bool.not_eq_eq_eq_not, Bool.not_true, Bool.not_false] at hg); (try simp only [hg, beq_true, beq_false, cond_true, Bool.true_and, Bool.and_true, Bool.not_false, Bool.not_true, beq_self_eq_true]); exact Quiet.shr rfl rfl rfl hb0 s3)) (hk := ?_) | refine sAG (hk := ?_) | refine sOwn (hk := ?_))); exact wEnd rfl)) (hk := ?_)
  refine wR (hk := ?_)
  exact Awp.ret ⟨.inr rfl, (), rfl, rfl, rfl⟩
end Mu
end
section
/-
  Contracts of functions of the shelf and of images, as plain functions.
  Conditions: as each says.
-/
namespace Mu
open Go Go.RowKit Go.Proofs

theorem FnT.mono {G G' : World → Prop} {P : Program} {f : FuncId} {args : List AV} {r : AV} (hG : ∀ w, G' w → G w) (h : FnT G P f args r) : FnT G' P f args r := ⟨h.1, fun w S vs hw hS hr => h.2 w S vs (hG w hw) hS hr⟩
/-! ### numbers as texts -/
def strconv_Itoa (n : Int) : M ByteArray := M.chk (wfB .i64 n) (M.ok (itoaB n))
theorem strconv_Itoa_l {n : Int} {r : ByteArray} (H : (strconv_Itoa n).to r) : FnT GL Tryd.prog 54 [.lit (.int .i64 n)] (.lit (.string r)) := by
  obtain ⟨c, H⟩ := M.to_chk.1 H
  obtain rfl := M.to_ok.1 H
  exact FnT.mono (fun w h => h.tens) (itoaT_fn n c)
/-! ### texts joined -/
def joinD (l : List ByteArray) (sep : ByteArray) : ByteArray := ⟨(Lib.join (l.map (·.data.toList)) sep.data.toList).toArray⟩
def strings_Join (l : List ByteArray) (sep : ByteArray) : M ByteArray := M.chk (decide (l.length ≤ 140737488355328) && decide ((Lib.join (l.map (·.data.toList)) sep.data.toList).length ≤ 140737488355328)) (M.ok (joinD l sep))
theorem strings_Join_l {l : List ByteArray} {sep r : ByteArray} (H : (strings_Join l sep).to r) : Fn Tryd.prog 38 [.bs Ty.str l, .lit (.string sep)] (.lit (.string r)) := by
  obtain ⟨c, H⟩ := M.to_chk.1 H
  obtain rfl := M.to_ok.1 H
  rw [Bool.and_eq_true] at c
  have c1 : l.length ≤ 140737488355328 := of_decide_eq_true c.1
  have c2 : (Lib.join (l.map (·.data.toList)) sep.data.toList).length ≤ 140737488355328 := of_decide_eq_true c.2
  refine ⟨by kernel_rfl, fun w S vs hS hr => ?_⟩
  obtain ⟨v, u, rfl, h1, h2⟩ := arg2 hr
  unfold AV.rel at h1 h2
  subst h2
  obtain ⟨A, cap, hv, hlc, hcm, hi⟩ := h1
  have hv : v = .slice A l.length cap := by simpa using hv
  subst hv
  cases l with
  | nil =>
    refine (Tryd.strings_Join_none A cap sep w).mono fun e w' ⟨he, hw⟩ => ?_
    subst hw
    refine ⟨_, he, Below.refl _ _, S, fun _ h => h, fun _ h => .inl h, hS, ?_⟩
    unfold AV.rel
    rfl
  | cons d l =>
    obtain ⟨b, q, hA, hSb, _⟩ := hi 0 d rfl
    subst hA
    refine (Tryd.strings_Join b q cap (d :: l) sep w (fun j x hx => ?_) (hS b hSb) c1 hlc c2).mono fun e w' ⟨he, hw⟩ => ?_
    · obtain ⟨b', q', hA', _, cs, ⟨rfl, _⟩, hc⟩ := hi j x hx
      cases hA'
      have := hc 0 (.string x) rfl
      have e1 : q + j * Ty.str.size + 0 = q + j := by show q + j * 1 + 0 = q + j; omega
      rwa [e1] at this
    · refine ⟨_, he, hw, S, fun _ h => h, fun _ h => .inl h, fun k hk => Nat.lt_of_lt_of_le (hS k hk) hw.size, ?_⟩
      unfold AV.rel
      rfl
/-! ### images -/
def fineB (x : Img) : Bool := wfB .i64 x.nw && wfB .i64 x.heap && wfB .i64 x.many && wfB .i64 x.entry && wfB .i64 x.stacks && decide (x.words.length ≤ 1000000000) && decide (x.starts.length ≤ 1000000000) && x.starts.all (wfB .u32) && x.words.all (wfB .u32)
theorem fineB_iff {x : Img} : fineB x = true ↔ FineImg x := by
  unfold fineB
  simp only [Bool.and_eq_true, decide_eq_true_eq, List.all_eq_true]
  constructor
  · rintro ⟨⟨⟨⟨⟨⟨⟨⟨h1, h2⟩, h3⟩, h4⟩, h5⟩, h6⟩, h7⟩, h8⟩, h9⟩
    exact ⟨⟨h1, h2, h3, h4, h5⟩, h6, h7, h8, h9⟩
  · rintro ⟨⟨h1, h2, h3, h4, h5⟩, h6, h7, h8, h9⟩
    exact ⟨⟨⟨⟨⟨⟨⟨⟨h1, h2⟩, h3⟩, h4⟩, h5⟩, h6⟩, h7⟩, h8⟩, h9⟩
def image_May (x : Img) : M Bool := M.chk (fineB x) (M.ok (mayB x))
theorem image_May_l {x : Img} {r : Bool} (H : (image_May x).to r) : Fn Tryd.prog 17 [.agg (encImg x)] (.lit (.bool r)) := by
  obtain ⟨c, H⟩ := M.to_chk.1 H
  obtain rfl := M.to_ok.1 H
  exact may_fn x (fineB_iff.1 c)
def image_Put (x : Img) : M (ByteArray × Int) := M.chk (fineB x) (M.ok (putS x, putE x))
theorem image_Put_l {x : Img} {r : ByteArray × Int} (H : (image_Put x).to r) : Fn Tryd.prog 11 [.agg (encImg x)] (.tup [.lit (.string r.1), .lit (.int .i64 r.2)]) := by
  obtain ⟨c, H⟩ := M.to_chk.1 H
  obtain rfl := M.to_ok.1 H
  exact put_fn x (fineB_iff.1 c)
theorem allU8_bytesL (s : ByteArray) : allU8 (bytesL s) := fun a ha => by
  unfold bytesL at ha
  obtain ⟨b, _, rfl⟩ := List.mem_map.1 ha
  have := b.toNat_lt
  omega
def image_Get (s : ByteArray) : M (Img × Int) := M.chk (decide (s.size ≤ 900000000)) (M.ok (getX (bytesL s), getE (bytesL s)))
theorem image_Get_l {s : ByteArray} {r : Img × Int} (H : (image_Get s).to r) : Fn Tryd.prog 8 [.lit (.string s)] (.tup [.agg (encImg r.1), .lit (.int .i64 r.2)]) := by
  obtain ⟨c, H⟩ := M.to_chk.1 H
  obtain rfl := M.to_ok.1 H
  have := get31_fn (bytesL s) (allU8_bytesL s) (by rw [bytesL_len]; exact of_decide_eq_true c)
  rwa [bytesOf_bytesL] at this
def law31_great (x : Img) : M Bool := M.ok (greatI x)
theorem law31_great_l {x : Img} {r : Bool} (H : (law31_great x).to r) : Fn Tryd.prog 12 [.agg (encImg x)] (.lit (.bool r)) := by
  obtain rfl := M.to_ok.1 H
  exact great31_fn x
end Mu
end
section
/-
  Contracts of the shelf's functions on texts, as plain functions.
  Conditions: as each says.
-/
namespace Mu
open Go Go.RowKit Go.Proofs

instance inMuWrapS4 : SL Tryd.prog 51 := ⟨by kernel_rfl⟩
instance inMuWrapS5 : RT Tryd.prog 51 9 1 16 := ⟨by kernel_rfl⟩
def strings_TrimSuffix (s p : ByteArray) : M ByteArray := M.chk (decide (s.size ≤ 9223372036854775807)) (M.ok ⟨(Lib.trimSuffix s.data.toList p.data.toList).toArray⟩)
theorem strings_TrimSuffix_l {s p r : ByteArray} (H : (strings_TrimSuffix s p).to r) : Fn Tryd.prog 27 [.lit (.string s), .lit (.string p)] (.lit (.string r)) := by
  obtain ⟨c, H⟩ := M.to_chk.1 H
  obtain rfl := M.to_ok.1 H
  refine Fn.of_lit (by kernel_rfl) fun w vs hr => ?_
  obtain rfl := relL_lit2 hr
  exact (Tryd.strings_TrimSuffix s p w (of_decide_eq_true c)).mono fun e w' ⟨he, hw⟩ => by subst hw; exact ⟨he, Below.refl _ _⟩
theorem splitB_size (sep : ByteArray) : ∀ (k : Nat) (s : ByteArray), ∀ x ∈ Lib.splitB sep 0 k s, x.size ≤ s.size
  | 0, s => fun x hx => by rw [List.mem_singleton.1 hx]; exact Nat.le_refl _
  | k + 1, s => fun x hx => by
    unfold Lib.splitB at hx
    split at hx
    · rw [List.mem_singleton.1 hx]; exact Nat.le_refl _
    · rcases List.mem_cons.1 hx with rfl | hx
      · rw [ByteArray.size_extract]; omega
      · have := splitB_size sep k _ x hx
        rw [ByteArray.size_extract] at this
        omega
def splitD (s sep : ByteArray) : List ByteArray := Lib.splitB sep 0 (Lib.countB s sep) s
def strings_Split (s sep : ByteArray) : M (List ByteArray) := M.chk (decide (s.size < 4294967281) && decide (1 ≤ sep.size)) (M.ok (splitD s sep))
theorem strings_Split_l {s sep : ByteArray} {r : List ByteArray} (H : (strings_Split s sep).to r) : FnT GL Tryd.prog 26 [.lit (.string s), .lit (.string sep)] (.bs Ty.str r) := by
  obtain ⟨c, H⟩ := M.to_chk.1 H
  obtain rfl := M.to_ok.1 H
  rw [Bool.and_eq_true] at c
  have c1 : s.size < 4294967281 := of_decide_eq_true c.1
  have c2 : 1 ≤ sep.size := of_decide_eq_true c.2
  refine ⟨by kernel_rfl, fun w S vs hG hS hr => ?_⟩
  obtain rfl := relL_lit2 hr
  obtain ⟨m, hm⟩ := hG.most
  refine (Tryd.strings_Split s sep m w c1 hm c2).mono fun e w' ⟨he, hw⟩ => ?_
  have hlen : (splitD s sep).length = Lib.countB s sep + 1 := Lib.splitB_all sep c2 0 _ s rfl
  have hcnt : Lib.countB s sep + 1 ≤ maxLen := by
    have := Lib.countB_le sep c2 _ s (Nat.le_refl _)
    unfold maxLen
    omega
  have hb : Below w.heap.size w w' := by
    subst hw
    exact (Below.refl _ _).alloc (Nat.le_refl _) _
  refine ⟨_, he, hb, fun k => S k ∨ k = w.heap.size, fun k hk => .inl hk, fun k hk => hk.imp id fun e => by omega, fun k hk => ?_, ?_⟩
  · subst hw
    rcases hk with hk | hk
    · have := hS k hk; simp; omega
    · simp; omega
  · unfold AV.rel
    refine ⟨some ⟨w.heap.size, 0, none⟩, Lib.countB s sep + 1, by rw [hlen], Nat.le_of_eq hlen, ⟨hcnt, fun e => by cases e⟩, fun i d hd => ⟨_, _, rfl, .inr rfl, [.string d], ⟨rfl, ?_⟩, ?_⟩⟩
    · have := splitB_size sep _ s d (List.mem_of_getElem? hd)
      unfold maxLen
      omega
    · intro j v hj
      cases j with
      | succ j => simp at hj
      | zero =>
        simp at hj
        subst hj hw
        have e1 : 0 + i * Ty.str.size + 0 = i := by show 0 + i * 1 + 0 = i; omega
        rw [e1]
        unfold splitD at hd
        have hh : (w.alloc (.cells ((Lib.splitB sep 0 (Lib.countB s sep) s).map Value.string).toArray 9)).heap[w.heap.size]? = some (.cells ((Lib.splitB sep 0 (Lib.countB s sep) s).map Value.string).toArray 9) := by
          rw [show (w.alloc (.cells ((Lib.splitB sep 0 (Lib.countB s sep) s).map Value.string).toArray 9)).heap = w.heap.push (.cells ((Lib.splitB sep 0 (Lib.countB s sep) s).map Value.string).toArray 9) from rfl, Array.getElem?_push_size]
        unfold World.cell?
        dsimp only
        rw [hh]
        simp [hd]
end Mu
end
section
/-
  image.Read of no text at all.
  Conditions: what is laid (GL).
-/
namespace Mu
open Go Go.RowKit Go.Proofs

theorem trim0 : (strings_TrimSuffix ⟨#[]⟩ ⟨#[10]⟩).to ⟨#[]⟩ := ⟨0, by kernel_rfl⟩
theorem split0 : (strings_Split ⟨#[]⟩ ⟨#[10]⟩).to [⟨#[]⟩] := ⟨0, by kernel_rfl⟩
set_option maxRecDepth 100000 in
set_option maxHeartbeats 1000000 in
theorem read0_fn : FnT GL Tryd.prog 13 [.lit (.string ⟨#[]⟩)] (.tup [.agg (encImg zImg), .lit (.int .i64 5)]) := by
  have hL := gl_lasts
  have h1 := strings_TrimSuffix_l trim0
  have h2 := strings_Split_l split0
  refine FnT.of_awpC2 Tryd.func13 rfl (by kernel_rfl) rfl aggImg Tryd.ntmps13 fun C hC hG => ?_
  simp only [List.length_cons, List.length_nil, Nat.reduceAdd, Nat.reduceSub, List.replicate_succ, List.replicate_zero, List.cons_append, List.nil_append]
  refine wR (hk := ?_)
  refine wR (hk := ?_)
  refine Awp.seq fun K3 h3 => ?_
  refine wR (hk := ?_)
  refine Awp.cond rfl (fun hb5 => ?_) (fun hb5 => ?_)
  · refine wR (hx := by ((repeat (first | refine sA (hq := Quiet.bldP (rs := [.lit (.int .i64 0), .lit (.slice none 0 0), .lit (.int .i64 0), .lit (.int .i64 0), .lit (.int .i64 0), .lit (.slice none 0 0), .lit (.int .i64 0)]) rfl plImg rfl rfl) (hk := ?_) | refine sA (hk := ?_) | refine sSkip (hk := ?_) | refine sAG (hq := by (intro hg; (try simp only [] at hg); (try simp only [hg, beq_true, beq_false, cond_true, Bool.true_and, Bool.and_true, Bool.not_false, Bool.not_true, beq_self_eq_true]); exact Quiet.bldP (rs := [.lit (.int .i64 0), .lit (.slice none 0 0), .lit (.int .i64 0), .lit (.int .i64 0), .lit (.int .i64 0), .lit (.slice none 0 0), .lit (.int .i64 0)]) rfl plImg rfl rfl)) (hk := ?_) | refine sAG (hk := ?_) | refine sOwn (hk := ?_))); exact wEnd rfl)) (hk := ?_)
    exact Awp.ret ⟨.inr rfl, 0, _, rfl, rfl, rfl, zero_fin⟩
  · exact absurd hb5 (by decide)
def image_Read (s : ByteArray) : M (Img × Int) := M.chk (decide (s = ⟨#[]⟩)) (M.ok (zImg, 5))
theorem image_Read_l {s : ByteArray} {r : Img × Int} (H : (image_Read s).to r) : FnT GL Tryd.prog 13 [.lit (.string s)] (.tup [.agg (encImg r.1), .lit (.int .i64 r.2)]) := by
  obtain ⟨c, H⟩ := M.to_chk.1 H
  obtain rfl := M.to_ok.1 H
  obtain rfl : s = ⟨#[]⟩ := of_decide_eq_true c
  exact read0_fn
end Mu
end
section
/-
  The instruction of a word: inst.Decode.
  Conditions: the table of fields is laid.
-/
namespace Mu
open Go Go.RowKit Go.Proofs

instance inMuInstD1 : ZC Tryd.prog 39 [.int .u32 0] := ⟨by kernel_rfl⟩
/-- a number with its sign -/
def sxN (n m : Nat) : Int := if n < m then (n : Int) else (n : Int) - 2 * m
theorem sx_gen (n c m : Nat) (h : n < 2 * m) (hc : 0 < c) (hm : c * m = 2147483648) : IntKind.i32.wrap ((c * n : Nat) : Int) / (c : Int) = sxN n m := by
  rw [IntKind.wrap_i32]
  unfold sxN
  have hmi : (c : Int) * m = 2147483648 := by rw [← Int.natCast_mul, hm]; rfl
  have hn : ((c * n : Nat) : Int) = (c : Int) * n := by rw [Int.natCast_mul]
  have hc' : (c : Int) ≠ 0 := by omega
  split
  · rename_i hlt
    have h1 : (c : Int) * n < c * m := Int.mul_lt_mul_of_pos_left (by omega) (by omega)
    have h0 : (0 : Int) ≤ (c : Int) * n := Int.mul_nonneg (by omega) (by omega)
    rw [hn]
    generalize hx : (c : Int) * n = x at *
    have e : (x + 2147483648) % 4294967296 - 2147483648 = x := by omega
    rw [e, ← hx, Int.mul_ediv_cancel_left _ hc']
  · rename_i hge
    have h1 : (c : Int) * m ≤ c * n := Int.mul_le_mul_of_nonneg_left (by omega) (by omega)
    have h2 : (c : Int) * n < c * (2 * m) := Int.mul_lt_mul_of_pos_left (by omega) (by omega)
    have h3 : (c : Int) * (2 * m) = 4294967296 := by rw [Int.mul_left_comm, hmi]; rfl
    rw [hn]
    have e : ((c : Int) * n + 2147483648) % 4294967296 - 2147483648 = c * (n - 2 * m) := by
      rw [Int.mul_sub, h3]
      generalize (c : Int) * n = x at *
      omega
    rw [e, Int.mul_ediv_cancel_left _ hc']
def opN (w : Nat) : Int := ((w / 67108864 : Nat) : Int)
def longN (w : Nat) : Bool := hasBit (opN w) 16 && hasP (opN w) != 128
def bitN (w : Nat) : Bool := ((w / 32768 % 2 : Nat) : Int) == 1
/-- a shift to the right, as one fact -/
structure ShrF (k : IntKind) (a b m : Int) : Prop where
  h : a / 2 ^ min b.toNat k.bits = m
theorem Quiet.shrF {P : Program} {C : Ctx} {t : List AV} {h : List ABlk} {o : Oper} {xt yt : TypeId} {x y : Operand} {k q : IntKind} {a b m : Int} (ho : o.op = .binOp .shr xt x y yt) (hx : evA t x = .lit (.int k a)) (hy : evA t y = .lit (.int q b)) (hb : 0 ≤ b) (hm : ShrF k a b m) : Quiet P C t h o (.lit (.int k m)) :=
  Quiet.shr ho hx hy hb hm.h
/-- what might be a word's instruction -/
def candI (w : Nat) : InstM := ⟨opN w, ((w / 2097152 % 32 : Nat) : Int), if longN w = true then 0 else ((w / 65536 % 32 : Nat) : Int), if longN w = true then 0 else if bitN w = true then 0 else ((w % 32 : Nat) : Int),
  if longN w = true then true else bitN w, if longN w = true then (if opN w = 15 then ((w % 2097152 : Nat) : Int) else sxN (w % 2097152) 1048576) else if bitN w = true then sxN (w % 32768) 16384 else 0⟩
def zeroI : InstM := ⟨0, 0, 0, 0, false, 0⟩
def decOK (w : Nat) : Bool := decide (encE (candI w) = 0) && decide (encI (candI w) = (w : Int))
def decX (w : Nat) : InstM := if decOK w = true then candI w else zeroI
theorem u8_in {a : Int} (h : 0 ≤ a ∧ a ≤ 255) : wfI .u8 a := by
  simp [wfI, Lit.wf, IntKind.min, IntKind.max, IntKind.signed, IntKind.bits]
  omega
theorem i32_wf {a : Int} (h : -2147483648 ≤ a ∧ a ≤ 2147483647) : wfI .i32 a := by
  simp [wfI, Lit.wf, IntKind.min, IntKind.max, IntKind.signed, IntKind.bits]
  omega
theorem aggInst : aggT Tryd.prog 75 = some (true, 6) := by kernel_rfl
theorem cand_ok {w : Nat} (hw : w < 4294967296) : okInstM (candI w) := by
  refine ⟨u8_in ?_, u8_in ?_, u8_in ?_, u8_in ?_, i32_wf ?_⟩ <;> unfold candI <;> dsimp only
  · unfold opN; omega
  · omega
  · split <;> omega
  · split
    · omega
    · split <;> omega
  · split
    · split
      · omega
      · unfold sxN; split <;> omega
    · split
      · unfold sxN; split <;> omega
      · omega
set_option maxRecDepth 100000 in
set_option maxHeartbeats 4000000 in
theorem decode_fn (w : Nat) (hw : w < 4294967296) : FnT GL Tryd.prog 56 [.lit (.int .u32 (w : Int))] (.tup [.agg (encInstM (decX w)), .lit (.bool (decOK w))]) := by
  have hL := gl_lasts
  have hop : wfI .u8 (opN w) := u8_in (by unfold opN; omega)
  have hhas := has_fn (opN w) hop
  have hok := cand_ok hw
  obtain ⟨rd', hrd⟩ : ∃ r, r = (candI w).rd := ⟨_, rfl⟩
  obtain ⟨rs', hrs⟩ : ∃ r, r = (candI w).rs1 := ⟨_, rfl⟩
  obtain ⟨rt', hrt⟩ : ∃ r, r = (candI w).rs2 := ⟨_, rfl⟩
  obtain ⟨is', his⟩ : ∃ r, r = (candI w).is_ := ⟨_, rfl⟩
  obtain ⟨im', him⟩ : ∃ r, r = (candI w).imm := ⟨_, rfl⟩
  have hcd : candI w = ⟨opN w, rd', rs', rt', is', im'⟩ := by subst hrd hrs hrt his him; rfl
  have henc := encode_fn _ hok
  obtain ⟨E, hE⟩ : ∃ E, E = encI (candI w) := ⟨_, rfl⟩
  obtain ⟨F, hF⟩ : ∃ F, F = encE (candI w) := ⟨_, rfl⟩
  rw [← hE, ← hF, hcd] at henc
  have s26 : ShrF .u32 (w : Int) 26 (opN w) := ⟨by
    rw [show min (26 : Int).toNat IntKind.u32.bits = 26 from rfl]
    unfold opN
    omega⟩
  have c8 : IntKind.u8.wrap (opN w) = opN w := by rw [wrap_u8m]; unfold opN; omega
  have s11 : ShlF .u32 ((w % 2097152 : Nat) : Int) 11 ((2048 * (w % 2097152) : Nat) : Int) := ⟨by rw [wrap_u32m, show min (11 : Int).toNat IntKind.u32.bits = 11 from rfl]; omega⟩
  obtain ⟨q1, hq1⟩ : ∃ q, IntKind.i32.wrap ((2048 * (w % 2097152) : Nat) : Int) = q := ⟨_, rfl⟩
  have t11 : ShrF .i32 q1 11 (sxN (w % 2097152) 1048576) := ⟨by
    rw [← hq1]
    exact sx_gen (w % 2097152) 2048 1048576 (by omega) (by decide) rfl⟩
  have c32 : IntKind.i32.wrap ((w % 2097152 : Nat) : Int) = ((w % 2097152 : Nat) : Int) := IntWalk.i32_in _ (by omega)
  have s17 : ShlF .u32 ((w % 32768 : Nat) : Int) 17 ((131072 * (w % 32768) : Nat) : Int) := ⟨by rw [wrap_u32m, show min (17 : Int).toNat IntKind.u32.bits = 17 from rfl]; omega⟩
  obtain ⟨q2, hq2⟩ : ∃ q, IntKind.i32.wrap ((131072 * (w % 32768) : Nat) : Int) = q := ⟨_, rfl⟩
  have t17 : ShrF .i32 q2 17 (sxN (w % 32768) 16384) := ⟨by
    rw [← hq2]
    exact sx_gen (w % 32768) 131072 16384 (by omega) (by decide) rfl⟩
  have a31 : bits .and .u32 ((w % 32768 : Nat) : Int) 31 = ((w % 32 : Nat) : Int) := by
    have := and_u32 5 (w % 32768) (by decide) (by omega)
    rw [show (((2 : Nat) ^ 5 - 1 : Nat) : Int) = 31 from rfl] at this
    rw [this]
    omega
  have c5 : IntKind.u8.wrap ((w % 32 : Nat) : Int) = ((w % 32 : Nat) : Int) := by rw [wrap_u8m]; omega
  have c16 : IntKind.u8.wrap ((w / 65536 % 32 : Nat) : Int) = ((w / 65536 % 32 : Nat) : Int) := by rw [wrap_u8m]; omega
  have c21 : IntKind.u8.wrap ((w / 2097152 % 32 : Nat) : Int) = rd' := by
    rw [wrap_u8m, hrd]
    show _ = ((w / 2097152 % 32 : Nat) : Int)
    omega
  generalize ((2048 * (w % 2097152) : Nat) : Int) = p1 at s11 hq1
  generalize ((131072 * (w % 32768) : Nat) : Int) = p2 at s17 hq2
  refine FnT.of_awpC2 Tryd.func56 rfl (by kernel_rfl) rfl aggInst Tryd.ntmps56 fun C hC hG => ?_
  simp only [List.length_cons, List.length_nil, Nat.reduceAdd, Nat.reduceSub, List.replicate_succ, List.replicate_zero, List.cons_append, List.nil_append]
  refine wR (hk := ?_)
  refine wR (hk := ?_)
  refine Awp.open_box 1 rfl rfl rfl (fun g => [.lit (.int .u32 (w : Int)), .any, .ptr 0 0, .lit (.bool false), .lit (.pointer (some ⟨g, 0, none⟩)), .any, .any, .any, .any, .any, .any, .any, .any, .any, .any, .any, .any, .any, .any, .any, .any, .any, .any, .any, .any, .any, .any, .any, .any, .any, .any, .any, .any, .any, .any, .any, .any, .any, .any, .any, .any, .any, .any, .any, .any, .any, .any, .any, .any, .any, .any, .any, .any, .any, .any, .any, .any, .any, .any, .any, .any, .any, .any, .any, .any, .any, .any, .any, .any, .any, .any, .any, .any, .any, .any, .any, .any, .any, .any, .any, .any]) (fun g => (by (repeat (first | exact OpnB.nil | refine OpnB.ptr ?_ | refine OpnB.any ?_ | refine OpnB.keep rfl ?_)))) fun g => ?_
  have ht1 : FnTurn Tryd.prog 73 (boxR g [.lit (.int .u32 (w : Int))]) [.lit (.int .u64 21), .lit (.pointer (some ⟨g, 0, none⟩))] (fun _ : Unit => boxR g [.lit (.int .u32 ((w / 2097152 : Nat) : Int))]) (fun _ => .int .u32 ((w % 2097152 : Nat) : Int)) := take_fn g w 21 hw (by decide)
  have ht2 : FnTurn Tryd.prog 73 (boxR g [.lit (.int .u32 (w : Int))]) [.lit (.int .u64 15), .lit (.pointer (some ⟨g, 0, none⟩))] (fun _ : Unit => boxR g [.lit (.int .u32 ((w / 32768 : Nat) : Int))]) (fun _ => .int .u32 ((w % 32768 : Nat) : Int)) := take_fn g w 15 hw (by decide)
  have ht3 : FnTurn Tryd.prog 73 (boxR g [.lit (.int .u32 ((w / 32768 : Nat) : Int))]) [.lit (.int .u64 1), .lit (.pointer (some ⟨g, 0, none⟩))] (fun _ : Unit => boxR g [.lit (.int .u32 ((w / 65536 : Nat) : Int))]) (fun _ => .int .u32 ((w / 32768 % 2 : Nat) : Int)) := by
    have := take_fn g (w / 32768) 1 (by omega) (by decide)
    rw [show w / 32768 / 2 ^ 1 = w / 65536 by omega] at this
    exact this
  have ht4 : FnTurn Tryd.prog 73 (boxR g [.lit (.int .u32 ((w / 65536 : Nat) : Int))]) [.lit (.int .u64 5), .lit (.pointer (some ⟨g, 0, none⟩))] (fun _ : Unit => boxR g [.lit (.int .u32 ((w / 2097152 : Nat) : Int))]) (fun _ => .int .u32 ((w / 65536 % 32 : Nat) : Int)) := by
    have := take_fn g (w / 65536) 5 (by omega) (by decide)
    rw [show w / 65536 / 2 ^ 5 = w / 2097152 by omega] at this
    exact this
  have ht5 : FnTurn Tryd.prog 73 (boxR g [.lit (.int .u32 ((w / 2097152 : Nat) : Int))]) [.lit (.int .u64 5), .lit (.pointer (some ⟨g, 0, none⟩))] (fun _ : Unit => boxR g [.lit (.int .u32 ((w / 67108864 : Nat) : Int))]) (fun _ => .int .u32 ((w / 2097152 % 32 : Nat) : Int)) := by
    have := take_fn g (w / 2097152) 5 (by omega) (by decide)
    rw [show w / 2097152 / 2 ^ 5 = w / 67108864 by omega] at this
    exact this
  refine wR (hk := ?_)
  refine wR (hx := by ((repeat (first | refine sA (hq := Quiet.shrF rfl rfl rfl (by decide) s26) (hk := ?_) | refine sA (hq := Quiet.cv rfl rfl c8) (hk := ?_) | refine sA (hq := Quiet.bldP (rs := [.lit (.int .u8 (opN w)), .lit (.int .u8 0), .lit (.int .u8 0), .lit (.int .u8 0), .lit (.bool false), .lit (.int .i32 0)]) rfl plInstM rfl rfl) (hk := ?_) | refine sA (hk := ?_) | refine sSkip (hk := ?_) | refine sAG (hq := by (intro hg; (try simp only [] at hg); (try simp only [hg, beq_true, beq_false, cond_true, Bool.true_and, Bool.and_true, Bool.not_false, Bool.not_true, beq_self_eq_true]); exact Quiet.shrF rfl rfl rfl (by decide) s26)) (hk := ?_) | refine sAG (hq := by (intro hg; (try simp only [] at hg); (try simp only [hg, beq_true, beq_false, cond_true, Bool.true_and, Bool.and_true, Bool.not_false, Bool.not_true, beq_self_eq_true]); exact Quiet.cv rfl rfl c8)) (hk := ?_) | refine sAG (hq := by (intro hg; (try simp only [] at hg); (try simp only [hg, beq_true, beq_false, cond_true, Bool.true_and, Bool.and_true, Bool.not_false, Bool.not_true, beq_self_eq_true]); exact Quiet.bldP (rs := [.lit (.int .u8 (opN w)), .lit (.int .u8 0), .lit (.int .u8 0), .lit (.int .u8 0), .lit (.bool false), .lit (.int .i32 0)]) rfl plInstM rfl rfl)) (hk := ?_) | refine sAG (hk := ?_) | refine sOwn (hk := ?_))); exact wEnd rfl)) (hk := ?_)
  refine Awp.seqc ⟨[.lit (.int .u32 (w : Int)), .any, .ptr 0 0, .lit (.bool false), .any, .fn 73 [.lit (.pointer (some ⟨g, 0, none⟩))], .ptr 2 0, .any, .any, .any, .any, .any, .any, .any, .any, .any, .any, .any, .any, .any, .any, .any, .any, .any, .any, .any, .any, .any, .any, .any, .any, .any, .any, .any, .any, .any, .any, .any, .any, .any, .any, .any, .any, .any, .any, .any, .any, .any, .any, .any, .any, .any, .any, .any, .any, .any, .any, .any, .any, .any, .any, .any, .any, .any, .any, .any, .any, .any, .any, .any, .any, .any, .any, .any, .any, .any, .any, .any, .any, .any, .any], [.box [.lit (.int .u8 0), .lit (.int .u8 0), .lit (.int .u8 0), .lit (.int .u8 0), .lit (.bool false), .lit (.int .i32 0)], .res (boxR g [.lit (.int .u32 ((w / 2097152 : Nat) : Int))]), .box [.lit (.int .u8 (opN w)), .lit (.int .u8 0), .lit (.int .u8 rs'), .lit (.int .u8 rt'), .lit (.bool is'), .lit (.int .i32 im')]]⟩ ?_ ?_
  · refine wR (hk := ?_)
    refine Awp.cond rfl (fun hb7 => ?_) (fun hb7 => ?_)
    · have hl : longN w = true := hb7
      have e1 : rs' = 0 := by rw [hrs]; exact if_pos hl
      have e2 : rt' = 0 := by rw [hrt]; exact if_pos hl
      have e3 : is' = true := by rw [his]; exact if_pos hl
      have e4 : im' = if opN w = 15 then ((w % 2097152 : Nat) : Int) else sxN (w % 2097152) 1048576 := by rw [him]; exact if_pos hl
      refine wR (hx := by ((repeat (first | (refine aSeq_t rfl (AOp.callTurnV (i := 1) rfl rfl rfl ht1 (fun _ => rfl) rfl rfl fun _ => ?_); refine sNt (hk := ?_)) | refine sA (hk := ?_) | refine sSkip (hk := ?_) | refine sAG (hk := ?_) | refine sOwn (hk := ?_))); exact wEnd rfl)) (hk := ?_)
      refine wR (hx := by ((repeat (first | refine sA (hq := Quiet.shlF rfl rfl rfl (by decide) s11) (hk := ?_) | refine sA (hq := Quiet.cv rfl rfl hq1) (hk := ?_) | refine sA (hq := Quiet.shrF rfl rfl rfl (by decide) t11) (hk := ?_) | refine sA (hk := ?_) | refine sSkip (hk := ?_) | refine sAG (hq := by (intro hg; (try simp only [] at hg); (try simp only [beq_true]); exact Quiet.shlF rfl rfl rfl (by decide) s11)) (hk := ?_) | refine sAG (hq := by (intro hg; (try simp only [] at hg); (try simp only [beq_true]); exact Quiet.cv rfl rfl hq1)) (hk := ?_) | refine sAG (hq := by (intro hg; (try simp only [] at hg); (try simp only [beq_true]); exact Quiet.shrF rfl rfl rfl (by decide) t11)) (hk := ?_) | refine sAG (hk := ?_) | refine sOwn (hk := ?_))); exact wEnd rfl)) (hk := ?_)
      refine wR (hk := ?_)
      refine Awp.cond rfl (fun hb11 => ?_) (fun hb11 => ?_)
      · have e5 : im' = ((w % 2097152 : Nat) : Int) := by rw [e4]; exact if_pos (by have : (opN w == 15) = true := hb11; simpa using this)
        refine wRE (hx := by ((repeat (first | refine sA (hq := Quiet.cv rfl rfl c32) (hk := ?_) | refine sA (hk := ?_) | refine sSkip (hk := ?_) | refine sAG (hq := by (intro hg; (try simp only [] at hg); (try simp only [beq_true]); exact Quiet.cv rfl rfl c32)) (hk := ?_) | refine sAG (hk := ?_) | refine sOwn (hk := ?_))); exact wEnd rfl)) (hk := ?_)
        rw [e1, e2, e3, e5]
        exact le_TA
      · have e5 : im' = sxN (w % 2097152) 1048576 := by rw [e4]; exact if_neg (by have : (opN w == 15) = false := hb11; simpa using this)
        refine Awp.skip ?_
        rw [e1, e2, e3, e5]
        exact le_TA
    · have hl : longN w = false := hb7
      have hn : ¬ longN w = true := by rw [hl]; exact Bool.false_ne_true
      have e1 : rs' = ((w / 65536 % 32 : Nat) : Int) := by rw [hrs]; exact if_neg hn
      have e3 : is' = bitN w := by rw [his]; exact if_neg hn
      refine wR (hx := by ((repeat (first | (refine aSeq_t rfl (AOp.callTurnV (i := 1) rfl rfl rfl ht2 (fun _ => rfl) rfl rfl fun _ => ?_); refine sNt (hk := ?_)) | refine sA (hk := ?_) | refine sSkip (hk := ?_) | refine sAG (hk := ?_) | refine sOwn (hk := ?_))); exact wEnd rfl)) (hk := ?_)
      refine Awp.seq fun K14 h14 => ?_
      refine wR (hx := by ((repeat (first | (refine aSeq_t rfl (AOp.callTurnV (i := 1) rfl rfl rfl ht3 (fun _ => rfl) rfl rfl fun _ => ?_); refine sNt (hk := ?_)) | refine sA (hk := ?_) | refine sSkip (hk := ?_) | refine sAG (hk := ?_) | refine sOwn (hk := ?_))); exact wEnd rfl)) (hk := ?_)
      refine wR (hk := ?_)
      refine Awp.cond rfl (fun hb17 => ?_) (fun hb17 => ?_)
      · have hb : bitN w = true := hb17
        have e2 : rt' = 0 := by rw [hrt]; unfold candI; dsimp only; rw [if_neg hn, if_pos hb]
        have e5 : im' = sxN (w % 32768) 16384 := by rw [him]; unfold candI; dsimp only; rw [if_neg hn, if_pos hb]
        refine wRE (hx := by ((repeat (first | refine sA (hq := Quiet.shlF rfl rfl rfl (by decide) s17) (hk := ?_) | refine sA (hq := Quiet.cv rfl rfl hq2) (hk := ?_) | refine sA (hq := Quiet.shrF rfl rfl rfl (by decide) t17) (hk := ?_) | refine sA (hk := ?_) | refine sSkip (hk := ?_) | refine sAG (hq := by (intro hg; (try simp only [] at hg); (try simp only [beq_true]); exact Quiet.shlF rfl rfl rfl (by decide) s17)) (hk := ?_) | refine sAG (hq := by (intro hg; (try simp only [] at hg); (try simp only [beq_true]); exact Quiet.cv rfl rfl hq2)) (hk := ?_) | refine sAG (hq := by (intro hg; (try simp only [] at hg); (try simp only [beq_true]); exact Quiet.shrF rfl rfl rfl (by decide) t17)) (hk := ?_) | refine sAG (hk := ?_) | refine sOwn (hk := ?_))); exact wEnd rfl)) (hk := ?_)
        refine h14 _ ?_
        refine nT (hk := ?_)
        refine wRE (hx := by ((repeat (first | (refine aSeq_t rfl (AOp.callTurnV (i := 1) rfl rfl rfl ht4 (fun _ => rfl) rfl rfl fun _ => ?_); refine sNt (hk := ?_)) | refine sA (hq := Quiet.cv rfl rfl c16) (hk := ?_) | refine sA (hk := ?_) | refine sSkip (hk := ?_) | refine sAG (hq := by (intro hg; (try simp only [] at hg); (try simp only [beq_true]); exact Quiet.cv rfl rfl c16)) (hk := ?_) | refine sAG (hk := ?_) | refine sOwn (hk := ?_))); exact wEnd rfl)) (hk := ?_)
        rw [e1, e2, e3, e5]
        exact le_TA
      · have hb : bitN w = false := hb17
        have e2 : rt' = ((w % 32 : Nat) : Int) := by rw [hrt]; unfold candI; dsimp only; rw [if_neg hn, if_neg (by rw [hb]; exact Bool.false_ne_true)]
        have e5 : im' = 0 := by rw [him]; unfold candI; dsimp only; rw [if_neg hn, if_neg (by rw [hb]; exact Bool.false_ne_true)]
        refine wRE (hx := by ((repeat (first | refine sA (hq := Quiet.cv rfl rfl c5) (hk := ?_) | refine sA (hk := ?_) | refine sSkip (hk := ?_) | refine sAG (hq := by (intro hg; (try simp only [] at hg); (try simp only [beq_true]); exact Quiet.cv rfl rfl c5)) (hk := ?_) | refine sAG (hk := ?_) | refine sOwn (hk := ?_))); exact wEnd rfl)) (hk := ?_)
        refine h14 _ ?_
        refine nT (hk := ?_)
        refine wRE (hx := by ((repeat (first | (refine aSeq_t rfl (AOp.callTurnV (i := 1) rfl rfl rfl ht4 (fun _ => rfl) rfl rfl fun _ => ?_); refine sNt (hk := ?_)) | refine sA (hq := Quiet.cv rfl rfl c16) (hk := ?_) | refine sA (hk := ?_) | refine sSkip (hk := ?_) | refine sAG (hq := by (intro hg; (try simp only [] at hg); (try simp only [beq_true]); exact Quiet.cv rfl rfl c16)) (hk := ?_) | refine sAG (hk := ?_) | refine sOwn (hk := ?_))); exact wEnd rfl)) (hk := ?_)
        rw [e1, e2, e3, e5]
        exact le_TA
  · refine wR (hx := by ((repeat (first | (refine aSeq_t rfl (AOp.callTurnV (i := 1) rfl rfl rfl ht5 (fun _ => rfl) rfl rfl fun _ => ?_); refine sNt (hk := ?_)) | refine sA (hq := Quiet.cv rfl rfl c21) (hk := ?_) | refine sA (hk := ?_) | refine sSkip (hk := ?_) | refine sAG (hq := by (intro hg; (try simp only [] at hg); (try simp only [hg, beq_true, beq_false, cond_true, Bool.true_and, Bool.and_true, Bool.not_false, Bool.not_true, beq_self_eq_true]); exact Quiet.cv rfl rfl c21)) (hk := ?_) | refine sAG (hk := ?_) | refine sOwn (hk := ?_))); exact wEnd rfl)) (hk := ?_)
    refine Awp.seq fun K22 h22 => ?_
    refine wR (hk := ?_)
    refine wR (hk := ?_)
    have hraw : (F != 0 || E != (w : Int)) = !decOK w := by
      unfold decOK
      rw [← hE, ← hF, Bool.eq_iff_iff]
      simp only [Bool.or_eq_true, bne_iff_ne, Bool.not_eq_true', Bool.and_eq_false_iff, decide_eq_false_iff_not]
    refine Awp.cond rfl (fun hb25 => ?_) (fun hb25 => ?_)
    · refine wR (hx := by ((repeat (first | refine sA (hq := Quiet.bldP (rs := [.lit (.int .u8 0), .lit (.int .u8 0), .lit (.int .u8 0), .lit (.int .u8 0), .lit (.bool false), .lit (.int .i32 0)]) rfl plInstM rfl rfl) (hk := ?_) | refine sA (hk := ?_) | refine sSkip (hk := ?_) | refine sAG (hq := by (intro hg; (try simp only [] at hg); (try simp only [beq_false]); exact Quiet.bldP (rs := [.lit (.int .u8 0), .lit (.int .u8 0), .lit (.int .u8 0), .lit (.int .u8 0), .lit (.bool false), .lit (.int .i32 0)]) rfl plInstM rfl rfl)) (hk := ?_) | refine sAG (hk := ?_) | refine sOwn (hk := ?_))); exact wEnd rfl)) (hk := ?_)
      have h1 := hraw.symm.trans hb25
      rw [Bool.not_eq_true'] at h1
      have e1 : decX w = zeroI := if_neg (by rw [h1]; exact Bool.false_ne_true)
      rw [e1, h1]
      exact Awp.ret ⟨.inr rfl, 0, _, rfl, rfl, rfl, Fin.cl rfl⟩
    · refine Awp.skip ?_
      refine h22 _ ?_
      refine nT (hk := ?_)
      refine wR (hk := ?_)
      have h1 := hraw.symm.trans hb25
      rw [Bool.not_eq_false'] at h1
      have e1 : decX w = candI w := if_pos h1
      rw [e1, h1, hcd]
      exact Awp.ret ⟨.inr rfl, 0, _, rfl, rfl, rfl, Fin.cl rfl⟩
end Mu
end
section
/-
  Regions that draw their order, whatever they do: the state is told by what is done so far.
  Conditions: none; generic.
-/
namespace Mu
open Go Go.RowKit

section
variable {P : Program} {C : Ctx}
def upd (b : Nat → Bool) (i : Nat) : Nat → Bool := fun j => if j = i then true else b j
/-- what an operation waits for is done -/
def aftD (b : Nat → Bool) (o : Oper) : Prop := ∀ (k : Nat) (e : Edge), o.after[k]? = some e → Region.binds .any e = true → b e.on = true
def clsD (ops : Array Oper) (b : Nat → Bool) : Prop := ∀ (j : Nat) (o : Oper), ops[j]? = some o → b j = true → aftD b o
def gS (P : Program) (C : Ctx) (F : (Nat → Bool) → St) (ops : Array Oper) : Nat → List Oper → Prop
  | _, [] => True
  | k, o :: rest => (∀ b, b k = false → aftD b o → clsD ops b → AOp P C o (F b) fun s => St.le C s (F (upd b k))) ∧ gS P C F ops (k + 1) rest
theorem gS_get {F : (Nat → Bool) → St} {ops : Array Oper} : ∀ {l : List Oper} {k j : Nat} {o : Oper}, gS P C F ops k l → l[j]? = some o → ∀ b, b (k + j) = false → aftD b o → clsD ops b → AOp P C o (F b) fun s => St.le C s (F (upd b (k + j)))
  | [], _, _, _, _, hj => by simp at hj
  | o' :: l, k, 0, o, h, hj => by
    simp at hj
    subst hj
    exact h.1
  | o' :: l, k, j + 1, o, h, hj => by
    have := gS_get (l := l) (k := k + 1) (j := j) h.2 (by simpa using hj)
    rwa [show k + 1 + j = k + (j + 1) by omega] at this
def fwdB (ops : Array Oper) : Bool := (List.range ops.size).all fun i => match ops[i]? with
  | none => true
  | some o => o.guard.isNone && o.after.all fun e => !Region.binds .any e || decide (e.on < i)
theorem fwd_get {ops : Array Oper} (hf : fwdB ops = true) {i : Nat} {o : Oper} (ho : ops[i]? = some o) : o.guard = none ∧ ∀ e ∈ o.after, Region.binds .any e = true → e.on < i := by
  have h1 := List.all_eq_true.1 hf i (List.mem_range.2 (Array.getElem?_eq_some_iff.1 ho).1)
  simp only [ho, Bool.and_eq_true] at h1
  refine ⟨by simpa using h1.1, fun e he hb => ?_⟩
  have h2 := Array.all_eq_true_iff_forall_mem.1 h1.2 e he
  rw [hb] at h2
  simpa using h2
theorem aftD_mono {b : Nat → Bool} {i : Nat} {o : Oper} (h : aftD b o) : aftD (upd b i) o := fun k e he hb => by
  unfold upd
  split
  · rfl
  · exact h k e he hb
theorem getD_t {listed : Array Bool} {j : Nat} (h : listed.getD j false = true) : listed.getD j true = true := by
  rcases Nat.lt_or_ge j listed.size with h' | h'
  · simp [h'] at h ⊢; exact h
  · simp [Array.getElem?_eq_none h'] at h
theorem upd_set {listed : Array Bool} {i : Nat} (hi : i < listed.size) : (fun j => (listed.setIfInBounds i true).getD j true) = upd (fun j => listed.getD j true) i := by
  funext j
  unfold upd
  by_cases h : j = i
  · subst h
    rw [if_pos rfl]
    simp [Array.getD_eq_getD_getElem?, hi]
  · rw [if_neg h, getD_set_ne true (Ne.symm h)]
theorem wpAny_of_G {ops : Array Oper} {F : (Nat → Bool) → St} {Q' : Exit → Act → World → Prop} (hf : fwdB ops = true)
    (hs : ∀ (j : Nat) (o : Oper), ops[j]? = some o → ∀ b, b j = false → aftD b o → clsD ops b → AOp P C o (F b) fun s => St.le C s (F (upd b j)))
    (hQ : ∀ a w, (F fun _ => true).rel C a w → Q' .normal a w) :
    ∀ (f : Nat) (listed : Array Bool) (a : Act) (w : World), listed.size = ops.size → listed.toList.count false = f → clsD ops (fun j => listed.getD j true) → (F fun j => listed.getD j true).rel C a w → wpAny P .any ops Q' f listed a w := by
  intro f
  induction f with
  | zero =>
    intro listed a w hsz hc hcl H
    have hall : ∀ j, listed.getD j true = true := fun j => by
      rcases Nat.lt_or_ge j listed.size with h' | h'
      · have hm := List.count_eq_zero.1 hc
        simp only [Array.getD_eq_getD_getElem?, Array.getElem?_eq_getElem h', Option.getD_some]
        rcases hx : listed[j] with _ | _
        · exact absurd (by rw [← hx]; simp) hm
        · rfl
      · simp [Array.getD_eq_getD_getElem?, Array.getElem?_eq_none h']
    refine ⟨List.eq_nil_iff_forall_not_mem.2 fun i hi => ?_, hQ a w ?_⟩
    · have := (mem_ready.1 hi).1
      rw [hall i] at this
      cases this
    · have e : (fun j => listed.getD j true) = fun _ => true := funext hall
      rwa [e] at H
  | succ f ih =>
    intro listed a w hsz hc hcl H
    refine ⟨fun h0 => ?_, fun i hi => ?_⟩
    · exfalso
      have hex : ∃ j, listed.getD j true = false := by
        have hm : false ∈ listed.toList := List.count_pos_iff.1 (by omega)
        obtain ⟨j, hj, he⟩ := List.getElem_of_mem hm
        exact ⟨j, by simp only [Array.length_toList] at hj; simp only [Array.getElem_toList] at he; simp [Array.getD_eq_getD_getElem?, hj, he]⟩
      obtain ⟨j, hj, hmin⟩ := least_of hex
      have hjs : j < ops.size := by
        rcases Nat.lt_or_ge j listed.size with h' | h'
        · omega
        · simp [Array.getElem?_eq_none h'] at hj
      have hmem : j ∈ Region.ready .any ops listed := mem_ready.2 ⟨hj, _, Array.getElem?_eq_getElem hjs, fun e he hb => by
        have hlt := (fwd_get hf (Array.getElem?_eq_getElem hjs)).2 e he hb
        cases hx : listed.getD e.on false with
        | true => rfl
        | false =>
          have hin : e.on < listed.size := by omega
          have := hmin e.on (getD_in hin hx)
          omega⟩
      rw [h0] at hmem
      cases hmem
    · obtain ⟨hun, o, ho, hall⟩ := mem_ready.1 hi
      have his : i < listed.size := by rw [hsz]; exact (Array.getElem?_eq_some_iff.1 ho).1
      obtain ⟨hg, hfw⟩ := fwd_get hf ho
      have haft : aftD (fun j => listed.getD j true) o := fun k e he hb => getD_t (hall e (Array.mem_of_getElem? he) hb)
      have hcnt : (listed.setIfInBounds i true).toList.count false = f := by
        have hfalse : listed.toList[i]'(by simpa using his) = false := by
          have := hun
          simp [Array.getD_eq_getD_getElem?, his] at this
          simpa using this
        rw [Array.toList_setIfInBounds, List.count_set (by simpa using his), hfalse, hc]
        simp
      unfold wpOp
      simp only [ho]
      have hw : Region.wanted o (yielded ops a.tmps) = true := by unfold Region.wanted; rw [hg]
      rw [hw, if_pos rfl]
      refine .inl (Oper.wp_mono (fun a' w' ⟨s', hle, hr⟩ => ?_) (hs i o ho _ hun haft hcl Q' a w H).2)
      refine ih _ a' w' (by simpa using hsz) hcnt ?_ ?_
      · rw [upd_set his]
        intro j o' hj hbj
        by_cases hji : j = i
        · subst hji
          rw [ho] at hj
          cases hj
          exact aftD_mono haft
        · exact aftD_mono (hcl j o' hj (by unfold upd at hbj; rwa [if_neg hji] at hbj))
      · rw [upd_set his]
        exact hle a' w' hr
theorem Awp.drawG {id n : Nat} {l : List Oper} {Q : Exit → St → Prop} (F : (Nat → Bool) → St) (hn : l.length = n) (hm : P.follows .mixedOrders = true) (hB : (Region.noSelect l.toArray && noDefer l.toArray && fwdB l.toArray) = true)
    (hs : gS P C F l.toArray 0 l) (hQ : Q .normal (F fun _ => true)) : Awp P C (.region id l.toArray true) Q (F fun j => decide (n ≤ j)) := fun a w H => by
  simp only [Bool.and_eq_true] at hB
  obtain ⟨⟨hsel, hnd⟩, hf⟩ := hB
  refine fnc_region hm hnd ?_
  have e0 : (fun j => (Array.replicate l.toArray.size false).getD j true) = fun j => decide (n ≤ j) := by
    funext j
    simp only [Array.getD_eq_getD_getElem?, Array.getElem?_replicate, List.size_toArray, hn]
    by_cases h : j < n
    · rw [if_pos h, decide_eq_false (by omega)]; rfl
    · rw [if_neg h, decide_eq_true (by omega)]; rfl
  refine wpAny_of_G (Q' := fun e a' w' => e = .normal ∧ ∃ s', Q e s' ∧ s'.rel C a' w') hf (fun j o ho b h1 h2 h3 => ?_) (fun a' w' h => ⟨rfl, _, hQ, h⟩) _ _ a _ (by simp) (by simp) ?_ ?_
  · have := gS_get (l := l) (k := 0) (j := j) hs (by simpa using ho) b (by rwa [Nat.zero_add]) h2 h3
    rwa [Nat.zero_add] at this
  · intro j o ho hb
    have hj : j < l.toArray.size := (Array.getElem?_eq_some_iff.1 ho).1
    have : (Array.replicate l.toArray.size false).getD j true = true := hb
    rw [Array.getD_eq_getD_getElem?, Array.getElem?_replicate, if_pos hj] at this
    cases this
  · rw [e0]
    obtain ⟨hd, S, ψ, hh', hl⟩ := H
    have hb : Below w.heap.size w { w with drawn := w.drawn + 1 } := ⟨rfl, rfl, rfl, Nat.le_refl _, fun _ _ => rfl⟩
    exact ⟨hd, S, ψ, hh'.grow hb (fun _ h => h) (fun _ h => .inl h) hh'.lt, AV.relL_ext (show Ext w S _ ψ { w with drawn := w.drawn + 1 } S _ ψ from Ext.grow _ ψ (fun k hk => rfl) fun _ h => h) _ _ hl⟩

/-! ### a variable's memory at a place that is kept for it -/
theorem nrL_nil {p : Nat} : AV.nrL p [] = true := rfl
theorem nrL_cons {p : Nat} {x : AV} {l : List AV} (hx : AV.nr p x = true) (hl : AV.nrL p l = true) : AV.nrL p (x :: l) = true := by unfold AV.nrL; rw [hx, hl]; rfl
theorem nr_c {p : Nat} {c : Bool} {x y : AV} (hx : AV.nr p x = true) (hy : AV.nr p y = true) : AV.nr p (bif c then x else y) = true := by cases c; exact hy; exact hx
theorem nr_f {p : Nat} {c : Bool} {x y : AV} (hc : c = false) (hy : AV.nr p y = true) : AV.nr p (bif c then x else y) = true := by subst hc; exact hy
theorem nrH_nil {p : Nat} : List.all [] (nrB p) = true := rfl
theorem nrH_cons {p : Nat} {x : ABlk} {l : List ABlk} (hx : nrB p x = true) (hl : l.all (nrB p) = true) : (x :: l).all (nrB p) = true := by rw [List.all_cons, hx, hl]; rfl
theorem nrB_c {p : Nat} {c : Bool} {x y : ABlk} (hx : nrB p x = true) (hy : nrB p y = true) : nrB p (bif c then x else y) = true := by cases c; exact hy; exact hx
theorem AOp.alAt {o : Oper} {t : List AV} {h : List ABlk} {elem : TypeId} {zs : List Value} {K : St → Prop} [ZC P elem zs] (p : Nat) (ho : o.op = .alloc elem) (hp : h[p]? = some .dead) (hn : h.all (nrB p) = true) (hnt : AV.nrL p t = true) (hK : K ⟨putA t o.dst (.ptr p 0), h.set p (.box (zs.map .lit))⟩) : AOp P C o ⟨t, h⟩ K := by
  rintro Q' a w ⟨hd, S, ψ, hh', hl⟩
  refine ⟨fun c e => (by rw [ho] at e; cases e), ?_⟩
  have hz : zeroCells? P elem = some zs := ZC.eq
  unfold zeroCells? at hz
  obtain ⟨z, hz1, rfl⟩ := Option.map_eq_some_iff.1 hz
  obtain ⟨ti, hti, hz2⟩ := Option.bind_eq_some_iff.1 hz1
  have hrun : (execOp a.eval o).run P w = .ok (.value (.pointer (some ⟨w.heap.size, 0, none⟩))) (w.alloc (.cells z.cells elem)) := by
    simp [execOp, ho, Instr.alloc, zeroValue, typeInfo, hti, hz2, Go.newVar, Go.newRow]
  unfold Oper.wp
  rw [hrun]
  have hb : Below w.heap.size w (w.alloc (.cells z.cells elem)) := (Below.refl _ _).alloc (Nat.le_refl _) _
  have hB : BRel C.N (w.alloc (.cells z.cells elem)) S (h.set p (.box (z.cells.toList.map .lit))) (ψset ψ p (.pointer (some ⟨w.heap.size, 0, none⟩))) (.pointer (some ⟨w.heap.size, 0, none⟩)) (.box (z.cells.toList.map .lit)) :=
    ⟨w.heap.size, z.cells.toList, elem, rfl, fun hN => by have := hh'.nlt _ hN; have := hh'.bel.size; omega, fun hS => by have := hh'.lt _ hS; omega, by simpa using heap_alloc_new w (.cells z.cells elem), relL_lits _⟩
  have H1 := hh'.revive hp hn hb hB fun g hg => by simp [ftp, blkOf] at hg; omega
  have hl1 := AV.relL_ext (Ext.grow h ψ (fun k hk => hb.block k (hh'.lt k hk)) fun _ h => h) _ _ hl
  have hl2 := AV.relL_up (b := .box (z.cells.toList.map .lit)) (ψ' := ψset ψ p (.pointer (some ⟨w.heap.size, 0, none⟩))) (fun i hi => ψset_ne hi) _ _ hnt hl1
  refine ⟨_, hK, by rw [put_defers, hd]; exact (mkD_set (b' := .box (z.cells.toList.map .lit)) hp rfl).symm, S, _, H1, put_rel hl2 o.dst ?_⟩
  unfold AV.rel
  exact ⟨by simpa using (List.getElem?_eq_some_iff.1 hp).1, fun _ => ⟨w.heap.size, ψset_self, rfl⟩⟩
theorem AOp.stBoxV {o : Oper} {t : List AV} {h : List ABlk} {ty : TypeId} {x y : Operand} {i off n : Nat} {v : AV} {cells new : List AV} {K : St → Prop} [SZ P ty n] (ho : o.op = .store ty x y) (hx : evA t x = .ptr i off) (hi : h[i]? = some (.box cells)) (hy : evA t y = v) (hp : Parts h v new) (hs : n = new.length) (hle : off + new.length ≤ cells.length)
    (hK : K ⟨putA t o.dst (.lit undef), h.set i (.box (cells.take off ++ new ++ cells.drop (off + new.length)))⟩) : AOp P C o ⟨t, h⟩ K := by
  subst hy
  exact AOp.stBox ho hx hi hp hs hle hK
theorem St.le_deads {t : List AV} {h h' : List ABlk} (k : Nat) (e : h ++ List.replicate k .dead = h') : St.le C ⟨t, h⟩ ⟨t, h'⟩ := by
  subst e
  induction k with
  | zero => simpa using St.le.refl
  | succ k ih =>
    refine ih.trans ?_
    have := St.le_dead (C := C) (t := t) (h := h ++ List.replicate k .dead)
    rwa [List.append_assoc, ← List.replicate_succ'] at this
theorem cndBT {b : Bool} (h : b = true) (x y : ABlk) : (bif b then x else y) = x := by subst h; rfl
theorem cndBF {b : Bool} (h : b = false) (x y : ABlk) : (bif b then x else y) = y := by subst h; rfl
theorem gS_cons {F : (Nat → Bool) → St} {ops : Array Oper} {k : Nat} {o : Oper} {rest : List Oper} (h1 : ∀ b, b k = false → aftD b o → clsD ops b → AOp P C o (F b) fun s => St.le C s (F (upd b k))) (h2 : gS P C F ops (k + 1) rest) : gS P C F ops k (o :: rest) := ⟨h1, h2⟩
theorem gS_nil {F : (Nat → Bool) → St} {ops : Array Oper} {k : Nat} : gS P C F ops k [] := trivial
theorem not_before {ops : Array Oper} {b : Nat → Bool} (hc : clsD ops b) {i j k : Nat} {o : Oper} {e : Edge} (hj : ops[j]? = some o) (hk : o.after[k]? = some e) (hb : Region.binds .any e = true) (he : e.on = i) (hi : b i = false) : b j = false := by
  cases h : b j with
  | false => rfl
  | true =>
    have := hc j o hj h k e hk hb
    rw [he, hi] at this
    cases this
end
end Mu
end
section
/-
  Listings of images, and images of any bytes: what image.List and muntinlaw31.ImageGets compute.
  Conditions: what is laid (GL).
-/
namespace Mu
open Go Go.RowKit Go.Proofs

def inst_Decode (w : Int) : M (InstM × Bool) := M.chk (decide (0 ≤ w) && decide (w < 4294967296)) (M.ok (decX w.toNat, decOK w.toNat))
theorem inst_Decode_l {w : Int} {r : InstM × Bool} (H : (inst_Decode w).to r) : FnT GL Tryd.prog 56 [.lit (.int .u32 w)] (.tup [.agg (encInstM r.1), .lit (.bool r.2)]) := by
  obtain ⟨c, H⟩ := M.to_chk.1 H
  obtain rfl := M.to_ok.1 H
  rw [Bool.and_eq_true] at c
  have c1 : 0 ≤ w := of_decide_eq_true c.1
  have c2 : w < 4294967296 := of_decide_eq_true c.2
  have := decode_fn w.toNat (by omega)
  rwa [show ((w.toNat : Nat) : Int) = w by omega] at this
def image_text (l : List ByteArray) : M ByteArray := M.bnd (strings_Join l ⟨#[32]⟩) fun r1 => M.chk (catB r1 ⟨#[10]⟩) (M.ok (r1 ++ ⟨#[10]⟩))
set_option maxRecDepth 100000 in
set_option maxHeartbeats 4000000 in
theorem image_text_l {l : List ByteArray} {r : ByteArray} (H : (image_text l).to r) : Fn Tryd.prog 36 [.bs Ty.str l] (.lit (.string r)) := by
  delta image_text at H
  try dsimp only at H
  refine Fn.of_awp Tryd.func36 rfl (by kernel_rfl) rfl Tryd.ntmps36 fun C hC => ?_
  simp only [List.length_cons, List.length_nil, Nat.reduceAdd, Nat.reduceSub, List.replicate_succ, List.replicate_zero, List.cons_append, List.nil_append]
  refine wR (hx := by (refine sA (hq := Quiet.assign rfl getC) (ht := set2) (hk := ?_); exact wEnd rfl)) (hk := ?_)
  obtain ⟨r1, k1, H⟩ := M.to_bnd.1 H
  have k1 := strings_Join_l k1
  obtain ⟨c2, H⟩ := M.to_chk.1 H
  refine wR (hx := by (refine sA (hq := Quiet.move rfl get0) (ht := set3) (hk := ?_); refine sA (hq := Quiet.callA rfl rfl k1 rfl rfl) (ht := set4) (hk := ?_); refine sA (hq := Quiet.cat rfl get4 getC (catB_le c2)) (ht := set5) (hk := ?_); refine sA (hq := Quiet.assign rfl get5) (ht := set2) (hk := ?_); exact wEnd rfl)) (hk := ?_)
  obtain rfl := M.to_ok.1 H
  exact Awp.ret ⟨.inr rfl, Fin.cl rfl⟩
def image_digits (n : Int) : M ByteArray := M.bnd (strconv_Itoa n) fun r1 => M.ok r1
set_option maxRecDepth 100000 in
set_option maxHeartbeats 4000000 in
theorem image_digits_l {n : Int} {r : ByteArray} (H : (image_digits n).to r) : FnT GL Tryd.prog 35 [.lit (.int .i64 n)] (.lit (.string r)) := by
  delta image_digits at H
  try dsimp only at H
  have hL := gl_lasts
  refine FnT.of_awp Tryd.func35 rfl (by kernel_rfl) rfl Tryd.ntmps35 fun C hC hG => ?_
  simp only [List.length_cons, List.length_nil, Nat.reduceAdd, Nat.reduceSub, List.replicate_succ, List.replicate_zero, List.cons_append, List.nil_append]
  refine wR (hx := by (refine sA (hq := Quiet.assign rfl getC) (ht := set2) (hk := ?_); exact wEnd rfl)) (hk := ?_)
  obtain ⟨r1, k1, H⟩ := M.to_bnd.1 H
  have k1 := strconv_Itoa_l k1
  refine wR (hx := by (refine sA (hq := Quiet.move rfl get0) (ht := set3) (hk := ?_); refine sA (hq := Quiet.callTA rfl rfl hC hL hG k1 rfl rfl) (ht := set4) (hk := ?_); refine sA (hq := Quiet.assign rfl get4) (ht := set2) (hk := ?_); exact wEnd rfl)) (hk := ?_)
  obtain rfl := M.to_ok.1 H
  exact Awp.ret ⟨.inr rfl, Fin.cl rfl⟩
def image_hex_L5 (w : Int) : (Int × (List Int)) → M ((Int × (List Int)) ⊕ ((List Int))) := fun (i1, l3) => M.cnd (decide (i1 ≥ 0)) (M.chk (decide (0 ≤ i1)) (M.chk (inSt ⟨#[48, 49, 50, 51, 52, 53, 54, 55, 56, 57, 97, 98, 99, 100, 101, 102]⟩ (bits .and .u32 (shrV .u32 w i1) 15)) (M.chk (wfB .u8 (chD ⟨#[48, 49, 50, 51, 52, 53, 54, 55, 56, 57, 97, 98, 99, 100, 101, 102]⟩ (bits .and .u32 (shrV .u32 w i1) 15))) (M.chk (rowB (l3.length + [chD ⟨#[48, 49, 50, 51, 52, 53, 54, 55, 56, 57, 97, 98, 99, 100, 101, 102]⟩ (bits .and .u32 (shrV .u32 w i1) 15)].length) 1) (M.ok (.inl (IntKind.i64.wrap (i1 - 4), l3 ++ [chD ⟨#[48, 49, 50, 51, 52, 53, 54, 55, 56, 57, 97, 98, 99, 100, 101, 102]⟩ (bits .and .u32 (shrV .u32 w i1) 15)]))))))) (M.ok (.inr l3))
def image_hex (w : Int) : M ByteArray := M.bnd (M.loop (image_hex_L5 w) (28, [])) fun l6 => M.ok (bytesOf l6)
set_option maxRecDepth 100000 in
set_option maxHeartbeats 4000000 in
theorem image_hex_l {w : Int} {r : ByteArray} (H : (image_hex w).to r) : Fn Tryd.prog 55 [.lit (.int .u32 w)] (.lit (.string r)) := by
  delta image_hex at H
  try dsimp only at H
  refine Fn.of_awp Tryd.func55 rfl (by kernel_rfl) rfl Tryd.ntmps55 fun C hC => ?_
  simp only [List.length_cons, List.length_nil, Nat.reduceAdd, Nat.reduceSub, List.replicate_succ, List.replicate_zero, List.cons_append, List.nil_append]
  refine wR (hx := by (refine sA (hq := Quiet.assign rfl getC) (ht := set2) (hk := ?_); exact wEnd rfl)) (hk := ?_)
  refine wR (hx := by (refine sA (hq := Quiet.assign rfl getC) (ht := set3) (hk := ?_); exact wEnd rfl)) (hk := ?_)
  refine Awp.via _ (St.le_own 3 5 (Ty.int .u8) rfl (by decide)) ?_
  obtain ⟨z4, HX4, Hl4⟩ := M.to_bnd.1 H
  refine Awp.seqJ (β := ((List Int)) × (Nat)) (fun q4 => z4 = q4.1) (fun q4 => ⟨[.any, .any, .any, .own 0 q4.2, .any, .any, .any, .any, .any, .any, .any, .any, .any, .any, .any, .any, .any, .any, .any], [.row q4.2 5 (Ty.int .u8) q4.1]⟩) ?_ ?_
  · refine wR (hx := by (refine sA (hq := Quiet.assign rfl getC) (ht := set4) (hk := ?_); exact wEnd rfl)) (hk := ?_)
    refine Awp.block ?_
    refine Awp.loopM HX4 (fun s4 b4 => ⟨[.lit (.int .u32 w), .any, .any, .own 0 b4, .lit (.int .i64 s4.1), .any, .any, .any, .any, .any, .any, .any, .any, .any, .any, .any, .any, .any, .any], [.row b4 5 (Ty.int .u8) s4.2]⟩) 0 (?_) ?_
    · try dsimp only
      exact le_TA
    · rintro ⟨i1, l3⟩ v2 x4 H Hr4
      try dsimp only
      dsimp only [image_hex_L5] at H
      refine Awp.seq fun Khs7 hs7 => ?_
      refine wR (hx := by (refine sA (hq := Quiet.move rfl get4) (ht := set5) (hk := ?_); refine sA (hq := Quiet.bin rfl get5 getC rfl) (ht := set6) (hk := ?_); exact wEnd rfl)) (hk := ?_)
      refine Awp.cond rfl (fun hb8 => ?_) (fun hb8 => ?_)
      · have H := M.to_t hb8 H
        refine Awp.skip ?_
        refine hs7 _ ?_
        refine nT (hk := ?_)
        refine Awp.seq fun Khs9 hs9 => ?_
        refine Awp.block ?_
        obtain ⟨c10, H⟩ := M.to_chk.1 H
        obtain ⟨c11, H⟩ := M.to_chk.1 H
        obtain ⟨c12, H⟩ := M.to_chk.1 H
        obtain ⟨c13, H⟩ := M.to_chk.1 H
        refine wRE (hx := by (refine sA (hq := Quiet.move rfl get3) (ht := (setS8 set1)) (hk := ?_); refine sA (hq := Quiet.move rfl get0) (ht := (setS8 set2)) (hk := ?_); refine sA (hq := Quiet.move rfl get4) (ht := (setS8 set3)) (hk := ?_); refine sA (hq := Quiet.shrM rfl (getS8 get2) (getS8 get3) c10) (ht := (setS8 set4)) (hk := ?_); refine sA (hq := Quiet.bit rfl (getS8 get4) getC rfl rfl) (ht := (setS8 set5)) (hk := ?_); refine sA (hq := Quiet.ixSM rfl getC (getS8 get5) c11) (ht := (setS8 set6)) (hk := ?_); refine sA (hq := Quiet.lt (xs := [.tmp 14]) (T := (Ty.int .u8)) (ds := [chD ⟨#[48, 49, 50, 51, 52, 53, 54, 55, 56, 57, 97, 98, 99, 100, 101, 102]⟩ (bits .and .u32 (shrV .u32 w i1) 15)]) rfl rfl rfl (by rfl) (by decide) (.cons (Fit.int c12) .nil)) (ht := (setS8 set7)) (hk := ?_); (refine aSeq_t rfl (AOp.appQ rfl rfl rfl rfl rfl c13 ?_); refine sNtM (ht := (setS8 (setS8 set0))) (hk := ?_)); refine sA (hq := Quiet.assign rfl (getS8 (getS8 get0))) (ht := set3) (hk := ?_); exact wEnd rfl)) (hk := ?_)
        refine hs9 _ ?_
        refine nT (hk := ?_)
        refine wRE (hx := by (refine sA (hq := Quiet.move rfl get4) (ht := set7) (hk := ?_); refine sA (hq := Quiet.bin rfl get7 getC rfl) (ht := (setS8 set0)) (hk := ?_); refine sA (hq := Quiet.assign rfl (getS8 get0)) (ht := set4) (hk := ?_); exact wEnd rfl)) (hk := ?_)
        have e4 := M.to_ok.1 H
        repeat (first | refine abN ?_ | refine asN ?_)
        refine athen_n ⟨_, v2 + 1, e4.symm, ?_⟩
        try dsimp only
        exact le_TA
      · have H := M.to_f hb8 H
        refine Awp.exit ?_
        repeat (first | refine athen_e ?_ | refine exO (by decide) ?_ | refine asE ?_)
        refine exN ?_
        have e4 := Hr4 _ (M.to_ok.1 H).symm
        repeat (first | refine abN ?_ | refine asN ?_)
        refine athen_n ⟨(_, v2), e4.symm, ?_⟩
        try dsimp only
        exact le_TA
  · rintro ⟨l6, v5⟩ hz4
    try dsimp only at hz4
    have H := Hl4
    rw [hz4] at H
    try dsimp only
    refine wR (hx := by (refine sA (hq := Quiet.move rfl get3) (ht := (setS8 (setS8 set1))) (hk := ?_); refine sA (hq := Quiet.b2sO rfl rfl rfl) (ht := (setS8 (setS8 set2))) (hk := ?_); refine sA (hq := Quiet.assign rfl (getS8 (getS8 get2))) (ht := set2) (hk := ?_); exact wEnd rfl)) (hk := ?_)
    obtain rfl := M.to_ok.1 H
    exact Awp.ret ⟨.inr rfl, Fin.cl rfl⟩
def image_line_L9 (r8 : InstM × Bool) : (Int × (List ByteArray)) → M ((Int × (List ByteArray)) ⊕ ((List ByteArray))) := fun (x10, l12) => M.cnd (decide (x10 < 4)) (M.chk (inBd [r8.1.op, r8.1.rd, r8.1.rs1, r8.1.rs2] x10) (M.bnd (image_digits (IntKind.i64.wrap (ixD [r8.1.op, r8.1.rd, r8.1.rs1, r8.1.rs2] x10))) fun r20 => M.chk (strB r20) (M.chk (rowB (l12.length + [r20].length) 16) (M.ok (.inl (IntKind.i64.wrap (x10 + 1), l12 ++ [r20])))))) (M.ok (.inr l12))
def image_line (at0 : Int) (w : Int) : M ByteArray := M.bnd (image_digits at0) fun r1 => M.bnd (image_hex w) fun r2 => M.chk (strB r1) (M.chk (strB r2) (M.bnd (M.bnd (inst_Decode w) fun r8 => M.cnd r8.2 (M.bnd (M.loop (image_line_L9 r8) (0, [r1, r2])) fun l15 => M.cnd r8.1.is_ (M.bnd (image_digits (IntKind.i64.wrap r8.1.imm)) fun r24 => M.chk (catB ⟨#[35]⟩ r24) (M.chk (strB (⟨#[35]⟩ ++ r24)) (M.chk (rowB (l15.length + [⟨#[35]⟩ ++ r24].length) 16) (M.ok (l15 ++ [⟨#[35]⟩ ++ r24]))))) (M.ok l15)) (M.ok [r1, r2])) fun l6 => M.bnd (image_text l6) fun r28 => M.ok r28))
set_option maxRecDepth 100000 in
set_option maxHeartbeats 4000000 in
theorem image_line_l {at0 : Int} {w : Int} {r : ByteArray} (H : (image_line at0 w).to r) : FnT GL Tryd.prog 37 [.lit (.int .i64 at0), .lit (.int .u32 w)] (.lit (.string r)) := by
  delta image_line at H
  try dsimp only at H
  have hL := gl_lasts
  refine FnT.of_awp Tryd.func37 rfl (by kernel_rfl) rfl Tryd.ntmps37 fun C hC hG => ?_
  simp only [List.length_cons, List.length_nil, Nat.reduceAdd, Nat.reduceSub, List.replicate_succ, List.replicate_zero, List.cons_append, List.nil_append]
  refine wR (hx := by (refine sA (hq := Quiet.assign rfl getC) (ht := set4) (hk := ?_); exact wEnd rfl)) (hk := ?_)
  obtain ⟨r1, k1, H⟩ := M.to_bnd.1 H
  have k1 := image_digits_l k1
  obtain ⟨r2, k2, H⟩ := M.to_bnd.1 H
  have k2 := image_hex_l k2
  obtain ⟨c3, H⟩ := M.to_chk.1 H
  obtain ⟨c4, H⟩ := M.to_chk.1 H
  refine wR (hx := by (refine sA (hq := Quiet.move rfl get0) (ht := (setS8 set2)) (hk := ?_); refine sA (hq := Quiet.callTA rfl rfl hC hL hG k1 rfl rfl) (ht := (setS8 set3)) (hk := ?_); refine sA (hq := Quiet.move rfl get1) (ht := (setS8 set4)) (hk := ?_); refine sA (hq := Quiet.callA rfl rfl k2 rfl rfl) (ht := (setS8 set5)) (hk := ?_); (refine aSeq_t rfl (AOp.litI 0 rfl (xs := [.tmp 11, .tmp 13]) (T := Ty.str) (ds := [r1, r2]) rfl rfl rfl (RT.eq (n := 1) (bytes := 16)) (by decide) (by decide) (.cons (Fit.str (strB_le c3)) (.cons (Fit.str (strB_le c4)) .nil)) ?_); refine sNtM (ht := (setS8 set6)) (hk := ?_)); refine sA (hq := Quiet.assign rfl (getS8 get6)) (ht := set5) (hk := ?_); exact wEnd rfl)) (hk := ?_)
  obtain ⟨z7, HX7, Hl7⟩ := M.to_bnd.1 H
  refine Awp.seqJ (β := ((List ByteArray)) × (Nat)) (fun q7 => z7 = q7.1) (fun q7 => ⟨[.any, .any, .any, .any, .any, .own 0 q7.2, .any, .any, .any, .any, .any, .any, .any, .any, .any, .any, .any, .any, .any, .any, .any, .any, .any, .any, .any, .any, .any, .any, .any, .any, .any, .any, .any, .any, .any, .any, .any, .any, .any, .any, .any, .any, .any, .any, .any, .any, .any, .any, .any, .any, .any, .any], [.row q7.2 9 Ty.str q7.1]⟩) ?_ ?_
  · have H := HX7
    obtain ⟨r8, k8, H⟩ := M.to_bnd.1 H
    have k8 := inst_Decode_l k8
    refine wR (hx := by (refine sA (hq := Quiet.move rfl get1) (ht := (setS8 (setS8 set0))) (hk := ?_); refine sA (hq := Quiet.callTA rfl rfl hC hL hG k8 rfl rfl) (ht := (setS8 (setS8 set1))) (hk := ?_); refine sA (hq := Quiet.move rfl (getS8 (getS8 get1))) (ht := (setS8 set7)) (hk := ?_); refine sA (hq := Quiet.extract rfl (getS8 get7) rfl) (ht := (setS8 (setS8 set2))) (hk := ?_); refine sA (hq := Quiet.extract rfl (getS8 get7) rfl) (ht := (setS8 (setS8 set3))) (hk := ?_); (refine aSeq_t rfl (AOp.alI 1 rfl rfl ?_); refine sNtM (ht := set6) (hk := ?_)); (refine aSeq_t rfl (AOp.stBox rfl rfl rfl (Parts.aggB rfl) rfl (Nat.le_of_ble_eq_true rfl) ?_); refine sNtM (ht := setN) (hk := ?_)); refine sA (hq := Quiet.assign rfl (getS8 (getS8 get3))) (ht := set7) (hk := ?_); exact wEnd rfl)) (hk := ?_)
    refine wR (hx := by (refine sA (hq := Quiet.move rfl get7) (ht := (setS8 (setS8 set4))) (hk := ?_); exact wEnd rfl)) (hk := ?_)
    refine Awp.cond rfl (fun hb9 => ?_) (fun hb9 => ?_)
    · have H := M.to_t hb9 H
      obtain ⟨z13, HX13, Hl13⟩ := M.to_bnd.1 H
      refine Awp.seqJ (β := ((List ByteArray)) × (Nat)) (fun q13 => z13 = q13.1) (fun q13 => ⟨[.any, .any, .any, .any, .any, .own 0 q13.2, .ptr 1 0, .any, .any, .any, .any, .any, .any, .any, .any, .any, .any, .any, .any, .any, .any, .any, .any, .any, .any, .any, .any, .any, .any, .any, .any, .any, .any, .any, .any, .any, .any, .any, .any, .any, .any, .any, .any, .any, .any, .any, .any, .any, .any, .any, .any, .any], [.row q13.2 9 Ty.str q13.1, .box (encInstM r8.1)]⟩) ?_ ?_
      · refine wR (hx := by (refine sA (hq := Quiet.fa_ptr rfl get6 rfl) (ht := (setS8 (setS8 set5))) (hk := ?_); refine sA (hq := Quiet.load_ptr rfl (getS8 (getS8 get5)) rfl rfl) (ht := (setS8 (setS8 set6))) (hk := ?_); refine sA (hq := Quiet.fa_ptr rfl get6 rfl) (ht := (setS8 (setS8 set7))) (hk := ?_); refine sA (hq := Quiet.load_ptr rfl (getS8 (getS8 get7)) rfl rfl) (ht := (setS8 (setS8 (setS8 set0)))) (hk := ?_); refine sA (hq := Quiet.fa_ptr rfl get6 rfl) (ht := (setS8 (setS8 (setS8 set1)))) (hk := ?_); refine sA (hq := Quiet.load_ptr rfl (getS8 (getS8 (getS8 get1))) rfl rfl) (ht := (setS8 (setS8 (setS8 set2)))) (hk := ?_); refine sA (hq := Quiet.fa_ptr rfl get6 rfl) (ht := (setS8 (setS8 (setS8 set3)))) (hk := ?_); refine sA (hq := Quiet.load_ptr rfl (getS8 (getS8 (getS8 get3))) rfl rfl) (ht := (setS8 (setS8 (setS8 set4)))) (hk := ?_); refine sA (hq := Quiet.bldA (zs := [.int .u8 0, .int .u8 0, .int .u8 0, .int .u8 0]) (n := 4) (rs := ints .u8 [r8.1.op, r8.1.rd, r8.1.rs1, r8.1.rs2]) rfl (by kernel_rfl) (by kernel_rfl) rfl rfl) (ht := (setS8 (setS8 (setS8 set5)))) (hk := ?_); refine sA (hq := Quiet.move rfl getC) (ht := (setS8 (setS8 (setS8 set6)))) (hk := ?_); exact wEnd rfl)) (hk := ?_)
        refine Awp.block ?_
        refine Awp.loopM HX13 (fun s13 b13 => ⟨[.any, .any, .any, .any, .any, .own 0 b13, .ptr 1 0, .any, .any, .any, .any, .any, .any, .any, .any, .any, .any, .any, .any, .any, .any, .any, .any, .any, .any, .any, .any, .any, .any, .agg (ints .u8 [r8.1.op, r8.1.rd, r8.1.rs1, r8.1.rs2]), .lit (.int .i64 s13.1), .any, .any, .any, .any, .any, .any, .any, .any, .any, .any, .any, .any, .any, .any, .any, .any, .any, .any, .any, .any, .any], [.row b13 9 Ty.str s13.2, .box (encInstM r8.1)]⟩) 0 (?_) ?_
        · try dsimp only
          exact le_TA
        · rintro ⟨x10, l12⟩ v11 x13 H Hr13
          try dsimp only
          dsimp only [image_line_L9] at H
          refine wR (hx := by (refine sA (hq := Quiet.bin rfl (getS8 (getS8 (getS8 get6))) getC rfl) (ht := (setS8 (setS8 (setS8 set7)))) (hk := ?_); exact wEnd rfl)) (hk := ?_)
          refine Awp.seq fun Khs16 hs16 => ?_
          refine Awp.cond rfl (fun hb17 => ?_) (fun hb17 => ?_)
          · have H := M.to_t hb17 H
            refine Awp.skip ?_
            refine hs16 _ ?_
            refine nT (hk := ?_)
            refine Awp.seq fun Khs18 hs18 => ?_
            refine Awp.block ?_
            obtain ⟨c19, H⟩ := M.to_chk.1 H
            refine wR (hx := by (refine sA (hq := Quiet.ixAM (n := 4) rfl (by kernel_rfl) rfl (by kernel_rfl) (getS8 (getS8 (getS8 get5))) (getS8 (getS8 (getS8 get6))) c19) (ht := (setS32 set0)) (hk := ?_); refine sA (hq := Quiet.assign rfl (getS32 get0)) (ht := (setS8 set1)) (hk := ?_); exact wEnd rfl)) (hk := ?_)
            obtain ⟨r20, k20, H⟩ := M.to_bnd.1 H
            have k20 := image_digits_l k20
            obtain ⟨c21, H⟩ := M.to_chk.1 H
            obtain ⟨c22, H⟩ := M.to_chk.1 H
            refine wRE (hx := by (refine sA (hq := Quiet.move rfl get5) (ht := (setS32 set1)) (hk := ?_); refine sA (hq := Quiet.move rfl (getS8 get1)) (ht := (setS32 set2)) (hk := ?_); refine sA (hq := Quiet.cv rfl (getS32 get2) rfl) (ht := (setS32 set3)) (hk := ?_); refine sA (hq := Quiet.callTA rfl rfl hC hL hG k20 rfl rfl) (ht := (setS32 set4)) (hk := ?_); refine sA (hq := Quiet.lt (xs := [.tmp 36]) (T := Ty.str) (ds := [r20]) rfl rfl rfl (by rfl) (by decide) (.cons (Fit.str (strB_le c21)) .nil)) (ht := (setS32 set5)) (hk := ?_); (refine aSeq_t rfl (AOp.appQ rfl rfl rfl rfl rfl c22 ?_); refine sNtM (ht := (setS32 set6)) (hk := ?_)); refine sA (hq := Quiet.assign rfl (getS32 get6)) (ht := set5) (hk := ?_); exact wEnd rfl)) (hk := ?_)
            refine hs18 _ ?_
            refine nT (hk := ?_)
            refine wRE (hx := by (refine sA (hq := Quiet.bin rfl (getS8 (getS8 (getS8 get6))) getC rfl) (ht := (setS32 set7)) (hk := ?_); refine sA (hq := Quiet.move rfl (getS32 get7)) (ht := (setS8 (setS8 (setS8 set6)))) (hk := ?_); exact wEnd rfl)) (hk := ?_)
            have e13 := M.to_ok.1 H
            repeat (first | refine abN ?_ | refine asN ?_)
            refine athen_n ⟨_, v11 + 1, e13.symm, ?_⟩
            try dsimp only
            exact le_TA
          · have H := M.to_f hb17 H
            refine Awp.exit ?_
            repeat (first | refine athen_e ?_ | refine exO (by decide) ?_ | refine asE ?_)
            refine exN ?_
            have e13 := Hr13 _ (M.to_ok.1 H).symm
            repeat (first | refine abN ?_ | refine asN ?_)
            refine athen_n ⟨(_, v11), e13.symm, ?_⟩
            try dsimp only
            exact le_TA
      · rintro ⟨l15, v14⟩ hz13
        try dsimp only at hz13
        have H := Hl13
        rw [hz13] at H
        try dsimp only
        refine wR (hx := by (refine sA (hq := Quiet.fa_ptr rfl get6 rfl) (ht := (setS32 (setS8 set0))) (hk := ?_); refine sA (hq := Quiet.load_ptr rfl (getS32 (getS8 get0)) rfl rfl) (ht := (setS32 (setS8 set1))) (hk := ?_); exact wEnd rfl)) (hk := ?_)
        refine Awp.cond rfl (fun hb23 => ?_) (fun hb23 => ?_)
        · have H := M.to_t hb23 H
          obtain ⟨r24, k24, H⟩ := M.to_bnd.1 H
          have k24 := image_digits_l k24
          obtain ⟨c25, H⟩ := M.to_chk.1 H
          obtain ⟨c26, H⟩ := M.to_chk.1 H
          obtain ⟨c27, H⟩ := M.to_chk.1 H
          refine wRE (hx := by (refine sA (hq := Quiet.move rfl get5) (ht := (setS32 (setS8 set2))) (hk := ?_); refine sA (hq := Quiet.fa_ptr rfl get6 rfl) (ht := (setS32 (setS8 set3))) (hk := ?_); refine sA (hq := Quiet.load_ptr rfl (getS32 (getS8 get3)) rfl rfl) (ht := (setS32 (setS8 set4))) (hk := ?_); refine sA (hq := Quiet.cv rfl (getS32 (getS8 get4)) rfl) (ht := (setS32 (setS8 set5))) (hk := ?_); refine sA (hq := Quiet.callTA rfl rfl hC hL hG k24 rfl rfl) (ht := (setS32 (setS8 set6))) (hk := ?_); refine sA (hq := Quiet.cat rfl getC (getS32 (getS8 get6)) (catB_le c25)) (ht := (setS32 (setS8 set7))) (hk := ?_); refine sA (hq := Quiet.lt (xs := [.tmp 47]) (T := Ty.str) (ds := [⟨#[35]⟩ ++ r24]) rfl rfl rfl (by rfl) (by decide) (.cons (Fit.str (strB_le c26)) .nil)) (ht := (setS32 (setS8 (setS8 set0)))) (hk := ?_); (refine aSeq_t rfl (AOp.appQ rfl rfl rfl rfl rfl c27 ?_); refine sNtM (ht := (setS32 (setS8 (setS8 set1)))) (hk := ?_)); refine sA (hq := Quiet.assign rfl (getS32 (getS8 (getS8 get1)))) (ht := set5) (hk := ?_); exact wEnd rfl)) (hk := ?_)
          have e7 := M.to_ok.1 H
          repeat (first | refine abN ?_ | refine asN ?_)
          refine athen_n ⟨(_, v14 + 1), e7.symm, ?_⟩
          try dsimp only
          exact leC (Cut.cons (Cut.nil _))
        · have H := M.to_f hb23 H
          refine Awp.skip ?_
          have e7 := M.to_ok.1 H
          repeat (first | refine abN ?_ | refine asN ?_)
          refine athen_n ⟨(_, v14), e7.symm, ?_⟩
          try dsimp only
          exact leC (Cut.cons (Cut.nil _))
    · have H := M.to_f hb9 H
      refine Awp.skip ?_
      have e7 := M.to_ok.1 H
      repeat (first | refine abN ?_ | refine asN ?_)
      refine athen_n ⟨(_, 0), e7.symm, ?_⟩
      try dsimp only
      exact leC (Cut.cons (Cut.nil _))
  · rintro ⟨l6, v5⟩ hz7
    try dsimp only at hz7
    have H := Hl7
    rw [hz7] at H
    try dsimp only
    obtain ⟨r28, k28, H⟩ := M.to_bnd.1 H
    have k28 := image_text_l k28
    refine wR (hx := by (refine sA (hq := Quiet.move rfl get5) (ht := (setS32 (setS8 (setS8 set2)))) (hk := ?_); refine sA (hq := Quiet.lend rfl k28 (.own rfl .nil)) (ht := (setS32 (setS8 (setS8 set3)))) (hk := ?_); refine sA (hq := Quiet.assign rfl (getS32 (getS8 (getS8 get3)))) (ht := set4) (hk := ?_); exact wEnd rfl)) (hk := ?_)
    obtain rfl := M.to_ok.1 H
    exact Awp.ret ⟨.inr rfl, Fin.cl rfl⟩
def image_List_L10 (x : Img) : (Int × (List ByteArray)) → M ((Int × (List ByteArray)) ⊕ ((List ByteArray))) := fun (x5, l7) => M.cnd (decide (x5 < (x.starts.length : Int))) (M.chk (inBd x.starts x5) (M.bnd (image_digits (IntKind.i64.wrap (ixD x.starts x5))) fun r15 => M.chk (strB r15) (M.chk (rowB (l7.length + [r15].length) 16) (M.ok (.inl (IntKind.i64.wrap (x5 + 1), l7 ++ [r15])))))) (M.ok (.inr l7))
def image_List_L21 (x : Img) : (Int × (List ByteArray)) → M ((Int × (List ByteArray)) ⊕ ((List ByteArray))) := fun (x33, l35) => M.cnd (decide (x33 < (x.words.length : Int))) (M.chk (inBd x.words x33) (M.bnd (image_line (IntKind.i64.wrap (4 * x33)) (ixD x.words x33)) fun r43 => M.chk (strB r43) (M.chk (rowB (l35.length + [r43].length) 16) (M.ok (.inl (IntKind.i64.wrap (x33 + 1), l35 ++ [r43])))))) (M.ok (.inr l35))
def image_List (x : Img) : M (ByteArray × Int) := M.bnd (image_May x) fun r2 => M.cnd (!r2) (M.ok (⟨#[]⟩, 5)) (M.chk (strB ⟨#[115, 116, 97, 114, 116, 115]⟩) (M.bnd (M.loop (image_List_L10 x) (0, [⟨#[115, 116, 97, 114, 116, 115]⟩])) fun l10 => M.bnd (image_digits x.nw) fun r18 => M.bnd (image_digits x.heap) fun r19 => M.bnd (image_digits x.many) fun r20 => M.bnd (image_digits x.entry) fun r21 => M.bnd (image_digits x.stacks) fun r22 => M.chk (strB ⟨#[105, 109, 97, 103, 101]⟩) (M.chk (strB r18) (M.chk (strB r19) (M.chk (strB r20) (M.chk (strB r21) (M.chk (strB r22) (M.bnd (image_text [⟨#[105, 109, 97, 103, 101]⟩, r18, r19, r20, r21, r22]) fun r29 => M.bnd (image_text l10) fun r30 => M.chk (strB r29) (M.chk (strB r30) (M.bnd (M.loop (image_List_L21 x) (0, [r29, r30])) fun l38 => M.bnd (strings_Join l38 ⟨#[]⟩) fun r46 => M.ok (r46, 0)))))))))))
set_option maxRecDepth 100000 in
set_option maxHeartbeats 4000000 in
theorem image_List_l {x : Img} {r : ByteArray × Int} (H : (image_List x).to r) : FnT GL Tryd.prog 16 [.agg (encImg x)] (.tup [.lit (.string r.1), .lit (.int .i64 r.2)]) := by
  delta image_List at H
  try dsimp only at H
  have hL := gl_lasts
  refine FnT.of_awp2 Tryd.func16 rfl (by kernel_rfl) rfl Tryd.ntmps16 fun C hC hG => ?_
  simp only [List.length_cons, List.length_nil, Nat.reduceAdd, Nat.reduceSub, List.replicate_succ, List.replicate_zero, List.cons_append, List.nil_append]
  refine wR (hx := by ((refine aSeq_t rfl (AOp.boxI 0 rfl rfl Parts0.agg ?_); refine sNtM (ht := set1) (hk := ?_)); refine sA (hq := Quiet.assign rfl getC) (ht := set2) (hk := ?_); refine sA (hq := Quiet.assign rfl getC) (ht := set3) (hk := ?_); exact wEnd rfl)) (hk := ?_)
  refine Awp.seq fun Khs1 hs1 => ?_
  obtain ⟨r2, k2, H⟩ := M.to_bnd.1 H
  have k2 := image_May_l k2
  refine wR (hx := by (refine sA (hq := Quiet.loadA_ptr rfl get1 rfl rfl) (ht := (setS8 set2)) (hk := ?_); refine sA (hq := Quiet.callA rfl rfl k2 rfl rfl) (ht := (setS8 set3)) (hk := ?_); refine sA (hq := Quiet.bnot rfl (getS8 get3)) (ht := (setS8 set4)) (hk := ?_); exact wEnd rfl)) (hk := ?_)
  refine Awp.cond rfl (fun hb3 => ?_) (fun hb3 => ?_)
  · have H := M.to_t hb3 H
    refine wR (hx := by (refine sA (hq := Quiet.assign rfl getC) (ht := set2) (hk := ?_); refine sA (hq := Quiet.assign rfl getC) (ht := set3) (hk := ?_); exact wEnd rfl)) (hk := ?_)
    obtain rfl := M.to_ok.1 H
    exact Awp.ret ⟨.inr rfl, _, _, Fin.cl rfl, rfl, rfl⟩
  · have H := M.to_f hb3 H
    refine Awp.skip ?_
    refine hs1 _ ?_
    refine nT (hk := ?_)
    obtain ⟨c4, H⟩ := M.to_chk.1 H
    refine wR (hx := by ((refine aSeq_t rfl (AOp.litI 1 rfl (xs := [.const (.string ⟨#[115, 116, 97, 114, 116, 115]⟩)]) (T := Ty.str) (ds := [⟨#[115, 116, 97, 114, 116, 115]⟩]) rfl rfl rfl (RT.eq (n := 1) (bytes := 16)) (by decide) (by decide) (.cons (Fit.str (strB_le c4)) .nil) ?_); refine sNtM (ht := (setS8 set5)) (hk := ?_)); refine sA (hq := Quiet.assign rfl (getS8 get5)) (ht := set4) (hk := ?_); exact wEnd rfl)) (hk := ?_)
    obtain ⟨z8, HX8, Hl8⟩ := M.to_bnd.1 H
    refine Awp.seqJ (β := ((List ByteArray)) × (Nat)) (fun q8 => z8 = q8.1) (fun q8 => ⟨.any :: .ptr 0 0 :: .any :: .any :: .own 1 q8.2 :: .any :: .any :: .any :: .any :: .any :: .any :: .any :: .any :: .any :: .any :: .any :: .any :: .any :: .any :: .any :: .any :: .any :: .any :: .any :: .any :: .any :: .any :: .any :: .any :: .any :: .any :: .any :: .any :: .any :: .any :: .any :: .any :: .any :: .any :: .any :: .any :: .any :: .any :: .any :: .any :: .any :: .any :: .any :: .any :: .any :: .any :: .any :: .any :: .any :: .any :: .any :: .any :: .any :: .any :: .any :: .any :: .any :: .any :: .any :: .any :: .any :: [], [.box (encImg x), .row q8.2 9 Ty.str q8.1]⟩) ?_ ?_
    · refine wR (hx := by (refine sA (hq := Quiet.fa_ptr rfl get1 rfl) (ht := (setS8 set6)) (hk := ?_); refine sA (hq := Quiet.load_ptr rfl (getS8 get6) rfl rfl) (ht := (setS8 set7)) (hk := ?_); refine sA (hq := Quiet.ln rfl (getS8 get7)) (ht := (setS8 (setS8 set0))) (hk := ?_); refine sA (hq := Quiet.move rfl getC) (ht := (setS8 (setS8 set1))) (hk := ?_); exact wEnd rfl)) (hk := ?_)
      refine Awp.block ?_
      refine Awp.loopM HX8 (fun s8 b8 => ⟨.any :: .ptr 0 0 :: .any :: .any :: .own 1 b8 :: .any :: .any :: .any :: .any :: .any :: .any :: .any :: .any :: .any :: .any :: .bs (Ty.int .u32) x.starts :: .lit (.int .i64 (x.starts.length : Int)) :: .lit (.int .i64 s8.1) :: .any :: .any :: .any :: .any :: .any :: .any :: .any :: .any :: .any :: .any :: .any :: .any :: .any :: .any :: .any :: .any :: .any :: .any :: .any :: .any :: .any :: .any :: .any :: .any :: .any :: .any :: .any :: .any :: .any :: .any :: .any :: .any :: .any :: .any :: .any :: .any :: .any :: .any :: .any :: .any :: .any :: .any :: .any :: .any :: .any :: .any :: .any :: .any :: [], [.box (encImg x), .row b8 9 Ty.str s8.2]⟩) 0 (?_) ?_
      · try dsimp only
        exact le_TA
      · rintro ⟨x5, l7⟩ v6 x8 H Hr8
        try dsimp only
        dsimp only [image_List_L10] at H
        refine wR (hx := by (refine sA (hq := Quiet.bin rfl (getS8 (getS8 get1)) (getS8 (getS8 get0)) rfl) (ht := (setS8 (setS8 set2))) (hk := ?_); exact wEnd rfl)) (hk := ?_)
        refine Awp.seq fun Khs11 hs11 => ?_
        refine Awp.cond rfl (fun hb12 => ?_) (fun hb12 => ?_)
        · have H := M.to_t hb12 H
          refine Awp.skip ?_
          refine hs11 _ ?_
          refine nT (hk := ?_)
          refine Awp.seq fun Khs13 hs13 => ?_
          refine Awp.block ?_
          obtain ⟨c14, H⟩ := M.to_chk.1 H
          refine wR (hx := by (refine sA (hq := Quiet.ixM rfl (getS8 get7) (getS8 (getS8 get1)) rfl c14) (ht := (setS8 (setS8 set3))) (hk := ?_); refine sA (hq := Quiet.load_bp rfl (getS8 (getS8 get3)) rfl) (ht := (setS8 (setS8 set4))) (hk := ?_); refine sA (hq := Quiet.assign rfl (getS8 (getS8 get4))) (ht := set6) (hk := ?_); exact wEnd rfl)) (hk := ?_)
          obtain ⟨r15, k15, H⟩ := M.to_bnd.1 H
          have k15 := image_digits_l k15
          obtain ⟨c16, H⟩ := M.to_chk.1 H
          obtain ⟨c17, H⟩ := M.to_chk.1 H
          refine wRE (hx := by (refine sA (hq := Quiet.move rfl get4) (ht := (setS8 (setS8 set5))) (hk := ?_); refine sA (hq := Quiet.move rfl get6) (ht := (setS8 (setS8 set6))) (hk := ?_); refine sA (hq := Quiet.cv rfl (getS8 (getS8 get6)) rfl) (ht := (setS8 (setS8 set7))) (hk := ?_); refine sA (hq := Quiet.callTA rfl rfl hC hL hG k15 rfl rfl) (ht := (setS8 (setS8 (setS8 set0)))) (hk := ?_); refine sA (hq := Quiet.lt (xs := [.tmp 24]) (T := Ty.str) (ds := [r15]) rfl rfl rfl (by rfl) (by decide) (.cons (Fit.str (strB_le c16)) .nil)) (ht := (setS8 (setS8 (setS8 set1)))) (hk := ?_); (refine aSeq_t rfl (AOp.appQ rfl rfl rfl rfl rfl c17 ?_); refine sNtM (ht := (setS8 (setS8 (setS8 set2)))) (hk := ?_)); refine sA (hq := Quiet.assign rfl (getS8 (getS8 (getS8 get2)))) (ht := set4) (hk := ?_); exact wEnd rfl)) (hk := ?_)
          refine hs13 _ ?_
          refine nT (hk := ?_)
          refine wRE (hx := by (refine sA (hq := Quiet.bin rfl (getS8 (getS8 get1)) getC rfl) (ht := (setS8 (setS8 (setS8 set3)))) (hk := ?_); refine sA (hq := Quiet.move rfl (getS8 (getS8 (getS8 get3)))) (ht := (setS8 (setS8 set1))) (hk := ?_); exact wEnd rfl)) (hk := ?_)
          have e8 := M.to_ok.1 H
          repeat (first | refine abN ?_ | refine asN ?_)
          refine athen_n ⟨_, v6 + 1, e8.symm, ?_⟩
          try dsimp only
          exact le_TA
        · have H := M.to_f hb12 H
          refine Awp.exit ?_
          repeat (first | refine athen_e ?_ | refine exO (by decide) ?_ | refine asE ?_)
          refine exN ?_
          have e8 := Hr8 _ (M.to_ok.1 H).symm
          repeat (first | refine abN ?_ | refine asN ?_)
          refine athen_n ⟨(_, v6), e8.symm, ?_⟩
          try dsimp only
          exact le_TA
    · rintro ⟨l10, v9⟩ hz8
      try dsimp only at hz8
      have H := Hl8
      rw [hz8] at H
      try dsimp only
      obtain ⟨r18, k18, H⟩ := M.to_bnd.1 H
      have k18 := image_digits_l k18
      obtain ⟨r19, k19, H⟩ := M.to_bnd.1 H
      have k19 := image_digits_l k19
      obtain ⟨r20, k20, H⟩ := M.to_bnd.1 H
      have k20 := image_digits_l k20
      obtain ⟨r21, k21, H⟩ := M.to_bnd.1 H
      have k21 := image_digits_l k21
      obtain ⟨r22, k22, H⟩ := M.to_bnd.1 H
      have k22 := image_digits_l k22
      obtain ⟨c23, H⟩ := M.to_chk.1 H
      obtain ⟨c24, H⟩ := M.to_chk.1 H
      obtain ⟨c25, H⟩ := M.to_chk.1 H
      obtain ⟨c26, H⟩ := M.to_chk.1 H
      obtain ⟨c27, H⟩ := M.to_chk.1 H
      obtain ⟨c28, H⟩ := M.to_chk.1 H
      obtain ⟨r29, k29, H⟩ := M.to_bnd.1 H
      have k29 := image_text_l k29
      obtain ⟨r30, k30, H⟩ := M.to_bnd.1 H
      have k30 := image_text_l k30
      obtain ⟨c31, H⟩ := M.to_chk.1 H
      obtain ⟨c32, H⟩ := M.to_chk.1 H
      refine wD 19 (hq := by (refine qA (hq := Quiet.fa_ptr rfl get1 rfl) (ht := (setS8 (setS8 (setS8 set4)))) (hk := ?_); refine qA (hq := Quiet.load_ptr rfl (getS8 (getS8 (getS8 get4))) rfl rfl) (ht := (setS8 (setS8 (setS8 set5)))) (hk := ?_); refine qA (hq := Quiet.callTA rfl rfl hC hL hG k18 rfl rfl) (ht := (setS8 (setS8 (setS8 set6)))) (hk := ?_); refine qA (hq := Quiet.fa_ptr rfl get1 rfl) (ht := (setS8 (setS8 (setS8 set7)))) (hk := ?_); refine qA (hq := Quiet.load_ptr rfl (getS8 (getS8 (getS8 get7))) rfl rfl) (ht := (setS32 set0)) (hk := ?_); refine qA (hq := Quiet.callTA rfl rfl hC hL hG k19 rfl rfl) (ht := (setS32 set1)) (hk := ?_); refine qA (hq := Quiet.fa_ptr rfl get1 rfl) (ht := (setS32 set2)) (hk := ?_); refine qA (hq := Quiet.load_ptr rfl (getS32 get2) rfl rfl) (ht := (setS32 set3)) (hk := ?_); refine qA (hq := Quiet.callTA rfl rfl hC hL hG k20 rfl rfl) (ht := (setS32 set4)) (hk := ?_); refine qA (hq := Quiet.fa_ptr rfl get1 rfl) (ht := (setS32 set5)) (hk := ?_); refine qA (hq := Quiet.load_ptr rfl (getS32 get5) rfl rfl) (ht := (setS32 set6)) (hk := ?_); refine qA (hq := Quiet.callTA rfl rfl hC hL hG k21 rfl rfl) (ht := (setS32 set7)) (hk := ?_); refine qA (hq := Quiet.fa_ptr rfl get1 rfl) (ht := (setS32 (setS8 set0))) (hk := ?_); refine qA (hq := Quiet.load_ptr rfl (getS32 (getS8 get0)) rfl rfl) (ht := (setS32 (setS8 set1))) (hk := ?_); refine qA (hq := Quiet.callTA rfl rfl hC hL hG k22 rfl rfl) (ht := (setS32 (setS8 set2))) (hk := ?_); refine qA (hq := Quiet.lt (xs := [.const (.string ⟨#[105, 109, 97, 103, 101]⟩), .tmp 30, .tmp 33, .tmp 36, .tmp 39, .tmp 42]) (T := Ty.str) (ds := [⟨#[105, 109, 97, 103, 101]⟩, r18, r19, r20, r21, r22]) rfl rfl rfl (by rfl) (by decide) (.cons (Fit.str (strB_le c23)) (.cons (Fit.str (strB_le c24)) (.cons (Fit.str (strB_le c25)) (.cons (Fit.str (strB_le c26)) (.cons (Fit.str (strB_le c27)) (.cons (Fit.str (strB_le c28)) .nil))))))) (ht := (setS32 (setS8 set3))) (hk := ?_); refine qA (hq := Quiet.callA rfl rfl k29 rfl rfl) (ht := (setS32 (setS8 set4))) (hk := ?_); refine qA (hq := Quiet.move rfl get4) (ht := (setS32 (setS8 set5))) (hk := ?_); refine qA (hq := Quiet.lend rfl k30 (.own rfl .nil)) (ht := (setS32 (setS8 set6))) (hk := ?_); exact qEnd rfl)) (hx := by ((refine aSeq_t rfl (AOp.litI 2 rfl (xs := [.tmp 44, .tmp 46]) (T := Ty.str) (ds := [r29, r30]) rfl rfl rfl (RT.eq (n := 1) (bytes := 16)) (by decide) (by decide) (.cons (Fit.str (strB_le c31)) (.cons (Fit.str (strB_le c32)) .nil)) ?_); refine sNtM (ht := (setS32 (setS8 set7))) (hk := ?_)); refine sA (hq := Quiet.assign rfl (getS32 (getS8 get7))) (ht := set7) (hk := ?_); exact wEnd rfl)) (hk := ?_)
      obtain ⟨z36, HX36, Hl36⟩ := M.to_bnd.1 H
      refine Awp.seqJ (β := ((List ByteArray)) × (Nat)) (fun q36 => z36 = q36.1) (fun q36 => ⟨.any :: .any :: .any :: .any :: .any :: .any :: .any :: .own 2 q36.2 :: .any :: .any :: .any :: .any :: .any :: .any :: .any :: .any :: .any :: .any :: .any :: .any :: .any :: .any :: .any :: .any :: .any :: .any :: .any :: .any :: .any :: .any :: .any :: .any :: .any :: .any :: .any :: .any :: .any :: .any :: .any :: .any :: .any :: .any :: .any :: .any :: .any :: .any :: .any :: .any :: .any :: .any :: .any :: .any :: .any :: .any :: .any :: .any :: .any :: .any :: .any :: .any :: .any :: .any :: .any :: .any :: .any :: .any :: [], [.dead, .dead, .row q36.2 9 Ty.str q36.1]⟩) ?_ ?_
      · refine wR (hx := by (refine sA (hq := Quiet.fa_ptr rfl get1 rfl) (ht := (setS32 (setS8 (setS8 set0)))) (hk := ?_); refine sA (hq := Quiet.load_ptr rfl (getS32 (getS8 (getS8 get0))) rfl rfl) (ht := (setS32 (setS8 (setS8 set1)))) (hk := ?_); refine sA (hq := Quiet.ln rfl (getS32 (getS8 (getS8 get1)))) (ht := (setS32 (setS8 (setS8 set2)))) (hk := ?_); refine sA (hq := Quiet.move rfl getC) (ht := (setS32 (setS8 (setS8 set3)))) (hk := ?_); exact wEnd rfl)) (hk := ?_)
        refine Awp.block ?_
        refine Awp.loopM HX36 (fun s36 b36 => ⟨.any :: .any :: .any :: .any :: .any :: .any :: .any :: .own 2 b36 :: .any :: .any :: .any :: .any :: .any :: .any :: .any :: .any :: .any :: .any :: .any :: .any :: .any :: .any :: .any :: .any :: .any :: .any :: .any :: .any :: .any :: .any :: .any :: .any :: .any :: .any :: .any :: .any :: .any :: .any :: .any :: .any :: .any :: .any :: .any :: .any :: .any :: .any :: .any :: .any :: .any :: .bs (Ty.int .u32) x.words :: .lit (.int .i64 (x.words.length : Int)) :: .lit (.int .i64 s36.1) :: .any :: .any :: .any :: .any :: .any :: .any :: .any :: .any :: .any :: .any :: .any :: .any :: .any :: .any :: [], [.dead, .dead, .row b36 9 Ty.str s36.2]⟩) 0 (?_) ?_
        · try dsimp only
          exact leC (Cut.dead (Cut.dead (Cut.cons (Cut.nil _))))
        · rintro ⟨x33, l35⟩ v34 x36 H Hr36
          try dsimp only
          dsimp only [image_List_L21] at H
          refine wR (hx := by (refine sA (hq := Quiet.bin rfl (getS32 (getS8 (getS8 get3))) (getS32 (getS8 (getS8 get2))) rfl) (ht := (setS32 (setS8 (setS8 set4)))) (hk := ?_); exact wEnd rfl)) (hk := ?_)
          refine Awp.seq fun Khs39 hs39 => ?_
          refine Awp.cond rfl (fun hb40 => ?_) (fun hb40 => ?_)
          · have H := M.to_t hb40 H
            refine Awp.skip ?_
            refine hs39 _ ?_
            refine nT (hk := ?_)
            refine Awp.seq fun Khs41 hs41 => ?_
            refine Awp.block ?_
            obtain ⟨c42, H⟩ := M.to_chk.1 H
            refine wR (hx := by (refine sA (hq := Quiet.move rfl (getS32 (getS8 (getS8 get3)))) (ht := (setS32 (setS8 (setS8 set5)))) (hk := ?_); refine sA (hq := Quiet.ixM rfl (getS32 (getS8 (getS8 get1))) (getS32 (getS8 (getS8 get3))) rfl c42) (ht := (setS32 (setS8 (setS8 set6)))) (hk := ?_); refine sA (hq := Quiet.load_bp rfl (getS32 (getS8 (getS8 get6))) rfl) (ht := (setS32 (setS8 (setS8 set7)))) (hk := ?_); refine sA (hq := Quiet.assign rfl (getS32 (getS8 (getS8 get5)))) (ht := (setS8 set0)) (hk := ?_); refine sA (hq := Quiet.assign rfl (getS32 (getS8 (getS8 get7)))) (ht := (setS8 set1)) (hk := ?_); exact wEnd rfl)) (hk := ?_)
            obtain ⟨r43, k43, H⟩ := M.to_bnd.1 H
            have k43 := image_line_l k43
            obtain ⟨c44, H⟩ := M.to_chk.1 H
            obtain ⟨c45, H⟩ := M.to_chk.1 H
            refine wRE (hx := by (refine sA (hq := Quiet.move rfl get7) (ht := (setS32 (setS8 (setS8 (setS8 set0))))) (hk := ?_); refine sA (hq := Quiet.move rfl (getS8 get0)) (ht := (setS32 (setS8 (setS8 (setS8 set1))))) (hk := ?_); refine sA (hq := Quiet.bin rfl getC (getS32 (getS8 (getS8 (getS8 get1)))) rfl) (ht := (setS32 (setS8 (setS8 (setS8 set2))))) (hk := ?_); refine sA (hq := Quiet.move rfl (getS8 get1)) (ht := (setS32 (setS8 (setS8 (setS8 set3))))) (hk := ?_); refine sA (hq := Quiet.callTA rfl rfl hC hL hG k43 rfl rfl) (ht := (setS32 (setS8 (setS8 (setS8 set4))))) (hk := ?_); refine sA (hq := Quiet.lt (xs := [.tmp 60]) (T := Ty.str) (ds := [r43]) rfl rfl rfl (by rfl) (by decide) (.cons (Fit.str (strB_le c44)) .nil)) (ht := (setS32 (setS8 (setS8 (setS8 set5))))) (hk := ?_); (refine aSeq_t rfl (AOp.appQ rfl rfl rfl rfl rfl c45 ?_); refine sNtM (ht := (setS32 (setS8 (setS8 (setS8 set6))))) (hk := ?_)); refine sA (hq := Quiet.assign rfl (getS32 (getS8 (getS8 (getS8 get6))))) (ht := set7) (hk := ?_); exact wEnd rfl)) (hk := ?_)
            refine hs41 _ ?_
            refine nT (hk := ?_)
            refine wRE (hx := by (refine sA (hq := Quiet.bin rfl (getS32 (getS8 (getS8 get3))) getC rfl) (ht := (setS32 (setS8 (setS8 (setS8 set7))))) (hk := ?_); refine sA (hq := Quiet.move rfl (getS32 (getS8 (getS8 (getS8 get7))))) (ht := (setS32 (setS8 (setS8 set3)))) (hk := ?_); exact wEnd rfl)) (hk := ?_)
            have e36 := M.to_ok.1 H
            repeat (first | refine abN ?_ | refine asN ?_)
            refine athen_n ⟨_, v34 + 1, e36.symm, ?_⟩
            try dsimp only
            exact le_TA
          · have H := M.to_f hb40 H
            refine Awp.exit ?_
            repeat (first | refine athen_e ?_ | refine exO (by decide) ?_ | refine asE ?_)
            refine exN ?_
            have e36 := Hr36 _ (M.to_ok.1 H).symm
            repeat (first | refine abN ?_ | refine asN ?_)
            refine athen_n ⟨(_, v34), e36.symm, ?_⟩
            try dsimp only
            exact le_TA
      · rintro ⟨l38, v37⟩ hz36
        try dsimp only at hz36
        have H := Hl36
        rw [hz36] at H
        try dsimp only
        obtain ⟨r46, k46, H⟩ := M.to_bnd.1 H
        have k46 := strings_Join_l k46
        refine wR (hx := by (refine sA (hq := Quiet.move rfl get7) (ht := (setS32 (setS32 set0))) (hk := ?_); refine sA (hq := Quiet.lend rfl k46 (.own rfl (.cl rfl .nil))) (ht := (setS32 (setS32 set1))) (hk := ?_); refine sA (hq := Quiet.assign rfl (getS32 (getS32 get1))) (ht := set2) (hk := ?_); refine sA (hq := Quiet.assign rfl getC) (ht := set3) (hk := ?_); exact wEnd rfl)) (hk := ?_)
        obtain rfl := M.to_ok.1 H
        exact Awp.ret ⟨.inr rfl, _, _, Fin.cl rfl, rfl, rfl⟩
def law31_head : M Bool := M.bnd (image_Put ⟨2, [], 0, 0, 0, [], 0⟩) fun r1 => M.bnd (image_List ⟨2, [], 0, 0, 0, [], 0⟩) fun r2 => M.bnd (image_List ⟨8, [0, 86573055], 0, 0, 0, [4], 8⟩) fun r3 => M.bnd (image_Get ⟨#[77, 78, 84, 78]⟩) fun r5 => M.bnd (image_Read ⟨#[]⟩) fun r6 => M.chk (makB 24 1) (M.chk (catB ⟨#[77, 78, 84, 78, 0, 0, 0, 2]⟩ (bytesOf (List.replicate (Int.toNat 24) 0))) (M.chk (catB (⟨#[77, 78, 84, 78, 0, 0, 0, 2]⟩ ++ (bytesOf (List.replicate (Int.toNat 24) 0))) ⟨#[0, 0, 25, 161]⟩) (M.bnd (M.whn ((((((r1.1 == ((⟨#[77, 78, 84, 78, 0, 0, 0, 2]⟩ ++ (bytesOf (List.replicate (Int.toNat 24) 0))) ++ ⟨#[0, 0, 25, 161]⟩)) && (r1.2 == 0)) && (r2.1 == ⟨#[105, 109, 97, 103, 101, 32, 50, 32, 48, 32, 48, 32, 48, 32, 48, 10, 115, 116, 97, 114, 116, 115, 10]⟩)) && (r2.2 == 0)) && (r3.1 == ⟨#[105, 109, 97, 103, 101, 32, 56, 32, 48, 32, 48, 32, 48, 32, 56, 10, 115, 116, 97, 114, 116, 115, 32, 52, 10, 48, 32, 48, 48, 48, 48, 48, 48, 48, 48, 10, 52, 32, 48, 53, 50, 56, 102, 102, 102, 102, 32, 49, 32, 57, 32, 56, 32, 48, 32, 35, 45, 49, 10]⟩)) && (r3.2 == 0)) false (image_May ⟨1, [], 0, 0, 0, [], 0⟩)) fun r10 => M.bnd (M.whn (((((((r1.1 == ((⟨#[77, 78, 84, 78, 0, 0, 0, 2]⟩ ++ (bytesOf (List.replicate (Int.toNat 24) 0))) ++ ⟨#[0, 0, 25, 161]⟩)) && (r1.2 == 0)) && (r2.1 == ⟨#[105, 109, 97, 103, 101, 32, 50, 32, 48, 32, 48, 32, 48, 32, 48, 10, 115, 116, 97, 114, 116, 115, 10]⟩)) && (r2.2 == 0)) && (r3.1 == ⟨#[105, 109, 97, 103, 101, 32, 56, 32, 48, 32, 48, 32, 48, 32, 56, 10, 115, 116, 97, 114, 116, 115, 32, 52, 10, 48, 32, 48, 48, 48, 48, 48, 48, 48, 48, 10, 52, 32, 48, 53, 50, 56, 102, 102, 102, 102, 32, 49, 32, 57, 32, 56, 32, 48, 32, 35, 45, 49, 10]⟩)) && (r3.2 == 0)) && (!r10)) false (image_May ⟨8, [0, 86573055], 0, 0, 0, [4], 4⟩)) fun r11 => M.bnd (M.whn ((((((((r1.1 == ((⟨#[77, 78, 84, 78, 0, 0, 0, 2]⟩ ++ (bytesOf (List.replicate (Int.toNat 24) 0))) ++ ⟨#[0, 0, 25, 161]⟩)) && (r1.2 == 0)) && (r2.1 == ⟨#[105, 109, 97, 103, 101, 32, 50, 32, 48, 32, 48, 32, 48, 32, 48, 10, 115, 116, 97, 114, 116, 115, 10]⟩)) && (r2.2 == 0)) && (r3.1 == ⟨#[105, 109, 97, 103, 101, 32, 56, 32, 48, 32, 48, 32, 48, 32, 56, 10, 115, 116, 97, 114, 116, 115, 32, 52, 10, 48, 32, 48, 48, 48, 48, 48, 48, 48, 48, 10, 52, 32, 48, 53, 50, 56, 102, 102, 102, 102, 32, 49, 32, 57, 32, 56, 32, 48, 32, 35, 45, 49, 10]⟩)) && (r3.2 == 0)) && (!r10)) && (!r11)) false (image_May ⟨8, [0, 86573055], 0, 0, 0, [8], 8⟩)) fun r12 => M.ok (((((((((((r1.1 == ((⟨#[77, 78, 84, 78, 0, 0, 0, 2]⟩ ++ (bytesOf (List.replicate (Int.toNat 24) 0))) ++ ⟨#[0, 0, 25, 161]⟩)) && (r1.2 == 0)) && (r2.1 == ⟨#[105, 109, 97, 103, 101, 32, 50, 32, 48, 32, 48, 32, 48, 32, 48, 10, 115, 116, 97, 114, 116, 115, 10]⟩)) && (r2.2 == 0)) && (r3.1 == ⟨#[105, 109, 97, 103, 101, 32, 56, 32, 48, 32, 48, 32, 48, 32, 56, 10, 115, 116, 97, 114, 116, 115, 32, 52, 10, 48, 32, 48, 48, 48, 48, 48, 48, 48, 48, 10, 52, 32, 48, 53, 50, 56, 102, 102, 102, 102, 32, 49, 32, 57, 32, 56, 32, 48, 32, 35, 45, 49, 10]⟩)) && (r3.2 == 0)) && (!r10)) && (!r11)) && (!r12)) && (r5.2 == 5)) && (r6.2 == 5)))))
set_option maxRecDepth 100000 in
set_option maxHeartbeats 4000000 in
theorem law31_head_l {r : Bool} (H : (law31_head).to r) : FnT GL Tryd.prog 7 [] (.lit (.bool r)) := by
  delta law31_head at H
  try dsimp only at H
  have hL := gl_lasts
  refine FnT.of_awp Tryd.func7 rfl (by kernel_rfl) rfl Tryd.ntmps7 fun C hC hG => ?_
  simp only [List.length_nil, Nat.reduceSub, List.replicate_succ, List.replicate_zero, List.nil_append]
  refine wR (hx := by (refine sA (hq := Quiet.assign rfl getC) (ht := set0) (hk := ?_); exact wEnd rfl)) (hk := ?_)
  refine wR (hx := by (refine sA (hq := Quiet.bldP (rs := [.lit (.int .i64 2), .lit (.slice none 0 0), .lit (.int .i64 0), .lit (.int .i64 0), .lit (.int .i64 0), .lit (.slice none 0 0), .lit (.int .i64 0)]) rfl plImg rfl rfl) (ht := (setS8 (setS8 set0))) (hk := ?_); (refine aSeq_t rfl (AOp.alI 0 rfl rfl ?_); refine sNtM (ht := set1) (hk := ?_)); (refine aSeq_t rfl (AOp.stBox rfl rfl rfl (Parts.aggB rfl) rfl (Nat.le_of_ble_eq_true rfl) ?_); refine sNtM (ht := setN) (hk := ?_)); exact wEnd rfl)) (hk := ?_)
  refine wR (hx := by (refine sA (hq := Quiet.lt (xs := [.const (.int .u32 0), .const (.int .u32 86573055)]) (T := (Ty.int .u32)) (ds := [0, 86573055]) rfl rfl rfl (by rfl) (by decide) (.cons (Fit.int (wfB_wf (by decide))) (.cons (Fit.int (wfB_wf (by decide))) .nil))) (ht := (setS8 (setS8 set1))) (hk := ?_); refine sA (hq := Quiet.lt (xs := [.const (.int .u32 4)]) (T := (Ty.int .u32)) (ds := [4]) rfl rfl rfl (by rfl) (by decide) (.cons (Fit.int (wfB_wf (by decide))) .nil)) (ht := (setS8 (setS8 set2))) (hk := ?_); refine sA (hq := Quiet.bldP (rs := [.lit (.int .i64 8), .bs (Ty.int .u32) [0, 86573055], .lit (.int .i64 0), .lit (.int .i64 0), .lit (.int .i64 0), .bs (Ty.int .u32) [4], .lit (.int .i64 8)]) rfl plImg rfl rfl) (ht := (setS8 (setS8 set3))) (hk := ?_); (refine aSeq_t rfl (AOp.alI 1 rfl rfl ?_); refine sNtM (ht := set2) (hk := ?_)); (refine aSeq_t rfl (AOp.stBox rfl rfl rfl (Parts.aggB rfl) rfl (Nat.le_of_ble_eq_true rfl) ?_); refine sNtM (ht := setN) (hk := ?_)); exact wEnd rfl)) (hk := ?_)
  obtain ⟨r1, k1, H⟩ := M.to_bnd.1 H
  have k1 := image_Put_l k1
  refine wR (hx := by (refine sA (hq := Quiet.loadA_ptr rfl get1 rfl rfl) (ht := (setS8 (setS8 set5))) (hk := ?_); refine sA (hq := Quiet.callU rfl rfl (.cons (Up.ag (.cons (.refl _) (.cons (.nil _) (.cons (.refl _) (.cons (.refl _) (.cons (.refl _) (.cons (.nil _) (.cons (.refl _) .nil)))))))) .nil) k1 rfl rfl) (ht := (setS8 (setS8 set6))) (hk := ?_); refine sA (hq := Quiet.move rfl (getS8 (getS8 get6))) (ht := (setS8 (setS8 set4))) (hk := ?_); refine sA (hq := Quiet.extract rfl (getS8 (getS8 get4)) rfl) (ht := (setS8 (setS8 set7))) (hk := ?_); refine sA (hq := Quiet.extract rfl (getS8 (getS8 get4)) rfl) (ht := (setS8 (setS8 (setS8 set0)))) (hk := ?_); refine sA (hq := Quiet.assign rfl (getS8 (getS8 get7))) (ht := set3) (hk := ?_); refine sA (hq := Quiet.assign rfl (getS8 (getS8 (getS8 get0)))) (ht := set4) (hk := ?_); exact wEnd rfl)) (hk := ?_)
  obtain ⟨r2, k2, H⟩ := M.to_bnd.1 H
  have k2 := image_List_l k2
  refine wR (hx := by (refine sA (hq := Quiet.loadA_ptr rfl get1 rfl rfl) (ht := (setS8 (setS8 (setS8 set2)))) (hk := ?_); refine sA (hq := Quiet.callUT rfl rfl (.cons (Up.ag (.cons (.refl _) (.cons (.nil _) (.cons (.refl _) (.cons (.refl _) (.cons (.refl _) (.cons (.nil _) (.cons (.refl _) .nil)))))))) .nil) hC hL hG k2 rfl rfl) (ht := (setS8 (setS8 (setS8 set3)))) (hk := ?_); refine sA (hq := Quiet.move rfl (getS8 (getS8 (getS8 get3)))) (ht := (setS8 (setS8 (setS8 set1)))) (hk := ?_); refine sA (hq := Quiet.extract rfl (getS8 (getS8 (getS8 get1))) rfl) (ht := (setS8 (setS8 (setS8 set4)))) (hk := ?_); refine sA (hq := Quiet.extract rfl (getS8 (getS8 (getS8 get1))) rfl) (ht := (setS8 (setS8 (setS8 set5)))) (hk := ?_); refine sA (hq := Quiet.assign rfl (getS8 (getS8 (getS8 get4)))) (ht := set5) (hk := ?_); refine sA (hq := Quiet.assign rfl (getS8 (getS8 (getS8 get5)))) (ht := set6) (hk := ?_); exact wEnd rfl)) (hk := ?_)
  obtain ⟨r3, k3, H⟩ := M.to_bnd.1 H
  have k3 := image_List_l k3
  refine wR (hx := by (refine sA (hq := Quiet.loadA_ptr rfl get2 rfl rfl) (ht := (setS8 (setS8 (setS8 set7)))) (hk := ?_); refine sA (hq := Quiet.callTA rfl rfl hC hL hG k3 rfl rfl) (ht := (setS32 set0)) (hk := ?_); refine sA (hq := Quiet.move rfl (getS32 get0)) (ht := (setS8 (setS8 (setS8 set6)))) (hk := ?_); refine sA (hq := Quiet.extract rfl (getS8 (getS8 (getS8 get6))) rfl) (ht := (setS32 set1)) (hk := ?_); refine sA (hq := Quiet.extract rfl (getS8 (getS8 (getS8 get6))) rfl) (ht := (setS32 set2)) (hk := ?_); refine sA (hq := Quiet.assign rfl (getS32 get1)) (ht := set7) (hk := ?_); refine sA (hq := Quiet.assign rfl (getS32 get2)) (ht := (setS8 set0)) (hk := ?_); exact wEnd rfl)) (hk := ?_)
  refine Awp.via ⟨.lit (.bool false) :: .ptr 0 0 :: .ptr 1 0 :: .lit (.string r1.1) :: .lit (.int .i64 r1.2) :: .lit (.string r2.1) :: .lit (.int .i64 r2.2) :: .lit (.string r3.1) :: .lit (.int .i64 r3.2) :: .any :: .any :: .any :: .any :: .any :: .any :: .any :: .agg [.lit (.int .i64 2), .lit (.slice none 0 0), .lit (.int .i64 0), .lit (.int .i64 0), .lit (.int .i64 0), .lit (.slice none 0 0), .lit (.int .i64 0)] :: .bs (Ty.int .u32) [0, 86573055] :: .bs (Ty.int .u32) [4] :: .agg [.lit (.int .i64 8), .bs (Ty.int .u32) [0, 86573055], .lit (.int .i64 0), .lit (.int .i64 0), .lit (.int .i64 0), .bs (Ty.int .u32) [4], .lit (.int .i64 8)] :: .tup [.lit (.string r1.1), .lit (.int .i64 r1.2)] :: .agg [.lit (.int .i64 2), .lit (.slice none 0 0), .lit (.int .i64 0), .lit (.int .i64 0), .lit (.int .i64 0), .lit (.slice none 0 0), .lit (.int .i64 0)] :: .tup [.lit (.string r1.1), .lit (.int .i64 r1.2)] :: .lit (.string r1.1) :: .lit (.int .i64 r1.2) :: .tup [.lit (.string r2.1), .lit (.int .i64 r2.2)] :: .agg [.lit (.int .i64 2), .lit (.slice none 0 0), .lit (.int .i64 0), .lit (.int .i64 0), .lit (.int .i64 0), .lit (.slice none 0 0), .lit (.int .i64 0)] :: .tup [.lit (.string r2.1), .lit (.int .i64 r2.2)] :: .lit (.string r2.1) :: .lit (.int .i64 r2.2) :: .tup [.lit (.string r3.1), .lit (.int .i64 r3.2)] :: .agg [.lit (.int .i64 8), .bs (Ty.int .u32) [0, 86573055], .lit (.int .i64 0), .lit (.int .i64 0), .lit (.int .i64 0), .bs (Ty.int .u32) [4], .lit (.int .i64 8)] :: .tup [.lit (.string r3.1), .lit (.int .i64 r3.2)] :: .lit (.string r3.1) :: .lit (.int .i64 r3.2) :: .any :: .any :: .any :: .any :: .any :: .any :: .any :: .any :: .any :: .any :: .any :: .any :: .any :: .any :: .any :: .any :: .any :: .any :: .any :: .any :: .any :: .any :: .any :: .any :: .any :: .any :: .any :: .any :: .any :: .any :: .any :: .any :: .any :: .any :: .any :: .any :: .any :: .any :: .any :: .any :: .any :: .any :: .any :: .any :: .any :: .any :: .any :: .any :: .any :: .any :: .any :: .any :: .any :: .any :: .any :: .any :: .any :: .any :: .any :: .any :: .any :: .any :: .any :: .any :: [], [.box [.lit (.int .i64 2), .lit (.slice none 0 0), .lit (.int .i64 0), .lit (.int .i64 0), .lit (.int .i64 0), .lit (.slice none 0 0), .lit (.int .i64 0)], .box [.lit (.int .i64 8), .bs (Ty.int .u32) [0, 86573055], .lit (.int .i64 0), .lit (.int .i64 0), .lit (.int .i64 0), .bs (Ty.int .u32) [4], .lit (.int .i64 8)], .dead, .dead, .dead]⟩ (St.le.trans le_TA (St.le_deads 3 rfl)) ?_
  refine Awp.seq fun Kg4 hg4 => ?_
  refine Awp.drawG (n := 9) (fun b => ⟨.lit (.bool false) :: .ptr 0 0 :: .ptr 1 0 :: .lit (.string r1.1) :: .lit (.int .i64 r1.2) :: .lit (.string r2.1) :: .lit (.int .i64 r2.2) :: .lit (.string r3.1) :: .lit (.int .i64 r3.2) :: (bif b 3 then .ptr 2 0 else .any) :: (bif b 4 then .ptr 3 0 else .any) :: (bif b 5 then .ptr 4 0 else .any) :: .any :: .any :: .any :: .any :: .agg [.lit (.int .i64 2), .lit (.slice none 0 0), .lit (.int .i64 0), .lit (.int .i64 0), .lit (.int .i64 0), .lit (.slice none 0 0), .lit (.int .i64 0)] :: .bs (Ty.int .u32) [0, 86573055] :: .bs (Ty.int .u32) [4] :: .agg [.lit (.int .i64 8), .bs (Ty.int .u32) [0, 86573055], .lit (.int .i64 0), .lit (.int .i64 0), .lit (.int .i64 0), .bs (Ty.int .u32) [4], .lit (.int .i64 8)] :: .tup [.lit (.string r1.1), .lit (.int .i64 r1.2)] :: .agg [.lit (.int .i64 2), .lit (.slice none 0 0), .lit (.int .i64 0), .lit (.int .i64 0), .lit (.int .i64 0), .lit (.slice none 0 0), .lit (.int .i64 0)] :: .tup [.lit (.string r1.1), .lit (.int .i64 r1.2)] :: .lit (.string r1.1) :: .lit (.int .i64 r1.2) :: .tup [.lit (.string r2.1), .lit (.int .i64 r2.2)] :: .agg [.lit (.int .i64 2), .lit (.slice none 0 0), .lit (.int .i64 0), .lit (.int .i64 0), .lit (.int .i64 0), .lit (.slice none 0 0), .lit (.int .i64 0)] :: .tup [.lit (.string r2.1), .lit (.int .i64 r2.2)] :: .lit (.string r2.1) :: .lit (.int .i64 r2.2) :: .tup [.lit (.string r3.1), .lit (.int .i64 r3.2)] :: .agg [.lit (.int .i64 8), .bs (Ty.int .u32) [0, 86573055], .lit (.int .i64 0), .lit (.int .i64 0), .lit (.int .i64 0), .bs (Ty.int .u32) [4], .lit (.int .i64 8)] :: .tup [.lit (.string r3.1), .lit (.int .i64 r3.2)] :: .lit (.string r3.1) :: .lit (.int .i64 r3.2) :: (bif b 0 then .agg [.lit (.int .i64 2), .lit (.slice none 0 0), .lit (.int .i64 0), .lit (.int .i64 0), .lit (.int .i64 0), .lit (.slice none 0 0), .lit (.int .i64 0)] else .any) :: (bif b 1 then .agg [.lit (.int .i64 8), .bs (Ty.int .u32) [0, 86573055], .lit (.int .i64 0), .lit (.int .i64 0), .lit (.int .i64 0), .bs (Ty.int .u32) [4], .lit (.int .i64 8)] else .any) :: (bif b 2 then .agg [.lit (.int .i64 8), .bs (Ty.int .u32) [0, 86573055], .lit (.int .i64 0), .lit (.int .i64 0), .lit (.int .i64 0), .bs (Ty.int .u32) [4], .lit (.int .i64 8)] else .any) :: .any :: .any :: .any :: .any :: .any :: .any :: .any :: .any :: .any :: .any :: .any :: .any :: .any :: .any :: .any :: .any :: .any :: .any :: .any :: .any :: .any :: .any :: .any :: .any :: .any :: .any :: .any :: .any :: .any :: .any :: .any :: .any :: .any :: .any :: .any :: .any :: .any :: .any :: .any :: .any :: .any :: .any :: .any :: .any :: .any :: .any :: .any :: .any :: .any :: .any :: .any :: .any :: .any :: .any :: .any :: .any :: .any :: .any :: .any :: .any :: .any :: [], [.box [.lit (.int .i64 2), .lit (.slice none 0 0), .lit (.int .i64 0), .lit (.int .i64 0), .lit (.int .i64 0), .lit (.slice none 0 0), .lit (.int .i64 0)], .box [.lit (.int .i64 8), .bs (Ty.int .u32) [0, 86573055], .lit (.int .i64 0), .lit (.int .i64 0), .lit (.int .i64 0), .bs (Ty.int .u32) [4], .lit (.int .i64 8)], (bif b 6 then .box [.lit (.int .i64 2), .lit (.slice none 0 0), .lit (.int .i64 0), .lit (.int .i64 0), .lit (.int .i64 0), .lit (.slice none 0 0), .lit (.int .i64 0)] else (bif b 3 then .box [.lit (.int .i64 0), .lit (.slice none 0 0), .lit (.int .i64 0), .lit (.int .i64 0), .lit (.int .i64 0), .lit (.slice none 0 0), .lit (.int .i64 0)] else .dead)), (bif b 7 then .box [.lit (.int .i64 8), .bs (Ty.int .u32) [0, 86573055], .lit (.int .i64 0), .lit (.int .i64 0), .lit (.int .i64 0), .bs (Ty.int .u32) [4], .lit (.int .i64 8)] else (bif b 4 then .box [.lit (.int .i64 0), .lit (.slice none 0 0), .lit (.int .i64 0), .lit (.int .i64 0), .lit (.int .i64 0), .lit (.slice none 0 0), .lit (.int .i64 0)] else .dead)), (bif b 8 then .box [.lit (.int .i64 8), .bs (Ty.int .u32) [0, 86573055], .lit (.int .i64 0), .lit (.int .i64 0), .lit (.int .i64 0), .bs (Ty.int .u32) [4], .lit (.int .i64 8)] else (bif b 5 then .box [.lit (.int .i64 0), .lit (.slice none 0 0), .lit (.int .i64 0), .lit (.int .i64 0), .lit (.int .i64 0), .lit (.slice none 0 0), .lit (.int .i64 0)] else .dead))]⟩) rfl (by kernel_rfl) (by kernel_rfl) ?_ (hg4 _ ?_)
  · refine gS_cons (fun b hb ha hc => ?_) ?_
    · try dsimp only
      refine AOp.q (Quiet.loadA_ptr rfl get1 rfl rfl) ?_
      exact St.le.refl
    refine gS_cons (fun b hb ha hc => ?_) ?_
    · try dsimp only
      refine AOp.q (Quiet.loadA_ptr rfl get2 rfl rfl) ?_
      exact St.le.refl
    refine gS_cons (fun b hb ha hc => ?_) ?_
    · try dsimp only
      refine AOp.q (Quiet.loadA_ptr rfl get2 rfl rfl) ?_
      exact St.le.refl
    refine gS_cons (fun b hb ha hc => ?_) ?_
    · have h6 : b 6 = false := not_before hc (i := 3) (j := 6) (k := 0) rfl rfl rfl rfl hb
      have u6 : upd b 3 6 = false := h6
      try dsimp only
      refine AOp.alAt 2 rfl (congrArg some ((cndBF h6 _ _).trans (cndBF hb _ _))) (by repeat (first | exact nrH_nil | refine nrH_cons rfl ?_ | refine nrH_cons (nrB_c rfl rfl) ?_ | refine nrH_cons (nrB_c rfl (nrB_c rfl rfl)) ?_ | refine nrH_cons (nrB_c rfl (nrB_c rfl (nrB_c rfl rfl))) ?_)) (by repeat (first | exact nrL_nil | refine nrL_cons rfl ?_ | refine nrL_cons (nr_f hb rfl) ?_ | refine nrL_cons (nr_c rfl rfl) ?_)) ?_
      simp only [cndBF u6]
      exact St.le.refl
    refine gS_cons (fun b hb ha hc => ?_) ?_
    · have h7 : b 7 = false := not_before hc (i := 4) (j := 7) (k := 0) rfl rfl rfl rfl hb
      have u7 : upd b 4 7 = false := h7
      try dsimp only
      refine AOp.alAt 3 rfl (congrArg some ((cndBF h7 _ _).trans (cndBF hb _ _))) (by repeat (first | exact nrH_nil | refine nrH_cons rfl ?_ | refine nrH_cons (nrB_c rfl rfl) ?_ | refine nrH_cons (nrB_c rfl (nrB_c rfl rfl)) ?_ | refine nrH_cons (nrB_c rfl (nrB_c rfl (nrB_c rfl rfl))) ?_)) (by repeat (first | exact nrL_nil | refine nrL_cons rfl ?_ | refine nrL_cons (nr_f hb rfl) ?_ | refine nrL_cons (nr_c rfl rfl) ?_)) ?_
      simp only [cndBF u7]
      exact St.le.refl
    refine gS_cons (fun b hb ha hc => ?_) ?_
    · have h8 : b 8 = false := not_before hc (i := 5) (j := 8) (k := 0) rfl rfl rfl rfl hb
      have u8 : upd b 5 8 = false := h8
      try dsimp only
      refine AOp.alAt 4 rfl (congrArg some ((cndBF h8 _ _).trans (cndBF hb _ _))) (by repeat (first | exact nrH_nil | refine nrH_cons rfl ?_ | refine nrH_cons (nrB_c rfl rfl) ?_ | refine nrH_cons (nrB_c rfl (nrB_c rfl rfl)) ?_ | refine nrH_cons (nrB_c rfl (nrB_c rfl (nrB_c rfl rfl))) ?_)) (by repeat (first | exact nrL_nil | refine nrL_cons rfl ?_ | refine nrL_cons (nr_f hb rfl) ?_ | refine nrL_cons (nr_c rfl rfl) ?_)) ?_
      simp only [cndBF u8]
      exact St.le.refl
    refine gS_cons (fun b hb ha hc => ?_) ?_
    · have h0 : b 0 = true := ha 1 _ rfl rfl
      have h3 : b 3 = true := ha 0 _ rfl rfl
      try dsimp only
      refine AOp.stBoxV rfl ((getS8 get1).trans (cndT h3 _ _)) (congrArg some ((cndBF hb _ _).trans (cndBT h3 _ _))) ((getS32 get3).trans (cndT h0 _ _)) (Parts.aggB rfl) rfl (Nat.le_of_ble_eq_true rfl) ?_
      exact St.le.refl
    refine gS_cons (fun b hb ha hc => ?_) ?_
    · have h1 : b 1 = true := ha 1 _ rfl rfl
      have h4 : b 4 = true := ha 0 _ rfl rfl
      try dsimp only
      refine AOp.stBoxV rfl ((getS8 get2).trans (cndT h4 _ _)) (congrArg some ((cndBF hb _ _).trans (cndBT h4 _ _))) ((getS32 get4).trans (cndT h1 _ _)) (Parts.aggB rfl) rfl (Nat.le_of_ble_eq_true rfl) ?_
      exact St.le.refl
    refine gS_cons (fun b hb ha hc => ?_) ?_
    · have h2 : b 2 = true := ha 1 _ rfl rfl
      have h5 : b 5 = true := ha 0 _ rfl rfl
      try dsimp only
      refine AOp.stBoxV rfl ((getS8 get3).trans (cndT h5 _ _)) (congrArg some ((cndBF hb _ _).trans (cndBT h5 _ _))) ((getS32 get5).trans (cndT h2 _ _)) (Parts.aggB rfl) rfl (Nat.le_of_ble_eq_true rfl) ?_
      exact St.le.refl
    exact gS_nil
  · refine Awp.via ⟨.lit (.bool false) :: .ptr 0 0 :: .ptr 1 0 :: .lit (.string r1.1) :: .lit (.int .i64 r1.2) :: .lit (.string r2.1) :: .lit (.int .i64 r2.2) :: .lit (.string r3.1) :: .lit (.int .i64 r3.2) :: .ptr 2 0 :: .ptr 3 0 :: .ptr 4 0 :: .any :: .any :: .any :: .any :: .agg [.lit (.int .i64 2), .lit (.slice none 0 0), .lit (.int .i64 0), .lit (.int .i64 0), .lit (.int .i64 0), .lit (.slice none 0 0), .lit (.int .i64 0)] :: .bs (Ty.int .u32) [0, 86573055] :: .bs (Ty.int .u32) [4] :: .agg [.lit (.int .i64 8), .bs (Ty.int .u32) [0, 86573055], .lit (.int .i64 0), .lit (.int .i64 0), .lit (.int .i64 0), .bs (Ty.int .u32) [4], .lit (.int .i64 8)] :: .tup [.lit (.string r1.1), .lit (.int .i64 r1.2)] :: .agg [.lit (.int .i64 2), .lit (.slice none 0 0), .lit (.int .i64 0), .lit (.int .i64 0), .lit (.int .i64 0), .lit (.slice none 0 0), .lit (.int .i64 0)] :: .tup [.lit (.string r1.1), .lit (.int .i64 r1.2)] :: .lit (.string r1.1) :: .lit (.int .i64 r1.2) :: .tup [.lit (.string r2.1), .lit (.int .i64 r2.2)] :: .agg [.lit (.int .i64 2), .lit (.slice none 0 0), .lit (.int .i64 0), .lit (.int .i64 0), .lit (.int .i64 0), .lit (.slice none 0 0), .lit (.int .i64 0)] :: .tup [.lit (.string r2.1), .lit (.int .i64 r2.2)] :: .lit (.string r2.1) :: .lit (.int .i64 r2.2) :: .tup [.lit (.string r3.1), .lit (.int .i64 r3.2)] :: .agg [.lit (.int .i64 8), .bs (Ty.int .u32) [0, 86573055], .lit (.int .i64 0), .lit (.int .i64 0), .lit (.int .i64 0), .bs (Ty.int .u32) [4], .lit (.int .i64 8)] :: .tup [.lit (.string r3.1), .lit (.int .i64 r3.2)] :: .lit (.string r3.1) :: .lit (.int .i64 r3.2) :: .agg [.lit (.int .i64 2), .lit (.slice none 0 0), .lit (.int .i64 0), .lit (.int .i64 0), .lit (.int .i64 0), .lit (.slice none 0 0), .lit (.int .i64 0)] :: .agg [.lit (.int .i64 8), .bs (Ty.int .u32) [0, 86573055], .lit (.int .i64 0), .lit (.int .i64 0), .lit (.int .i64 0), .bs (Ty.int .u32) [4], .lit (.int .i64 8)] :: .agg [.lit (.int .i64 8), .bs (Ty.int .u32) [0, 86573055], .lit (.int .i64 0), .lit (.int .i64 0), .lit (.int .i64 0), .bs (Ty.int .u32) [4], .lit (.int .i64 8)] :: .any :: .any :: .any :: .any :: .any :: .any :: .any :: .any :: .any :: .any :: .any :: .any :: .any :: .any :: .any :: .any :: .any :: .any :: .any :: .any :: .any :: .any :: .any :: .any :: .any :: .any :: .any :: .any :: .any :: .any :: .any :: .any :: .any :: .any :: .any :: .any :: .any :: .any :: .any :: .any :: .any :: .any :: .any :: .any :: .any :: .any :: .any :: .any :: .any :: .any :: .any :: .any :: .any :: .any :: .any :: .any :: .any :: .any :: .any :: .any :: .any :: [], [.box [.lit (.int .i64 2), .lit (.slice none 0 0), .lit (.int .i64 0), .lit (.int .i64 0), .lit (.int .i64 0), .lit (.slice none 0 0), .lit (.int .i64 0)], .box [.lit (.int .i64 8), .bs (Ty.int .u32) [0, 86573055], .lit (.int .i64 0), .lit (.int .i64 0), .lit (.int .i64 0), .bs (Ty.int .u32) [4], .lit (.int .i64 8)], .box [.lit (.int .i64 2), .lit (.slice none 0 0), .lit (.int .i64 0), .lit (.int .i64 0), .lit (.int .i64 0), .lit (.slice none 0 0), .lit (.int .i64 0)], .box [.lit (.int .i64 8), .bs (Ty.int .u32) [0, 86573055], .lit (.int .i64 0), .lit (.int .i64 0), .lit (.int .i64 0), .bs (Ty.int .u32) [4], .lit (.int .i64 8)], .box [.lit (.int .i64 8), .bs (Ty.int .u32) [0, 86573055], .lit (.int .i64 0), .lit (.int .i64 0), .lit (.int .i64 0), .bs (Ty.int .u32) [4], .lit (.int .i64 8)]]⟩ St.le.refl ?_
    refine wR (hx := by (refine sA (hq := Quiet.fa_ptr rfl (getS8 get1) rfl) (ht := (setS32 set6)) (hk := ?_); (refine aSeq_t rfl (AOp.stBox (new := [_]) rfl rfl rfl (Parts.one (One.lit rfl)) rfl (Nat.le_of_ble_eq_true rfl) ?_); refine sNtM (ht := setN) (hk := ?_)); exact wEnd rfl)) (hk := ?_)
    refine wR (hx := by (refine sA (hq := Quiet.fa_ptr rfl (getS8 get2) rfl) (ht := (setS32 set7)) (hk := ?_); (refine aSeq_t rfl (AOp.stBox (new := [_]) rfl rfl rfl (Parts.one (One.lit rfl)) rfl (Nat.le_of_ble_eq_true rfl) ?_); refine sNtM (ht := setN) (hk := ?_)); exact wEnd rfl)) (hk := ?_)
    refine wR (hx := by (refine sA (hq := Quiet.lt (xs := [.const (.int .u32 8)]) (T := (Ty.int .u32)) (ds := [8]) rfl rfl rfl (by rfl) (by decide) (.cons (Fit.int (wfB_wf (by decide))) .nil)) (ht := (setS32 (setS8 set0))) (hk := ?_); refine sA (hq := Quiet.fa_ptr rfl (getS8 get3) rfl) (ht := (setS32 (setS8 set1))) (hk := ?_); (refine aSeq_t rfl (AOp.stBox (new := [_]) rfl rfl rfl (Parts.one One.bs) rfl (Nat.le_of_ble_eq_true rfl) ?_); refine sNtM (ht := setN) (hk := ?_)); exact wEnd rfl)) (hk := ?_)
    obtain ⟨r5, k5, H⟩ := M.to_bnd.1 H
    have k5 := image_Get_l k5
    refine wR (hx := by (refine sA (hq := Quiet.callA rfl rfl k5 rfl rfl) (ht := (setS32 (setS8 set3))) (hk := ?_); refine sA (hq := Quiet.move rfl (getS32 (getS8 get3))) (ht := (setS32 (setS8 set2))) (hk := ?_); refine sA (hq := Quiet.extract rfl (getS32 (getS8 get2)) rfl) (ht := (setS32 (setS8 set4))) (hk := ?_); refine sA (hq := Quiet.extract rfl (getS32 (getS8 get2)) rfl) (ht := (setS32 (setS8 set5))) (hk := ?_); (refine aSeq_t rfl (AOp.alI 5 rfl rfl ?_); refine sNtM (ht := (setS8 set4)) (hk := ?_)); (refine aSeq_t rfl (AOp.stBox rfl rfl rfl (Parts.aggB rfl) rfl (Nat.le_of_ble_eq_true rfl) ?_); refine sNtM (ht := setN) (hk := ?_)); refine sA (hq := Quiet.assign rfl (getS32 (getS8 get5))) (ht := (setS8 set5)) (hk := ?_); exact wEnd rfl)) (hk := ?_)
    obtain ⟨r6, k6, H⟩ := M.to_bnd.1 H
    have k6 := image_Read_l k6
    refine wR (hx := by (refine sA (hq := Quiet.callTA rfl rfl hC hL hG k6 rfl rfl) (ht := (setS32 (setS8 set7))) (hk := ?_); refine sA (hq := Quiet.move rfl (getS32 (getS8 get7))) (ht := (setS32 (setS8 set6))) (hk := ?_); refine sA (hq := Quiet.extract rfl (getS32 (getS8 get6)) rfl) (ht := (setS32 (setS8 (setS8 set0)))) (hk := ?_); refine sA (hq := Quiet.extract rfl (getS32 (getS8 get6)) rfl) (ht := (setS32 (setS8 (setS8 set1)))) (hk := ?_); (refine aSeq_t rfl (AOp.alI 6 rfl rfl ?_); refine sNtM (ht := (setS8 set6)) (hk := ?_)); (refine aSeq_t rfl (AOp.stBox rfl rfl rfl (Parts.aggB rfl) rfl (Nat.le_of_ble_eq_true rfl) ?_); refine sNtM (ht := setN) (hk := ?_)); refine sA (hq := Quiet.assign rfl (getS32 (getS8 (getS8 get1)))) (ht := (setS8 set7)) (hk := ?_); exact wEnd rfl)) (hk := ?_)
    obtain ⟨c7, H⟩ := M.to_chk.1 H
    obtain ⟨c8, H⟩ := M.to_chk.1 H
    obtain ⟨c9, H⟩ := M.to_chk.1 H
    obtain ⟨r10, k10, H⟩ := M.to_bnd.1 H
    obtain ⟨r11, k11, H⟩ := M.to_bnd.1 H
    obtain ⟨r12, k12, H⟩ := M.to_bnd.1 H
    refine wR (hx := by (refine sA (hq := Quiet.move rfl get3) (ht := (setS32 (setS8 (setS8 set2)))) (hk := ?_); (refine aSeq_t rfl (AOp.mkI 7 rfl (T := (Ty.int .u8)) (e := 5) (v := .int .u8 0) (bytes := 1) (0 : Int) rfl (by kernel_rfl) rfl (fun _ _ => ⟨rfl, by decide⟩) rfl rfl c7 ?_); refine sNtM (ht := (setS32 (setS8 (setS8 set3)))) (hk := ?_)); refine sA (hq := Quiet.b2sO rfl rfl rfl) (ht := (setS32 (setS8 (setS8 set4)))) (hk := ?_); refine sA (hq := Quiet.cat rfl getC (getS32 (getS8 (getS8 get4))) (catB_le c8)) (ht := (setS32 (setS8 (setS8 set5)))) (hk := ?_); refine sA (hq := Quiet.cat rfl (getS32 (getS8 (getS8 get5))) getC (catB_le c9)) (ht := (setS32 (setS8 (setS8 set6)))) (hk := ?_); refine sA (hq := Quiet.eqS rfl (getS32 (getS8 (getS8 get2))) (getS32 (getS8 (getS8 get6)))) (ht := (setS32 (setS8 (setS8 set7)))) (hk := ?_); refine sA (hq := Quiet.move rfl (getS32 (getS8 (getS8 get7)))) (ht := (setS32 (setS8 (setS8 (setS8 set0))))) (hk := ?_); refine sG (g := (r1.1 == ((⟨#[77, 78, 84, 78, 0, 0, 0, 2]⟩ ++ (bytesOf (List.replicate (Int.toNat 24) 0))) ++ ⟨#[0, 0, 25, 161]⟩))) (hg := gA_t rfl) (hq := fun hg => Quiet.move rfl get4) (ht := (setS32 (setS8 (setS8 (setS8 set1))))) (hk := ?_); refine sG (g := (r1.1 == ((⟨#[77, 78, 84, 78, 0, 0, 0, 2]⟩ ++ (bytesOf (List.replicate (Int.toNat 24) 0))) ++ ⟨#[0, 0, 25, 161]⟩))) (hg := gA_t rfl) (hq := fun hg => Quiet.bin rfl ((getS32 (getS8 (getS8 (getS8 get1)))).trans (cndT hg _ _)) getC rfl) (ht := (setS32 (setS8 (setS8 (setS8 set2))))) (hk := ?_); refine sA (hq := Quiet.pickAndB rfl (getS32 (getS8 (getS8 (getS8 get0)))) (getS32 (getS8 (getS8 (getS8 get2)))) getC) (ht := (setS32 (setS8 (setS8 (setS8 set3))))) (hk := ?_); refine sA (hq := Quiet.move rfl (getS32 (getS8 (getS8 (getS8 get3))))) (ht := (setS32 (setS8 (setS8 (setS8 set4))))) (hk := ?_); refine sG (g := ((r1.1 == ((⟨#[77, 78, 84, 78, 0, 0, 0, 2]⟩ ++ (bytesOf (List.replicate (Int.toNat 24) 0))) ++ ⟨#[0, 0, 25, 161]⟩)) && (r1.2 == 0))) (hg := gA_t rfl) (hq := fun hg => Quiet.move rfl get5) (ht := (setS32 (setS8 (setS8 (setS8 set5))))) (hk := ?_); refine sG (g := ((r1.1 == ((⟨#[77, 78, 84, 78, 0, 0, 0, 2]⟩ ++ (bytesOf (List.replicate (Int.toNat 24) 0))) ++ ⟨#[0, 0, 25, 161]⟩)) && (r1.2 == 0))) (hg := gA_t rfl) (hq := fun hg => Quiet.eqS rfl ((getS32 (getS8 (getS8 (getS8 get5)))).trans (cndT hg _ _)) getC) (ht := (setS32 (setS8 (setS8 (setS8 set6))))) (hk := ?_); refine sA (hq := Quiet.pickAndB rfl (getS32 (getS8 (getS8 (getS8 get4)))) (getS32 (getS8 (getS8 (getS8 get6)))) getC) (ht := (setS32 (setS8 (setS8 (setS8 set7))))) (hk := ?_); refine sA (hq := Quiet.move rfl (getS32 (getS8 (getS8 (getS8 get7))))) (ht := (setS32 (setS32 set0))) (hk := ?_); refine sG (g := (((r1.1 == ((⟨#[77, 78, 84, 78, 0, 0, 0, 2]⟩ ++ (bytesOf (List.replicate (Int.toNat 24) 0))) ++ ⟨#[0, 0, 25, 161]⟩)) && (r1.2 == 0)) && (r2.1 == ⟨#[105, 109, 97, 103, 101, 32, 50, 32, 48, 32, 48, 32, 48, 32, 48, 10, 115, 116, 97, 114, 116, 115, 10]⟩))) (hg := gA_t rfl) (hq := fun hg => Quiet.move rfl get6) (ht := (setS32 (setS32 set1))) (hk := ?_); refine sG (g := (((r1.1 == ((⟨#[77, 78, 84, 78, 0, 0, 0, 2]⟩ ++ (bytesOf (List.replicate (Int.toNat 24) 0))) ++ ⟨#[0, 0, 25, 161]⟩)) && (r1.2 == 0)) && (r2.1 == ⟨#[105, 109, 97, 103, 101, 32, 50, 32, 48, 32, 48, 32, 48, 32, 48, 10, 115, 116, 97, 114, 116, 115, 10]⟩))) (hg := gA_t rfl) (hq := fun hg => Quiet.bin rfl ((getS32 (getS32 get1)).trans (cndT hg _ _)) getC rfl) (ht := (setS32 (setS32 set2))) (hk := ?_); refine sA (hq := Quiet.pickAndB rfl (getS32 (getS32 get0)) (getS32 (getS32 get2)) getC) (ht := (setS32 (setS32 set3))) (hk := ?_); refine sA (hq := Quiet.move rfl (getS32 (getS32 get3))) (ht := (setS32 (setS32 set4))) (hk := ?_); refine sG (g := ((((r1.1 == ((⟨#[77, 78, 84, 78, 0, 0, 0, 2]⟩ ++ (bytesOf (List.replicate (Int.toNat 24) 0))) ++ ⟨#[0, 0, 25, 161]⟩)) && (r1.2 == 0)) && (r2.1 == ⟨#[105, 109, 97, 103, 101, 32, 50, 32, 48, 32, 48, 32, 48, 32, 48, 10, 115, 116, 97, 114, 116, 115, 10]⟩)) && (r2.2 == 0))) (hg := gA_t rfl) (hq := fun hg => Quiet.move rfl get7) (ht := (setS32 (setS32 set5))) (hk := ?_); refine sG (g := ((((r1.1 == ((⟨#[77, 78, 84, 78, 0, 0, 0, 2]⟩ ++ (bytesOf (List.replicate (Int.toNat 24) 0))) ++ ⟨#[0, 0, 25, 161]⟩)) && (r1.2 == 0)) && (r2.1 == ⟨#[105, 109, 97, 103, 101, 32, 50, 32, 48, 32, 48, 32, 48, 32, 48, 10, 115, 116, 97, 114, 116, 115, 10]⟩)) && (r2.2 == 0))) (hg := gA_t rfl) (hq := fun hg => Quiet.eqS rfl ((getS32 (getS32 get5)).trans (cndT hg _ _)) getC) (ht := (setS32 (setS32 set6))) (hk := ?_); refine sA (hq := Quiet.pickAndB rfl (getS32 (getS32 get4)) (getS32 (getS32 get6)) getC) (ht := (setS32 (setS32 set7))) (hk := ?_); refine sA (hq := Quiet.move rfl (getS32 (getS32 get7))) (ht := (setS32 (setS32 (setS8 set0)))) (hk := ?_); refine sG (g := (((((r1.1 == ((⟨#[77, 78, 84, 78, 0, 0, 0, 2]⟩ ++ (bytesOf (List.replicate (Int.toNat 24) 0))) ++ ⟨#[0, 0, 25, 161]⟩)) && (r1.2 == 0)) && (r2.1 == ⟨#[105, 109, 97, 103, 101, 32, 50, 32, 48, 32, 48, 32, 48, 32, 48, 10, 115, 116, 97, 114, 116, 115, 10]⟩)) && (r2.2 == 0)) && (r3.1 == ⟨#[105, 109, 97, 103, 101, 32, 56, 32, 48, 32, 48, 32, 48, 32, 56, 10, 115, 116, 97, 114, 116, 115, 32, 52, 10, 48, 32, 48, 48, 48, 48, 48, 48, 48, 48, 10, 52, 32, 48, 53, 50, 56, 102, 102, 102, 102, 32, 49, 32, 57, 32, 56, 32, 48, 32, 35, 45, 49, 10]⟩))) (hg := gA_t rfl) (hq := fun hg => Quiet.move rfl (getS8 get0)) (ht := (setS32 (setS32 (setS8 set1)))) (hk := ?_); refine sG (g := (((((r1.1 == ((⟨#[77, 78, 84, 78, 0, 0, 0, 2]⟩ ++ (bytesOf (List.replicate (Int.toNat 24) 0))) ++ ⟨#[0, 0, 25, 161]⟩)) && (r1.2 == 0)) && (r2.1 == ⟨#[105, 109, 97, 103, 101, 32, 50, 32, 48, 32, 48, 32, 48, 32, 48, 10, 115, 116, 97, 114, 116, 115, 10]⟩)) && (r2.2 == 0)) && (r3.1 == ⟨#[105, 109, 97, 103, 101, 32, 56, 32, 48, 32, 48, 32, 48, 32, 56, 10, 115, 116, 97, 114, 116, 115, 32, 52, 10, 48, 32, 48, 48, 48, 48, 48, 48, 48, 48, 10, 52, 32, 48, 53, 50, 56, 102, 102, 102, 102, 32, 49, 32, 57, 32, 56, 32, 48, 32, 35, 45, 49, 10]⟩))) (hg := gA_t rfl) (hq := fun hg => Quiet.bin rfl ((getS32 (getS32 (getS8 get1))).trans (cndT hg _ _)) getC rfl) (ht := (setS32 (setS32 (setS8 set2)))) (hk := ?_); refine sA (hq := Quiet.pickAndB rfl (getS32 (getS32 (getS8 get0))) (getS32 (getS32 (getS8 get2))) getC) (ht := (setS32 (setS32 (setS8 set3)))) (hk := ?_); refine sA (hq := Quiet.move rfl (getS32 (getS32 (getS8 get3)))) (ht := (setS32 (setS32 (setS8 set4)))) (hk := ?_); refine sG (g := ((((((r1.1 == ((⟨#[77, 78, 84, 78, 0, 0, 0, 2]⟩ ++ (bytesOf (List.replicate (Int.toNat 24) 0))) ++ ⟨#[0, 0, 25, 161]⟩)) && (r1.2 == 0)) && (r2.1 == ⟨#[105, 109, 97, 103, 101, 32, 50, 32, 48, 32, 48, 32, 48, 32, 48, 10, 115, 116, 97, 114, 116, 115, 10]⟩)) && (r2.2 == 0)) && (r3.1 == ⟨#[105, 109, 97, 103, 101, 32, 56, 32, 48, 32, 48, 32, 48, 32, 56, 10, 115, 116, 97, 114, 116, 115, 32, 52, 10, 48, 32, 48, 48, 48, 48, 48, 48, 48, 48, 10, 52, 32, 48, 53, 50, 56, 102, 102, 102, 102, 32, 49, 32, 57, 32, 56, 32, 48, 32, 35, 45, 49, 10]⟩)) && (r3.2 == 0))) (hg := gA_t rfl) (hq := fun hg => Quiet.loadA_ptr rfl (getS8 get1) rfl rfl) (ht := (setS32 (setS32 (setS8 set5)))) (hk := ?_); refine sG (g := ((((((r1.1 == ((⟨#[77, 78, 84, 78, 0, 0, 0, 2]⟩ ++ (bytesOf (List.replicate (Int.toNat 24) 0))) ++ ⟨#[0, 0, 25, 161]⟩)) && (r1.2 == 0)) && (r2.1 == ⟨#[105, 109, 97, 103, 101, 32, 50, 32, 48, 32, 48, 32, 48, 32, 48, 10, 115, 116, 97, 114, 116, 115, 10]⟩)) && (r2.2 == 0)) && (r3.1 == ⟨#[105, 109, 97, 103, 101, 32, 56, 32, 48, 32, 48, 32, 48, 32, 56, 10, 115, 116, 97, 114, 116, 115, 32, 52, 10, 48, 32, 48, 48, 48, 48, 48, 48, 48, 48, 10, 52, 32, 48, 53, 50, 56, 102, 102, 102, 102, 32, 49, 32, 57, 32, 56, 32, 48, 32, 35, 45, 49, 10]⟩)) && (r3.2 == 0))) (hg := gA_t rfl) (hq := fun hg => by ((try simp only [cndT hg]); (try simp only [cndA hg]); exact Quiet.callU rfl rfl (.cons (Up.ag (.cons (.refl _) (.cons (.nil _) (.cons (.refl _) (.cons (.refl _) (.cons (.refl _) (.cons (.nil _) (.cons (.refl _) .nil)))))))) .nil) (image_May_l (M.to_whn k10 hg)) rfl rfl)) (ht := (setS32 (setS32 (setS8 set6)))) (hk := ?_); refine sG (g := ((((((r1.1 == ((⟨#[77, 78, 84, 78, 0, 0, 0, 2]⟩ ++ (bytesOf (List.replicate (Int.toNat 24) 0))) ++ ⟨#[0, 0, 25, 161]⟩)) && (r1.2 == 0)) && (r2.1 == ⟨#[105, 109, 97, 103, 101, 32, 50, 32, 48, 32, 48, 32, 48, 32, 48, 10, 115, 116, 97, 114, 116, 115, 10]⟩)) && (r2.2 == 0)) && (r3.1 == ⟨#[105, 109, 97, 103, 101, 32, 56, 32, 48, 32, 48, 32, 48, 32, 56, 10, 115, 116, 97, 114, 116, 115, 32, 52, 10, 48, 32, 48, 48, 48, 48, 48, 48, 48, 48, 10, 52, 32, 48, 53, 50, 56, 102, 102, 102, 102, 32, 49, 32, 57, 32, 56, 32, 48, 32, 35, 45, 49, 10]⟩)) && (r3.2 == 0))) (hg := gA_t rfl) (hq := fun hg => Quiet.bnot rfl ((getS32 (getS32 (getS8 get6))).trans (cndT hg _ _))) (ht := (setS32 (setS32 (setS8 set7)))) (hk := ?_); refine sA (hq := Quiet.pickAndB rfl (getS32 (getS32 (getS8 get4))) (getS32 (getS32 (getS8 get7))) getC) (ht := (setS32 (setS32 (setS8 (setS8 set0))))) (hk := ?_); refine sA (hq := Quiet.move rfl (getS32 (getS32 (getS8 (getS8 get0))))) (ht := (setS32 (setS32 (setS8 (setS8 set1))))) (hk := ?_); refine sG (g := (((((((r1.1 == ((⟨#[77, 78, 84, 78, 0, 0, 0, 2]⟩ ++ (bytesOf (List.replicate (Int.toNat 24) 0))) ++ ⟨#[0, 0, 25, 161]⟩)) && (r1.2 == 0)) && (r2.1 == ⟨#[105, 109, 97, 103, 101, 32, 50, 32, 48, 32, 48, 32, 48, 32, 48, 10, 115, 116, 97, 114, 116, 115, 10]⟩)) && (r2.2 == 0)) && (r3.1 == ⟨#[105, 109, 97, 103, 101, 32, 56, 32, 48, 32, 48, 32, 48, 32, 56, 10, 115, 116, 97, 114, 116, 115, 32, 52, 10, 48, 32, 48, 48, 48, 48, 48, 48, 48, 48, 10, 52, 32, 48, 53, 50, 56, 102, 102, 102, 102, 32, 49, 32, 57, 32, 56, 32, 48, 32, 35, 45, 49, 10]⟩)) && (r3.2 == 0)) && (!r10))) (hg := gA_t rfl) (hq := fun hg => Quiet.loadA_ptr rfl (getS8 get2) rfl rfl) (ht := (setS32 (setS32 (setS8 (setS8 set2))))) (hk := ?_); refine sG (g := (((((((r1.1 == ((⟨#[77, 78, 84, 78, 0, 0, 0, 2]⟩ ++ (bytesOf (List.replicate (Int.toNat 24) 0))) ++ ⟨#[0, 0, 25, 161]⟩)) && (r1.2 == 0)) && (r2.1 == ⟨#[105, 109, 97, 103, 101, 32, 50, 32, 48, 32, 48, 32, 48, 32, 48, 10, 115, 116, 97, 114, 116, 115, 10]⟩)) && (r2.2 == 0)) && (r3.1 == ⟨#[105, 109, 97, 103, 101, 32, 56, 32, 48, 32, 48, 32, 48, 32, 56, 10, 115, 116, 97, 114, 116, 115, 32, 52, 10, 48, 32, 48, 48, 48, 48, 48, 48, 48, 48, 10, 52, 32, 48, 53, 50, 56, 102, 102, 102, 102, 32, 49, 32, 57, 32, 56, 32, 48, 32, 35, 45, 49, 10]⟩)) && (r3.2 == 0)) && (!r10))) (hg := gA_t rfl) (hq := fun hg => by ((try simp only [cndT hg]); (try simp only [cndA hg]); exact Quiet.callA rfl rfl (image_May_l (M.to_whn k11 hg)) rfl rfl)) (ht := (setS32 (setS32 (setS8 (setS8 set3))))) (hk := ?_); refine sG (g := (((((((r1.1 == ((⟨#[77, 78, 84, 78, 0, 0, 0, 2]⟩ ++ (bytesOf (List.replicate (Int.toNat 24) 0))) ++ ⟨#[0, 0, 25, 161]⟩)) && (r1.2 == 0)) && (r2.1 == ⟨#[105, 109, 97, 103, 101, 32, 50, 32, 48, 32, 48, 32, 48, 32, 48, 10, 115, 116, 97, 114, 116, 115, 10]⟩)) && (r2.2 == 0)) && (r3.1 == ⟨#[105, 109, 97, 103, 101, 32, 56, 32, 48, 32, 48, 32, 48, 32, 56, 10, 115, 116, 97, 114, 116, 115, 32, 52, 10, 48, 32, 48, 48, 48, 48, 48, 48, 48, 48, 10, 52, 32, 48, 53, 50, 56, 102, 102, 102, 102, 32, 49, 32, 57, 32, 56, 32, 48, 32, 35, 45, 49, 10]⟩)) && (r3.2 == 0)) && (!r10))) (hg := gA_t rfl) (hq := fun hg => Quiet.bnot rfl ((getS32 (getS32 (getS8 (getS8 get3)))).trans (cndT hg _ _))) (ht := (setS32 (setS32 (setS8 (setS8 set4))))) (hk := ?_); refine sA (hq := Quiet.pickAndB rfl (getS32 (getS32 (getS8 (getS8 get1)))) (getS32 (getS32 (getS8 (getS8 get4)))) getC) (ht := (setS32 (setS32 (setS8 (setS8 set5))))) (hk := ?_); refine sA (hq := Quiet.move rfl (getS32 (getS32 (getS8 (getS8 get5))))) (ht := (setS32 (setS32 (setS8 (setS8 set6))))) (hk := ?_); refine sG (g := ((((((((r1.1 == ((⟨#[77, 78, 84, 78, 0, 0, 0, 2]⟩ ++ (bytesOf (List.replicate (Int.toNat 24) 0))) ++ ⟨#[0, 0, 25, 161]⟩)) && (r1.2 == 0)) && (r2.1 == ⟨#[105, 109, 97, 103, 101, 32, 50, 32, 48, 32, 48, 32, 48, 32, 48, 10, 115, 116, 97, 114, 116, 115, 10]⟩)) && (r2.2 == 0)) && (r3.1 == ⟨#[105, 109, 97, 103, 101, 32, 56, 32, 48, 32, 48, 32, 48, 32, 56, 10, 115, 116, 97, 114, 116, 115, 32, 52, 10, 48, 32, 48, 48, 48, 48, 48, 48, 48, 48, 10, 52, 32, 48, 53, 50, 56, 102, 102, 102, 102, 32, 49, 32, 57, 32, 56, 32, 48, 32, 35, 45, 49, 10]⟩)) && (r3.2 == 0)) && (!r10)) && (!r11))) (hg := gA_t rfl) (hq := fun hg => Quiet.loadA_ptr rfl (getS8 get3) rfl rfl) (ht := (setS32 (setS32 (setS8 (setS8 set7))))) (hk := ?_); refine sG (g := ((((((((r1.1 == ((⟨#[77, 78, 84, 78, 0, 0, 0, 2]⟩ ++ (bytesOf (List.replicate (Int.toNat 24) 0))) ++ ⟨#[0, 0, 25, 161]⟩)) && (r1.2 == 0)) && (r2.1 == ⟨#[105, 109, 97, 103, 101, 32, 50, 32, 48, 32, 48, 32, 48, 32, 48, 10, 115, 116, 97, 114, 116, 115, 10]⟩)) && (r2.2 == 0)) && (r3.1 == ⟨#[105, 109, 97, 103, 101, 32, 56, 32, 48, 32, 48, 32, 48, 32, 56, 10, 115, 116, 97, 114, 116, 115, 32, 52, 10, 48, 32, 48, 48, 48, 48, 48, 48, 48, 48, 10, 52, 32, 48, 53, 50, 56, 102, 102, 102, 102, 32, 49, 32, 57, 32, 56, 32, 48, 32, 35, 45, 49, 10]⟩)) && (r3.2 == 0)) && (!r10)) && (!r11))) (hg := gA_t rfl) (hq := fun hg => by ((try simp only [cndT hg]); (try simp only [cndA hg]); exact Quiet.callA rfl rfl (image_May_l (M.to_whn k12 hg)) rfl rfl)) (ht := (setS32 (setS32 (setS8 (setS8 (setS8 set0)))))) (hk := ?_); refine sG (g := ((((((((r1.1 == ((⟨#[77, 78, 84, 78, 0, 0, 0, 2]⟩ ++ (bytesOf (List.replicate (Int.toNat 24) 0))) ++ ⟨#[0, 0, 25, 161]⟩)) && (r1.2 == 0)) && (r2.1 == ⟨#[105, 109, 97, 103, 101, 32, 50, 32, 48, 32, 48, 32, 48, 32, 48, 10, 115, 116, 97, 114, 116, 115, 10]⟩)) && (r2.2 == 0)) && (r3.1 == ⟨#[105, 109, 97, 103, 101, 32, 56, 32, 48, 32, 48, 32, 48, 32, 56, 10, 115, 116, 97, 114, 116, 115, 32, 52, 10, 48, 32, 48, 48, 48, 48, 48, 48, 48, 48, 10, 52, 32, 48, 53, 50, 56, 102, 102, 102, 102, 32, 49, 32, 57, 32, 56, 32, 48, 32, 35, 45, 49, 10]⟩)) && (r3.2 == 0)) && (!r10)) && (!r11))) (hg := gA_t rfl) (hq := fun hg => Quiet.bnot rfl ((getS32 (getS32 (getS8 (getS8 (getS8 get0))))).trans (cndT hg _ _))) (ht := (setS32 (setS32 (setS8 (setS8 (setS8 set1)))))) (hk := ?_); refine sA (hq := Quiet.pickAndB rfl (getS32 (getS32 (getS8 (getS8 get6)))) (getS32 (getS32 (getS8 (getS8 (getS8 get1))))) getC) (ht := (setS32 (setS32 (setS8 (setS8 (setS8 set2)))))) (hk := ?_); refine sA (hq := Quiet.move rfl (getS32 (getS32 (getS8 (getS8 (getS8 get2)))))) (ht := (setS32 (setS32 (setS8 (setS8 (setS8 set3)))))) (hk := ?_); refine sG (g := (((((((((r1.1 == ((⟨#[77, 78, 84, 78, 0, 0, 0, 2]⟩ ++ (bytesOf (List.replicate (Int.toNat 24) 0))) ++ ⟨#[0, 0, 25, 161]⟩)) && (r1.2 == 0)) && (r2.1 == ⟨#[105, 109, 97, 103, 101, 32, 50, 32, 48, 32, 48, 32, 48, 32, 48, 10, 115, 116, 97, 114, 116, 115, 10]⟩)) && (r2.2 == 0)) && (r3.1 == ⟨#[105, 109, 97, 103, 101, 32, 56, 32, 48, 32, 48, 32, 48, 32, 56, 10, 115, 116, 97, 114, 116, 115, 32, 52, 10, 48, 32, 48, 48, 48, 48, 48, 48, 48, 48, 10, 52, 32, 48, 53, 50, 56, 102, 102, 102, 102, 32, 49, 32, 57, 32, 56, 32, 48, 32, 35, 45, 49, 10]⟩)) && (r3.2 == 0)) && (!r10)) && (!r11)) && (!r12))) (hg := gA_t rfl) (hq := fun hg => Quiet.move rfl (getS8 get5)) (ht := (setS32 (setS32 (setS8 (setS8 (setS8 set4)))))) (hk := ?_); refine sG (g := (((((((((r1.1 == ((⟨#[77, 78, 84, 78, 0, 0, 0, 2]⟩ ++ (bytesOf (List.replicate (Int.toNat 24) 0))) ++ ⟨#[0, 0, 25, 161]⟩)) && (r1.2 == 0)) && (r2.1 == ⟨#[105, 109, 97, 103, 101, 32, 50, 32, 48, 32, 48, 32, 48, 32, 48, 10, 115, 116, 97, 114, 116, 115, 10]⟩)) && (r2.2 == 0)) && (r3.1 == ⟨#[105, 109, 97, 103, 101, 32, 56, 32, 48, 32, 48, 32, 48, 32, 56, 10, 115, 116, 97, 114, 116, 115, 32, 52, 10, 48, 32, 48, 48, 48, 48, 48, 48, 48, 48, 10, 52, 32, 48, 53, 50, 56, 102, 102, 102, 102, 32, 49, 32, 57, 32, 56, 32, 48, 32, 35, 45, 49, 10]⟩)) && (r3.2 == 0)) && (!r10)) && (!r11)) && (!r12))) (hg := gA_t rfl) (hq := fun hg => Quiet.bin rfl ((getS32 (getS32 (getS8 (getS8 (getS8 get4))))).trans (cndT hg _ _)) getC rfl) (ht := (setS32 (setS32 (setS8 (setS8 (setS8 set5)))))) (hk := ?_); refine sA (hq := Quiet.pickAndB rfl (getS32 (getS32 (getS8 (getS8 (getS8 get3))))) (getS32 (getS32 (getS8 (getS8 (getS8 get5))))) getC) (ht := (setS32 (setS32 (setS8 (setS8 (setS8 set6)))))) (hk := ?_); refine sA (hq := Quiet.move rfl (getS32 (getS32 (getS8 (getS8 (getS8 get6)))))) (ht := (setS32 (setS32 (setS8 (setS8 (setS8 set7)))))) (hk := ?_); refine sG (g := ((((((((((r1.1 == ((⟨#[77, 78, 84, 78, 0, 0, 0, 2]⟩ ++ (bytesOf (List.replicate (Int.toNat 24) 0))) ++ ⟨#[0, 0, 25, 161]⟩)) && (r1.2 == 0)) && (r2.1 == ⟨#[105, 109, 97, 103, 101, 32, 50, 32, 48, 32, 48, 32, 48, 32, 48, 10, 115, 116, 97, 114, 116, 115, 10]⟩)) && (r2.2 == 0)) && (r3.1 == ⟨#[105, 109, 97, 103, 101, 32, 56, 32, 48, 32, 48, 32, 48, 32, 56, 10, 115, 116, 97, 114, 116, 115, 32, 52, 10, 48, 32, 48, 48, 48, 48, 48, 48, 48, 48, 10, 52, 32, 48, 53, 50, 56, 102, 102, 102, 102, 32, 49, 32, 57, 32, 56, 32, 48, 32, 35, 45, 49, 10]⟩)) && (r3.2 == 0)) && (!r10)) && (!r11)) && (!r12)) && (r5.2 == 5))) (hg := gA_t rfl) (hq := fun hg => Quiet.move rfl (getS8 get7)) (ht := (setS32 (setS32 (setS32 set0)))) (hk := ?_); refine sG (g := ((((((((((r1.1 == ((⟨#[77, 78, 84, 78, 0, 0, 0, 2]⟩ ++ (bytesOf (List.replicate (Int.toNat 24) 0))) ++ ⟨#[0, 0, 25, 161]⟩)) && (r1.2 == 0)) && (r2.1 == ⟨#[105, 109, 97, 103, 101, 32, 50, 32, 48, 32, 48, 32, 48, 32, 48, 10, 115, 116, 97, 114, 116, 115, 10]⟩)) && (r2.2 == 0)) && (r3.1 == ⟨#[105, 109, 97, 103, 101, 32, 56, 32, 48, 32, 48, 32, 48, 32, 56, 10, 115, 116, 97, 114, 116, 115, 32, 52, 10, 48, 32, 48, 48, 48, 48, 48, 48, 48, 48, 10, 52, 32, 48, 53, 50, 56, 102, 102, 102, 102, 32, 49, 32, 57, 32, 56, 32, 48, 32, 35, 45, 49, 10]⟩)) && (r3.2 == 0)) && (!r10)) && (!r11)) && (!r12)) && (r5.2 == 5))) (hg := gA_t rfl) (hq := fun hg => Quiet.bin rfl ((getS32 (getS32 (getS32 get0))).trans (cndT hg _ _)) getC rfl) (ht := (setS32 (setS32 (setS32 set1)))) (hk := ?_); refine sA (hq := Quiet.pickAndB rfl (getS32 (getS32 (getS8 (getS8 (getS8 get7))))) (getS32 (getS32 (getS32 get1))) getC) (ht := (setS32 (setS32 (setS32 set2)))) (hk := ?_); refine sA (hq := Quiet.assign rfl (getS32 (getS32 (getS32 get2)))) (ht := set0) (hk := ?_); exact wEnd rfl)) (hk := ?_)
    obtain rfl := M.to_ok.1 H
    exact Awp.ret ⟨.inr rfl, Fin.cl rfl⟩
end Mu
end
section
/-
  '[]byte(text)' that is written to: bytes of the call's own, whatever the mark behind them.
  Conditions: none; generic.
-/
namespace Mu
open Go Go.RowKit Go.Proofs Go.ChangeShapes Go.WideShapes

def strR (e : TypeId) (g : Nat) (l : List Int) : Res := ⟨[], fun k => k = g, fun w _ => (∀ x ∈ l, wfI .u8 x) ∧ ∃ cs n, w.heap[g]? = some (.cells cs e (cs.size, n)) ∧ ∀ (j : Nat) (x : Int), l[j]? = some x → cs[j]? = some (.int .u8 x), fun h hk _ _ => ⟨h.1, let ⟨cs, n, h1, h2⟩ := h.2; ⟨cs, n, (hk g rfl).trans h1, h2⟩⟩⟩
def inN (n : Nat) (z : Int) : Bool := decide (0 ≤ z) && decide (z.toNat < n)
section
variable {P : Program} {C : Ctx} {o : Oper} {t : List AV} {h : List ABlk} {K : St → Prop}
theorem AOp.s2bR {src dst e : TypeId} {x : Operand} {s : ByteArray} [BytesT P dst e] [StrT P src] (ho : o.op = .convert src dst x) (hx : evA t x = .lit (.string s)) (_hl : s.size ≤ maxLen)
    (hK : ∀ p : Nat × Nat, K ⟨putA t o.dst (.lit (.slice (some ⟨p.1, 0, none⟩) (bytesL s).length p.2)), h ++ [.res (strR e p.1 (bytesL s))]⟩) : AOp P C o ⟨t, h⟩ K := by
  refine AOp.make_res (ι := Nat × Nat) (Rs := fun p => strR e p.1 (bytesL s)) (val := fun p => .slice (some ⟨p.1, 0, none⟩) (bytesL s).length p.2) (fun _ => rfl) (fun S ψ w ρ H hρ => ?_) hK
  have h1 := hρ x (by simp [ho, Op.operands])
  rw [hx] at h1
  unfold AV.rel at h1
  have hs : P.underlying src = some .string := StrT.eq
  have hd : P.underlying dst = some (.slice e) := BytesT.sl
  have he : P.underlying e = some (.int .u8) := BytesT.el (ty := dst)
  have hr := run_bytes_of_string (P := P) w src dst e s hs hd he
  have hrun : (execOp ρ o).run P w = .ok (.value (.slice (some ⟨w.heap.size, 0, none⟩) s.size (grownCap w s.size 0 e))) (w.drew.alloc (.cells (bytesRow s (grownCap w s.size 0 e)) e ((bytesRow s (grownCap w s.size 0 e)).size, (bytesRow s (grownCap w s.size 0 e)).size + 1))) := by
    simp [execOp, ho, h1, hr]
  rw [hrun]
  refine ⟨⟨rfl, rfl, rfl, by simp, fun k hk _ => heap_alloc_old w.drew _ hk⟩, (w.heap.size, grownCap w s.size 0 e), by rw [bytesL_len], ⟨fun x hx => ?_, ?_⟩, fun k hk => ?_⟩
  · unfold bytesL at hx
    obtain ⟨b, _, rfl⟩ := List.mem_map.1 hx
    have := b.toNat_lt
    unfold wfI
    simp only [Lit.wf, IntKind.min, IntKind.max, IntKind.signed, IntKind.bits]
    simp
    omega
  · refine ⟨bytesRow s (grownCap w s.size 0 e), _, heap_alloc_new w.drew _, fun j x hx => ?_⟩
    unfold bytesL at hx
    rw [List.getElem?_map] at hx
    cases hb' : s.data.toList[j]? with
    | none => rw [hb'] at hx; cases hx
    | some b =>
      rw [hb'] at hx
      simp only [Option.map_some, Option.some.injEq] at hx
      subst hx
      obtain ⟨hj, hbj⟩ := List.getElem?_eq_some_iff.1 hb'
      have hj' : j < s.data.size := by simpa using hj
      have hbj' : s.data[j] = b := by simpa using hbj
      unfold bytesRow
      rw [Array.getElem?_append_left (by simpa using hj')]
      simp [Array.getElem?_eq_getElem hj', hbj']
  · have hk : k = w.heap.size := hk
    subst hk
    exact ⟨.inr (Nat.le_refl _), by simp⟩
theorem Quiet.ixStr {ty : TypeId} {x y : Operand} {ik : IntKind} {g n c : Nat} {z : Int} [ES P ty 1] (ho : o.op = .indexAddr ty x y) (hx : evA t x = .lit (.slice (some ⟨g, 0, none⟩) n c)) (hy : evA t y = .lit (.int ik z)) (hz : inN n z = true) :
    Quiet P C t h o (.lit (.pointer (some ⟨g, z.toNat, none⟩))) := by
  unfold inN at hz
  simp only [Bool.and_eq_true, decide_eq_true_eq] at hz
  have e : z = (z.toNat : Int) := by omega
  have := Quiet.ixl (P := P) (n := 1) (C := C) (h := h) (k := z.toNat) ho hx (by rw [hy, ← e]) hz.2
  rwa [show 0 + z.toNat * 1 = z.toNat by omega] at this
theorem Quiet.ldStr {ty e : TypeId} {x : Operand} {i g : Nat} {l : List Int} {z : Int} [AG P ty false 1] (ho : o.op = .load ty x) (hx : evA t x = .lit (.pointer (some ⟨g, z.toNat, none⟩))) (hi : h[i]? = some (.res (strR e g l))) (hz : inBd l z = true) : Quiet P C t h o (.lit (.int .u8 (ixD l z))) :=
  Quiet.ld_res ho hx hi rfl fun w S hR => by
    obtain ⟨_, cs, n, h1, h2⟩ := hR
    refine ⟨.int .u8 (ixD l z), ?_, by unfold AV.rel; rfl⟩
    have := h2 _ _ (inB_get hz)
    simp [World.cell?, h1, this]
theorem AOp.stStr {ty e : TypeId} {x y : Operand} {i g : Nat} {l : List Int} {z v : Int} [SZ P ty 1] (ho : o.op = .store ty x y) (hx : evA t x = .lit (.pointer (some ⟨g, z.toNat, none⟩))) (hy : evA t y = .lit (.int .u8 v)) (hi : h[i]? = some (.res (strR e g l))) (hz : inBd l z = true) (hv : wfB .u8 v = true)
    (hK : K ⟨putA t o.dst (.lit undef), h.set i (.res (strR e g (l.set z.toNat v)))⟩) : AOp P C o ⟨t, h⟩ K := by
  refine AOp.turn (ι := Unit) (Rs := fun _ => strR e g (l.set z.toNat v)) (val := fun _ => undef) hi (fun _ => rfl) (fun S ψ w ρ H hR hlt hρ => ?_) (fun _ => hK)
  have h1 := hρ x (by simp [ho, Op.operands])
  have h2 := hρ y (by simp [ho, Op.operands])
  rw [hx] at h1
  rw [hy] at h2
  unfold AV.rel at h1 h2
  obtain ⟨hw, cs, n, hg, hc⟩ := (show (strR e g l).R w S from hR)
  have hget := hc _ _ (inB_get hz)
  obtain ⟨hjl, _⟩ := Array.getElem?_eq_some_iff.1 hget
  have hcell : w.cell? ⟨g, z.toNat, none⟩ = some (.int .u8 (ixD l z)) := by simp [World.cell?, hg, hget]
  have hfz : w.frozen? ⟨g, z.toNat, none⟩ = false := by
    simp only [World.frozen?, hg]
    simp
    omega
  have hsz : (P.info? ty).map (·.size) = some 1 := SZ.eq (P := P) (ty := ty) (n := 1)
  obtain ⟨inf, hi', hsi⟩ := Option.map_eq_some_iff.1 hsz
  have hst : (store ⟨g, z.toNat, none⟩ (.int .u8 v) .plain).run P w = .ok () (w.setCell ⟨g, z.toNat, none⟩ (.int .u8 v)) := by
    rw [run_store P w _ _ _ rfl, hcell]
    simp [hfz]
  have hrun : (execOp ρ o).run P w = .ok .skip (w.setCell ⟨g, z.toNat, none⟩ (.int .u8 v)) := by
    simp [execOp, ho, h1, h2, Instr.storeAt, Instr.sureAddr, storeVar, Go.sizeOf, typeInfo, hi', hsi, storeCells, Value.cells, Addr.add]
    rw [hst]
    rfl
  rw [hrun]
  have hh : (w.setCell ⟨g, z.toNat, none⟩ (.int .u8 v)).heap[g]? = some (.cells (cs.setIfInBounds z.toNat (.int .u8 v)) e ((cs.setIfInBounds z.toNat (.int .u8 v)).size, n)) := by
    simp [World.setCell, Array.getElem?_modify, hg]
  refine ⟨⟨rfl, rfl, rfl, by simp [World.setCell], fun k hk hn => ?_⟩, (), rfl, ⟨fun x hx => ?_, _, _, hh, fun j x hx => ?_⟩, fun k hk => ?_⟩
  · have : k ≠ g := fun e => hn e
    simp [World.setCell, Array.getElem?_modify, Ne.symm this]
  · rcases List.mem_or_eq_of_mem_set hx with hx | rfl
    · exact hw x hx
    · exact wfB_wf hv
  · by_cases hjz : j = z.toNat
    · subst hjz
      rw [List.getElem?_set_self (inB_iff.1 hz).2] at hx
      cases hx
      simp [hjl]
    · rw [List.getElem?_set_ne (Ne.symm hjz)] at hx
      rw [Array.getElem?_setIfInBounds_ne (Ne.symm hjz)]
      exact hc j x hx
  · have hk : k = g := hk
    subst hk
    exact ⟨.inl rfl, (Array.getElem?_eq_some_iff.1 hh).1⟩
theorem Quiet.b2sR {src dst e e' : TypeId} {x : Operand} {i g n c : Nat} {l : List Int} [BytesT P src e] [StrT P dst] (ho : o.op = .convert src dst x) (hx : evA t x = .lit (.slice (some ⟨g, 0, none⟩) n c)) (hi : h[i]? = some (.res (strR e' g l))) (hn : decide (l.length = n) = true) : Quiet P C t h o (.lit (.string (bytesOf l))) :=
  Quiet.of_run fun S ψ w ρ H hρ => by
    have h1 := hρ x (by simp [ho, Op.operands])
    rw [hx] at h1
    unfold AV.rel at h1
    obtain ⟨hw, cs, m, hg, hc⟩ := (show (strR e' g l).R w S from (H.blk _ _ hi).2)
    have hs : P.underlying src = some (.slice e) := BytesT.sl
    have he : P.underlying e = some (.int .u8) := BytesT.el (ty := src)
    have hd : P.underlying dst = some .string := StrT.eq
    have hn := of_decide_eq_true hn
    have hb : ∀ j (hj : j < (l.map fun n => UInt8.ofNat n.toNat).length), w.cell? (Addr.add ⟨g, 0, none⟩ j) = some (.int .u8 (((l.map fun n => UInt8.ofNat n.toNat)[j]).toNat : Int)) := fun j hj => by
      have hj' : j < l.length := by simpa using hj
      have hx := hc j _ (List.getElem?_eq_getElem hj')
      have hwf := wf_u8 (hw _ (List.getElem_mem hj'))
      rw [show Addr.add ⟨g, 0, none⟩ j = ⟨g, j, none⟩ from by simp [Addr.add]; exact fun h => h.symm, List.getElem_map]
      have e1 : (((UInt8.ofNat (l[j]).toNat).toNat : Nat) : Int) = l[j] := by
        simp only [UInt8.toNat_ofNat']
        omega
      rw [e1]
      simp [World.cell?, hg, hx]
    have := run_convert_bytes_back (P := P) w src dst e ⟨g, 0, none⟩ c (l.map fun n => UInt8.ofNat n.toNat) hs he hd hb
    rw [List.length_map, hn] at this
    exact ⟨_, by simp [execOp, ho, h1, this]; rfl, by unfold AV.rel; rfl⟩
theorem wRK {l : List Oper} {y : Code} {id : Nat} {Q : Exit → St → Prop} {s : St} (hx : ∀ K : St → Prop, (∀ s', Awp P C y Q s' → K s') → aSeq P C l.toArray K l s) : Awp P C (.seq (.region id l.toArray false) y) Q s := Awp.seq fun _ hK => Awp.region (hx _ hK)
end
end Mu
end
section
/-
  Images of bytes that are turned: what muntinlaw31.ImageTurned computes.
  Conditions: what is laid (GL).
-/
namespace Mu
open Go Go.RowKit Go.Proofs

def law31_ImageTurned_L17 (at1 : Int) (by2 : Int) (r5 : ByteArray × Int) : (Int × (List Int)) → M ((Int × (List Int)) ⊕ ((List Int))) := fun (i13, l14) => M.cnd (decide (i13 < 4)) (M.chk (inN (bytesL r5.1).length (IntKind.i64.wrap ((IntKind.i64.wrap (4 + (IntKind.i64.wrap (4 * (Int.tmod (IntKind.i64.wrap at1) (IntKind.i64.wrap ((IntKind.i64.wrap (Int.tdiv ((bytesL r5.1).length : Int) 4)) - 1))))))) + i13))) (M.chk (inBd l14 (IntKind.i64.wrap ((IntKind.i64.wrap (4 + (IntKind.i64.wrap (4 * (Int.tmod (IntKind.i64.wrap at1) (IntKind.i64.wrap ((IntKind.i64.wrap (Int.tdiv ((bytesL r5.1).length : Int) 4)) - 1))))))) + i13))) (M.chk (decide (0 ≤ (IntKind.u64.wrap (IntKind.i64.wrap (8 * i13))))) (M.chk (wfB .u8 (bits .xor .u8 (ixD l14 (IntKind.i64.wrap ((IntKind.i64.wrap (4 + (IntKind.i64.wrap (4 * (Int.tmod (IntKind.i64.wrap at1) (IntKind.i64.wrap ((IntKind.i64.wrap (Int.tdiv ((bytesL r5.1).length : Int) 4)) - 1))))))) + i13))) (IntKind.u8.wrap (shrV .u32 by2 (IntKind.u64.wrap (IntKind.i64.wrap (8 * i13))))))) (M.ok (.inl (IntKind.i64.wrap (i13 + 1), l14.set (Int.toNat (IntKind.i64.wrap ((IntKind.i64.wrap (4 + (IntKind.i64.wrap (4 * (Int.tmod (IntKind.i64.wrap at1) (IntKind.i64.wrap ((IntKind.i64.wrap (Int.tdiv ((bytesL r5.1).length : Int) 4)) - 1))))))) + i13))) (bits .xor .u8 (ixD l14 (IntKind.i64.wrap ((IntKind.i64.wrap (4 + (IntKind.i64.wrap (4 * (Int.tmod (IntKind.i64.wrap at1) (IntKind.i64.wrap ((IntKind.i64.wrap (Int.tdiv ((bytesL r5.1).length : Int) 4)) - 1))))))) + i13))) (IntKind.u8.wrap (shrV .u32 by2 (IntKind.u64.wrap (IntKind.i64.wrap (8 * i13))))))))))))) (M.ok (.inr l14))
def law31_ImageTurned (x : Img) (at1 : Int) (by2 : Int) : M Bool := M.bnd (law31_great x) fun r2 => M.cnd r2 (M.bnd law31_head fun r4 => M.ok r4) (M.bnd (image_Put x) fun r5 => M.cnd ((r5.2 != 0) || (decide ((r5.1.size : Int) < 36))) (M.bnd (M.whn (r5.2 == 5) false law31_head) fun r8 => M.ok ((r5.2 == 5) && r8)) (M.chk (strB r5.1) (M.chk ((IntKind.i64.wrap ((IntKind.i64.wrap (Int.tdiv ((bytesL r5.1).length : Int) 4)) - 1)) != 0) (M.bnd (M.loop (law31_ImageTurned_L17 at1 by2 r5) (0, bytesL r5.1)) fun l16 => M.chk (decide (l16.length = (bytesL r5.1).length)) (M.bnd (image_Get (bytesOf l16)) fun r25 => M.chk ((r5.1.size : Int) != 0) (M.chk (cutB r5.1 0 (Int.tmod (IntKind.i64.wrap at1) (r5.1.size : Int))) (M.bnd (image_Get (cutD r5.1 0 (Int.tmod (IntKind.i64.wrap at1) (r5.1.size : Int)))) fun r28 => M.chk (wfB .u8 (IntKind.u8.wrap by2)) (M.chk (catB r5.1 (bytesOf [IntKind.u8.wrap by2])) (M.bnd (image_Get (r5.1 ++ (bytesOf [IntKind.u8.wrap by2]))) fun r31 => M.chk (makB 4 1) (M.chk (catB r5.1 (bytesOf (List.replicate (Int.toNat 4) 0))) (M.bnd (image_Get (r5.1 ++ (bytesOf (List.replicate (Int.toNat 4) 0)))) fun r34 => M.bnd (M.whn (((((r25.2 == 0) == (by2 == 0)) && (r28.2 == 5)) && (r31.2 == 5)) && (r34.2 == 5)) false law31_head) fun r35 => M.ok ((((((r25.2 == 0) == (by2 == 0)) && (r28.2 == 5)) && (r31.2 == 5)) && (r34.2 == 5)) && r35))))))))))))
set_option maxRecDepth 100000 in
set_option maxHeartbeats 4000000 in
theorem law31_ImageTurned_l {x : Img} {at1 : Int} {by2 : Int} {r : Bool} (H : (law31_ImageTurned x at1 by2).to r) : FnT GL Tryd.prog 5 [.agg (encImg x), .lit (.int .u32 at1), .lit (.int .u32 by2)] (.lit (.bool r)) := by
  delta law31_ImageTurned at H
  try dsimp only at H
  have hL := gl_lasts
  refine FnT.of_awp Tryd.func5 rfl (by kernel_rfl) rfl Tryd.ntmps5 fun C hC hG => ?_
  simp only [List.length_cons, List.length_nil, Nat.reduceAdd, Nat.reduceSub, List.replicate_succ, List.replicate_zero, List.cons_append, List.nil_append]
  refine wR (hx := by ((refine aSeq_t rfl (AOp.boxI 0 rfl rfl Parts0.agg ?_); refine sNtM (ht := set3) (hk := ?_)); refine sA (hq := Quiet.assign rfl getC) (ht := set6) (hk := ?_); exact wEnd rfl)) (hk := ?_)
  refine Awp.seq fun Khs1 hs1 => ?_
  obtain ⟨r2, k2, H⟩ := M.to_bnd.1 H
  have k2 := law31_great_l k2
  refine wR (hx := by (refine sA (hq := Quiet.loadA_ptr rfl get3 rfl rfl) (ht := (setS8 (setS8 set4))) (hk := ?_); refine sA (hq := Quiet.callA rfl rfl k2 rfl rfl) (ht := (setS8 (setS8 set5))) (hk := ?_); exact wEnd rfl)) (hk := ?_)
  refine Awp.cond rfl (fun hb3 => ?_) (fun hb3 => ?_)
  · have H := M.to_t hb3 H
    obtain ⟨r4, k4, H⟩ := M.to_bnd.1 H
    have k4 := law31_head_l k4
    refine wR (hx := by (refine sA (hq := Quiet.callTA rfl rfl hC hL hG k4 rfl rfl) (ht := (setS8 (setS8 set6))) (hk := ?_); refine sA (hq := Quiet.assign rfl (getS8 (getS8 get6))) (ht := set6) (hk := ?_); exact wEnd rfl)) (hk := ?_)
    obtain rfl := M.to_ok.1 H
    exact Awp.ret ⟨.inr rfl, Fin.cl rfl⟩
  · have H := M.to_f hb3 H
    refine Awp.skip ?_
    refine hs1 _ ?_
    refine nT (hk := ?_)
    obtain ⟨r5, k5, H⟩ := M.to_bnd.1 H
    have k5 := image_Put_l k5
    refine wR (hx := by (refine sA (hq := Quiet.loadA_ptr rfl get3 rfl rfl) (ht := (setS8 (setS8 (setS8 set0)))) (hk := ?_); refine sA (hq := Quiet.callA rfl rfl k5 rfl rfl) (ht := (setS8 (setS8 (setS8 set1)))) (hk := ?_); refine sA (hq := Quiet.move rfl (getS8 (getS8 (getS8 get1)))) (ht := (setS8 (setS8 set7))) (hk := ?_); refine sA (hq := Quiet.extract rfl (getS8 (getS8 get7)) rfl) (ht := (setS8 (setS8 (setS8 set2)))) (hk := ?_); refine sA (hq := Quiet.extract rfl (getS8 (getS8 get7)) rfl) (ht := (setS8 (setS8 (setS8 set3)))) (hk := ?_); refine sA (hq := Quiet.assign rfl (getS8 (getS8 (getS8 get2)))) (ht := set7) (hk := ?_); refine sA (hq := Quiet.assign rfl (getS8 (getS8 (getS8 get3)))) (ht := (setS8 set0)) (hk := ?_); exact wEnd rfl)) (hk := ?_)
    refine Awp.seq fun Khs6 hs6 => ?_
    refine wR (hx := by (refine sA (hq := Quiet.move rfl (getS8 get0)) (ht := (setS8 (setS8 (setS8 set4)))) (hk := ?_); refine sA (hq := Quiet.bin rfl (getS8 (getS8 (getS8 get4))) getC rfl) (ht := (setS8 (setS8 (setS8 set5)))) (hk := ?_); refine sA (hq := Quiet.move rfl (getS8 (getS8 (getS8 get5)))) (ht := (setS8 (setS8 (setS8 set6)))) (hk := ?_); refine sG (g := (!(r5.2 != 0))) (hg := gA_f rfl) (hq := fun hg => Quiet.move rfl get7) (ht := (setS8 (setS8 (setS8 set7)))) (hk := ?_); refine sG (g := (!(r5.2 != 0))) (hg := gA_f rfl) (hq := fun hg => Quiet.lnS rfl ((getS8 (getS8 (getS8 get7))).trans (cndT hg _ _))) (ht := (setS32 set0)) (hk := ?_); refine sG (g := (!(r5.2 != 0))) (hg := gA_f rfl) (hq := fun hg => Quiet.bin rfl ((getS32 get0).trans (cndT hg _ _)) getC rfl) (ht := (setS32 set1)) (hk := ?_); refine sA (hq := Quiet.pickOrB rfl (getS8 (getS8 (getS8 get6))) getC (getS32 get1)) (ht := (setS32 set2)) (hk := ?_); exact wEnd rfl)) (hk := ?_)
    refine Awp.cond rfl (fun hb7 => ?_) (fun hb7 => ?_)
    · have H := M.to_t hb7 H
      obtain ⟨r8, k8, H⟩ := M.to_bnd.1 H
      refine wR (hx := by (refine sA (hq := Quiet.move rfl (getS8 get0)) (ht := (setS32 set3)) (hk := ?_); refine sA (hq := Quiet.bin rfl (getS32 get3) getC rfl) (ht := (setS32 set4)) (hk := ?_); refine sA (hq := Quiet.move rfl (getS32 get4)) (ht := (setS32 set5)) (hk := ?_); refine sG (g := (r5.2 == 5)) (hg := gA_t rfl) (hq := fun hg => by ((try simp only [cndT hg]); (try simp only [cndA hg]); exact Quiet.callTA rfl rfl hC hL hG (law31_head_l (M.to_whn k8 hg)) rfl rfl)) (ht := (setS32 set6)) (hk := ?_); refine sA (hq := Quiet.pickAndB rfl (getS32 get5) (getS32 get6) getC) (ht := (setS32 set7)) (hk := ?_); refine sA (hq := Quiet.assign rfl (getS32 get7)) (ht := set6) (hk := ?_); exact wEnd rfl)) (hk := ?_)
      obtain rfl := M.to_ok.1 H
      exact Awp.ret ⟨.inr rfl, Fin.cl rfl⟩
    · have H := M.to_f hb7 H
      refine Awp.skip ?_
      refine hs6 _ ?_
      refine nT (hk := ?_)
      obtain ⟨c9, H⟩ := M.to_chk.1 H
      refine wRK fun K11 hK11 => ?_
      refine sA (hq := Quiet.move rfl get7) (ht := (setS32 (setS8 set0))) (hk := ?_)
      (refine aSeq_t rfl (AOp.s2bR (e := 5) rfl (getS32 (getS8 get0)) (strB_le c9) fun p10 => ?_); refine sNtM (ht := (setS32 (setS8 set1))) (hk := ?_))
      refine sA (hq := Quiet.assign rfl (getS32 (getS8 get1))) (ht := (setS8 set1)) (hk := ?_)
      refine aSeq_nil (hK11 _ ?_)
      obtain ⟨c12, H⟩ := M.to_chk.1 H
      refine wR (hx := by (refine sA (hq := Quiet.move rfl get1) (ht := (setS32 (setS8 set2))) (hk := ?_); refine sA (hq := Quiet.cv rfl (getS32 (getS8 get2)) rfl) (ht := (setS32 (setS8 set3))) (hk := ?_); refine sA (hq := Quiet.move rfl (getS8 get1)) (ht := (setS32 (setS8 set4))) (hk := ?_); refine sA (hq := Quiet.lnl rfl (getS32 (getS8 get4))) (ht := (setS32 (setS8 set5))) (hk := ?_); refine sA (hq := Quiet.quoM rfl (getS32 (getS8 get5)) getC rfl) (ht := (setS32 (setS8 set6))) (hk := ?_); refine sA (hq := Quiet.bin rfl (getS32 (getS8 get6)) getC rfl) (ht := (setS32 (setS8 set7))) (hk := ?_); refine sA (hq := Quiet.remM rfl (getS32 (getS8 get3)) (getS32 (getS8 get7)) c12) (ht := (setS32 (setS8 (setS8 set0)))) (hk := ?_); refine sA (hq := Quiet.bin rfl getC (getS32 (getS8 (getS8 get0))) rfl) (ht := (setS32 (setS8 (setS8 set1)))) (hk := ?_); refine sA (hq := Quiet.bin rfl getC (getS32 (getS8 (getS8 get1))) rfl) (ht := (setS32 (setS8 (setS8 set2)))) (hk := ?_); refine sA (hq := Quiet.assign rfl (getS32 (getS8 (getS8 get2)))) (ht := (setS8 set2)) (hk := ?_); exact wEnd rfl)) (hk := ?_)
      obtain ⟨z15, HX15, Hl15⟩ := M.to_bnd.1 H
      refine Awp.seqJ (β := ((List Int)) × (Unit)) (fun q15 => z15 = q15.1) (fun q15 => ⟨.any :: .lit (.int .u32 at1) :: .lit (.int .u32 by2) :: .any :: .any :: .any :: .any :: .lit (.string r5.1) :: .any :: .lit (.slice (some ⟨p10.1, 0, none⟩) (bytesL r5.1).length p10.2) :: .any :: .any :: .any :: .any :: .any :: .any :: .any :: .any :: .any :: .any :: .any :: .any :: .any :: .any :: .any :: .any :: .any :: .any :: .any :: .any :: .any :: .any :: .any :: .any :: .any :: .any :: .any :: .any :: .any :: .any :: .any :: .any :: .any :: .any :: .any :: .any :: .any :: .any :: .any :: .any :: .any :: .any :: .any :: .any :: .any :: .any :: .any :: .any :: .any :: .any :: .any :: .any :: .any :: .any :: .any :: .any :: .any :: .any :: .any :: .any :: .any :: .any :: .any :: .any :: .any :: .any :: .any :: .any :: .any :: .any :: .any :: .any :: .any :: .any :: .any :: .any :: .any :: .any :: .any :: .any :: .any :: .any :: .any :: .any :: .any :: .any :: .any :: .any :: .any :: .any :: .any :: .any :: .any :: .any :: .any :: .any :: .any :: .any :: .any :: .any :: .any :: .any :: .any :: .any :: .any :: .any :: .any :: .any :: .any :: .any :: .any :: .any :: .any :: .any :: .any :: .any :: .any :: .any :: [], [.dead, .res (strR 5 p10.1 q15.1)]⟩) ?_ ?_
      · refine wR (hx := by (refine sA (hq := Quiet.assign rfl getC) (ht := (setS8 set3)) (hk := ?_); exact wEnd rfl)) (hk := ?_)
        refine Awp.block ?_
        refine Awp.loopM HX15 (fun s15 b15 => ⟨.any :: .lit (.int .u32 at1) :: .lit (.int .u32 by2) :: .any :: .any :: .any :: .any :: .lit (.string r5.1) :: .any :: .lit (.slice (some ⟨p10.1, 0, none⟩) (bytesL r5.1).length p10.2) :: .lit (.int .i64 (IntKind.i64.wrap (4 + (IntKind.i64.wrap (4 * (Int.tmod (IntKind.i64.wrap at1) (IntKind.i64.wrap ((IntKind.i64.wrap (Int.tdiv ((bytesL r5.1).length : Int) 4)) - 1)))))))) :: .lit (.int .i64 s15.1) :: .any :: .any :: .any :: .any :: .any :: .any :: .any :: .any :: .any :: .any :: .any :: .any :: .any :: .any :: .any :: .any :: .any :: .any :: .any :: .any :: .any :: .any :: .any :: .any :: .any :: .any :: .any :: .any :: .any :: .any :: .any :: .any :: .any :: .any :: .any :: .any :: .any :: .any :: .any :: .any :: .any :: .any :: .any :: .any :: .any :: .any :: .any :: .any :: .any :: .any :: .any :: .any :: .any :: .any :: .any :: .any :: .any :: .any :: .any :: .any :: .any :: .any :: .any :: .any :: .any :: .any :: .any :: .any :: .any :: .any :: .any :: .any :: .any :: .any :: .any :: .any :: .any :: .any :: .any :: .any :: .any :: .any :: .any :: .any :: .any :: .any :: .any :: .any :: .any :: .any :: .any :: .any :: .any :: .any :: .any :: .any :: .any :: .any :: .any :: .any :: .any :: .any :: .any :: .any :: .any :: .any :: .any :: .any :: .any :: .any :: .any :: .any :: .any :: .any :: .any :: .any :: [], [.dead, .res (strR 5 p10.1 s15.2)]⟩) () (?_) ?_
        · try dsimp only
          exact leC (Cut.dead (Cut.cons (Cut.nil _)))
        · rintro ⟨i13, l14⟩ _ x15 H Hr15
          try dsimp only
          dsimp only [law31_ImageTurned_L17] at H
          refine Awp.seq fun Khs17 hs17 => ?_
          refine wR (hx := by (refine sA (hq := Quiet.move rfl (getS8 get3)) (ht := (setS32 (setS8 (setS8 set3)))) (hk := ?_); refine sA (hq := Quiet.bin rfl (getS32 (getS8 (getS8 get3))) getC rfl) (ht := (setS32 (setS8 (setS8 set4)))) (hk := ?_); exact wEnd rfl)) (hk := ?_)
          refine Awp.cond rfl (fun hb18 => ?_) (fun hb18 => ?_)
          · have H := M.to_t hb18 H
            refine Awp.skip ?_
            refine hs17 _ ?_
            refine nT (hk := ?_)
            refine Awp.seq fun Khs19 hs19 => ?_
            refine Awp.block ?_
            obtain ⟨c20, H⟩ := M.to_chk.1 H
            obtain ⟨c21, H⟩ := M.to_chk.1 H
            obtain ⟨c22, H⟩ := M.to_chk.1 H
            obtain ⟨c23, H⟩ := M.to_chk.1 H
            refine wRE (hx := by (refine sA (hq := Quiet.move rfl (getS8 get1)) (ht := (setS32 (setS8 (setS8 set7)))) (hk := ?_); refine sA (hq := Quiet.move rfl (getS8 get2)) (ht := (setS32 (setS8 (setS8 (setS8 set0))))) (hk := ?_); refine sA (hq := Quiet.move rfl (getS8 get3)) (ht := (setS32 (setS8 (setS8 (setS8 set1))))) (hk := ?_); refine sA (hq := Quiet.bin rfl (getS32 (getS8 (getS8 (getS8 get0)))) (getS32 (getS8 (getS8 (getS8 get1)))) rfl) (ht := (setS32 (setS8 (setS8 (setS8 set2))))) (hk := ?_); refine sA (hq := Quiet.move rfl (getS8 get1)) (ht := (setS32 (setS8 (setS8 (setS8 set3))))) (hk := ?_); refine sA (hq := Quiet.move rfl (getS8 get2)) (ht := (setS32 (setS8 (setS8 (setS8 set4))))) (hk := ?_); refine sA (hq := Quiet.move rfl (getS8 get3)) (ht := (setS32 (setS8 (setS8 (setS8 set5))))) (hk := ?_); refine sA (hq := Quiet.bin rfl (getS32 (getS8 (getS8 (getS8 get4)))) (getS32 (getS8 (getS8 (getS8 get5)))) rfl) (ht := (setS32 (setS8 (setS8 (setS8 set6))))) (hk := ?_); refine sA (hq := Quiet.ixStr rfl (getS32 (getS8 (getS8 (getS8 get3)))) (getS32 (getS8 (getS8 (getS8 get6)))) c20) (ht := (setS32 (setS8 (setS8 (setS8 set7))))) (hk := ?_); refine sA (hq := Quiet.ldStr (i := 1) rfl (getS32 (getS8 (getS8 (getS8 get7)))) rfl c21) (ht := (setS32 (setS32 set0))) (hk := ?_); refine sA (hq := Quiet.move rfl get2) (ht := (setS32 (setS32 set1))) (hk := ?_); refine sA (hq := Quiet.move rfl (getS8 get3)) (ht := (setS32 (setS32 set2))) (hk := ?_); refine sA (hq := Quiet.bin rfl getC (getS32 (getS32 get2)) rfl) (ht := (setS32 (setS32 set3))) (hk := ?_); refine sA (hq := Quiet.cv rfl (getS32 (getS32 get3)) rfl) (ht := (setS32 (setS32 set4))) (hk := ?_); refine sA (hq := Quiet.shrM rfl (getS32 (getS32 get1)) (getS32 (getS32 get4)) c22) (ht := (setS32 (setS32 set5))) (hk := ?_); refine sA (hq := Quiet.cv rfl (getS32 (getS32 get5)) rfl) (ht := (setS32 (setS32 set6))) (hk := ?_); refine sA (hq := Quiet.bit rfl (getS32 (getS32 get0)) (getS32 (getS32 get6)) rfl rfl) (ht := (setS32 (setS32 set7))) (hk := ?_); refine sA (hq := Quiet.ixStr rfl (getS32 (getS8 (getS8 get7))) (getS32 (getS8 (getS8 (getS8 get2)))) c20) (ht := (setS32 (setS32 (setS8 set0)))) (hk := ?_); (refine aSeq_t rfl (AOp.stStr (i := 1) rfl rfl rfl rfl c21 c23 ?_); refine sNtM (ht := setN) (hk := ?_)); exact wEnd rfl)) (hk := ?_)
            refine hs19 _ ?_
            refine nT (hk := ?_)
            refine wRE (hx := by (refine sA (hq := Quiet.move rfl (getS8 get3)) (ht := (setS32 (setS8 (setS8 set5)))) (hk := ?_); refine sA (hq := Quiet.bin rfl (getS32 (getS8 (getS8 get5))) getC rfl) (ht := (setS32 (setS8 (setS8 set6)))) (hk := ?_); refine sA (hq := Quiet.assign rfl (getS32 (getS8 (getS8 get6)))) (ht := (setS8 set3)) (hk := ?_); exact wEnd rfl)) (hk := ?_)
            have e15 := M.to_ok.1 H
            repeat (first | refine abN ?_ | refine asN ?_)
            refine athen_n ⟨_, (), e15.symm, ?_⟩
            try dsimp only
            exact le_TA
          · have H := M.to_f hb18 H
            refine Awp.exit ?_
            repeat (first | refine athen_e ?_ | refine exO (by decide) ?_ | refine asE ?_)
            refine exN ?_
            have e15 := Hr15 _ (M.to_ok.1 H).symm
            repeat (first | refine abN ?_ | refine asN ?_)
            refine athen_n ⟨(_, ()), e15.symm, ?_⟩
            try dsimp only
            exact le_TA
      · rintro ⟨l16, _⟩ hz15
        try dsimp only at hz15
        have H := Hl15
        rw [hz15] at H
        try dsimp only
        obtain ⟨c24, H⟩ := M.to_chk.1 H
        obtain ⟨r25, k25, H⟩ := M.to_bnd.1 H
        have k25 := image_Get_l k25
        refine wR (hx := by (refine sA (hq := Quiet.move rfl (getS8 get1)) (ht := (setS32 (setS32 (setS8 set2)))) (hk := ?_); refine sA (hq := Quiet.b2sR (i := 1) rfl (getS32 (getS32 (getS8 get2))) rfl c24) (ht := (setS32 (setS32 (setS8 set3)))) (hk := ?_); refine sA (hq := Quiet.callA rfl rfl k25 rfl rfl) (ht := (setS32 (setS32 (setS8 set4)))) (hk := ?_); refine sA (hq := Quiet.move rfl (getS32 (getS32 (getS8 get4)))) (ht := (setS32 (setS32 (setS8 set1)))) (hk := ?_); refine sA (hq := Quiet.extract rfl (getS32 (getS32 (getS8 get1))) rfl) (ht := (setS32 (setS32 (setS8 set5)))) (hk := ?_); refine sA (hq := Quiet.extract rfl (getS32 (getS32 (getS8 get1))) rfl) (ht := (setS32 (setS32 (setS8 set6)))) (hk := ?_); (refine aSeq_t rfl (AOp.alI 2 rfl rfl ?_); refine sNtM (ht := (setS8 set4)) (hk := ?_)); (refine aSeq_t rfl (AOp.stBox rfl rfl rfl (Parts.aggB rfl) rfl (Nat.le_of_ble_eq_true rfl) ?_); refine sNtM (ht := setN) (hk := ?_)); refine sA (hq := Quiet.assign rfl (getS32 (getS32 (getS8 get6)))) (ht := (setS8 set5)) (hk := ?_); exact wEnd rfl)) (hk := ?_)
        obtain ⟨c26, H⟩ := M.to_chk.1 H
        obtain ⟨c27, H⟩ := M.to_chk.1 H
        obtain ⟨r28, k28, H⟩ := M.to_bnd.1 H
        have k28 := image_Get_l k28
        refine wR (hx := by (refine sA (hq := Quiet.move rfl get7) (ht := (setS32 (setS32 (setS8 (setS8 set0))))) (hk := ?_); refine sA (hq := Quiet.move rfl get1) (ht := (setS32 (setS32 (setS8 (setS8 set1))))) (hk := ?_); refine sA (hq := Quiet.cv rfl (getS32 (getS32 (getS8 (getS8 get1)))) rfl) (ht := (setS32 (setS32 (setS8 (setS8 set2))))) (hk := ?_); refine sA (hq := Quiet.move rfl get7) (ht := (setS32 (setS32 (setS8 (setS8 set3))))) (hk := ?_); refine sA (hq := Quiet.lnS rfl (getS32 (getS32 (getS8 (getS8 get3))))) (ht := (setS32 (setS32 (setS8 (setS8 set4))))) (hk := ?_); refine sA (hq := Quiet.remM rfl (getS32 (getS32 (getS8 (getS8 get2)))) (getS32 (getS32 (getS8 (getS8 get4)))) c26) (ht := (setS32 (setS32 (setS8 (setS8 set5))))) (hk := ?_); refine sA (hq := Quiet.cutHM rfl rfl rfl c27) (ht := (setS32 (setS32 (setS8 (setS8 set6))))) (hk := ?_); refine sA (hq := Quiet.callA rfl rfl k28 rfl rfl) (ht := (setS32 (setS32 (setS8 (setS8 set7))))) (hk := ?_); refine sA (hq := Quiet.move rfl (getS32 (getS32 (getS8 (getS8 get7))))) (ht := (setS32 (setS32 (setS8 set7)))) (hk := ?_); refine sA (hq := Quiet.extract rfl (getS32 (getS32 (getS8 get7))) rfl) (ht := (setS32 (setS32 (setS8 (setS8 (setS8 set0)))))) (hk := ?_); refine sA (hq := Quiet.extract rfl (getS32 (getS32 (getS8 get7))) rfl) (ht := (setS32 (setS32 (setS8 (setS8 (setS8 set1)))))) (hk := ?_); (refine aSeq_t rfl (AOp.alI 3 rfl rfl ?_); refine sNtM (ht := (setS8 set6)) (hk := ?_)); (refine aSeq_t rfl (AOp.stBox rfl rfl rfl (Parts.aggB rfl) rfl (Nat.le_of_ble_eq_true rfl) ?_); refine sNtM (ht := setN) (hk := ?_)); refine sA (hq := Quiet.assign rfl (getS32 (getS32 (getS8 (getS8 (getS8 get1)))))) (ht := (setS8 set7)) (hk := ?_); exact wEnd rfl)) (hk := ?_)
        obtain ⟨c29, H⟩ := M.to_chk.1 H
        obtain ⟨c30, H⟩ := M.to_chk.1 H
        obtain ⟨r31, k31, H⟩ := M.to_bnd.1 H
        have k31 := image_Get_l k31
        refine wR (hx := by (refine sA (hq := Quiet.move rfl get7) (ht := (setS32 (setS32 (setS8 (setS8 (setS8 set3)))))) (hk := ?_); refine sA (hq := Quiet.move rfl get2) (ht := (setS32 (setS32 (setS8 (setS8 (setS8 set4)))))) (hk := ?_); refine sA (hq := Quiet.cv rfl (getS32 (getS32 (getS8 (getS8 (getS8 get4))))) rfl) (ht := (setS32 (setS32 (setS8 (setS8 (setS8 set5)))))) (hk := ?_); refine sA (hq := Quiet.lt (xs := [.tmp 93]) (T := (Ty.int .u8)) (ds := [IntKind.u8.wrap by2]) rfl rfl rfl (by rfl) (by decide) (.cons (Fit.int c29) .nil)) (ht := (setS32 (setS32 (setS8 (setS8 (setS8 set6)))))) (hk := ?_); refine sA (hq := Quiet.b2s rfl rfl) (ht := (setS32 (setS32 (setS8 (setS8 (setS8 set7)))))) (hk := ?_); refine sA (hq := Quiet.cat rfl (getS32 (getS32 (getS8 (getS8 (getS8 get3))))) (getS32 (getS32 (getS8 (getS8 (getS8 get7))))) (catB_le c30)) (ht := (setS32 (setS32 (setS32 set0)))) (hk := ?_); refine sA (hq := Quiet.callA rfl rfl k31 rfl rfl) (ht := (setS32 (setS32 (setS32 set1)))) (hk := ?_); refine sA (hq := Quiet.move rfl (getS32 (getS32 (getS32 get1)))) (ht := (setS32 (setS32 (setS8 (setS8 (setS8 set2)))))) (hk := ?_); refine sA (hq := Quiet.extract rfl (getS32 (getS32 (getS8 (getS8 (getS8 get2))))) rfl) (ht := (setS32 (setS32 (setS32 set2)))) (hk := ?_); refine sA (hq := Quiet.extract rfl (getS32 (getS32 (getS8 (getS8 (getS8 get2))))) rfl) (ht := (setS32 (setS32 (setS32 set3)))) (hk := ?_); (refine aSeq_t rfl (AOp.alI 4 rfl rfl ?_); refine sNtM (ht := (setS8 (setS8 set0))) (hk := ?_)); (refine aSeq_t rfl (AOp.stBox rfl rfl rfl (Parts.aggB rfl) rfl (Nat.le_of_ble_eq_true rfl) ?_); refine sNtM (ht := setN) (hk := ?_)); refine sA (hq := Quiet.assign rfl (getS32 (getS32 (getS32 get3)))) (ht := (setS8 (setS8 set1))) (hk := ?_); exact wEnd rfl)) (hk := ?_)
        obtain ⟨c32, H⟩ := M.to_chk.1 H
        obtain ⟨c33, H⟩ := M.to_chk.1 H
        obtain ⟨r34, k34, H⟩ := M.to_bnd.1 H
        have k34 := image_Get_l k34
        refine wR (hx := by (refine sA (hq := Quiet.move rfl get7) (ht := (setS32 (setS32 (setS32 set5)))) (hk := ?_); (refine aSeq_t rfl (AOp.mkI 5 rfl (T := (Ty.int .u8)) (e := 5) (v := .int .u8 0) (bytes := 1) (0 : Int) rfl (by kernel_rfl) rfl (fun _ _ => ⟨rfl, by decide⟩) rfl rfl c32 ?_); refine sNtM (ht := (setS32 (setS32 (setS32 set6)))) (hk := ?_)); refine sA (hq := Quiet.b2sO rfl rfl rfl) (ht := (setS32 (setS32 (setS32 set7)))) (hk := ?_); refine sA (hq := Quiet.cat rfl (getS32 (getS32 (getS32 get5))) (getS32 (getS32 (getS32 get7))) (catB_le c33)) (ht := (setS32 (setS32 (setS32 (setS8 set0))))) (hk := ?_); refine sA (hq := Quiet.callA rfl rfl k34 rfl rfl) (ht := (setS32 (setS32 (setS32 (setS8 set1))))) (hk := ?_); refine sA (hq := Quiet.move rfl (getS32 (getS32 (getS32 (getS8 get1))))) (ht := (setS32 (setS32 (setS32 set4)))) (hk := ?_); refine sA (hq := Quiet.extract rfl (getS32 (getS32 (getS32 get4))) rfl) (ht := (setS32 (setS32 (setS32 (setS8 set2))))) (hk := ?_); refine sA (hq := Quiet.extract rfl (getS32 (getS32 (getS32 get4))) rfl) (ht := (setS32 (setS32 (setS32 (setS8 set3))))) (hk := ?_); (refine aSeq_t rfl (AOp.alI 6 rfl rfl ?_); refine sNtM (ht := (setS8 (setS8 set2))) (hk := ?_)); (refine aSeq_t rfl (AOp.stBox rfl rfl rfl (Parts.aggB rfl) rfl (Nat.le_of_ble_eq_true rfl) ?_); refine sNtM (ht := setN) (hk := ?_)); refine sA (hq := Quiet.assign rfl (getS32 (getS32 (getS32 (getS8 get3))))) (ht := (setS8 (setS8 set3))) (hk := ?_); exact wEnd rfl)) (hk := ?_)
        obtain ⟨r35, k35, H⟩ := M.to_bnd.1 H
        refine wR (hx := by (refine sA (hq := Quiet.move rfl (getS8 get5)) (ht := (setS32 (setS32 (setS32 (setS8 set4))))) (hk := ?_); refine sA (hq := Quiet.bin rfl (getS32 (getS32 (getS32 (getS8 get4)))) getC rfl) (ht := (setS32 (setS32 (setS32 (setS8 set5))))) (hk := ?_); refine sA (hq := Quiet.move rfl get2) (ht := (setS32 (setS32 (setS32 (setS8 set6))))) (hk := ?_); refine sA (hq := Quiet.bin rfl (getS32 (getS32 (getS32 (getS8 get6)))) getC rfl) (ht := (setS32 (setS32 (setS32 (setS8 set7))))) (hk := ?_); refine sA (hq := Quiet.eqb rfl (getS32 (getS32 (getS32 (getS8 get5)))) (getS32 (getS32 (getS32 (getS8 get7)))) rfl) (ht := (setS32 (setS32 (setS32 (setS8 (setS8 set0)))))) (hk := ?_); refine sA (hq := Quiet.move rfl (getS32 (getS32 (getS32 (getS8 (getS8 get0)))))) (ht := (setS32 (setS32 (setS32 (setS8 (setS8 set1)))))) (hk := ?_); refine sG (g := ((r25.2 == 0) == (by2 == 0))) (hg := gA_t rfl) (hq := fun hg => Quiet.move rfl (getS8 get7)) (ht := (setS32 (setS32 (setS32 (setS8 (setS8 set2)))))) (hk := ?_); refine sG (g := ((r25.2 == 0) == (by2 == 0))) (hg := gA_t rfl) (hq := fun hg => Quiet.bin rfl ((getS32 (getS32 (getS32 (getS8 (getS8 get2))))).trans (cndT hg _ _)) getC rfl) (ht := (setS32 (setS32 (setS32 (setS8 (setS8 set3)))))) (hk := ?_); refine sA (hq := Quiet.pickAndB rfl (getS32 (getS32 (getS32 (getS8 (getS8 get1))))) (getS32 (getS32 (getS32 (getS8 (getS8 get3))))) getC) (ht := (setS32 (setS32 (setS32 (setS8 (setS8 set4)))))) (hk := ?_); refine sA (hq := Quiet.move rfl (getS32 (getS32 (getS32 (getS8 (getS8 get4)))))) (ht := (setS32 (setS32 (setS32 (setS8 (setS8 set5)))))) (hk := ?_); refine sG (g := (((r25.2 == 0) == (by2 == 0)) && (r28.2 == 5))) (hg := gA_t rfl) (hq := fun hg => Quiet.move rfl (getS8 (getS8 get1))) (ht := (setS32 (setS32 (setS32 (setS8 (setS8 set6)))))) (hk := ?_); refine sG (g := (((r25.2 == 0) == (by2 == 0)) && (r28.2 == 5))) (hg := gA_t rfl) (hq := fun hg => Quiet.bin rfl ((getS32 (getS32 (getS32 (getS8 (getS8 get6))))).trans (cndT hg _ _)) getC rfl) (ht := (setS32 (setS32 (setS32 (setS8 (setS8 set7)))))) (hk := ?_); refine sA (hq := Quiet.pickAndB rfl (getS32 (getS32 (getS32 (getS8 (getS8 get5))))) (getS32 (getS32 (getS32 (getS8 (getS8 get7))))) getC) (ht := (setS32 (setS32 (setS32 (setS8 (setS8 (setS8 set0))))))) (hk := ?_); refine sA (hq := Quiet.move rfl (getS32 (getS32 (getS32 (getS8 (getS8 (getS8 get0))))))) (ht := (setS32 (setS32 (setS32 (setS8 (setS8 (setS8 set1))))))) (hk := ?_); refine sG (g := ((((r25.2 == 0) == (by2 == 0)) && (r28.2 == 5)) && (r31.2 == 5))) (hg := gA_t rfl) (hq := fun hg => Quiet.move rfl (getS8 (getS8 get3))) (ht := (setS32 (setS32 (setS32 (setS8 (setS8 (setS8 set2))))))) (hk := ?_); refine sG (g := ((((r25.2 == 0) == (by2 == 0)) && (r28.2 == 5)) && (r31.2 == 5))) (hg := gA_t rfl) (hq := fun hg => Quiet.bin rfl ((getS32 (getS32 (getS32 (getS8 (getS8 (getS8 get2)))))).trans (cndT hg _ _)) getC rfl) (ht := (setS32 (setS32 (setS32 (setS8 (setS8 (setS8 set3))))))) (hk := ?_); refine sA (hq := Quiet.pickAndB rfl (getS32 (getS32 (getS32 (getS8 (getS8 (getS8 get1)))))) (getS32 (getS32 (getS32 (getS8 (getS8 (getS8 get3)))))) getC) (ht := (setS32 (setS32 (setS32 (setS8 (setS8 (setS8 set4))))))) (hk := ?_); refine sA (hq := Quiet.move rfl (getS32 (getS32 (getS32 (getS8 (getS8 (getS8 get4))))))) (ht := (setS32 (setS32 (setS32 (setS8 (setS8 (setS8 set5))))))) (hk := ?_); refine sG (g := (((((r25.2 == 0) == (by2 == 0)) && (r28.2 == 5)) && (r31.2 == 5)) && (r34.2 == 5))) (hg := gA_t rfl) (hq := fun hg => by ((try simp only [cndT hg]); (try simp only [cndA hg]); exact Quiet.callTA rfl rfl hC hL hG (law31_head_l (M.to_whn k35 hg)) rfl rfl)) (ht := (setS32 (setS32 (setS32 (setS8 (setS8 (setS8 set6))))))) (hk := ?_); refine sA (hq := Quiet.pickAndB rfl (getS32 (getS32 (getS32 (getS8 (getS8 (getS8 get5)))))) (getS32 (getS32 (getS32 (getS8 (getS8 (getS8 get6)))))) getC) (ht := (setS32 (setS32 (setS32 (setS8 (setS8 (setS8 set7))))))) (hk := ?_); refine sA (hq := Quiet.assign rfl (getS32 (getS32 (getS32 (getS8 (getS8 (getS8 get7))))))) (ht := set6) (hk := ?_); exact wEnd rfl)) (hk := ?_)
        obtain rfl := M.to_ok.1 H
        exact Awp.ret ⟨.inr rfl, Fin.cl rfl⟩
end Mu
end
section
/-
  muntinlaw31.ImageGets answers true of any text.
  Conditions: what is laid (GL).
-/
namespace Mu
open Go Go.RowKit Go.Proofs

theorem head31_true : law31_head.to true := ⟨40, by kernel_rfl⟩
theorem getE_no {L : List Int} (h : getOK L = false) : getE L = 5 ∧ getX L = zImg := ⟨if_neg (by rw [h]; exact Bool.false_ne_true), if_neg (by rw [h]; exact Bool.false_ne_true)⟩
end Mu
end
section
/-
  Bytes that are an image's: what is put is got; none differs from another one in one number alone; their length is told by their head.
  Conditions: none.
-/
namespace Mu
open Go Go.RowKit Go.Proofs

theorem wordsOf_take : ∀ (k : Nat) (l : List Int), (wordsOf l).take k = wordsOf (l.take (4 * k))
  | 0, l => by simp [wordsOf]
  | k + 1, [] => by simp [wordsOf]
  | k + 1, [a] => by simp [wordsOf, Nat.mul_add]
  | k + 1, [a, b] => by simp [wordsOf, Nat.mul_add]
  | k + 1, [a, b, c] => by simp [wordsOf, Nat.mul_add]
  | k + 1, a :: b :: c :: d :: r => by
    rw [show 4 * (k + 1) = 4 * k + 1 + 1 + 1 + 1 by omega]
    simp only [List.take_succ_cons, wordsOf]
    rw [wordsOf_take k r]
theorem wordsOf_drop : ∀ (k : Nat) (l : List Int), (wordsOf l).drop k = wordsOf (l.drop (4 * k))
  | 0, l => by simp
  | k + 1, [] => by simp [wordsOf]
  | k + 1, [a] => by simp [wordsOf, Nat.mul_add]
  | k + 1, [a, b] => by simp [wordsOf, Nat.mul_add]
  | k + 1, [a, b, c] => by simp [wordsOf, Nat.mul_add]
  | k + 1, a :: b :: c :: d :: r => by
    rw [show 4 * (k + 1) = 4 * k + 1 + 1 + 1 + 1 by omega]
    simp only [List.drop_succ_cons, wordsOf]
    rw [wordsOf_drop k r]
/-- an image's numbers and their check -/
def allN (x : Img) : List Int := numsL x ++ [sumF (numsL x)]
theorem putL_all (x : Img) : putL x = magicL ++ bytesN (allN x) := by
  unfold putL allN bytesN
  rw [List.flatMap_append, List.append_assoc]
  simp
theorem allN_u {x : Img} (H : FineImg x) : allU32 (allN x) := fun a ha => by
  rcases List.mem_append.1 ha with ha | ha
  · exact numsL_u H a ha
  · simp only [List.mem_cons, List.not_mem_nil, or_false] at ha
    subst ha
    exact sumF_wf _
theorem allN_len (x : Img) : (allN x).length = 8 + x.starts.length + x.words.length := by
  unfold allN
  rw [List.length_append, numsL_len]
  simp
  omega
theorem putL_len (x : Img) : (putL x).length = 36 + 4 * (x.starts.length + x.words.length) := by
  rw [putL_all, List.length_append, bytesN_len, allN_len]
  simp [magicL]
  omega
theorem putL_words {x : Img} (H : FineImg x) : wordsOf ((putL x).drop 4) = allN x := by
  rw [putL_all]
  have : (magicL ++ bytesN (allN x)).drop 4 = bytesN (allN x) := rfl
  rw [this, words_bytesN (allN_u H)]
theorem ok_parts {L : List Int} (h : getOK L = true) : 36 ≤ L.length ∧ MayP (refX L) ∧ putL (refX L) = L := by
  unfold getOK at h
  simp only [Bool.and_eq_true, decide_eq_true_eq] at h
  exact ⟨h.1, mayB_iff.1 h.2.1, h.2.2⟩
theorem ok_words {L : List Int} (hL : allU8 L) (hl : L.length ≤ 1000000000) (h : getOK L = true) : wordsOf (L.drop 4) = allN (refX L) := by
  have := putL_words (refX_fine hL hl)
  rwa [(ok_parts h).2.2] at this
/-- the head tells the length -/
theorem ok_len {A B : List Int} (hA : allU8 A) (hB : allU8 B) (lA : A.length ≤ 1000000000) (lB : B.length ≤ 1000000000) (a : getOK A = true) (b : getOK B = true) (h : A.take 32 = B.take 32) : A.length = B.length := by
  have key : ∀ {L : List Int}, allU8 L → L.length ≤ 1000000000 → getOK L = true → headL (refX L) = wordsOf ((L.take 32).drop 4) := fun {L} hL hl h => by
    have e := congrArg (List.take 7) (ok_words hL hl h)
    rw [wordsOf_take] at e
    have e2 : (allN (refX L)).take 7 = headL (refX L) := by unfold allN numsL headL; simp
    rw [e2] at e
    rw [← e, List.take_drop]
  have e := (key hA lA a).trans ((congrArg (fun l => wordsOf (l.drop 4)) h).trans (key hB lB b).symm)
  unfold headL at e
  simp only [List.cons.injEq, and_true] at e
  obtain ⟨_, _, _, _, _, e5, e6⟩ := e
  have fA := refX_fine hA lA
  have fB := refX_fine hB lB
  rw [wrap_len fA.s, wrap_len fB.s] at e5
  rw [wrap_len fA.w, wrap_len fB.w] at e6
  have pA := putL_len (refX A)
  have pB := putL_len (refX B)
  rw [(ok_parts a).2.2] at pA
  rw [(ok_parts b).2.2] at pB
  omega
theorem mod_three (a : Int) : (2863311531 * ((3 * a) % 4294967296)) % 4294967296 = a % 4294967296 := by
  rw [Int.mul_emod, Int.emod_emod, ← Int.mul_emod]
  have : 2863311531 * (3 * a) = a + 4294967296 * (2 * a) := by omega
  rw [this, Int.add_mul_emod_self_left]
theorem mod_inj {w v n : Int} (hw : 0 ≤ w ∧ w < 4294967296) (hv : 0 ≤ v ∧ v < 4294967296) (h : (3 * (w + n)) % 4294967296 = (3 * (v + n)) % 4294967296) : w = v := by
  have h1 := mod_three (w + n)
  rw [h, mod_three (v + n)] at h1
  clear h
  omega
theorem mod_rng (a : Int) : 0 ≤ a % 4294967296 ∧ a % 4294967296 < 4294967296 := ⟨Int.emod_nonneg _ (by decide), Int.emod_lt_of_pos _ (by decide)⟩
theorem fold_inj (S : List Int) : ∀ (w v : Int), (0 ≤ w ∧ w < 4294967296) → (0 ≤ v ∧ v < 4294967296) → S.foldl (fun w n => (3 * (w + n)) % 4294967296) w = S.foldl (fun w n => (3 * (w + n)) % 4294967296) v → w = v := by
  induction S with
  | nil => intro w v _ _ h; simpa using h
  | cons n S ih =>
    intro w v hw hv h
    rw [List.foldl_cons, List.foldl_cons] at h
    exact mod_inj hw hv (ih (3 * (w + n) % 4294967296) (3 * (v + n) % 4294967296) (mod_rng _) (mod_rng _) h)
theorem sumF_inj {P S : List Int} {a b : Int} (ha : 0 ≤ a ∧ a ≤ 4294967295) (hb : 0 ≤ b ∧ b ≤ 4294967295) (h : sumF (P ++ a :: S) = sumF (P ++ b :: S)) : a = b := by
  unfold sumF at h
  rw [List.foldl_append, List.foldl_append, List.foldl_cons, List.foldl_cons] at h
  generalize P.foldl (fun w n => (3 * (w + n)) % 4294967296) 1 = z at h
  have h2 := fold_inj S (3 * (z + a) % 4294967296) (3 * (z + b) % 4294967296) (mod_rng (3 * (z + a))) (mod_rng (3 * (z + b))) h
  rw [Int.add_comm z a, Int.add_comm z b] at h2
  exact mod_inj (w := a) (v := b) (n := z) ⟨ha.1, Int.lt_of_le_of_lt ha.2 (by decide)⟩ ⟨hb.1, Int.lt_of_le_of_lt hb.2 (by decide)⟩ h2
/-- bytes that differ in one number alone are the same -/
theorem ok_same {A B : List Int} (hA : allU8 A) (hB : allU8 B) (lA : A.length ≤ 1000000000) (a : getOK A = true) (b : getOK B = true) (hl : A.length = B.length) (j : Nat) (h1 : A.take (4 + 4 * j) = B.take (4 + 4 * j)) (h2 : A.drop (4 + 4 * j + 4) = B.drop (4 + 4 * j + 4)) (hj : 4 + 4 * j + 4 ≤ A.length) : A = B := by
  have wA := ok_words hA lA a
  have wB := ok_words hB (by omega) b
  have fA := refX_fine hA lA
  have fB := refX_fine hB (by omega)
  have t : (allN (refX A)).take j = (allN (refX B)).take j := by
    rw [← wA, ← wB, wordsOf_take, wordsOf_take, List.take_drop, List.take_drop, h1]
  have d : (allN (refX A)).drop (j + 1) = (allN (refX B)).drop (j + 1) := by
    rw [← wA, ← wB, wordsOf_drop, wordsOf_drop, List.drop_drop, List.drop_drop, show 4 + 4 * (j + 1) = 4 + 4 * j + 4 by omega, h2]
  have lN : (allN (refX A)).length = (allN (refX B)).length := by
    have pA := putL_len (refX A)
    have pB := putL_len (refX B)
    rw [(ok_parts a).2.2] at pA
    rw [(ok_parts b).2.2] at pB
    rw [allN_len, allN_len]
    omega
  have hjl : j < (allN (refX A)).length := by
    have pA := putL_len (refX A)
    rw [(ok_parts a).2.2] at pA
    rw [allN_len]
    omega
  have hn : numsL (refX A) = numsL (refX B) := by
    have lA' := numsL_len (refX A)
    have lB' := numsL_len (refX B)
    rw [allN_len] at lN hjl
    rw [allN_len] at lN
    unfold allN at t d
    by_cases hjn : j < (numsL (refX A)).length
    · rw [List.take_append_of_le_length (by omega), List.take_append_of_le_length (by omega)] at t
      rw [List.drop_append_of_le_length (by omega), List.drop_append_of_le_length (by omega)] at d
      obtain ⟨d1, d2⟩ := List.append_inj' d rfl
      simp only [List.cons.injEq, and_true] at d2
      have hjB : j < (numsL (refX B)).length := by omega
      have eA : numsL (refX A) = (numsL (refX A)).take j ++ (numsL (refX A))[j] :: (numsL (refX A)).drop (j + 1) := by rw [List.getElem_cons_drop, List.take_append_drop]
      have eB : numsL (refX B) = (numsL (refX A)).take j ++ (numsL (refX B))[j] :: (numsL (refX A)).drop (j + 1) := by rw [t, d1, List.getElem_cons_drop, List.take_append_drop]
      have uA := wfI_u32 (numsL_u fA _ (List.getElem_mem hjn))
      have uB := wfI_u32 (numsL_u fB _ (List.getElem_mem hjB))
      generalize hva : (numsL (refX A))[j] = va at eA uA
      generalize hvb : (numsL (refX B))[j] = vb at eB uB
      rw [eA, eB] at d2
      have hv : va = vb := by
        generalize hP : (numsL (refX A)).take j = P at d2
        generalize hS : (numsL (refX A)).drop (j + 1) = S at d2
        refine sumF_inj uA uB (P := P) (S := S) d2
      rw [eA, eB, hv]
    · have hje : j = (numsL (refX A)).length := by omega
      rw [List.take_append_of_le_length (by omega), List.take_append_of_le_length (by omega), List.take_of_length_le (by omega), List.take_of_length_le (by omega)] at t
      exact t
  have eA := (ok_parts a).2.2
  have eB := (ok_parts b).2.2
  rw [← eA, ← eB, putL_all, putL_all]
  unfold allN
  rw [hn]
/-- what is put is got -/
theorem ref_put {x : Img} (H : FineImg x) (h : MayP x) : refX (putL x) = x := by
  have hW : wordsOf (bytesN (allN x)) = IntKind.u32.wrap x.nw :: IntKind.u32.wrap x.heap :: IntKind.u32.wrap x.many :: IntKind.u32.wrap x.entry :: IntKind.u32.wrap x.stacks :: IntKind.u32.wrap x.starts.length :: IntKind.u32.wrap x.words.length :: ((x.starts ++ x.words) ++ [sumF (numsL x)]) := by
    rw [words_bytesN (allN_u H)]
    unfold allN numsL headL
    simp
  rw [putL_all, ref_parts hW]
  obtain ⟨⟨⟨a1, a2⟩, a3, a4⟩, ⟨⟨b1, b2⟩, ⟨b3, b4⟩, b5⟩, c, d, e1, e2, e3⟩ := h
  have hen : 0 ≤ x.entry ∧ x.entry ≤ 4294967295 := by
    rcases c with c | c
    · unfold fitsB at c
      simp at c
      omega
    · omega
  have w : ∀ a : Int, 0 ≤ a ∧ a ≤ 4294967295 → IntKind.u32.wrap a = a := fun a ha => by rw [wrap_u32m]; omega
  rw [w x.nw (by omega), w x.heap (by omega), w x.many (by omega), w x.entry hen, w x.stacks (by omega), w x.starts.length (by omega)]
  have e4 : ((x.starts.length : Int)).toNat = x.starts.length := by omega
  rw [e4, List.drop_left, List.take_left]
theorem put_ok {x : Img} (H : FineImg x) (h : mayB x = true) : getOK (putL x) = true := by
  unfold getOK
  rw [ref_put H (mayB_iff.1 h), h, decide_eq_true (p := putL x = putL x) rfl, decide_eq_true (by rw [putL_len]; omega)]
  rfl
end Mu
end
section
/-
  muntinlaw31.ImageTurned answers true of any image, and any two numbers.
  Conditions: what is laid (GL).
-/
namespace Mu
open Go Go.RowKit Go.Proofs

/-! ### bytes that are turned -/
def xr (a b : Int) : Int := bits .xor .u8 a b
theorem xr_rng (a b : Int) : 0 ≤ xr a b ∧ xr a b ≤ 255 := by
  unfold xr bits
  rw [wrap_u8m]
  omega
theorem xr_bv (a b : Int) : xr a b = (((BitVec.ofInt 8 a ^^^ BitVec.ofInt 8 b).toNat : Nat) : Int) := by
  unfold xr bits
  rw [wrap_u8m]
  show ((BitVec.ofInt 8 a ^^^ BitVec.ofInt 8 b).toNat : Int) % 256 = _
  have := (BitVec.ofInt 8 a ^^^ BitVec.ofInt 8 b).isLt
  omega
theorem bv_of {a : Int} (h : 0 ≤ a ∧ a ≤ 255) : ((BitVec.ofInt 8 a).toNat : Int) = a := by
  rw [BitVec.toNat_ofInt]
  omega
theorem xr_zero {a : Int} (h : 0 ≤ a ∧ a ≤ 255) : xr a 0 = a := by
  rw [xr_bv, show BitVec.ofInt 8 0 = 0#8 from rfl, BitVec.xor_zero, bv_of h]
theorem xr_ne {a b : Int} (h : 0 ≤ a ∧ a ≤ 255) (hb : 0 ≤ b ∧ b ≤ 255) (e : xr a b = a) : b = 0 := by
  rw [xr_bv] at e
  have e2 : (BitVec.ofInt 8 a ^^^ BitVec.ofInt 8 b) = BitVec.ofInt 8 a := by
    apply BitVec.eq_of_toNat_eq
    have := bv_of h
    omega
  have e3 : BitVec.ofInt 8 b = 0#8 := by
    have := congrArg (BitVec.ofInt 8 a ^^^ ·) e2
    simpa [← BitVec.xor_assoc] using this
  have := bv_of hb
  rw [e3] at this
  simpa using this.symm
def turnT (L : List Int) (K : Nat) (B : Nat → Int) : Nat → List Int
  | 0 => L
  | i + 1 => (turnT L K B i).set (K + i) (xr ((turnT L K B i).getD (K + i) 0) (B i))
section
variable {L : List Int} {K : Nat} {B : Nat → Int}
theorem turnT_len : ∀ i, (turnT L K B i).length = L.length
  | 0 => rfl
  | i + 1 => by unfold turnT; rw [List.length_set, turnT_len i]
theorem turnT_get : ∀ i m, K + i ≤ L.length → (turnT L K B i)[m]? = if K ≤ m ∧ m < K + i then some (xr (L.getD m 0) (B (m - K))) else L[m]?
  | 0, m, _ => by
    rw [if_neg (by omega)]
    rfl
  | i + 1, m, h => by
    have ih := turnT_get i
    unfold turnT
    by_cases hm : m = K + i
    · subst hm
      rw [List.getElem?_set_self (by rw [turnT_len]; omega), if_pos (by omega)]
      congr 2
      · rw [List.getD_eq_getElem?_getD, ih _ (by omega), if_neg (by omega), ← List.getD_eq_getElem?_getD]
      · congr 1
        omega
    · rw [List.getElem?_set_ne (Ne.symm hm), ih _ (by omega)]
      by_cases hc : K ≤ m ∧ m < K + i
      · rw [if_pos hc, if_pos (by omega)]
      · rw [if_neg hc, if_neg (by omega)]
theorem turnT_u (hL : allU8 L) : ∀ i, allU8 (turnT L K B i)
  | 0 => hL
  | i + 1 => fun a ha => by
    unfold turnT at ha
    rcases List.mem_or_eq_of_mem_set ha with ha | rfl
    · exact turnT_u hL i a ha
    · exact xr_rng _ _
theorem turnT_take {i : Nat} (h : K + i ≤ L.length) : (turnT L K B i).take K = L.take K := by
  apply List.ext_getElem?
  intro m
  rw [List.getElem?_take, List.getElem?_take]
  split
  · rw [turnT_get i m h, if_neg (by omega)]
  · rfl
theorem turnT_drop {i : Nat} (h : K + i ≤ L.length) : (turnT L K B i).drop (K + i) = L.drop (K + i) := by
  apply List.ext_getElem?
  intro m
  rw [List.getElem?_drop, List.getElem?_drop, turnT_get i _ h, if_neg (by omega)]
theorem turnT_zero {i : Nat} (hL : allU8 L) (h : K + i ≤ L.length) (hB : ∀ k, k < i → B k = 0) : turnT L K B i = L := by
  apply List.ext_getElem?
  intro m
  rw [turnT_get i _ h]
  split
  · rename_i hm
    have hl : m < L.length := by omega
    rw [hB _ (by omega), List.getD_eq_getElem?_getD, List.getElem?_eq_getElem hl, Option.getD_some, xr_zero (hL _ (List.getElem_mem hl))]
  · rfl
theorem turnT_same {i : Nat} (hL : allU8 L) (hB : ∀ k, k < i → 0 ≤ B k ∧ B k ≤ 255) (h : K + i ≤ L.length) (e : turnT L K B i = L) : ∀ k, k < i → B k = 0 := fun k hk => by
  have hl : K + k < L.length := by omega
  have h1 := turnT_get (B := B) i (K + k) h
  rw [e, if_pos (by omega), List.getElem?_eq_getElem hl, List.getD_eq_getElem?_getD, List.getElem?_eq_getElem hl, Option.getD_some, show K + k - K = k by omega] at h1
  exact xr_ne (hL _ (List.getElem_mem hl)) (hB k hk) (Option.some.inj h1).symm
end
/-- the bytes of a number, the least one first -/
def byteB (n : Int) (k : Nat) : Int := n / 2 ^ min (8 * k) 32 % 256
theorem byteB_rng (n : Int) (k : Nat) : 0 ≤ byteB n k ∧ byteB n k ≤ 255 := by unfold byteB; omega
theorem byteB_zero {n : Int} (h : 0 ≤ n ∧ n ≤ 4294967295) (hz : ∀ k, k < 4 → byteB n k = 0) : n = 0 := by
  have h0 := hz 0 (by omega)
  have h1 := hz 1 (by omega)
  have h2 := hz 2 (by omega)
  have h3 := hz 3 (by omega)
  unfold byteB at h0 h1 h2 h3
  rw [show (2 : Int) ^ min (8 * 0) 32 = 1 from rfl] at h0
  rw [show (2 : Int) ^ min (8 * 1) 32 = 256 from rfl] at h1
  rw [show (2 : Int) ^ min (8 * 2) 32 = 65536 from rfl] at h2
  rw [show (2 : Int) ^ min (8 * 3) 32 = 16777216 from rfl] at h3
  omega
theorem byteB_of_zero (k : Nat) : byteB 0 k = 0 := by unfold byteB; simp
theorem ixD_getD (l : List Int) (n : Nat) : ixD l (n : Int) = l.getD n 0 := rfl
theorem w64 {a : Int} (h : -9223372036854775808 ≤ a ∧ a ≤ 9223372036854775807) : IntKind.i64.wrap a = a := IntWalk.i64_in _ h
/-- where the number stands -/
theorem place_eq {at1 : Int} {n : Nat} (ha : 0 ≤ at1 ∧ at1 ≤ 4294967295) (h1 : 36 ≤ n) (h2 : n ≤ 1000000000) :
    IntKind.i64.wrap ((IntKind.i64.wrap (Int.tdiv (n : Int) 4)) - 1) = ((n / 4 - 1 : Nat) : Int) ∧
    IntKind.i64.wrap (4 + (IntKind.i64.wrap (4 * (Int.tmod (IntKind.i64.wrap at1) (IntKind.i64.wrap ((IntKind.i64.wrap (Int.tdiv (n : Int) 4)) - 1)))))) = ((4 + 4 * (at1.toNat % (n / 4 - 1)) : Nat) : Int) := by
  have e1 : Int.tdiv (n : Int) 4 = ((n / 4 : Nat) : Int) := by rw [Int.tdiv_eq_ediv_of_nonneg (by omega)]; omega
  have e2 : IntKind.i64.wrap ((IntKind.i64.wrap (Int.tdiv (n : Int) 4)) - 1) = ((n / 4 - 1 : Nat) : Int) := by
    rw [e1, w64 (a := ((n / 4 : Nat) : Int)) (by omega), w64 (by omega)]
    omega
  refine ⟨e2, ?_⟩
  rw [e2, w64 (a := at1) (by omega)]
  have e3 : Int.tmod at1 ((n / 4 - 1 : Nat) : Int) = ((at1.toNat % (n / 4 - 1) : Nat) : Int) := by
    rw [Int.tmod_eq_emod_of_nonneg ha.1]
    have : at1 = (at1.toNat : Int) := by omega
    rw [this]
    rfl
  have hlt : at1.toNat % (n / 4 - 1) < n / 4 - 1 := Nat.mod_lt _ (by omega)
  rw [e3, w64 (a := 4 * _) (by omega), w64 (by omega)]
  omega
section
variable {at1 by2 e : Int} {s : ByteArray} {K : Nat}
theorem step_in (hK : IntKind.i64.wrap (4 + (IntKind.i64.wrap (4 * (Int.tmod (IntKind.i64.wrap at1) (IntKind.i64.wrap ((IntKind.i64.wrap (Int.tdiv ((bytesL s).length : Int) 4)) - 1)))))) = (K : Int)) (hl : K + 4 ≤ (bytesL s).length) (hn : (bytesL s).length ≤ 1000000000) {k : Nat} (hk : k < 4) :
    (law31_ImageTurned_L17 at1 by2 (s, e) ((k : Int), turnT (bytesL s) K (byteB by2) k)).to (.inl (((k + 1 : Nat) : Int), turnT (bytesL s) K (byteB by2) (k + 1))) := by
  unfold law31_ImageTurned_L17
  dsimp only
  rw [hK]
  have e1 : IntKind.i64.wrap ((K : Int) + (k : Int)) = ((K + k : Nat) : Int) := by rw [w64 (by omega)]; omega
  have e2 : IntKind.u64.wrap (IntKind.i64.wrap (8 * (k : Int))) = ((8 * k : Nat) : Int) := by
    rcases (show k = 0 ∨ k = 1 ∨ k = 2 ∨ k = 3 by omega) with rfl | rfl | rfl | rfl <;> rfl
  have e3 : IntKind.u8.wrap (shrV .u32 by2 ((8 * k : Nat) : Int)) = byteB by2 k := by
    rw [wrap_u8m]
    rfl
  have e4 : IntKind.i64.wrap ((k : Int) + 1) = ((k + 1 : Nat) : Int) := by rw [w64 (by omega)]; omega
  rw [e1, e2, e3, e4, ixD_getD]
  refine M.t_to (decide_eq_true (by omega)) (M.chk_to ?_ (M.chk_to ?_ (M.chk_to (decide_eq_true (by omega)) (M.chk_to ?_ (M.ok_to _)))))
  · unfold inN
    simp
    omega
  · exact inB_of (by rw [turnT_len]; omega)
  · have := xr_rng ((turnT (bytesL s) K (byteB by2) k).getD (K + k) 0) (byteB by2 k)
    exact u8_of this.1 this.2
theorem step_out {l : List Int} : (law31_ImageTurned_L17 at1 by2 (s, e) (((4 : Nat) : Int), l)).to (.inr l) := by
  unfold law31_ImageTurned_L17
  exact M.f_to (by decide) (M.ok_to _)
end
theorem getE_iff {L : List Int} : (getE L == 0) = getOK L := by
  unfold getE
  cases getOK L <;> rfl
theorem getE_5 {L : List Int} (h : getOK L = false) : (getE L == 5) = true := by rw [(getE_no h).1]; rfl
theorem image_Get_to {l : List Int} (hu : allU8 l) (hl : l.length ≤ 900000000) : (image_Get (bytesOf l)).to (getX l, getE l) := by
  unfold image_Get
  rw [bytesL_bytesOf hu]
  exact M.chk_to (decide_eq_true (by rw [bytesOf_size]; exact hl)) (M.ok_to _)
theorem allU8_append {a b : List Int} (ha : allU8 a) (hb : allU8 b) : allU8 (a ++ b) := fun x hx => by
  rcases List.mem_append.1 hx with h | h
  · exact ha x h
  · exact hb x h
theorem turned31_true (x : Img) (at1 by2 : Int) (H : fineB x = true) (ha : wfI .u32 at1) (hb : wfI .u32 by2) : (law31_ImageTurned x at1 by2).to true := by
  have ha := wfI_u32 ha
  have hb' := wfI_u32 hb
  have HF := fineB_iff.1 H
  unfold law31_ImageTurned
  refine M.bnd_to (show (law31_great x).to (greatI x) from M.ok_to _) ?_
  cases hg : greatI x with
  | true => exact M.t_to rfl (M.bnd_to head31_true (M.ok_to _))
  | false =>
    refine M.f_to rfl (M.bnd_to (M.chk_to H (M.ok_to _)) ?_)
    dsimp only
    cases hm : mayB x with
    | false =>
      have e1 : putS x = ⟨#[]⟩ := if_neg (by rw [hm]; exact Bool.false_ne_true)
      have e2 : putE x = 5 := if_neg (by rw [hm]; exact Bool.false_ne_true)
      rw [e1, e2]
      exact M.t_to rfl (M.bnd_to (M.whn_t rfl head31_true) (M.ok_to _))
    | true =>
      have e1 : putS x = bytesOf (putL x) := if_pos hm
      have e2 : putE x = 0 := if_pos hm
      rw [e1, e2]
      have hu := putL_8 HF
      have hok := put_ok HF hm
      have hlen := putL_len x
      obtain ⟨⟨_, m1, m2⟩, _⟩ := mayB_iff.1 hm
      generalize hL : putL x = L at hu hok hlen ⊢
      have h36 : 36 ≤ L.length := by omega
      have hbig : L.length ≤ 100000000 := by omega
      have hmod : L.length % 4 = 0 := by omega
      have hs : (bytesOf L).size = L.length := bytesOf_size L
      have hbl := bytesL_bytesOf hu
      refine M.f_to ?_ ?_
      · rw [hs]
        simp
        omega
      obtain ⟨p1, p2⟩ := place_eq ha h36 (by omega)
      have hlt : at1.toNat % (L.length / 4 - 1) < L.length / 4 - 1 := Nat.mod_lt _ (by omega)
      obtain ⟨j, hj⟩ : ∃ j, j = at1.toNat % (L.length / 4 - 1) := ⟨_, rfl⟩
      rw [← hj] at hlt p2
      have hKl : 4 + 4 * j + 4 ≤ L.length := by omega
      obtain ⟨T, hT⟩ : ∃ T, T = turnT L (4 + 4 * j) (byteB by2) 4 := ⟨_, rfl⟩
      have hTl : T.length = L.length := by rw [hT, turnT_len]
      have hTu : allU8 T := by rw [hT]; exact turnT_u hu 4
      have hloop : (M.loop (law31_ImageTurned_L17 at1 by2 (bytesOf L, 0)) (0, bytesL (bytesOf L))).to T := by
        have := M.loop_for (step := law31_ImageTurned_L17 at1 by2 (bytesOf L, 0)) (fun k => ((k : Int), turnT (bytesL (bytesOf L)) (4 + 4 * j) (byteB by2) k)) 4 (r := turnT (bytesL (bytesOf L)) (4 + 4 * j) (byteB by2) 4)
          (fun k hk => step_in (by rw [hbl]; exact p2) (by rw [hbl]; exact hKl) (by rw [hbl]; omega) hk) step_out (j := 0) (by omega)
        rw [hT]
        rw [hbl] at this ⊢
        exact this
      refine M.chk_to (decide_eq_true (by rw [hs]; unfold maxLen; omega)) (M.chk_to ?_ (M.bnd_to hloop ?_))
      · rw [hbl, p1]
        simp
        omega
      rw [hbl]
      refine M.chk_to (decide_eq_true hTl) (M.bnd_to (image_Get_to hTu (by omega)) ?_)
      have hrem : Int.tmod (IntKind.i64.wrap at1) ((bytesOf L).size : Int) = ((at1.toNat % L.length : Nat) : Int) := by
        rw [w64 (a := at1) (by omega), hs, Int.tmod_eq_emod_of_nonneg ha.1]
        have : at1 = (at1.toNat : Int) := by omega
        rw [this]
        rfl
      have hrl : at1.toNat % L.length < L.length := Nat.mod_lt _ (by omega)
      generalize at1.toNat % L.length = q at hrem hrl
      rw [hrem]
      have hcut : cutD (bytesOf L) 0 (q : Int) = bytesOf (L.take q) := by
        unfold cutD bytesOf
        apply ByteArray.ext
        rw [ByteArray.data_extract]
        simp
      have hcu : allU8 (L.take q) := fun a ha => hu a (List.mem_of_mem_take ha)
      refine M.chk_to ?_ (M.chk_to ?_ (M.bnd_to (by rw [hcut]; exact image_Get_to hcu (by rw [List.length_take]; omega)) ?_))
      · rw [hs]
        exact bne_iff_ne.2 (by omega)
      · refine cutB_iff.2 ⟨by omega, by omega, by rw [hs]; omega⟩
      have hb1 : allU8 [IntKind.u8.wrap by2] := fun a h => by
        simp only [List.mem_cons, List.not_mem_nil, or_false] at h
        subst h
        rw [wrap_u8m]
        omega
      have hb2 : allU8 (List.replicate (Int.toNat 4) 0) := fun a h => by
        rw [List.eq_of_mem_replicate h]
        decide
      refine M.chk_to (u8_of (hb1 _ (by simp)).1 (hb1 _ (by simp)).2) (M.chk_to (decide_eq_true (by rw [hs, bytesOf_size]; simp; omega)) (M.bnd_to (by rw [← bytesOf_append]; exact image_Get_to (allU8_append hu hb1) (by simp; omega)) ?_))
      refine M.chk_to (by decide) (M.chk_to (decide_eq_true (by rw [hs, bytesOf_size]; simp; omega)) (M.bnd_to (by rw [← bytesOf_append]; exact image_Get_to (allU8_append hu hb2) (by simp; omega)) ?_))
      dsimp only
      have k1 : (getE T == 0) = (by2 == 0) := by
        rw [getE_iff]
        by_cases hz : by2 = 0
        · subst hz
          rw [hT, turnT_zero hu (by omega) (fun k _ => byteB_of_zero k), hok]
          rfl
        · have hn : getOK T = false := by
            cases hc : getOK T with
            | false => rfl
            | true =>
              exfalso
              apply hz
              have hs2 : L = T := ok_same hu hTu (by omega) hok hc hTl.symm j (by rw [hT]; exact (turnT_take (by omega)).symm) (by rw [hT]; exact (turnT_drop (i := 4) (by omega)).symm) hKl
              exact byteB_zero hb' (turnT_same hu (fun k _ => byteB_rng by2 k) (by omega) (hT.symm.trans hs2.symm))
          rw [hn]
          exact (beq_eq_false_iff_ne.2 hz).symm
      have far : ∀ M : List Int, allU8 M → M.length ≤ 900000000 → M.length ≠ L.length → (36 ≤ M.length → M.take 32 = L.take 32) → (getE M == 5) = true := fun M hM hl hne h32 => getE_5 (by
        cases hc : getOK M with
        | false => rfl
        | true => exact absurd (ok_len hM hu (by omega) (by omega) hc hok (h32 (ok_parts hc).1)) hne)
      have k2 : (getE (L.take q) == 5) = true := far _ hcu (by rw [List.length_take]; omega) (by rw [List.length_take]; omega) fun h => by
        rw [List.length_take] at h
        rw [List.take_take, Nat.min_eq_left (by omega)]
      have k3 : (getE (L ++ [IntKind.u8.wrap by2]) == 5) = true := far _ (allU8_append hu hb1) (by simp; omega) (by simp) fun _ => List.take_append_of_le_length (by omega)
      have k4 : (getE (L ++ List.replicate (Int.toNat 4) 0) == 5) = true := far _ (allU8_append hu hb2) (by simp; omega) (by simp) fun _ => List.take_append_of_le_length (by omega)
      rw [k1, k2, k3, k4]
      simp only [beq_self_eq_true, Bool.and_true, Bool.true_and]
      exact M.bnd_to (M.whn_t rfl head31_true) (M.ok_to _)
theorem imageTurned31_fn (x : Img) (at1 by2 : Int) (H : fineB x = true) (ha : wfI .u32 at1) (hb : wfI .u32 by2) : FnT GL Tryd.prog 5 [.agg (encImg x), .lit (.int .u32 at1), .lit (.int .u32 by2)] (.lit (.bool true)) := law31_ImageTurned_l (turned31_true x at1 by2 H ha hb)
end Mu
end
section
/-
  What a row needs of contracts: calls, literals, rows of arguments.
  Conditions: none; generic.
-/
namespace Mu
open Go Go.RowKit Go.Proofs

theorem rel_litv {W : World} {S : Nat → Prop} {h : List ABlk} {ψ : Nat → Value} (v : Value) : AV.rel W S h ψ (.lit v) v := by
  unfold AV.rel
  rfl
theorem relL_one {W : World} {S : Nat → Prop} {h : List ABlk} {ψ : Nat → Value} {x : AV} {v : Value} (hv : AV.rel W S h ψ x v) : AV.relL W S h ψ [x] [v] := by
  unfold AV.relL
  exact ⟨v, [], rfl, hv, by unfold AV.relL; rfl⟩
theorem relL_more {W : World} {S : Nat → Prop} {h : List ABlk} {ψ : Nat → Value} {x : AV} {v : Value} {l : List AV} {vs : List Value} (hv : AV.rel W S h ψ x v) (hl : AV.relL W S h ψ l vs) : AV.relL W S h ψ (x :: l) (v :: vs) := by
  unfold AV.relL
  exact ⟨v, vs, rfl, hv, hl⟩
end Mu
end
section
/-
  What a row gives of an image that comes in.
  Conditions: none.
-/
namespace Mu
open Go Go.RowKit Go.Proofs

theorem rel_img {W : World} {S : Nat → Prop} {h : List ABlk} {ψ : Nat → Value} {cs : List Value} {x : Img} (hR : tImg.RS W S cs x) : AV.rel W S h ψ (.agg (encImg x)) (.agg cs.toArray) := by
  unfold AV.rel
  exact ⟨cs, rfl, EncOf.ok (T := tImg) W S h ψ cs x hR⟩
theorem one_u32 (x : Int) : 1 ≤ (Ty.int .u32).bulk x := Nat.le_refl _
theorem bulk_img (x : Img) : x.words.length + x.starts.length ≤ tImg.bulk x := by
  have h1 := bulkL_length one_u32 x.words
  have h2 := bulkL_length one_u32 x.starts
  simp only [tImg, Ty.via, Ty.cons, Ty.slice, Ty.none_, tInt] at h1 h2 ⊢
  omega
theorem u32s_of {w : World} {S : Nat → Prop} {cs : List Value} {l : List Int} (h : (Ty.int .u32).slice.RS w S cs l) : ∀ a ∈ l, wfI .u32 a := by
  obtain ⟨A, c, rfl, _, _, hi⟩ := h
  intro x hx
  obtain ⟨j, hj⟩ := List.mem_iff_getElem?.1 hx
  obtain ⟨b, o, _, _, cs', ⟨_, h1⟩, _⟩ := hi j x hj
  exact h1
theorem fine_img {w : World} {S : Nat → Prop} {cs : List Value} {x : Img} (hR : tImg.RS w S cs x) (hb : tImg.bulk x ≤ 2097152) : fineB x = true := by
  have hl := bulk_img x
  have ho := ok_Img hR
  obtain ⟨s1, s5, _, _, h1, _, _, _, h5, _⟩ := tImg_R.1 hR
  exact fineB_iff.2 ⟨ho, by omega, by omega, u32s_of h5, u32s_of h1⟩
end Mu
end
section
/-
  The arguments of a row, read; what a call that makes new blocks only leaves of them.
  Conditions: none.
-/
namespace Mu
open Go Go.RowKit Go.ChangeShapes Go.WideShapes Go.Proofs

theorem laid_out : laidOutB Tryd.prog = true := by kernel_rfl
mutual
theorem bulk_le {H : Type} : ∀ d : DataW H, bulkD d ≤ YtpippebmbphhfaaDoor.Rows.uptoBulk d
  | .lit (.string _) => Nat.le_refl _
  | .lit (.bool _) => Nat.le_refl _
  | .lit (.int _ _) => Nat.le_refl _
  | .lit (.float _ _) => Nat.le_refl _
  | .lit .nil => Nat.le_refl _
  | .nil => Nat.le_refl _
  | .ptr d => by show 1 ≤ YtpippebmbphhfaaDoor.Rows.uptoBulk d + 1; omega
  | .slice e s => by
    have h1 := bulks_le e
    have h2 := bulks_le s
    show bulkD.go e + bulkD.go s + 1 ≤ YtpippebmbphhfaaDoor.Rows.uptoBulkAll e + YtpippebmbphhfaaDoor.Rows.uptoBulkAll s + 1
    omega
  | .agg p => by
    have h1 := bulks_le p
    show bulkD.go p + 1 ≤ YtpippebmbphhfaaDoor.Rows.uptoBulkAll p + 1
    omega
  | .iface _ d => by show 1 ≤ YtpippebmbphhfaaDoor.Rows.uptoBulk d + 1; omega
  | .map m => by show 1 ≤ YtpippebmbphhfaaDoor.Rows.uptoBulkEntries m + 1; omega
  | .held _ => Nat.le_refl _
theorem bulks_le {H : Type} : ∀ l : List (DataW H), bulkD.go l ≤ YtpippebmbphhfaaDoor.Rows.uptoBulkAll l
  | [] => Nat.le_refl _
  | d :: r => by
    have h1 := bulk_le d
    have h2 := bulks_le r
    show bulkD d + bulkD.go r ≤ YtpippebmbphhfaaDoor.Rows.uptoBulk d + YtpippebmbphhfaaDoor.Rows.uptoBulkAll r
    omega
end

/-- an argument of a type that is read: a value of many cells -/
theorem open_many {α : Type} {t : TypeId} {T : Ty α} {H : Type} {enc : TypeId × Value → H} {W : World} {v : Value} {d : DataW H} {p : List MemPlace} (ho : Opens Tryd.prog t T) (hs : 1 < T.size)
    (h : DataW.Trod enc Tryd.prog W 0 (fun _ => true) true t v d p) (hp : ∀ x ∈ p, x.block < W.heap.size) :
    ∃ cs x, v = .agg cs.toArray ∧ T.R W W.heap.size cs x ∧ T.bulk x ≤ YtpippebmbphhfaaDoor.Rows.uptoBulk d := by
  obtain ⟨fuel, hf⟩ := h
  obtain ⟨x, hR, hb⟩ := ho.go H enc W 0 _ true fuel _ (d, p) W.heap.size hf hp
  have hl := T.len hR
  refine ⟨v.cells.toList, x, ?_, hR, Nat.le_trans hb (bulk_le d)⟩
  cases v <;> first
    | (simp [Value.cells] at hl; omega)
    | simp [Value.cells]
/-- what an argument read as, it reads as behind a call that makes new blocks only -/
theorem stays {t : TypeId} {H : Type} {enc : TypeId × Value → H} {W W' : World} {v : Value} {d : DataW H} {p : List MemPlace} (hr : Tryd.prog.readableRec t = true) (ht : t < Tryd.prog.types.size)
    (h : DataW.Trod enc Tryd.prog W 0 (fun _ => true) true t v d p) (hb : Below W.heap.size W W') (hp : ∀ x ∈ p, x.block < W.heap.size) :
    DataW.Trod enc Tryd.prog W' 0 (fun b => decide (b < W.heap.size)) true t v d p := Below.trod laid_out hr ht h hb hp
end Mu
end
