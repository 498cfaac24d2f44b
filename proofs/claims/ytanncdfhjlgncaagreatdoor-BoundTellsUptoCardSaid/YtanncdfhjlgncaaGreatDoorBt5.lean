/-
  Own texts laid together, part 5: MuRef18B, MuRef21P, MuCross18P, MuOwnW, MuRef21W, MuRef18C, MuRef21X, MuClass21, MuBound3, MuHint21R, MuSame21, MuHead21, MuKeptP, MuLaw21T, MuOfP, MuOpen.
  Conditions: as each part says.
-/
import Derived.Test.YtanncdfhjlgncaaGreatDoorBt4
import Derived.Laws.StructEq
import Derived.Test.YtanncdfhjlgncaaGreatDoorRows
import Derived.Carry
import Derived.OpenShut
import Derived.ProofKit
section
/-
  muntinref18: Regs, Great, walked.
  Conditions: data of at most 2^21 everywhere.
-/
namespace Mu
open Go Go.RowKit Go.Proofs

def regs18L (f : Func) : List Int := (allX f).foldl withL []
theorem foldWL_len (l : List Int) : (l.foldl withL []).length ≤ l.length ∧ (okInts l → okInts (l.foldl withL [])) := by
  suffices h : ∀ (l s : List Int), (l.foldl withL s).length ≤ s.length + l.length ∧ (okInts s → okInts l → okInts (l.foldl withL s)) by
    obtain ⟨h1, h2⟩ := h l []
    exact ⟨by simpa using h1, fun a => h2 (fun r hr => by cases hr) a⟩
  intro l
  induction l with
  | nil => exact fun s => ⟨Nat.le_refl _, fun h _ => h⟩
  | cons x l ih =>
    intro s
    obtain ⟨h1, h2⟩ := ih (withL s x)
    have h3 := withL_len s x
    rw [List.foldl_cons, List.length_cons]
    exact ⟨by omega, fun a b => h2 (h3.2 (b x (List.mem_cons_self ..)) a) fun r hr => b r (List.mem_cons_of_mem _ hr)⟩
theorem foldWL_next {l : List Int} {k : Nat} {r : Int} (P : List Int) (h : l[k]? = some r) : (P ++ l.take (k + 1)).foldl withL [] = withL ((P ++ l.take k).foldl withL []) r := by
  rw [List.take_add_one, h, ← List.append_assoc, List.foldl_append]
  rfl

set_option maxRecDepth 100000 in
set_option maxHeartbeats 4000000 in
theorem regs18_fn (f : Func) (ho : okFunc f) (hs : smallF f) (hX : (allX f).length ≤ 2097152) : Fn Tryz.prog 20 [.agg (encFunc f)] (.bs tInt (regs18L f)) := by
  have hbl := hs.blocks
  refine Fn.of_awp Tryz.func20 rfl (by kernel_rfl) rfl Tryz.ntmps20 fun C hC => ?_
  simp only [List.length_cons, List.length_nil, Nat.reduceAdd, Nat.reduceSub, List.replicate_succ, List.replicate_zero, List.cons_append, List.nil_append]
  refine Awp.seq fun K1 h1 => ?_
  (refine Awp.region ?_; (repeat (first | refine sQ (hq := Quiet.pickOr rfl rfl rfl rfl) (hk := ?_) | refine sQ (hq := Quiet.pickAnd rfl rfl rfl rfl) (hk := ?_) | refine sQ (hk := ?_) | refine sSkip (hk := ?_) | refine sG (hk := ?_) | refine sOwn (hk := ?_))); refine aSeq_nil ?_)
  refine h1 _ ?_
  refine nT (hk := ?_)
  refine Awp.seq fun K2 h2 => ?_
  (refine Awp.region ?_; (repeat (first | refine sQ (hq := Quiet.pickOr rfl rfl rfl rfl) (hk := ?_) | refine sQ (hq := Quiet.pickAnd rfl rfl rfl rfl) (hk := ?_) | refine sQ (hk := ?_) | refine sSkip (hk := ?_) | refine sG (hk := ?_) | refine sOwn (hk := ?_))); refine aSeq_nil ?_)
  refine h2 _ ?_
  refine nT (hk := ?_)
  refine Awp.seq fun K3 h3 => ?_
  refine Awp.seq fun K4 h4 => ?_
  (refine Awp.region ?_; (repeat (first | refine sQ (hq := Quiet.pickOr rfl rfl rfl rfl) (hk := ?_) | refine sQ (hq := Quiet.pickAnd rfl rfl rfl rfl) (hk := ?_) | refine sQ (hk := ?_) | refine sSkip (hk := ?_) | refine sG (hk := ?_) | refine sOwn (hk := ?_))); refine aSeq_nil ?_)
  refine h4 _ ?_
  refine nT (hk := ?_)
  refine Awp.block ?_
  refine Awp.loopF (fun b : Nat => ⟨[.any, .ptr 0 0, .any, .bs tInt (((f.blocks.take b).flatMap blkX).foldl withL []), .lit (.int .i64 (b : Int)), .any, .any, .any, .any, .any, .any, .any, .any, .any, .any, .any, .any, .any, .any, .any, .any, .any, .any, .any, .any, .any, .any, .any, .any, .any, .any, .any, .any, .any, .any, .any, .any, .any, .any, .any, .any, .any, .any, .any, .any, .any, .any, .any, .any, .any, .any, .any, .any, .any, .any, .any, .any, .any, .any, .any, .any, .any, .any, .any, .any], [.box (encFunc f)]⟩) (fun b => b ≤ f.blocks.length) (fun b => f.blocks.length - b) 0 (Nat.zero_le _) ((St.le_nilbs 3 tInt rfl).trans (le_T)) ?_
  intro b hb
  dsimp only at hb ⊢
  refine Awp.seq fun K6 h6 => ?_
  refine Awp.seq fun K7 h7 => ?_
  (refine Awp.region ?_; (repeat (first | refine sQ (hq := Quiet.pickOr rfl rfl rfl rfl) (hk := ?_) | refine sQ (hq := Quiet.pickAnd rfl rfl rfl rfl) (hk := ?_) | refine sQ (hk := ?_) | refine sSkip (hk := ?_) | refine sG (hk := ?_) | refine sOwn (hk := ?_))); refine aSeq_nil ?_)
  refine h7 _ ?_
  refine nT (hk := ?_)
  refine Awp.cond rfl (fun hb8 => ?_) (fun hb8 => ?_)
  · have hlt : b < f.blocks.length := by simpa using hb8
    obtain ⟨bl, hblk⟩ : ∃ bl, f.blocks[b]? = some bl := ⟨_, List.getElem?_eq_getElem hlt⟩
    have hmem := List.mem_of_getElem? hblk
    have hob := ho.blocks bl hmem
    have hsb := hs.all bl hmem
    have hil := hsb.ins
    have hfn := flat_next (g := blkX) hblk
    refine Awp.skip ?_
    refine h6 _ ?_
    refine nT (hk := ?_)
    refine Awp.seq fun K9 h9 => ?_
    refine Awp.block ?_
    refine Awp.seq fun K10 h10 => ?_
    (refine Awp.region ?_; (repeat (first | refine sQ (hq := Quiet.pickOr rfl rfl rfl rfl) (hk := ?_) | refine sQ (hq := Quiet.pickAnd rfl rfl rfl rfl) (hk := ?_) | refine sQ (hk := ?_) | refine sSkip (hk := ?_) | refine sG (hk := ?_) | refine sOwn (hk := ?_))); refine aSeq_nil ?_)
    refine h10 _ ?_
    refine nT (hk := ?_)
    refine Awp.block ?_
    refine Awp.loopF (fun i : Nat => ⟨[.any, .ptr 0 0, .any, .bs tInt (((f.blocks.take b).flatMap blkX ++ (bl.ins.take i).flatMap regsX).foldl withL []), .lit (.int .i64 (b : Int)), .lit (.int .i64 (i : Int)), .any, .any, .any, .any, .any, .any, .any, .any, .any, .any, .any, .any, .any, .any, .any, .any, .any, .any, .any, .any, .any, .any, .any, .any, .any, .any, .any, .any, .any, .any, .any, .any, .any, .any, .any, .any, .any, .any, .any, .any, .any, .any, .any, .any, .any, .any, .any, .any, .any, .any, .any, .any, .any, .any, .any, .any, .any, .any, .any], [.box (encFunc f)]⟩) (fun i => i ≤ bl.ins.length) (fun i => bl.ins.length - i) 0 (Nat.zero_le _) (by rw [show (f.blocks.take b).flatMap blkX ++ (bl.ins.take 0).flatMap regsX = (f.blocks.take b).flatMap blkX by simp]; exact le_T) ?_
    intro i hi
    dsimp only at hi ⊢
    refine Awp.seq fun K12 h12 => ?_
    refine Awp.seq fun K13 h13 => ?_
    (refine Awp.region ?_; (repeat (first | refine sQ (hq := Quiet.pickOr rfl rfl rfl rfl) (hk := ?_) | refine sQ (hq := Quiet.pickAnd rfl rfl rfl rfl) (hk := ?_) | refine sQ (hk := ?_) | refine sSkip (hk := ?_) | refine sG (hk := ?_) | refine sOwn (hk := ?_))); refine aSeq_nil ?_)
    refine h13 _ ?_
    refine nT (hk := ?_)
    refine Awp.cond rfl (fun hb14 => ?_) (fun hb14 => ?_)
    · have hil2 : i < bl.ins.length := by simpa using hb14
      obtain ⟨x, hx⟩ : ∃ x, bl.ins[i]? = some x := ⟨_, List.getElem?_eq_getElem hil2⟩
      have hxm := List.mem_of_getElem? hx
      have hox := hob.ins x hxm
      have hxl : x.args.length ≤ 2097152 := by have := hsb.all x hxm; omega
      have hxn := flat_next (g := regsX) hx
      have hle := flat2_le (g := regsX) hblk hx
      have hX' : (f.blocks.flatMap fun c => c.ins.flatMap regsX).length ≤ 2097152 := hX
      obtain ⟨P, hP⟩ : ∃ P, (f.blocks.take b).flatMap blkX ++ (bl.ins.take i).flatMap regsX = P := ⟨_, rfl⟩
      have hPl : P.length + (regsX x).length ≤ 2097152 := by
        rw [← hP, List.length_append]
        have : ((f.blocks.take b).flatMap blkX).length = ((f.blocks.take b).flatMap fun c => c.ins.flatMap regsX).length := rfl
        omega
      have hPo : okInts P := by
        rw [← hP]
        intro r hr
        rcases List.mem_append.1 hr with hr | hr
        · obtain ⟨c, hc, hr⟩ := List.mem_flatMap.1 hr
          obtain ⟨y, hy, hr⟩ := List.mem_flatMap.1 hr
          exact regsX_ok ((ho.blocks c (List.mem_of_mem_take hc)).ins y hy) r hr
        · obtain ⟨y, hy, hr⟩ := List.mem_flatMap.1 hr
          exact regsX_ok (hob.ins y (List.mem_of_mem_take hy)) r hr
      have hnx : (f.blocks.take b).flatMap blkX ++ (bl.ins.take (i + 1)).flatMap regsX = P ++ regsX x := by rw [hxn, ← hP, List.append_assoc]
      rw [hP]
      have hrx : regsX x = readsC x ++ if writesB x then [x.d] else [] := rfl
      have hxo := regsX_ok hox
      have hrl : (readsC x).length ≤ (regsX x).length := by rw [hrx, List.length_append]; omega
      have hn1 : ([] : List Int).length + (readsC x).length ≤ maxLen := by simp [maxLen]; omega
      have hn2 : (([] : List Int).length + (readsC x).length) * 8 ≤ 140737488355328 := by simp; omega
      refine Awp.skip ?_
      refine h12 _ ?_
      refine nT (hk := ?_)
      refine Awp.seq fun K15 h15 => ?_
      refine Awp.block ?_
      refine Awp.seq fun K16 h16 => ?_
      (refine Awp.region ?_; (repeat (first | refine sQ (hq := Quiet.pickOr rfl rfl rfl rfl) (hk := ?_) | refine sQ (hq := Quiet.pickAnd rfl rfl rfl rfl) (hk := ?_) | refine sQ (hk := ?_) | refine sSkip (hk := ?_) | refine sG (hk := ?_) | refine sOwn (hk := ?_))); refine aSeq_nil ?_)
      refine h16 _ ?_
      refine nT (hk := ?_)
      refine Awp.seq fun K17 h17 => ?_
      (refine Awp.region ?_; (repeat (first | (refine aSeq_t rfl (AOp.lit (s := ⟨_, _⟩) (T := tInt) (xs := []) (ds := []) (e := 3) (bytes := 8) rfl rfl rfl (by kernel_rfl) (by decide) (by decide) .nil ?_); refine sNt (hk := ?_)) | refine sQ (hq := Quiet.call rfl (ref_reads_fn x hox hxl) rfl rfl rfl) (hk := ?_) | refine sQ (hq := Quiet.pickOr rfl rfl rfl rfl) (hk := ?_) | refine sQ (hq := Quiet.pickAnd rfl rfl rfl rfl) (hk := ?_) | refine sQ (hk := ?_) | refine sSkip (hk := ?_) | refine sG (hg := by first | rfl | exact gA_c rfl rfl) (hq := by (intro hg; (try simp only [Bool.and_eq_true, beq_iff_eq] at hg); (try simp only [hg, cond_true, Bool.true_and, beq_self_eq_true]); exact Quiet.call rfl (ref_reads_fn x hox hxl) rfl rfl rfl)) (hk := ?_) | refine sG (hk := ?_) | refine sOwn (hk := ?_))); refine aSeq_nil ?_)
      refine h17 _ ?_
      refine nT (hk := ?_)
      refine Awp.seq fun K18 h18 => ?_
      (refine Awp.region ?_; (repeat (first | refine sQ (hq := Quiet.call rfl (ref_writes_fn x hox) rfl rfl rfl) (hk := ?_) | refine sQ (hq := Quiet.pickOr rfl rfl rfl rfl) (hk := ?_) | refine sQ (hq := Quiet.pickAnd rfl rfl rfl rfl) (hk := ?_) | refine sQ (hk := ?_) | refine sSkip (hk := ?_) | refine sG (hg := by first | rfl | exact gA_c rfl rfl) (hq := by (intro hg; (try simp only [Bool.and_eq_true, beq_iff_eq] at hg); (try simp only [hg, cond_true, Bool.true_and, beq_self_eq_true]); exact Quiet.call rfl (ref_writes_fn x hox) rfl rfl rfl)) (hk := ?_) | refine sG (hk := ?_) | refine sOwn (hk := ?_))); refine aSeq_nil ?_)
      refine h18 _ ?_
      refine nT (hk := ?_)
      refine Awp.seq fun K19 h19 => ?_
      refine Awp.seq fun K20 h20 => ?_
      (refine Awp.region ?_; (repeat (first | refine sQ (hq := Quiet.pickOr rfl rfl rfl rfl) (hk := ?_) | refine sQ (hq := Quiet.pickAnd rfl rfl rfl rfl) (hk := ?_) | refine sQ (hk := ?_) | refine sSkip (hk := ?_) | refine sG (hk := ?_) | refine sOwn (hk := ?_))); refine aSeq_nil ?_)
      refine h20 _ ?_
      refine nT (hk := ?_)
      refine Awp.cond rfl (fun hb21 => ?_) (fun hb21 => ?_)
      · rw [hb21, if_pos rfl] at hrx
        have e1 : (if writesB x = true then x.d else 0) = x.d := if_pos hb21
        have hwd := hox.d
        rw [e1]
        have hn3 : (readsC x).length + [x.d].length ≤ maxLen := by simp [maxLen]; omega
        have hn4 : ((readsC x).length + [x.d].length) * 8 ≤ 140737488355328 := by simp; omega
        (refine Awp.region ?_; (repeat (first | refine sQ (hq := Quiet.pickOr rfl rfl rfl rfl) (hk := ?_) | refine sQ (hq := Quiet.pickAnd rfl rfl rfl rfl) (hk := ?_) | refine sQ (hk := ?_) | refine sSkip (hk := ?_) | refine sG (hk := ?_) | refine sOwn (hk := ?_))); refine aSeq_nil ?_)
        refine h19 _ ?_
        refine nT (hk := ?_)
        refine Awp.seq fun K22 h22 => ?_
        (refine Awp.region ?_; (repeat (first | refine sQ (hq := Quiet.pickOr rfl rfl rfl rfl) (hk := ?_) | refine sQ (hq := Quiet.pickAnd rfl rfl rfl rfl) (hk := ?_) | refine sQ (hk := ?_) | refine sSkip (hk := ?_) | refine sG (hk := ?_) | refine sOwn (hk := ?_))); refine aSeq_nil ?_)
        refine h22 _ ?_
        refine nT (hk := ?_)
        refine Awp.block ?_
        refine Awp.loopF (fun k : Nat => ⟨[.any, .ptr 0 0, .any, .bs tInt ((P ++ (regsX x).take k).foldl withL []), .lit (.int .i64 (b : Int)), .lit (.int .i64 (i : Int)), .any, .own 2 2, .any, .any, .lit (.int .i64 (k : Int)), .any, .any, .any, .any, .any, .any, .any, .any, .any, .any, .any, .any, .any, .any, .any, .any, .any, .any, .any, .any, .any, .any, .any, .any, .any, .any, .any, .any, .any, .any, .any, .any, .any, .any, .any, .any, .any, .any, .any, .any, .any, .any, .any, .any, .any, .any, .any, .any, .any, .any, .any, .any, .any, .any], [.box (encFunc f), .dead, .row 2 3 tInt (regsX x)]⟩) (fun k => k ≤ (regsX x).length) (fun k => (regsX x).length - k) 0 (Nat.zero_le _) (by rw [show P ++ (regsX x).take 0 = P by simp, hrx]; exact le_C (.cons (.dead (.cons (Cut.nil _))))) ?_
        intro k hk
        have hkl : (P ++ (regsX x).take k).length ≤ 2097152 := by rw [List.length_append, List.length_take]; omega
        have hko : okInts (P ++ (regsX x).take k) := fun r hr => by
          rcases List.mem_append.1 hr with hr | hr
          · exact hPo r hr
          · exact hxo r (List.mem_of_mem_take hr)
        obtain ⟨hl1, hl2⟩ := foldWL_len (P ++ (regsX x).take k)
        have hl2 := hl2 hko
        have hknx : ∀ r, (regsX x)[k]? = some r → (P ++ (regsX x).take (k + 1)).foldl withL [] = withL ((P ++ (regsX x).take k).foldl withL []) r := fun r hr => foldWL_next P hr
        have hkfin : k = (regsX x).length → (P ++ (regsX x).take k).foldl withL [] = (P ++ regsX x).foldl withL [] := fun e => by rw [e, List.take_length]
        dsimp only at hk ⊢
        generalize (P ++ (regsX x).take k).foldl withL [] = O at hl1 hl2 hknx hkfin ⊢
        refine Awp.seq fun K24 h24 => ?_
        refine Awp.seq fun K25 h25 => ?_
        (refine Awp.region ?_; (repeat (first | refine sQ (hq := Quiet.pickOr rfl rfl rfl rfl) (hk := ?_) | refine sQ (hq := Quiet.pickAnd rfl rfl rfl rfl) (hk := ?_) | refine sQ (hk := ?_) | refine sSkip (hk := ?_) | refine sG (hk := ?_) | refine sOwn (hk := ?_))); refine aSeq_nil ?_)
        refine h25 _ ?_
        refine nT (hk := ?_)
        refine Awp.cond rfl (fun hb26 => ?_) (fun hb26 => ?_)
        · have hklt : k < (regsX x).length := by simpa using hb26
          obtain ⟨r, hr⟩ : ∃ r, (regsX x)[k]? = some r := ⟨_, List.getElem?_eq_getElem hklt⟩
          have hrw := hxo r (List.mem_of_getElem? hr)
          have hknx := hknx r hr
          refine Awp.skip ?_
          refine h24 _ ?_
          refine nT (hk := ?_)
          refine Awp.seq fun K27 h27 => ?_
          refine Awp.block ?_
          (refine Awp.region ?_; (repeat (first | refine sQ (hq := Quiet.call rfl (with18_fn O r (by omega) hl2 hrw) rfl rfl rfl) (hk := ?_) | refine sQ (hq := Quiet.pickOr rfl rfl rfl rfl) (hk := ?_) | refine sQ (hq := Quiet.pickAnd rfl rfl rfl rfl) (hk := ?_) | refine sQ (hk := ?_) | refine sSkip (hk := ?_) | refine sG (hg := by first | rfl | exact gA_c rfl rfl) (hq := by (intro hg; (try simp only [Bool.and_eq_true, beq_iff_eq] at hg); (try simp only [hg, cond_true, Bool.true_and, beq_self_eq_true]); exact Quiet.call rfl (with18_fn O r (by omega) hl2 hrw) rfl rfl rfl)) (hk := ?_) | refine sG (hk := ?_) | refine sOwn (hk := ?_))); refine aSeq_nil ?_)
          refine h27 _ ?_
          refine nT (hk := ?_)
          (refine Awp.region ?_; (repeat (first | refine sQ (hq := Quiet.pickOr rfl rfl rfl rfl) (hk := ?_) | refine sQ (hq := Quiet.pickAnd rfl rfl rfl rfl) (hk := ?_) | refine sQ (hk := ?_) | refine sSkip (hk := ?_) | refine sG (hk := ?_) | refine sOwn (hk := ?_))); refine aSeq_nil ?_)
          refine athen_n ⟨k + 1, by omega, by omega, ?_⟩
          rw [hknx]
          exact le_T
        · have hke : k = (regsX x).length := by have : ¬ k < (regsX x).length := by simpa using hb26
                                                omega
          have hkfin := hkfin hke
          refine Awp.exit ?_
          refine h15 _ ?_
          refine nT (hk := ?_)
          (refine Awp.region ?_; (repeat (first | refine sQ (hq := Quiet.pickOr rfl rfl rfl rfl) (hk := ?_) | refine sQ (hq := Quiet.pickAnd rfl rfl rfl rfl) (hk := ?_) | refine sQ (hk := ?_) | refine sSkip (hk := ?_) | refine sG (hk := ?_) | refine sOwn (hk := ?_))); refine aSeq_nil ?_)
          refine athen_n ⟨i + 1, by omega, by omega, ?_⟩
          rw [hnx, ← hkfin]
          exact le_C (.cons (Cut.nil _))
      · rw [hb21, if_neg (by simp), List.append_nil] at hrx
        refine Awp.skip ?_
        refine h19 _ ?_
        refine nT (hk := ?_)
        refine Awp.seq fun K22 h22 => ?_
        (refine Awp.region ?_; (repeat (first | refine sQ (hq := Quiet.pickOr rfl rfl rfl rfl) (hk := ?_) | refine sQ (hq := Quiet.pickAnd rfl rfl rfl rfl) (hk := ?_) | refine sQ (hk := ?_) | refine sSkip (hk := ?_) | refine sG (hk := ?_) | refine sOwn (hk := ?_))); refine aSeq_nil ?_)
        refine h22 _ ?_
        refine nT (hk := ?_)
        refine Awp.block ?_
        refine Awp.loopF (fun k : Nat => ⟨[.any, .ptr 0 0, .any, .bs tInt ((P ++ (regsX x).take k).foldl withL []), .lit (.int .i64 (b : Int)), .lit (.int .i64 (i : Int)), .any, .own 2 1, .any, .any, .lit (.int .i64 (k : Int)), .any, .any, .any, .any, .any, .any, .any, .any, .any, .any, .any, .any, .any, .any, .any, .any, .any, .any, .any, .any, .any, .any, .any, .any, .any, .any, .any, .any, .any, .any, .any, .any, .any, .any, .any, .any, .any, .any, .any, .any, .any, .any, .any, .any, .any, .any, .any, .any, .any, .any, .any, .any, .any, .any], [.box (encFunc f), .dead, .row 1 3 tInt (regsX x)]⟩) (fun k => k ≤ (regsX x).length) (fun k => (regsX x).length - k) 0 (Nat.zero_le _) (by rw [show P ++ (regsX x).take 0 = P by simp, hrx]; exact le_C (.cons (.dead (.cons (Cut.nil _))))) ?_
        intro k hk
        have hkl : (P ++ (regsX x).take k).length ≤ 2097152 := by rw [List.length_append, List.length_take]; omega
        have hko : okInts (P ++ (regsX x).take k) := fun r hr => by
          rcases List.mem_append.1 hr with hr | hr
          · exact hPo r hr
          · exact hxo r (List.mem_of_mem_take hr)
        obtain ⟨hl1, hl2⟩ := foldWL_len (P ++ (regsX x).take k)
        have hl2 := hl2 hko
        have hknx : ∀ r, (regsX x)[k]? = some r → (P ++ (regsX x).take (k + 1)).foldl withL [] = withL ((P ++ (regsX x).take k).foldl withL []) r := fun r hr => foldWL_next P hr
        have hkfin : k = (regsX x).length → (P ++ (regsX x).take k).foldl withL [] = (P ++ regsX x).foldl withL [] := fun e => by rw [e, List.take_length]
        dsimp only at hk ⊢
        generalize (P ++ (regsX x).take k).foldl withL [] = O at hl1 hl2 hknx hkfin ⊢
        refine Awp.seq fun K24 h24 => ?_
        refine Awp.seq fun K25 h25 => ?_
        (refine Awp.region ?_; (repeat (first | refine sQ (hq := Quiet.pickOr rfl rfl rfl rfl) (hk := ?_) | refine sQ (hq := Quiet.pickAnd rfl rfl rfl rfl) (hk := ?_) | refine sQ (hk := ?_) | refine sSkip (hk := ?_) | refine sG (hk := ?_) | refine sOwn (hk := ?_))); refine aSeq_nil ?_)
        refine h25 _ ?_
        refine nT (hk := ?_)
        refine Awp.cond rfl (fun hb26 => ?_) (fun hb26 => ?_)
        · have hklt : k < (regsX x).length := by simpa using hb26
          obtain ⟨r, hr⟩ : ∃ r, (regsX x)[k]? = some r := ⟨_, List.getElem?_eq_getElem hklt⟩
          have hrw := hxo r (List.mem_of_getElem? hr)
          have hknx := hknx r hr
          refine Awp.skip ?_
          refine h24 _ ?_
          refine nT (hk := ?_)
          refine Awp.seq fun K27 h27 => ?_
          refine Awp.block ?_
          (refine Awp.region ?_; (repeat (first | refine sQ (hq := Quiet.call rfl (with18_fn O r (by omega) hl2 hrw) rfl rfl rfl) (hk := ?_) | refine sQ (hq := Quiet.pickOr rfl rfl rfl rfl) (hk := ?_) | refine sQ (hq := Quiet.pickAnd rfl rfl rfl rfl) (hk := ?_) | refine sQ (hk := ?_) | refine sSkip (hk := ?_) | refine sG (hg := by first | rfl | exact gA_c rfl rfl) (hq := by (intro hg; (try simp only [Bool.and_eq_true, beq_iff_eq] at hg); (try simp only [hg, cond_true, Bool.true_and, beq_self_eq_true]); exact Quiet.call rfl (with18_fn O r (by omega) hl2 hrw) rfl rfl rfl)) (hk := ?_) | refine sG (hk := ?_) | refine sOwn (hk := ?_))); refine aSeq_nil ?_)
          refine h27 _ ?_
          refine nT (hk := ?_)
          (refine Awp.region ?_; (repeat (first | refine sQ (hq := Quiet.pickOr rfl rfl rfl rfl) (hk := ?_) | refine sQ (hq := Quiet.pickAnd rfl rfl rfl rfl) (hk := ?_) | refine sQ (hk := ?_) | refine sSkip (hk := ?_) | refine sG (hk := ?_) | refine sOwn (hk := ?_))); refine aSeq_nil ?_)
          refine athen_n ⟨k + 1, by omega, by omega, ?_⟩
          rw [hknx]
          exact le_T
        · have hke : k = (regsX x).length := by have : ¬ k < (regsX x).length := by simpa using hb26
                                                omega
          have hkfin := hkfin hke
          refine Awp.exit ?_
          refine h15 _ ?_
          refine nT (hk := ?_)
          (refine Awp.region ?_; (repeat (first | refine sQ (hq := Quiet.pickOr rfl rfl rfl rfl) (hk := ?_) | refine sQ (hq := Quiet.pickAnd rfl rfl rfl rfl) (hk := ?_) | refine sQ (hk := ?_) | refine sSkip (hk := ?_) | refine sG (hk := ?_) | refine sOwn (hk := ?_))); refine aSeq_nil ?_)
          refine athen_n ⟨i + 1, by omega, by omega, ?_⟩
          rw [hnx, ← hkfin]
          exact le_C (.cons (Cut.nil _))
    · have hie : i = bl.ins.length := by have : ¬ i < bl.ins.length := by simpa using hb14
                                         omega
      subst hie
      refine Awp.exit ?_
      refine h9 _ ?_
      refine nT (hk := ?_)
      (refine Awp.region ?_; (repeat (first | refine sQ (hq := Quiet.pickOr rfl rfl rfl rfl) (hk := ?_) | refine sQ (hq := Quiet.pickAnd rfl rfl rfl rfl) (hk := ?_) | refine sQ (hk := ?_) | refine sSkip (hk := ?_) | refine sG (hk := ?_) | refine sOwn (hk := ?_))); refine aSeq_nil ?_)
      refine athen_n ⟨b + 1, by omega, by omega, ?_⟩
      rw [hfn, show (bl.ins.take bl.ins.length).flatMap regsX = blkX bl by rw [List.take_length]; rfl]
      exact le_T
  · have hbe : b = f.blocks.length := by have : ¬ b < f.blocks.length := by simpa using hb8
                                         omega
    subst hbe
    rw [List.take_length]
    refine Awp.exit ?_
    refine h3 _ ?_
    refine nT (hk := ?_)
    refine Awp.seq fun K34 h34 => ?_
    (refine Awp.region ?_; (repeat (first | refine sQ (hq := Quiet.pickOr rfl rfl rfl rfl) (hk := ?_) | refine sQ (hq := Quiet.pickAnd rfl rfl rfl rfl) (hk := ?_) | refine sQ (hk := ?_) | refine sSkip (hk := ?_) | refine sG (hk := ?_) | refine sOwn (hk := ?_))); refine aSeq_nil ?_)
    refine h34 _ ?_
    refine nT (hk := ?_)
    refine Awp.ret ?_
    exact ⟨.inr rfl, Fin.cl rfl⟩

def great18 (f : Func) : Bool := great17 f || decide (((regs18L f).length : Int) > 60)
set_option maxRecDepth 100000 in
theorem great18_fn (f : Func) (ho : okFunc f) (hs : smallF f) (hX : (allX f).length ≤ 2097152) : Fn Tryz.prog 4 [.agg (encFunc f)] (.lit (.bool (great18 f))) := by
  have hgr := great17_fn f hs
  have hrg := regs18_fn f ho hs hX
  refine Fn.of_awp Tryz.func4 rfl (by kernel_rfl) rfl Tryz.ntmps4 fun C hC => ?_
  simp only [List.length_cons, List.length_nil, Nat.reduceAdd, Nat.reduceSub, List.replicate_succ, List.replicate_zero, List.cons_append, List.nil_append]
  refine Awp.seq fun K1 h1 => ?_
  (refine Awp.region ?_; (repeat (first | refine sQ (hq := Quiet.pickOr rfl rfl rfl rfl) (hk := ?_) | refine sQ (hq := Quiet.pickAnd rfl rfl rfl rfl) (hk := ?_) | refine sQ (hk := ?_) | refine sSkip (hk := ?_) | refine sG (hk := ?_) | refine sOwn (hk := ?_))); refine aSeq_nil ?_)
  refine h1 _ ?_
  refine nT (hk := ?_)
  refine Awp.seq fun K2 h2 => ?_
  (refine Awp.region ?_; (repeat (first | refine sQ (hq := Quiet.call rfl hgr rfl rfl rfl) (hk := ?_) | refine sQ (hq := Quiet.call rfl hrg rfl rfl rfl) (hk := ?_) | refine sQ (hq := Quiet.pickOr rfl rfl rfl rfl) (hk := ?_) | refine sQ (hq := Quiet.pickAnd rfl rfl rfl rfl) (hk := ?_) | refine sQ (hk := ?_) | refine sSkip (hk := ?_) | refine sG (hg := by first | rfl | exact gA_c rfl rfl) (hq := by (intro hg; (try simp only [Bool.and_eq_true, beq_iff_eq] at hg); (try simp only [hg, cond_true, Bool.true_and, beq_self_eq_true]); exact Quiet.call rfl hgr rfl rfl rfl)) (hk := ?_) | refine sG (hg := by first | rfl | exact gA_c rfl rfl) (hq := by (intro hg; (try simp only [Bool.and_eq_true, beq_iff_eq] at hg); (try simp only [hg, cond_true, Bool.true_and, beq_self_eq_true]); exact Quiet.call rfl hrg rfl rfl rfl)) (hk := ?_) | refine sG (hk := ?_) | refine sOwn (hk := ?_))); refine aSeq_nil ?_)
  refine h2 _ ?_
  refine nT (hk := ?_)
  refine Awp.ret ?_
  exact ⟨.inr rfl, Fin.cl rfl⟩
end Mu
end
section
/-
  The reference's rising rows are bound's: registers, in plain terms.
  Conditions: none.
-/
namespace Mu
open Go Go.RowKit Go.Proofs

theorem foldW_asc {n : Int} : ∀ (l : List Int) (s : List Int × Bool), Asc (s.1 ++ l) → (s.2 = false → ∀ y ∈ s.1, y < n) → n ∉ l →
    Asc (l.foldl (stepW n) s).1 ∧ (∀ y, y ∈ (l.foldl (stepW n) s).1 ↔ (y ∈ s.1 ∨ y ∈ l) ∨ (y = n ∧ (l.foldl (stepW n) s).2 = true ∧ s.2 = false)) ∧ ((l.foldl (stepW n) s).2 = false → ∀ y ∈ (l.foldl (stepW n) s).1, y < n)
  | [], s, ha, hb, _ => by
    refine ⟨by simpa using ha, fun y => ?_, hb⟩
    simp only [List.foldl_nil, List.not_mem_nil, or_false]
    constructor
    · exact fun h => .inl h
    · rintro (h | ⟨_, h1, h2⟩)
      · exact h
      · rw [h1] at h2; cases h2
  | x :: l, s, ha, hb, hn => by
    have hnx : n ≠ x := fun e => hn (by rw [e]; exact List.mem_cons_self ..)
    have hnl : n ∉ l := fun e => hn (List.mem_cons_of_mem _ e)
    unfold Asc at ha
    rw [List.pairwise_append] at ha
    obtain ⟨a1, a2, a3⟩ := ha
    rw [List.pairwise_cons] at a2
    rw [List.foldl_cons]
    by_cases hc : (!s.2 && decide (x > n)) = true
    · have hs : s.2 = false := by
        simp only [Bool.and_eq_true, Bool.not_eq_true'] at hc
        exact hc.1
      have hxn : x > n := by
        simp only [Bool.and_eq_true, decide_eq_true_eq] at hc
        exact hc.2
      have e : stepW n s x = (s.1 ++ [n] ++ [x], true) := if_pos hc
      rw [e]
      obtain ⟨i1, i2, i3⟩ := foldW_asc l (s.1 ++ [n] ++ [x], true) (by
        unfold Asc
        rw [List.append_assoc, List.append_assoc, List.pairwise_append]
        refine ⟨a1, ?_, fun a hay b hbz => ?_⟩
        · simp only [List.cons_append, List.nil_append, List.pairwise_cons]
          refine ⟨fun b hbm => ?_, a2.1, a2.2⟩
          rcases List.mem_cons.1 hbm with rfl | hbm
          · omega
          · have := a2.1 b hbm
            omega
        · have h1 := hb hs a hay
          simp only [List.cons_append, List.nil_append, List.mem_cons] at hbz
          rcases hbz with rfl | rfl | hbz
          · exact h1
          · omega
          · have := a2.1 b hbz
            omega) (fun h => by cases h) hnl
      have ht : (l.foldl (stepW n) (s.1 ++ [n] ++ [x], true)).2 = true := by
        by_cases h : (l.foldl (stepW n) (s.1 ++ [n] ++ [x], true)).2 = true
        · exact h
        · have h := i3 (by simpa using h) n ((i2 n).2 (.inl (.inl (by simp))))
          omega
      refine ⟨i1, fun y => ?_, fun h => by rw [ht] at h; cases h⟩
      rw [i2, ht, hs]
      simp only [List.mem_append, List.mem_cons, List.not_mem_nil, or_false, and_true, reduceCtorEq, and_false]
      constructor
      · rintro ((h | h) | h)
        · rcases h with h | h
          · exact .inl (.inl h)
          · exact .inr h
        · exact .inl (.inr (.inl h))
        · exact .inl (.inr (.inr h))
      · rintro ((h | h | h) | h)
        · exact .inl (.inl (.inl h))
        · exact .inl (.inr h)
        · exact .inr h
        · exact .inl (.inl (.inr h))
    · have e : stepW n s x = (s.1 ++ [x], s.2) := if_neg hc
      rw [e]
      obtain ⟨i1, i2, i3⟩ := foldW_asc l (s.1 ++ [x], s.2) (by
        unfold Asc
        rw [List.append_assoc, List.pairwise_append]
        refine ⟨a1, ?_, fun a hay b hbz => a3 a hay b (by simpa using hbz)⟩
        simp only [List.cons_append, List.nil_append, List.pairwise_cons]
        exact a2) (fun h y hy => by
        rcases List.mem_append.1 hy with hy | hy
        · exact hb h y hy
        · rw [List.mem_singleton.1 hy]
          have h : s.2 = false := h
          rw [h] at hc
          have : ¬ x > n := by simpa using hc
          omega) hnl
      refine ⟨i1, fun y => ?_, i3⟩
      rw [i2]
      simp only [List.mem_append, List.mem_cons, List.not_mem_nil, or_false, or_assoc]
theorem withL_asc {l : List Int} (h : Asc l) (n : Int) : Asc (withL l n) ∧ ∀ y, y ∈ withL l n ↔ y = n ∨ y ∈ l := by
  unfold withL
  split
  · rename_i hc
    have hc := List.contains_iff_mem.1 hc
    exact ⟨h, fun y => ⟨.inr, fun hy => by
      rcases hy with rfl | hy
      · exact hc
      · exact hy⟩⟩
  · rename_i hc
    have hn : n ∉ l := fun e => hc (List.contains_iff_mem.2 e)
    obtain ⟨i1, i2, i3⟩ := foldW_asc (n := n) l ([], false) (by simpa using h) (fun _ y hy => by cases hy) hn
    have i1 : Asc (foldW n l).1 := i1
    have i2 : ∀ y, y ∈ (foldW n l).1 ↔ (y ∈ ([] : List Int) ∨ y ∈ l) ∨ (y = n ∧ (foldW n l).2 = true ∧ false = false) := i2
    have i3 : (foldW n l).2 = false → ∀ y ∈ (foldW n l).1, y < n := i3
    simp only [List.not_mem_nil, false_or, and_true] at i2
    split
    · rename_i hd
      have hd : (foldW n l).2 = false := by simpa using hd
      refine ⟨?_, fun y => ?_⟩
      · unfold Asc
        rw [List.pairwise_append]
        refine ⟨i1, List.pairwise_singleton .., fun a ha b hb => ?_⟩
        rw [List.mem_singleton.1 hb]
        exact i3 hd a ha
      · rw [List.mem_append, i2, hd, List.mem_singleton]
        simp only [Bool.false_eq_true, and_false, or_false]
        exact or_comm
    · rename_i hd
      have hd : (foldW n l).2 = true := by simpa using hd
      refine ⟨i1, fun y => ?_⟩
      rw [i2, hd]
      simp only [and_true]
      exact or_comm
theorem foldWL_asc (l : List Int) : Asc (l.foldl withL []) ∧ ∀ y, y ∈ l.foldl withL [] ↔ y ∈ l := by
  suffices h : ∀ (l s : List Int), Asc s → Asc (l.foldl withL s) ∧ ∀ y, y ∈ l.foldl withL s ↔ y ∈ s ∨ y ∈ l by
    obtain ⟨h1, h2⟩ := h l [] List.Pairwise.nil
    exact ⟨h1, fun y => by rw [h2]; simp⟩
  intro l
  induction l with
  | nil => exact fun s hs => ⟨hs, fun y => by simp⟩
  | cons x l ih =>
    intro s hs
    obtain ⟨a1, a2⟩ := withL_asc hs x
    obtain ⟨h1, h2⟩ := ih (withL s x) a1
    rw [List.foldl_cons]
    refine ⟨h1, fun y => ?_⟩
    rw [h2, a2, List.mem_cons]
    constructor
    · rintro ((h | h) | h)
      · exact .inr (.inl h)
      · exact .inl h
      · exact .inr (.inr h)
    · rintro (h | h | h)
      · exact .inl (.inr h)
      · exact .inl (.inl h)
      · exact .inr h
theorem regs18_asc (f : Func) : Asc (regs18L f) ∧ ∀ y, y ∈ regs18L f ↔ y ∈ allX f := foldWL_asc _
/-- the reference's registers -/
def lowR (f : Func) (n : Nat) : List Int := (natI n).filter fun r => decide (r < f.args) || (regs18L f).contains r
def regs21L (f : Func) : List Int := ((regs18L f).takeWhile fun r => decide (r < 0)) ++ lowR f 6 ++ (regs18L f).filter fun r => decide (r > 5)
theorem natI_asc (n : Nat) : Asc (natI n) := by
  unfold natI Asc
  rw [List.pairwise_map]
  exact List.pairwise_lt_range.imp fun {a b} h => by omega
theorem natI_mem {n : Nat} {r : Int} : r ∈ natI n ↔ 0 ≤ r ∧ r < n := by
  unfold natI
  rw [List.mem_map]
  constructor
  · rintro ⟨k, hk, rfl⟩
    have := List.mem_range.1 hk
    omega
  · rintro ⟨h1, h2⟩
    exact ⟨r.toNat, List.mem_range.2 (by omega), by omega⟩
theorem takeWhile_asc : ∀ {l : List Int}, Asc l → (l.takeWhile fun r => decide (r < 0)) = l.filter fun r => decide (r < 0)
  | [], _ => rfl
  | x :: l, h => by
    unfold Asc at h
    rw [List.pairwise_cons] at h
    by_cases hx : x < 0
    · rw [List.takeWhile_cons_of_pos (by simpa using hx), List.filter_cons_of_pos (by simpa using hx), takeWhile_asc h.2]
    · rw [List.takeWhile_cons_of_neg (by simpa using hx), List.filter_cons_of_neg (by simpa using hx)]
      refine (List.filter_eq_nil_iff.2 fun y hy => ?_).symm
      have := h.1 y hy
      simp
      omega
theorem regs21_eq (f : Func) : regs21L f = regsB f := by
  obtain ⟨a1, a2⟩ := regs18_asc f
  have hk := argsK_eq f
  have hI := hk.1
  refine asc_ext ?_ (regsB_asc f) fun y => ?_
  · unfold regs21L Asc
    rw [takeWhile_asc a1, List.pairwise_append, List.pairwise_append]
    refine ⟨⟨a1.filter _, (natI_asc 6).filter _, fun a ha b hb => ?_⟩, a1.filter _, fun a ha b hb => ?_⟩
    · have h1 := (List.mem_filter.1 ha).2
      have h2 := natI_mem.1 (List.mem_filter.1 hb).1
      have h1 : a < 0 := by simpa using h1
      omega
    · have h2 := (List.mem_filter.1 hb).2
      have h2 : b > 5 := by simpa using h2
      rcases List.mem_append.1 ha with ha | ha
      · have h1 := (List.mem_filter.1 ha).2
        have h1 : a < 0 := by simpa using h1
        omega
      · have h1 := natI_mem.1 (List.mem_filter.1 ha).1
        omega
  · unfold regs21L
    rw [takeWhile_asc a1, regsB_mem]
    unfold rawB lowR
    simp only [List.mem_append, List.mem_filter, natI_mem, a2, decide_eq_true_eq, Bool.or_eq_true, List.contains_iff_mem]
    have hargs : (argsK f : Int) = argsI f := hI.symm
    unfold argsI at hargs
    constructor
    · rintro ((⟨h, _⟩ | ⟨⟨h1, h2⟩, h | h⟩) | ⟨h, _⟩)
      · exact .inr h
      · left
        refine ⟨h1, ?_⟩
        rw [hargs]
        split <;> split <;> omega
      · exact .inr h
      · exact .inr h
    · rintro (⟨h1, h2⟩ | h)
      · left; right
        rw [hargs] at h2
        refine ⟨⟨h1, ?_⟩, .inl ?_⟩
        · split at h2 <;> split at h2 <;> omega
        · split at h2 <;> split at h2 <;> omega
      · by_cases hy : y < 0
        · exact .inl (.inl ⟨h, hy⟩)
        · by_cases hy5 : y > 5
          · exact .inr ⟨h, hy5⟩
          · exact .inl (.inr ⟨⟨by omega, by omega⟩, .inr h⟩)
end Mu
end
section
/-
  The reference's answer on what crosses is inter's, in plain terms; its places are bound's.
  Conditions: none.
-/
namespace Mu
open Go Go.RowKit Go.Proofs

def cross18L (f : Func) : List Int := ((stepsL f).flatMap crossA).foldl withL []
theorem cross18_eq (f : Func) : cross18L f = crossL f := by
  obtain ⟨a1, a2⟩ := foldWL_asc ((stepsL f).flatMap crossA)
  refine asc_ext a1 (crossL_asc f) fun y => ?_
  have hK : crossK f (stepsL f).length y = true ↔ y ∈ (stepsL f).flatMap crossA := by
    unfold crossK addL
    rw [List.take_length]
    simp only [Bool.false_or, List.contains_iff_mem]
  unfold crossL
  rw [List.mem_filter, hK]
  constructor
  · intro h
    have h := (a2 y).1 h
    refine ⟨?_, h⟩
    obtain ⟨q, hq, hy⟩ := List.mem_flatMap.1 h
    exact crossA_sub (stepsL_mem hq).2.1 y hy
  · rintro ⟨_, h⟩
    exact (a2 y).2 h
/-- what the reference asks of each register behind an instruction -/
def crossQ (x : Ins) (r : Int) : Bool := x.op == 7 || (x.op == 5 && r != x.d)
theorem crossA_eq (q : Ins × List Int) : crossA q = q.2.filter (crossQ q.1) := by
  unfold crossA crossQ
  split
  · rename_i h
    simp only [Bool.and_eq_true, bne_iff_ne, ne_eq] at h
    refine (List.filter_eq_nil_iff.2 fun r _ => ?_).symm
    simp [h.1, h.2]
  · rename_i h
    refine List.filter_congr fun r _ => ?_
    by_cases h7 : q.1.op = 7
    · simp [h7]
    · have h5 : q.1.op = 5 := by
        simp only [Bool.and_eq_true, bne_iff_ne, ne_eq, not_and, Decidable.not_not] at h
        by_cases h5 : q.1.op = 5
        · exact h5
        · exact absurd (h h5) h7
      simp [h7, h5]
def keptP21 : List Int := locP ++ insP
theorem places21_eq (cross : List Int) (r : Int) (leaf : Bool) : placesP cross r leaf = if leaf then fewP else if cross.contains r then keptP21 else fewP ++ keptP21 := by
  unfold placesP
  cases leaf
  · cases cross.contains r <;> rfl
  · rfl
end Mu
end
section
/-
  A function that returns a row of its own, as its walk shows.
  Conditions: none; generic.
-/
namespace Mu
open Go Go.RowKit Go.Proofs

theorem ownsRow_base {w : World} {e : TypeId} {sz n base : Nat} {v : Value} {cells : List Value} (h : w.ownsRow 0 e sz v n cells) (hg : ∀ g, v.ownBlock = some g → base ≤ g) : w.ownsRow base e sz v n cells := by
  obtain ⟨h1, h2 | ⟨g, cap, cur, rfl, _, h3⟩⟩ := h
  · exact ⟨h1, .inl h2⟩
  · exact ⟨h1, .inr ⟨g, cap, cur, rfl, hg g rfl, h3⟩⟩
def RetsO (t : Tmp) (e : TypeId) {α : Type} (T : Ty α) (l : List α) : Exit → St → Prop := fun ex s => (ex = .normal ∨ ex = .ret) ∧ mkD s.h = [] ∧ ∃ i ver, evA s.t (.tmp t) = .own i ver ∧ s.h[i]? = some (.row ver e T l)
theorem FnOwn.of_awp {P : Program} {f : FuncId} {fn : Go.Func} {c : Code} {args : List AV} {e : TypeId} {α : Type} {T : Ty α} {l : List α} {t : Tmp} {n : Nat} (hf : P.funcs[f]? = some fn) (hb : fn.body = some c) (hE : Enters P f = true) (hres : fn.results = #[.tmp t]) (hn : fn.ntmps = n)
    (hT : ∀ w S S' cs d, T.RS w S cs d → T.RS w S' cs d)
    (h : ∀ C : Ctx, C.std → Awp P C c (RetsO t e T l) ⟨args ++ List.replicate (n - args.length) (.lit undef), []⟩) : FnOwn P f args e T l := by
  refine ⟨hE, fun w S vs hS hr => calls_of_wp hf hb ?_⟩
  rw [hn]
  refine wp_mono ((h ⟨w, S, fun k => k < w.heap.size, none⟩ (fun _ h => h)).wp rfl (start_rel hS hr)) ?_
  rintro ex a' w' ⟨s, ⟨he, hm, i, ver, hx, hi⟩, hd, S1, ψ, H, hl⟩
  rw [hm] at hd
  have hv := ev_rel hl (.tmp t)
  rw [hx] at hv
  unfold AV.rel at hv
  have hv' := (hv.2 _ (by rw [hi]; rfl)).2 rfl
  obtain ⟨cells, h1, _, h2, h3⟩ := H.blk i _ hi
  have hres' : (results fn a'.tmps).run P w' = .ok (a'.eval (.tmp t)) w' := results_tmp hres _ _ _
  have hown : w'.ownsRow w.heap.size e T.size (ψ i) l.length cells := ownsRow_base h1 fun g hg => Nat.le_of_not_lt fun hlt => (h3 g hg).1 hlt
  rw [hv'] at hres'
  have hR : ∀ j d, l[j]? = some d → T.RS w' S ((cells.drop (j * T.size)).take T.size) d := fun j d hd => hT _ _ _ _ _ (h2 j d hd)
  rcases he with rfl | rfl
  · exact ⟨hd, _, hres', _, cells, rfl, H.bel.below fun _ h => h, hown, hR⟩
  · exact ⟨hd, _, hres', _, cells, rfl, H.bel.below fun _ h => h, hown, hR⟩
theorem FnOwn.fn {P : Program} {f : FuncId} {args : List AV} {e : TypeId} {α : Type} {T : Ty α} {l : List α} (h : FnOwn P f args e T l) : Fn P f args (.bs T l) := by
  refine ⟨h.1, fun w S vs hS hr => (h.2 w S vs hS hr).mono ?_⟩
  rintro r w' ⟨v, cells, rfl, hb, hown, hR⟩
  refine ⟨v, rfl, hb, fun k => S k ∨ v.ownBlock = some k, fun _ h => .inl h, fun k hk => ?_, fun k hk => ?_, ?_⟩
  · rcases hk with hk | hk
    · exact .inl hk
    · exact .inr (hown.lt k hk).1
  · rcases hk with hk | hk
    · exact Nat.lt_of_lt_of_le (hS k hk) hb.size
    · exact (hown.lt k hk).2
  · unfold AV.rel
    exact own_slice hown (fun i d hd => T.keepS (hR i d hd) (fun _ _ => rfl) fun _ h => .inl h) fun _ h => .inr h
theorem int_any : ∀ (w : World) (S S' : Nat → Prop) (cs : List Value) (d : Int), tInt.RS w S cs d → tInt.RS w S' cs d := fun _ _ _ _ _ h => tInt_R.2 (tInt_R.1 h)
end Mu
end
section
/-
  muntinref18.Cross; muntinref21: in, from, Places, Kept; bound.Classes, walked.
  Conditions: data of at most 2^21 everywhere.
-/
namespace Mu
open Go Go.RowKit Go.Proofs

set_option maxRecDepth 100000 in
theorem in21_fn (l : List Int) (n : Int) (hl : l.length ≤ 2097160) : Fn Tryz.prog 22 [.bs tInt l, .lit (.int .i64 n)] (.lit (.bool (l.contains n))) := by
  refine Fn.of_awp Tryz.func22 rfl (by kernel_rfl) rfl Tryz.ntmps22 fun C hC => ?_
  simp only [List.length_cons, List.length_nil, Nat.reduceAdd, Nat.reduceSub, List.replicate_succ, List.replicate_zero, List.cons_append, List.nil_append]
  refine Awp.seq fun K1 h1 => ?_
  (refine Awp.region ?_; (repeat (first | refine sQ (hq := Quiet.pickOr rfl rfl rfl rfl) (hk := ?_) | refine sQ (hq := Quiet.pickAnd rfl rfl rfl rfl) (hk := ?_) | refine sQ (hk := ?_) | refine sSkip (hk := ?_) | refine sG (hk := ?_) | refine sOwn (hk := ?_))); refine aSeq_nil ?_)
  refine h1 _ ?_
  refine nT (hk := ?_)
  refine Awp.seq fun K2 h2 => ?_
  refine Awp.seq fun K3 h3 => ?_
  (refine Awp.region ?_; (repeat (first | refine sQ (hq := Quiet.pickOr rfl rfl rfl rfl) (hk := ?_) | refine sQ (hq := Quiet.pickAnd rfl rfl rfl rfl) (hk := ?_) | refine sQ (hk := ?_) | refine sSkip (hk := ?_) | refine sG (hk := ?_) | refine sOwn (hk := ?_))); refine aSeq_nil ?_)
  refine h3 _ ?_
  refine nT (hk := ?_)
  refine Awp.block ?_
  refine Awp.loopF (fun i : Nat => ⟨[.bs tInt l, .lit (.int .i64 n), .any, .any, .any, .lit (.int .i64 (i : Int)), .any, .any, .any, .any, .any, .any, .any, .any, .any, .any, .any, .any], []⟩) (fun i => i ≤ l.length ∧ (l.take i).contains n = false) (fun i => l.length - i) 0 ⟨Nat.zero_le _, rfl⟩ (le_T) ?_
  rintro i ⟨hi, hc⟩
  refine Awp.seq fun K4 h4 => ?_
  refine Awp.seq fun K5 h5 => ?_
  (refine Awp.region ?_; (repeat (first | refine sQ (hq := Quiet.pickOr rfl rfl rfl rfl) (hk := ?_) | refine sQ (hq := Quiet.pickAnd rfl rfl rfl rfl) (hk := ?_) | refine sQ (hk := ?_) | refine sSkip (hk := ?_) | refine sG (hk := ?_) | refine sOwn (hk := ?_))); refine aSeq_nil ?_)
  refine h5 _ ?_
  refine nT (hk := ?_)
  refine Awp.cond rfl (fun hb => ?_) (fun hb => ?_)
  · have hlt : i < l.length := by simpa using hb
    obtain ⟨x, hx⟩ : ∃ x, l[i]? = some x := ⟨_, List.getElem?_eq_getElem hlt⟩
    refine Awp.skip ?_
    refine h4 _ ?_
    refine nT (hk := ?_)
    refine Awp.seq fun K6 h6 => ?_
    refine Awp.block ?_
    refine Awp.seq fun K7 h7 => ?_
    (refine Awp.region ?_; (repeat (first | refine sQ (hq := Quiet.pickOr rfl rfl rfl rfl) (hk := ?_) | refine sQ (hq := Quiet.pickAnd rfl rfl rfl rfl) (hk := ?_) | refine sQ (hk := ?_) | refine sSkip (hk := ?_) | refine sG (hk := ?_) | refine sOwn (hk := ?_))); refine aSeq_nil ?_)
    refine h7 _ ?_
    refine nT (hk := ?_)
    refine Awp.cond rfl (fun hb2 => ?_) (fun hb2 => ?_)
    · have hxn : x = n := by simpa using hb2
      have hcn : l.contains n = true := by rw [← hxn]; exact List.contains_iff_mem.2 (List.mem_of_getElem? hx)
      refine Awp.seq fun K8 h8 => ?_
      (refine Awp.region ?_; (repeat (first | refine sQ (hq := Quiet.pickOr rfl rfl rfl rfl) (hk := ?_) | refine sQ (hq := Quiet.pickAnd rfl rfl rfl rfl) (hk := ?_) | refine sQ (hk := ?_) | refine sSkip (hk := ?_) | refine sG (hk := ?_) | refine sOwn (hk := ?_))); refine aSeq_nil ?_)
      refine h8 _ ?_
      refine nT (hk := ?_)
      refine Awp.ret ?_
      rw [hcn]
      exact ⟨.inr rfl, Fin.cl rfl⟩
    · have hxn : ¬ x = n := by simpa using hb2
      refine Awp.skip ?_
      refine h6 _ ?_
      refine nT (hk := ?_)
      (refine Awp.region ?_; (repeat (first | refine sQ (hq := Quiet.pickOr rfl rfl rfl rfl) (hk := ?_) | refine sQ (hq := Quiet.pickAnd rfl rfl rfl rfl) (hk := ?_) | refine sQ (hk := ?_) | refine sSkip (hk := ?_) | refine sG (hk := ?_) | refine sOwn (hk := ?_))); refine aSeq_nil ?_)
      refine athen_n ⟨i + 1, ⟨by omega, ?_⟩, by omega, le_T⟩
      rw [List.take_add_one, hx, List.contains_eq_mem] at *
      simp only [Option.toList_some, List.mem_append, List.mem_cons, List.not_mem_nil, or_false, decide_eq_false_iff_not, not_or] at hc ⊢
      exact ⟨by simpa [List.contains_eq_mem] using hc, fun e => hxn e.symm⟩
  · have hie : i = l.length := by have : ¬ i < l.length := (by simpa using hb); omega
    rw [hie, List.take_length] at hc
    refine Awp.exit ?_
    refine h2 _ ?_
    refine nT (hk := ?_)
    refine Awp.seq fun K9 h9 => ?_
    (refine Awp.region ?_; (repeat (first | refine sQ (hq := Quiet.pickOr rfl rfl rfl rfl) (hk := ?_) | refine sQ (hq := Quiet.pickAnd rfl rfl rfl rfl) (hk := ?_) | refine sQ (hk := ?_) | refine sSkip (hk := ?_) | refine sG (hk := ?_) | refine sOwn (hk := ?_))); refine aSeq_nil ?_)
    refine h9 _ ?_
    refine nT (hk := ?_)
    refine Awp.ret ?_
    rw [hc]
    exact ⟨.inr rfl, Fin.cl rfl⟩

def fromL (n : Int) (k : Nat) : List Int := (List.range k).map fun (j : Nat) => n + (j : Int)
theorem fromL_succ (n : Int) (k : Nat) : fromL n (k + 1) = fromL n k ++ [n + (k : Int)] := by unfold fromL; rw [List.range_succ, List.map_append]; rfl
theorem fromL_len (n : Int) (k : Nat) : (fromL n k).length = k := by simp [fromL]
set_option maxRecDepth 100000 in
theorem from21_own (n : Int) (m : Nat) (hn : 0 ≤ n) (hn2 : n ≤ 100) (hm : m ≤ 100) : FnOwn Tryz.prog 25 [.lit (.int .i64 n), .lit (.int .i64 (m : Int))] 3 tInt (fromL n m) := by
  refine FnOwn.of_awp Tryz.func25 rfl (by kernel_rfl) rfl Tryz.ntmps25 int_any fun C hC => ?_
  simp only [List.length_cons, List.length_nil, Nat.reduceAdd, Nat.reduceSub, List.replicate_succ, List.replicate_zero, List.cons_append, List.nil_append]
  refine Awp.seq fun K1 h1 => ?_
  (refine Awp.region ?_; (repeat (first | refine sQ (hq := Quiet.pickOr rfl rfl rfl rfl) (hk := ?_) | refine sQ (hq := Quiet.pickAnd rfl rfl rfl rfl) (hk := ?_) | refine sQ (hk := ?_) | refine sSkip (hk := ?_) | refine sG (hk := ?_) | refine sOwn (hk := ?_))); refine aSeq_nil ?_)
  refine h1 _ ?_
  refine nT (hk := ?_)
  refine Awp.seq fun K2 h2 => ?_
  (refine Awp.region ?_; (repeat (first | refine sQ (hq := Quiet.pickOr rfl rfl rfl rfl) (hk := ?_) | refine sQ (hq := Quiet.pickAnd rfl rfl rfl rfl) (hk := ?_) | refine sQ (hk := ?_) | refine sSkip (hk := ?_) | refine sG (hk := ?_) | refine sOwn (hk := ?_))); refine aSeq_nil ?_)
  refine h2 _ ?_
  refine nT (hk := ?_)
  refine Awp.seq fun K3 h3 => ?_
  refine Awp.seq fun K4 h4 => ?_
  (refine Awp.region ?_; (repeat (first | refine sQ (hq := Quiet.pickOr rfl rfl rfl rfl) (hk := ?_) | refine sQ (hq := Quiet.pickAnd rfl rfl rfl rfl) (hk := ?_) | refine sQ (hk := ?_) | refine sSkip (hk := ?_) | refine sG (hk := ?_) | refine sOwn (hk := ?_))); refine aSeq_nil ?_)
  refine h4 _ ?_
  refine nT (hk := ?_)
  refine Awp.block ?_
  refine Awp.loopF (fun p : Nat × Nat => ⟨[.lit (.int .i64 n), .lit (.int .i64 (m : Int)), .any, .any, .any, .own 0 p.2, .lit (.int .i64 (p.1 : Int)), .any, .any, .any, .any, .any, .any, .any, .any, .any, .any, .any, .any], [.row p.2 3 tInt (fromL n p.1)]⟩) (fun p => p.1 ≤ m) (fun p => m - p.1) (0, 0) (Nat.zero_le _) ((St.le_nil 5 3 tInt rfl (by decide)).trans (le_T)) ?_
  rintro ⟨i, ver⟩ hi
  dsimp only at hi ⊢
  refine Awp.seq fun K6 h6 => ?_
  refine Awp.seq fun K7 h7 => ?_
  (refine Awp.region ?_; (repeat (first | refine sQ (hq := Quiet.pickOr rfl rfl rfl rfl) (hk := ?_) | refine sQ (hq := Quiet.pickAnd rfl rfl rfl rfl) (hk := ?_) | refine sQ (hk := ?_) | refine sSkip (hk := ?_) | refine sG (hk := ?_) | refine sOwn (hk := ?_))); refine aSeq_nil ?_)
  refine h7 _ ?_
  refine nT (hk := ?_)
  refine Awp.cond rfl (fun hb8 => ?_) (fun hb8 => ?_)
  · have hlt : i < m := by simpa using hb8
    have hw : wfI .i64 (n + (i : Int)) := by
      obtain ⟨k, rfl⟩ : ∃ k : Nat, n = (k : Int) := ⟨n.toNat, by omega⟩
      exact nat_wf (k := k + i) (by omega)
    have hln := fromL_len n i
    have hsn := fromL_succ n i
    generalize fromL n i = L0 at hln hsn ⊢
    refine Awp.skip ?_
    refine h6 _ ?_
    refine nT (hk := ?_)
    refine Awp.seq fun K9 h9 => ?_
    refine Awp.block ?_
    (refine Awp.region ?_; (repeat (first | refine sQ (hq := Quiet.pickOr rfl rfl rfl rfl) (hk := ?_) | refine sQ (hq := Quiet.pickAnd rfl rfl rfl rfl) (hk := ?_) | refine sQ (hk := ?_) | refine sSkip (hk := ?_) | refine sG (hk := ?_) | refine sOwn (hk := ?_))); refine aSeq_nil ?_)
    refine h9 _ ?_
    refine nT (hk := ?_)
    (refine Awp.region ?_; (repeat (first | refine sQ (hq := Quiet.pickOr rfl rfl rfl rfl) (hk := ?_) | refine sQ (hq := Quiet.pickAnd rfl rfl rfl rfl) (hk := ?_) | refine sQ (hk := ?_) | refine sSkip (hk := ?_) | refine sG (hk := ?_) | refine sOwn (hk := ?_))); refine aSeq_nil ?_)
    refine athen_n ⟨(i + 1, ver + 1), by dsimp only; omega, by dsimp only; omega, ?_⟩
    dsimp only
    rw [hsn]
    exact le_T
  · have hie : i = m := by have : ¬ i < m := (by simpa using hb8); omega
    subst hie
    refine Awp.exit ?_
    refine h3 _ ?_
    refine nT (hk := ?_)
    refine Awp.seq fun K10 h10 => ?_
    (refine Awp.region ?_; (repeat (first | refine sQ (hq := Quiet.pickOr rfl rfl rfl rfl) (hk := ?_) | refine sQ (hq := Quiet.pickAnd rfl rfl rfl rfl) (hk := ?_) | refine sQ (hk := ?_) | refine sSkip (hk := ?_) | refine sG (hk := ?_) | refine sOwn (hk := ?_))); refine aSeq_nil ?_)
    refine h10 _ ?_
    refine nT (hk := ?_)
    refine Awp.ret ?_
    exact ⟨.inr rfl, rfl, _, _, rfl, rfl⟩

def kept21P (p : Int) : Bool := (decide (p ≥ 16) && decide (p ≤ 29)) || decide (p ≥ 32)
theorem kept21P_eq (p : Int) : kept21P p = keptB p := by
  unfold kept21P keptB
  rw [show decide (p ≤ 29) = decide (p < 30) from decide_eq_decide.2 (by omega)]
set_option maxRecDepth 100000 in
theorem kept21r_fn (p : Int) : Fn Tryz.prog 16 [.lit (.int .i64 p)] (.lit (.bool (keptB p))) := by
  rw [← kept21P_eq]
  refine Fn.of_awp Tryz.func16 rfl (by kernel_rfl) rfl Tryz.ntmps16 fun C hC => ?_
  simp only [List.length_cons, List.length_nil, Nat.reduceAdd, Nat.reduceSub, List.replicate_succ, List.replicate_zero, List.cons_append, List.nil_append]
  refine Awp.seq fun K1 h1 => ?_
  (refine Awp.region ?_; (repeat (first | refine sQ (hq := Quiet.pickOr rfl rfl rfl rfl) (hk := ?_) | refine sQ (hq := Quiet.pickAnd rfl rfl rfl rfl) (hk := ?_) | refine sQ (hk := ?_) | refine sSkip (hk := ?_) | refine sG (hk := ?_) | refine sOwn (hk := ?_))); refine aSeq_nil ?_)
  refine h1 _ ?_
  refine nT (hk := ?_)
  refine Awp.seq fun K2 h2 => ?_
  (refine Awp.region ?_; (repeat (first | refine sQ (hq := Quiet.pickOr rfl rfl rfl rfl) (hk := ?_) | refine sQ (hq := Quiet.pickAnd rfl rfl rfl rfl) (hk := ?_) | refine sQ (hk := ?_) | refine sSkip (hk := ?_) | refine sG (hk := ?_) | refine sOwn (hk := ?_))); refine aSeq_nil ?_)
  refine h2 _ ?_
  refine nT (hk := ?_)
  refine Awp.ret ?_
  exact ⟨.inr rfl, Fin.cl rfl⟩
end Mu
end
section
/-
  muntinref18.Cross, walked.
  Conditions: data of at most 2^21 everywhere.
-/
namespace Mu
open Go Go.RowKit Go.Proofs

def preS (f : Func) (b : Nat) : List Int := ((List.range b).flatMap (stepsB f)).flatMap crossA
def preT (f : Func) (b i : Nat) : List Int := preS f b ++ ((stepsB f b).take i).flatMap crossA
theorem preS_in (f : Func) {b : Nat} (hb : b ≤ f.blocks.length) : ∀ y ∈ preS f b, y ∈ regsL f := fun y hy => by
  obtain ⟨q, hq, hy⟩ := List.mem_flatMap.1 hy
  obtain ⟨c, hc, hq⟩ := List.mem_flatMap.1 hq
  have hc := List.mem_range.1 hc
  exact crossA_sub (stepsL_mem (List.mem_flatMap.2 ⟨c, List.mem_range.2 (by omega), hq⟩)).2.1 y hy
theorem preT_in (f : Func) {b i : Nat} (hb : b < f.blocks.length) : ∀ y ∈ preT f b i, y ∈ regsL f := fun y hy => by
  rcases List.mem_append.1 hy with hy | hy
  · exact preS_in f (by omega) y hy
  · obtain ⟨q, hq, hy⟩ := List.mem_flatMap.1 hy
    exact crossA_sub (stepsL_mem (List.mem_flatMap.2 ⟨b, List.mem_range.2 hb, List.mem_of_mem_take hq⟩)).2.1 y hy
theorem preS_next (f : Func) (b : Nat) : preS f (b + 1) = preT f b (stepsB f b).length := by
  unfold preT preS
  rw [List.take_length, List.range_succ, List.flatMap_append, List.flatMap_append]
  simp
theorem preT_next {f : Func} {b i : Nat} {q : Ins × List Int} (h : (stepsB f b)[i]? = some q) : preT f b (i + 1) = preT f b i ++ q.2.filter (crossQ q.1) := by
  unfold preT
  rw [flat_next h, ← List.append_assoc, crossA_eq]
theorem preT_zero (f : Func) (b : Nat) : preT f b 0 = preS f b := by unfold preT; simp
theorem preS_zero (f : Func) : preS f 0 = [] := rfl
theorem preS_all (f : Func) : preS f f.blocks.length = (stepsL f).flatMap crossA := rfl
theorem foldWL_in {l m : List Int} (h : ∀ y ∈ l, y ∈ m) : (l.foldl withL []).length ≤ m.length ∧ (okInts m → okInts (l.foldl withL [])) := by
  obtain ⟨a1, a2⟩ := foldWL_asc l
  exact ⟨nodup_le a1.nodup fun x hx => h x ((a2 x).1 hx), fun ho r hr => ho r (h r ((a2 r).1 hr))⟩
theorem foldWL_snoc (P : List Int) (r : Int) : (P ++ [r]).foldl withL [] = withL (P.foldl withL []) r := by rw [List.foldl_append]; rfl

set_option maxRecDepth 100000 in
set_option maxHeartbeats 4000000 in
theorem cross18_fn (f : Func) (ho : okFunc f) (hs : smallF f) (hT : (allReads f).length ≤ 2097152) (hi1 : ∀ b ∈ f.blocks, b.ins.length + 1 ≤ 2097152) : Fn Tryz.prog 26 [.agg (encFunc f)] (.bs tInt (crossL f)) := by
  have hbl := hs.blocks
  have hLl : (regsL f).length ≤ 2097152 := Nat.le_trans (regsOf_le _) hT
  have hLo : okInts (regsL f) := fun x hx => by
    obtain ⟨b, h1, y, h2, h3⟩ := regsL_mem.1 hx
    exact readsC_ok ((ho.blocks b h1).ins y h2) x h3
  rw [← cross18_eq]
  refine Fn.of_awp Tryz.func26 rfl (by kernel_rfl) rfl Tryz.ntmps26 fun C hC => ?_
  simp only [List.length_cons, List.length_nil, Nat.reduceAdd, Nat.reduceSub, List.replicate_succ, List.replicate_zero, List.cons_append, List.nil_append]
  refine Awp.seq fun K1 h1 => ?_
  (refine Awp.region ?_; (repeat (first | refine sQ (hq := Quiet.pickOr rfl rfl rfl rfl) (hk := ?_) | refine sQ (hq := Quiet.pickAnd rfl rfl rfl rfl) (hk := ?_) | refine sQ (hk := ?_) | refine sSkip (hk := ?_) | refine sG (hk := ?_) | refine sOwn (hk := ?_))); refine aSeq_nil ?_)
  refine h1 _ ?_
  refine nT (hk := ?_)
  refine Awp.seq fun K2 h2 => ?_
  (refine Awp.region ?_; (repeat (first | refine sQ (hq := Quiet.call rfl (all17_fn f ho hs hT) rfl rfl rfl) (hk := ?_) | refine sQ (hq := Quiet.pickOr rfl rfl rfl rfl) (hk := ?_) | refine sQ (hq := Quiet.pickAnd rfl rfl rfl rfl) (hk := ?_) | refine sQ (hk := ?_) | refine sSkip (hk := ?_) | refine sG (hg := by first | rfl | exact gA_c rfl rfl) (hq := by (intro hg; (try simp only [Bool.and_eq_true, beq_iff_eq] at hg); (try simp only [hg, cond_true, Bool.true_and, beq_self_eq_true]); exact Quiet.call rfl (all17_fn f ho hs hT) rfl rfl rfl)) (hk := ?_) | refine sG (hk := ?_) | refine sOwn (hk := ?_))); refine aSeq_nil ?_)
  refine h2 _ ?_
  refine nT (hk := ?_)
  refine Awp.seq fun K3 h3 => ?_
  (refine Awp.region ?_; (repeat (first | refine sQ (hq := Quiet.pickOr rfl rfl rfl rfl) (hk := ?_) | refine sQ (hq := Quiet.pickAnd rfl rfl rfl rfl) (hk := ?_) | refine sQ (hk := ?_) | refine sSkip (hk := ?_) | refine sG (hk := ?_) | refine sOwn (hk := ?_))); refine aSeq_nil ?_)
  refine h3 _ ?_
  refine nT (hk := ?_)
  refine Awp.seq fun K4 h4 => ?_
  refine Awp.seq fun K5 h5 => ?_
  (refine Awp.region ?_; (repeat (first | refine sQ (hq := Quiet.pickOr rfl rfl rfl rfl) (hk := ?_) | refine sQ (hq := Quiet.pickAnd rfl rfl rfl rfl) (hk := ?_) | refine sQ (hk := ?_) | refine sSkip (hk := ?_) | refine sG (hk := ?_) | refine sOwn (hk := ?_))); refine aSeq_nil ?_)
  refine h5 _ ?_
  refine nT (hk := ?_)
  refine Awp.block ?_
  refine Awp.loopF (fun b : Nat => ⟨[.any, .ptr 0 0, .any, .bs tInt.slice.slice (allL f), .bs tInt ((preS f b).foldl withL []), .lit (.int .i64 (b : Int)), .any, .any, .any, .any, .any, .any, .any, .any, .any, .any, .any, .any, .any, .any, .any, .any, .any, .any, .any, .any, .any, .any, .any, .any, .any, .any, .any, .any, .any, .any, .any, .any, .any, .any, .any, .any, .any, .any, .any, .any, .any, .any, .any, .any, .any, .any, .any, .any, .any, .any, .any, .any, .any, .any, .any, .any, .any, .any, .any, .any, .any, .any, .any, .any, .any, .any, .any, .any, .any, .any, .any], [.box (encFunc f)]⟩) (fun b => b ≤ f.blocks.length) (fun b => f.blocks.length - b) 0 (Nat.zero_le _) (by rw [preS_zero f]; exact (St.le_nilbs 4 tInt rfl).trans (le_T)) ?_
  intro b hb
  refine Awp.seq fun K7 h7 => ?_
  refine Awp.seq fun K8 h8 => ?_
  (refine Awp.region ?_; (repeat (first | refine sQ (hq := Quiet.pickOr rfl rfl rfl rfl) (hk := ?_) | refine sQ (hq := Quiet.pickAnd rfl rfl rfl rfl) (hk := ?_) | refine sQ (hk := ?_) | refine sSkip (hk := ?_) | refine sG (hk := ?_) | refine sOwn (hk := ?_))); refine aSeq_nil ?_)
  refine h8 _ ?_
  refine nT (hk := ?_)
  refine Awp.cond rfl (fun hb9 => ?_) (fun hb9 => ?_)
  · have hlt : b < f.blocks.length := by simpa using hb9
    obtain ⟨bl, hblk⟩ : ∃ bl, f.blocks[b]? = some bl := ⟨_, List.getElem?_eq_getElem hlt⟩
    have hmem := List.mem_of_getElem? hblk
    have hob := ho.blocks bl hmem
    have hsb := hs.all bl hmem
    have hil := hsb.ins
    have hins : insOf f b = bl.ins := by unfold insOf; rw [hblk]
    have hal : (allL f)[b]? = some (blockL f b) := by unfold allL; rw [List.getElem?_map, List.getElem?_range hlt]; rfl
    have hsl : (stepsB f b).length = bl.ins.length := by rw [stepsB_len, hins]
    have hnb := preS_next f b
    rw [hsl] at hnb
    refine Awp.skip ?_
    refine h7 _ ?_
    refine nT (hk := ?_)
    refine Awp.seq fun K10 h10 => ?_
    refine Awp.block ?_
    refine Awp.seq fun K11 h11 => ?_
    (refine Awp.region ?_; (repeat (first | refine sQ (hq := Quiet.pickOr rfl rfl rfl rfl) (hk := ?_) | refine sQ (hq := Quiet.pickAnd rfl rfl rfl rfl) (hk := ?_) | refine sQ (hk := ?_) | refine sSkip (hk := ?_) | refine sG (hk := ?_) | refine sOwn (hk := ?_))); refine aSeq_nil ?_)
    refine h11 _ ?_
    refine nT (hk := ?_)
    refine Awp.block ?_
    refine Awp.loopF (fun i : Nat => ⟨[.any, .ptr 0 0, .any, .bs tInt.slice.slice (allL f), .bs tInt ((preT f b i).foldl withL []), .lit (.int .i64 (b : Int)), .lit (.int .i64 (i : Int)), .any, .any, .any, .any, .any, .any, .any, .any, .any, .any, .any, .any, .any, .any, .any, .any, .any, .any, .any, .any, .any, .any, .any, .any, .any, .any, .any, .any, .any, .any, .any, .any, .any, .any, .any, .any, .any, .any, .any, .any, .any, .any, .any, .any, .any, .any, .any, .any, .any, .any, .any, .any, .any, .any, .any, .any, .any, .any, .any, .any, .any, .any, .any, .any, .any, .any, .any, .any, .any, .any], [.box (encFunc f)]⟩) (fun i => i ≤ bl.ins.length) (fun i => bl.ins.length - i) 0 (Nat.zero_le _) (by rw [preT_zero f b]; exact le_T) ?_
    intro i hi
    refine Awp.seq fun K13 h13 => ?_
    refine Awp.seq fun K14 h14 => ?_
    (refine Awp.region ?_; (repeat (first | refine sQ (hq := Quiet.pickOr rfl rfl rfl rfl) (hk := ?_) | refine sQ (hq := Quiet.pickAnd rfl rfl rfl rfl) (hk := ?_) | refine sQ (hk := ?_) | refine sSkip (hk := ?_) | refine sG (hk := ?_) | refine sOwn (hk := ?_))); refine aSeq_nil ?_)
    refine h14 _ ?_
    refine nT (hk := ?_)
    refine Awp.cond rfl (fun hb15 => ?_) (fun hb15 => ?_)
    · have hil2 : i < bl.ins.length := by simpa using hb15
      obtain ⟨x, hx⟩ : ∃ x, bl.ins[i]? = some x := ⟨_, List.getElem?_eq_getElem hil2⟩
      have hxm := List.mem_of_getElem? hx
      have hox := hob.ins x hxm
      obtain ⟨lp, hlp0⟩ : ∃ lp, (blockL f b)[i + 1]? = some lp := ⟨_, List.getElem?_eq_getElem (by rw [blockL_len, hins]; omega)⟩
      have hlp : (blockL f b)[((i : Int) + 1).toNat]? = some lp := by rw [show ((i : Int) + 1).toNat = i + 1 by omega]; exact hlp0
      have hst := stepsB_at (f := f) (b := b) (i := i) (x := x) (by rw [hins]; exact hx) hlp0
      have hpn := preT_next hst
      have hpin := preT_in f (i := i + 1) hlt
      rw [hpn] at hpin
      have hlpl : lp.length ≤ 2097152 := by
        have := (stepsL_mem (List.mem_flatMap.2 ⟨b, List.mem_range.2 hlt, List.mem_of_getElem? hst⟩)).2.2
        exact Nat.le_trans this hLl
      generalize preT f b i = P at hpn hpin ⊢
      refine Awp.skip ?_
      refine h13 _ ?_
      refine nT (hk := ?_)
      refine Awp.seq fun K16 h16 => ?_
      refine Awp.block ?_
      refine Awp.seq fun K17 h17 => ?_
      (refine Awp.region ?_; (repeat (first | refine sQ (hq := Quiet.pickOr rfl rfl rfl rfl) (hk := ?_) | refine sQ (hq := Quiet.pickAnd rfl rfl rfl rfl) (hk := ?_) | refine sQ (hk := ?_) | refine sSkip (hk := ?_) | refine sG (hk := ?_) | refine sOwn (hk := ?_))); refine aSeq_nil ?_)
      refine h17 _ ?_
      refine nT (hk := ?_)
      refine Awp.seq fun K18 h18 => ?_
      (refine Awp.region ?_; (repeat (first | refine sQ (hq := Quiet.pickOr rfl rfl rfl rfl) (hk := ?_) | refine sQ (hq := Quiet.pickAnd rfl rfl rfl rfl) (hk := ?_) | refine sQ (hk := ?_) | refine sSkip (hk := ?_) | refine sG (hk := ?_) | refine sOwn (hk := ?_))); refine aSeq_nil ?_)
      refine h18 _ ?_
      refine nT (hk := ?_)
      refine Awp.seq fun K19 h19 => ?_
      (refine Awp.region ?_; (repeat (first | refine sQ (hq := Quiet.pickOr rfl rfl rfl rfl) (hk := ?_) | refine sQ (hq := Quiet.pickAnd rfl rfl rfl rfl) (hk := ?_) | refine sQ (hk := ?_) | refine sSkip (hk := ?_) | refine sG (hk := ?_) | refine sOwn (hk := ?_))); refine aSeq_nil ?_)
      refine h19 _ ?_
      refine nT (hk := ?_)
      refine Awp.block ?_
      refine Awp.loopF (fun k : Nat => ⟨[.any, .ptr 0 0, .any, .bs tInt.slice.slice (allL f), .bs tInt ((P ++ (lp.take k).filter (crossQ x)).foldl withL []), .lit (.int .i64 (b : Int)), .lit (.int .i64 (i : Int)), .ptr 1 0, .bs tInt lp, .lit (.int .i64 (k : Int)), .any, .any, .any, .any, .any, .any, .any, .any, .any, .any, .any, .any, .any, .any, .any, .any, .any, .any, .any, .any, .any, .any, .any, .any, .any, .any, .any, .any, .any, .any, .any, .any, .any, .any, .any, .any, .any, .any, .any, .any, .any, .any, .any, .any, .any, .any, .any, .any, .any, .any, .any, .any, .any, .any, .any, .any, .any, .any, .any, .any, .any, .any, .any, .any, .any, .any, .any], [.box (encFunc f), .box (encIns x)]⟩) (fun k => k ≤ lp.length) (fun k => lp.length - k) 0 (Nat.zero_le _) (by rw [show P ++ (lp.take 0).filter (crossQ x) = P by simp]; exact le_C (.cons (.cons (Cut.nil _)))) ?_
      intro k hk
      have hsub : ∀ y ∈ P ++ (lp.take k).filter (crossQ x), y ∈ regsL f := fun y hy => by
        rcases List.mem_append.1 hy with hy | hy
        · exact hpin y (List.mem_append_left _ hy)
        · refine hpin y (List.mem_append_right _ (List.mem_filter.2 ⟨List.mem_of_mem_take (List.mem_filter.1 hy).1, (List.mem_filter.1 hy).2⟩))
      obtain ⟨hl1, hl2⟩ := foldWL_in hsub
      have hl2 := hl2 hLo
      have hyes : ∀ r, lp[k]? = some r → crossQ x r = true → (P ++ (lp.take (k + 1)).filter (crossQ x)).foldl withL [] = withL ((P ++ (lp.take k).filter (crossQ x)).foldl withL []) r := fun r hr hq => by
        rw [filter_take_succ hr, hq, if_pos rfl, ← List.append_assoc, foldWL_snoc]
      have hno : ∀ r, lp[k]? = some r → crossQ x r = false → (P ++ (lp.take (k + 1)).filter (crossQ x)).foldl withL [] = (P ++ (lp.take k).filter (crossQ x)).foldl withL [] := fun r hr hq => by
        rw [filter_take_succ hr, hq, if_neg (by simp), List.append_nil]
      have hfin : k = lp.length → (P ++ lp.filter (crossQ x)).foldl withL [] = (P ++ (lp.take k).filter (crossQ x)).foldl withL [] := fun e => by rw [e, List.take_length]
      dsimp only at hk ⊢
      generalize (P ++ (lp.take k).filter (crossQ x)).foldl withL [] = O at hl1 hl2 hyes hno hfin ⊢
      refine Awp.seq fun K21 h21 => ?_
      refine Awp.seq fun K22 h22 => ?_
      (refine Awp.region ?_; (repeat (first | refine sQ (hq := Quiet.pickOr rfl rfl rfl rfl) (hk := ?_) | refine sQ (hq := Quiet.pickAnd rfl rfl rfl rfl) (hk := ?_) | refine sQ (hk := ?_) | refine sSkip (hk := ?_) | refine sG (hk := ?_) | refine sOwn (hk := ?_))); refine aSeq_nil ?_)
      refine h22 _ ?_
      refine nT (hk := ?_)
      refine Awp.cond rfl (fun hb23 => ?_) (fun hb23 => ?_)
      · have hklt : k < lp.length := by simpa using hb23
        obtain ⟨r, hr⟩ : ∃ r, lp[k]? = some r := ⟨_, List.getElem?_eq_getElem hklt⟩
        have hyes := hyes r hr
        have hno := hno r hr
        have hrw : wfI .i64 r := hLo r (by
          have := (stepsL_mem (List.mem_flatMap.2 ⟨b, List.mem_range.2 hlt, List.mem_of_getElem? hst⟩)).2.1
          exact this r (List.mem_of_getElem? hr))
        refine Awp.skip ?_
        refine h21 _ ?_
        refine nT (hk := ?_)
        refine Awp.seq fun K24 h24 => ?_
        refine Awp.block ?_
        refine Awp.seq fun K25 h25 => ?_
        (refine drawD 17 (hh := ?_); (repeat (first | refine qQ (hq := Quiet.pickOr rfl rfl rfl rfl) (hk := ?_) | refine qQ (hq := Quiet.pickAnd rfl rfl rfl rfl) (hk := ?_) | refine qQ (hk := ?_) | refine qSkip (hk := ?_) | refine qG (hk := ?_))); refine aQ_nil ?_; (repeat (first | refine sQ (hq := Quiet.pickOr rfl rfl rfl rfl) (hk := ?_) | refine sQ (hq := Quiet.pickAnd rfl rfl rfl rfl) (hk := ?_) | refine sQ (hk := ?_) | refine sSkip (hk := ?_) | refine sG (hk := ?_) | refine sOwn (hk := ?_))); refine aSeq_nil ?_)
        refine h25 _ ?_
        refine nT (hk := ?_)
        refine Awp.cond rfl (fun hb26 => ?_) (fun hb26 => ?_)
        · have hyes := hyes hb26
          (refine Awp.region ?_; (repeat (first | refine sQ (hq := Quiet.call rfl (with18_fn O r (by omega) hl2 hrw) rfl rfl rfl) (hk := ?_) | refine sQ (hq := Quiet.pickOr rfl rfl rfl rfl) (hk := ?_) | refine sQ (hq := Quiet.pickAnd rfl rfl rfl rfl) (hk := ?_) | refine sQ (hk := ?_) | refine sSkip (hk := ?_) | refine sG (hg := by first | rfl | exact gA_c rfl rfl) (hq := by (intro hg; (try simp only [Bool.and_eq_true, beq_iff_eq] at hg); (try simp only [hg, cond_true, Bool.true_and, beq_self_eq_true]); exact Quiet.call rfl (with18_fn O r (by omega) hl2 hrw) rfl rfl rfl)) (hk := ?_) | refine sG (hk := ?_) | refine sOwn (hk := ?_))); refine aSeq_nil ?_)
          refine h24 _ ?_
          refine nT (hk := ?_)
          (refine Awp.region ?_; (repeat (first | refine sQ (hq := Quiet.pickOr rfl rfl rfl rfl) (hk := ?_) | refine sQ (hq := Quiet.pickAnd rfl rfl rfl rfl) (hk := ?_) | refine sQ (hk := ?_) | refine sSkip (hk := ?_) | refine sG (hk := ?_) | refine sOwn (hk := ?_))); refine aSeq_nil ?_)
          refine athen_n ⟨k + 1, by omega, by omega, ?_⟩
          rw [hyes]
          exact le_T
        · have hno := hno hb26
          refine Awp.skip ?_
          refine h24 _ ?_
          refine nT (hk := ?_)
          (refine Awp.region ?_; (repeat (first | refine sQ (hq := Quiet.pickOr rfl rfl rfl rfl) (hk := ?_) | refine sQ (hq := Quiet.pickAnd rfl rfl rfl rfl) (hk := ?_) | refine sQ (hk := ?_) | refine sSkip (hk := ?_) | refine sG (hk := ?_) | refine sOwn (hk := ?_))); refine aSeq_nil ?_)
          refine athen_n ⟨k + 1, by omega, by omega, ?_⟩
          rw [hno]
          exact le_T
      · have hke : k = lp.length := by have : ¬ k < lp.length := (by simpa using hb23); omega
        have hfin := hfin hke
        refine Awp.exit ?_
        refine h16 _ ?_
        refine nT (hk := ?_)
        (refine Awp.region ?_; (repeat (first | refine sQ (hq := Quiet.pickOr rfl rfl rfl rfl) (hk := ?_) | refine sQ (hq := Quiet.pickAnd rfl rfl rfl rfl) (hk := ?_) | refine sQ (hk := ?_) | refine sSkip (hk := ?_) | refine sG (hk := ?_) | refine sOwn (hk := ?_))); refine aSeq_nil ?_)
        refine athen_n ⟨i + 1, by omega, by omega, ?_⟩
        rw [hpn, hfin]
        exact le_C (.cons (Cut.nil _))
    · have hie : i = bl.ins.length := by have : ¬ i < bl.ins.length := (by simpa using hb15); omega
      refine Awp.exit ?_
      refine h10 _ ?_
      refine nT (hk := ?_)
      (refine Awp.region ?_; (repeat (first | refine sQ (hq := Quiet.pickOr rfl rfl rfl rfl) (hk := ?_) | refine sQ (hq := Quiet.pickAnd rfl rfl rfl rfl) (hk := ?_) | refine sQ (hk := ?_) | refine sSkip (hk := ?_) | refine sG (hk := ?_) | refine sOwn (hk := ?_))); refine aSeq_nil ?_)
      refine athen_n ⟨b + 1, by omega, by omega, ?_⟩
      rw [hnb, ← hie]
      exact le_T
  · have hbe : b = f.blocks.length := by have : ¬ b < f.blocks.length := (by simpa using hb9); omega
    have e9 : cross18L f = (preS f b).foldl withL [] := by rw [hbe, preS_all]; rfl
    refine Awp.exit ?_
    refine h4 _ ?_
    refine nT (hk := ?_)
    refine Awp.seq fun K27 h27 => ?_
    (refine Awp.region ?_; (repeat (first | refine sQ (hq := Quiet.pickOr rfl rfl rfl rfl) (hk := ?_) | refine sQ (hq := Quiet.pickAnd rfl rfl rfl rfl) (hk := ?_) | refine sQ (hk := ?_) | refine sSkip (hk := ?_) | refine sG (hk := ?_) | refine sOwn (hk := ?_))); refine aSeq_nil ?_)
    refine h27 _ ?_
    refine nT (hk := ?_)
    refine Awp.ret ?_
    rw [e9]
    exact ⟨.inr rfl, Fin.cl rfl⟩
end Mu
end
section
/-
  muntinref21.Places, Regs, walked; bound.Classes, walked.
  Conditions: data of at most 2^21 everywhere.
-/
namespace Mu
open Go Go.RowKit Go.Proofs

theorem from_few : fromL 8 6 = [8, 9, 10, 11, 12, 13] := by decide
theorem from_loc : fromL 16 8 = locP := by decide
theorem from_ins : fromL 24 6 = insP := by decide
set_option maxRecDepth 100000 in
set_option maxHeartbeats 1000000 in
theorem places21r_fn (f : Func) (r : Int) (leaf : Bool) (ho : okFunc f) (hs : smallF f) (hT : (allReads f).length ≤ 2097152) (hi1 : ∀ b ∈ f.blocks, b.ins.length + 1 ≤ 2097152) : Fn Tryz.prog 9 [.agg (encFunc f), .lit (.int .i64 r), .lit (.bool leaf)] (.bs tInt (placesP (crossL f) r leaf)) := by
  have hcl : (crossL f).length ≤ 2097160 := by have := crossL_len f; have := Nat.le_trans (regsOf_le _) hT; unfold regsL at *; omega
  have f1 : FnOwn Tryz.prog 25 [.lit (.int .i64 8), .lit (.int .i64 6)] 3 tInt (fromL 8 6) := from21_own 8 6 (by decide) (by decide) (by decide)
  have f2 : FnOwn Tryz.prog 25 [.lit (.int .i64 16), .lit (.int .i64 8)] 3 tInt (fromL 16 8) := from21_own 16 8 (by decide) (by decide) (by decide)
  have f3 : FnOwn Tryz.prog 25 [.lit (.int .i64 24), .lit (.int .i64 6)] 3 tInt (fromL 24 6) := from21_own 24 6 (by decide) (by decide) (by decide)
  rw [from_few] at f1
  rw [from_loc] at f2
  rw [from_ins] at f3
  have f3' := f3.fn
  have hn3 : locP.length + insP.length ≤ maxLen := by decide
  have hn4 : (locP.length + insP.length) * 8 ≤ 140737488355328 := by decide
  have hw4 : wfI .i64 4 := wf_dec (by decide)
  have hin := in21_fn (crossL f) r hcl
  have hc := cross18_fn f ho hs hT hi1
  rw [places21_eq]
  refine Fn.of_awp Tryz.func9 rfl (by kernel_rfl) rfl Tryz.ntmps9 fun C hC => ?_
  simp only [List.length_cons, List.length_nil, Nat.reduceAdd, Nat.reduceSub, List.replicate_succ, List.replicate_zero, List.cons_append, List.nil_append]
  refine Awp.seq fun K1 h1 => ?_
  (refine Awp.region ?_; (repeat (first | refine sQ (hq := Quiet.pickOr rfl rfl rfl rfl) (hk := ?_) | refine sQ (hq := Quiet.pickAnd rfl rfl rfl rfl) (hk := ?_) | refine sQ (hk := ?_) | refine sSkip (hk := ?_) | refine sG (hk := ?_) | refine sOwn (hk := ?_))); refine aSeq_nil ?_)
  refine h1 _ ?_
  refine nT (hk := ?_)
  refine Awp.seq fun K2 h2 => ?_
  (refine Awp.region ?_; (repeat (first | (refine aSeq_t rfl (AOp.callOwn rfl f1 (by decide) rfl rfl ?_); refine sNt (hk := ?_)) | refine sQ (hq := Quiet.pickOr rfl rfl rfl rfl) (hk := ?_) | refine sQ (hq := Quiet.pickAnd rfl rfl rfl rfl) (hk := ?_) | refine sQ (hk := ?_) | refine sSkip (hk := ?_) | refine sG (hk := ?_) | refine sOwn (hk := ?_))); refine aSeq_nil ?_)
  refine h2 _ ?_
  refine nT (hk := ?_)
  refine Awp.seq fun K3 h3 => ?_
  refine Awp.region ?_
  refine aSeq_t rfl (AOp.callOwn rfl f2 (by decide) rfl rfl ?_)
  refine sNt (hk := ?_)
  (repeat (first | refine sQ (hq := Quiet.call rfl f3' rfl rfl rfl) (hk := ?_) | refine sQ (hq := Quiet.pickOr rfl rfl rfl rfl) (hk := ?_) | refine sQ (hq := Quiet.pickAnd rfl rfl rfl rfl) (hk := ?_) | refine sQ (hk := ?_) | refine sSkip (hk := ?_) | refine sG (hg := by first | rfl | exact gA_c rfl rfl) (hq := by (intro hg; (try simp only [Bool.and_eq_true, beq_iff_eq] at hg); (try simp only [hg, cond_true, Bool.true_and, beq_self_eq_true]); exact Quiet.call rfl f3' rfl rfl rfl)) (hk := ?_) | refine sG (hk := ?_) | refine sOwn (hk := ?_)))
  refine aSeq_nil ?_
  refine h3 _ ?_
  refine nT (hk := ?_)
  refine Awp.seq fun K4 h4 => ?_
  refine Awp.seq fun K5 h5 => ?_
  (refine Awp.region ?_; (repeat (first | refine sQ (hq := Quiet.pickOr rfl rfl rfl rfl) (hk := ?_) | refine sQ (hq := Quiet.pickAnd rfl rfl rfl rfl) (hk := ?_) | refine sQ (hk := ?_) | refine sSkip (hk := ?_) | refine sG (hk := ?_) | refine sOwn (hk := ?_))); refine aSeq_nil ?_)
  refine h5 _ ?_
  refine nT (hk := ?_)
  refine Awp.cond rfl (fun hb6 => ?_) (fun hb6 => ?_)
  · refine Awp.seq fun K7 h7 => ?_
    (refine Awp.region ?_; (repeat (first | refine sQ (hq := Quiet.pickOr rfl rfl rfl rfl) (hk := ?_) | refine sQ (hq := Quiet.pickAnd rfl rfl rfl rfl) (hk := ?_) | refine sQ (hk := ?_) | refine sSkip (hk := ?_) | refine sG (hk := ?_) | refine sOwn (hk := ?_))); refine aSeq_nil ?_)
    refine h7 _ ?_
    refine nT (hk := ?_)
    refine Awp.ret ?_
    rw [if_pos hb6]
    exact ⟨.inr rfl, Fin.own rfl⟩
  · have hb6 : leaf = false := hb6
    refine Awp.skip ?_
    refine h4 _ ?_
    refine nT (hk := ?_)
    refine Awp.seq fun K8 h8 => ?_
    refine Awp.seq fun K9 h9 => ?_
    (refine Awp.region ?_; (repeat (first | refine sQ (hq := Quiet.call rfl hc rfl rfl rfl) (hk := ?_) | refine sQ (hq := Quiet.call rfl hin rfl rfl rfl) (hk := ?_) | refine sQ (hq := Quiet.pickOr rfl rfl rfl rfl) (hk := ?_) | refine sQ (hq := Quiet.pickAnd rfl rfl rfl rfl) (hk := ?_) | refine sQ (hk := ?_) | refine sSkip (hk := ?_) | refine sG (hg := by first | rfl | exact gA_c rfl rfl) (hq := by (intro hg; (try simp only [Bool.and_eq_true, beq_iff_eq] at hg); (try simp only [hg, cond_true, Bool.true_and, beq_self_eq_true]); exact Quiet.call rfl hc rfl rfl rfl)) (hk := ?_) | refine sG (hg := by first | rfl | exact gA_c rfl rfl) (hq := by (intro hg; (try simp only [Bool.and_eq_true, beq_iff_eq] at hg); (try simp only [hg, cond_true, Bool.true_and, beq_self_eq_true]); exact Quiet.call rfl hin rfl rfl rfl)) (hk := ?_) | refine sG (hk := ?_) | refine sOwn (hk := ?_))); refine aSeq_nil ?_)
    refine h9 _ ?_
    refine nT (hk := ?_)
    refine Awp.cond rfl (fun hb10 => ?_) (fun hb10 => ?_)
    · have hb10 : (crossL f).contains r = true := hb10
      refine Awp.seq fun K11 h11 => ?_
      (refine Awp.region ?_; (repeat (first | refine sQ (hq := Quiet.pickOr rfl rfl rfl rfl) (hk := ?_) | refine sQ (hq := Quiet.pickAnd rfl rfl rfl rfl) (hk := ?_) | refine sQ (hk := ?_) | refine sSkip (hk := ?_) | refine sG (hk := ?_) | refine sOwn (hk := ?_))); refine aSeq_nil ?_)
      refine h11 _ ?_
      refine nT (hk := ?_)
      refine Awp.ret ?_
      rw [if_neg (by rw [hb6]; simp), if_pos hb10]
      exact ⟨.inr rfl, Fin.own rfl⟩
    · have hb10 : (crossL f).contains r = false := hb10
      refine Awp.skip ?_
      refine h8 _ ?_
      refine nT (hk := ?_)
      refine Awp.seq fun K12 h12 => ?_
      refine Awp.via _ (St.le_fz hC 2 rfl) ?_
      refine Awp.via ⟨[.any, .any, .any, .ptr 0 0, .any, .any, .any, .own 1 1, .bs tInt keptP21, .any, .any, .any, .any, .any, .any, .any, .any, .any, .any, .any, .any, .any, .any, .any, .any], [.box (encFunc f), .row 1 3 tInt fewP, .dead]⟩ (le_T) ?_
      have hn1 : fewP.length + keptP21.length ≤ maxLen := by decide
      have hn2 : (fewP.length + keptP21.length) * 8 ≤ 140737488355328 := by decide
      (refine Awp.region ?_; (repeat (first | refine sQ (hq := Quiet.pickOr rfl rfl rfl rfl) (hk := ?_) | refine sQ (hq := Quiet.pickAnd rfl rfl rfl rfl) (hk := ?_) | refine sQ (hk := ?_) | refine sSkip (hk := ?_) | refine sG (hk := ?_) | refine sOwn (hk := ?_))); refine aSeq_nil ?_)
      refine h12 _ ?_
      refine nT (hk := ?_)
      refine Awp.ret ?_
      rw [if_neg (by rw [hb6]; simp), if_neg (by rw [hb10]; simp)]
      exact ⟨.inr rfl, Fin.own rfl⟩

theorem regs18_lenle {f : Func} (hX : (allX f).length ≤ 2097152) : (regs18L f).length ≤ 2097152 := Nat.le_trans (foldWL_len _).1 hX
theorem regs18_ok {f : Func} (ho : okFunc f) : okInts (regs18L f) := (foldWL_len _).2 (allX_ok ho)
theorem lowR_next (f : Func) (n : Nat) : lowR f (n + 1) = lowR f n ++ if (decide ((n : Int) < f.args) || (regs18L f).contains (n : Int)) = true then [(n : Int)] else [] := by
  unfold lowR
  rw [natI_succ, List.filter_append, List.filter_cons, List.filter_nil]
theorem lowR_len (f : Func) (n : Nat) : (lowR f n).length ≤ n := by
  unfold lowR
  have := List.length_filter_le (fun r => decide (r < f.args) || (regs18L f).contains r) (natI n)
  rw [natI_len] at this
  exact this
theorem takeWhile_take {p : Int → Bool} : ∀ {l : List Int} {k : Nat}, (∀ x ∈ l.take k, p x = true) → (k = l.length ∨ ∃ x, l[k]? = some x ∧ p x = false) → l.takeWhile p = l.take k
  | [], k, _, _ => by simp
  | x :: l, 0, _, h => by
    rcases h with h | ⟨y, hy, hp⟩
    · simp at h
    · simp only [List.getElem?_cons_zero, Option.some.injEq] at hy
      subst hy
      rw [List.takeWhile_cons_of_neg (by rw [hp]; simp), List.take_zero]
  | x :: l, k + 1, h1, h2 => by
    rw [List.take_succ_cons, List.takeWhile_cons_of_pos (h1 x (by simp)), takeWhile_take (fun y hy => h1 y (by rw [List.take_succ_cons]; exact List.mem_cons_of_mem _ hy)) ?_]
    rcases h2 with h2 | ⟨y, hy, hp⟩
    · exact .inl (by simpa using h2)
    · exact .inr ⟨y, by simpa using hy, hp⟩
set_option maxRecDepth 100000 in
set_option maxHeartbeats 4000000 in
theorem regs21r_fn (f : Func) (ho : okFunc f) (hs : smallF f) (hX : (allX f).length ≤ 2097152) : Fn Tryz.prog 6 [.agg (encFunc f)] (.bs tInt (regsB f)) := by
  have hrl := regs18_lenle hX
  have hro := regs18_ok ho
  rw [← regs21_eq]
  refine Fn.of_awp Tryz.func6 rfl (by kernel_rfl) rfl Tryz.ntmps6 fun C hC => ?_
  simp only [List.length_cons, List.length_nil, Nat.reduceAdd, Nat.reduceSub, List.replicate_succ, List.replicate_zero, List.cons_append, List.nil_append]
  refine Awp.seq fun K1 h1 => ?_
  (refine Awp.region ?_; (repeat (first | refine sQ (hq := Quiet.pickOr rfl rfl rfl rfl) (hk := ?_) | refine sQ (hq := Quiet.pickAnd rfl rfl rfl rfl) (hk := ?_) | refine sQ (hk := ?_) | refine sSkip (hk := ?_) | refine sG (hk := ?_) | refine sOwn (hk := ?_))); refine aSeq_nil ?_)
  refine h1 _ ?_
  refine nT (hk := ?_)
  refine Awp.seq fun K2 h2 => ?_
  (refine Awp.region ?_; (repeat (first | refine sQ (hq := Quiet.call rfl (regs18_fn f ho hs hX) rfl rfl rfl) (hk := ?_) | refine sQ (hq := Quiet.pickOr rfl rfl rfl rfl) (hk := ?_) | refine sQ (hq := Quiet.pickAnd rfl rfl rfl rfl) (hk := ?_) | refine sQ (hk := ?_) | refine sSkip (hk := ?_) | refine sG (hg := by first | rfl | exact gA_c rfl rfl) (hq := by (intro hg; (try simp only [Bool.and_eq_true, beq_iff_eq] at hg); (try simp only [hg, cond_true, Bool.true_and, beq_self_eq_true]); exact Quiet.call rfl (regs18_fn f ho hs hX) rfl rfl rfl)) (hk := ?_) | refine sG (hk := ?_) | refine sOwn (hk := ?_))); refine aSeq_nil ?_)
  refine h2 _ ?_
  refine nT (hk := ?_)
  refine Awp.seq fun K3 h3 => ?_
  (refine Awp.region ?_; (repeat (first | refine sQ (hq := Quiet.pickOr rfl rfl rfl rfl) (hk := ?_) | refine sQ (hq := Quiet.pickAnd rfl rfl rfl rfl) (hk := ?_) | refine sQ (hk := ?_) | refine sSkip (hk := ?_) | refine sG (hk := ?_) | refine sOwn (hk := ?_))); refine aSeq_nil ?_)
  refine h3 _ ?_
  refine nT (hk := ?_)
  refine Awp.seq fun K4 h4 => ?_
  refine Awp.seq fun K5 h5 => ?_
  (refine Awp.region ?_; (repeat (first | refine sQ (hq := Quiet.pickOr rfl rfl rfl rfl) (hk := ?_) | refine sQ (hq := Quiet.pickAnd rfl rfl rfl rfl) (hk := ?_) | refine sQ (hk := ?_) | refine sSkip (hk := ?_) | refine sG (hk := ?_) | refine sOwn (hk := ?_))); refine aSeq_nil ?_)
  refine h5 _ ?_
  refine nT (hk := ?_)
  refine Awp.block ?_
  refine Awp.loopF (fun p : Nat × Nat => ⟨[.any, .ptr 0 0, .any, .bs tInt (regs18L f), .own 1 p.2, .lit (.int .i64 (p.1 : Int)), .any, .any, .any, .any, .any, .any, .any, .any, .any, .any, .any, .any, .any, .any, .any, .any, .any, .any, .any, .any, .any, .any, .any, .any, .any, .any, .any, .any, .any, .any, .any, .any, .any, .any, .any, .any, .any, .any, .any, .any, .any, .any, .any, .any, .any, .any, .any, .any, .any, .any, .any, .any, .any, .any, .any, .any, .any, .any, .any, .any], [.box (encFunc f), .row p.2 3 tInt ((regs18L f).take p.1)]⟩) (fun p => p.1 ≤ (regs18L f).length ∧ ∀ x ∈ (regs18L f).take p.1, decide (x < 0) = true) (fun p => (regs18L f).length - p.1) (0, 0) ⟨Nat.zero_le _, fun x hx => by cases hx⟩ ((St.le_nil 4 3 tInt rfl (by decide)).trans (le_T)) ?_
  rintro ⟨i, ver⟩ ⟨hi, hneg⟩
  dsimp only at hi hneg ⊢
  obtain ⟨x, hxd⟩ : ∃ x, (regs18L f).getD i 0 = x := ⟨_, rfl⟩
  have hxx : decide ((i : Int) < ((regs18L f).length : Int)) = true → (regs18L f)[i]? = some x := fun h => by
    have h : (i : Int) < ((regs18L f).length : Int) := of_decide_eq_true h
    have hlt : i < (regs18L f).length := by omega
    rw [← hxd, List.getD_eq_getElem?_getD, List.getElem?_eq_getElem hlt]
    rfl
  refine Awp.seq fun K7 h7 => ?_
  refine Awp.seq fun K8 h8 => ?_
  (refine Awp.region ?_; (repeat (first | refine sQ (hq := Quiet.ix rfl rfl rfl rfl (hxx hg)) (hk := ?_) | refine sQ (hq := Quiet.pickOr rfl rfl rfl rfl) (hk := ?_) | refine sQ (hq := Quiet.pickAnd rfl rfl rfl rfl) (hk := ?_) | refine sQ (hk := ?_) | refine sSkip (hk := ?_) | refine sG (hg := by first | rfl | exact gA_c rfl rfl) (hq := by (intro hg; (try simp only [Bool.and_eq_true, beq_iff_eq] at hg); (try simp only [hg, cond_true, Bool.true_and, beq_self_eq_true]); exact Quiet.ix rfl rfl rfl rfl (hxx hg))) (hk := ?_) | refine sG (hk := ?_) | refine sOwn (hk := ?_))); refine aSeq_nil ?_)
  refine h8 _ ?_
  refine nT (hk := ?_)
  refine Awp.cond rfl (fun hb9 => ?_) (fun hb9 => ?_)
  · have hb9 : (decide ((i : Int) < ((regs18L f).length : Int)) && decide (x < 0)) = true := hb9
    rw [Bool.and_eq_true] at hb9
    have hx := hxx hb9.1
    have hx0 := hb9.2
    have hlt := (List.getElem?_eq_some_iff.1 hx).1
    have hxw := hro x (List.mem_of_getElem? hx)
    have htk : (regs18L f).take (i + 1) = (regs18L f).take i ++ [x] := by rw [List.take_add_one, hx]; rfl
    have htl : ((regs18L f).take i).length ≤ 2097152 := by rw [List.length_take]; omega
    generalize hT0 : (regs18L f).take i = T0 at htk htl hneg ⊢
    refine Awp.skip ?_
    refine h7 _ ?_
    refine nT (hk := ?_)
    refine Awp.seq fun K10 h10 => ?_
    refine Awp.block ?_
    (refine Awp.region ?_; (repeat (first | refine sQ (hq := Quiet.pickOr rfl rfl rfl rfl) (hk := ?_) | refine sQ (hq := Quiet.pickAnd rfl rfl rfl rfl) (hk := ?_) | refine sQ (hk := ?_) | refine sSkip (hk := ?_) | refine sG (hk := ?_) | refine sOwn (hk := ?_))); refine aSeq_nil ?_)
    refine h10 _ ?_
    refine nT (hk := ?_)
    (refine Awp.region ?_; (repeat (first | refine sQ (hq := Quiet.pickOr rfl rfl rfl rfl) (hk := ?_) | refine sQ (hq := Quiet.pickAnd rfl rfl rfl rfl) (hk := ?_) | refine sQ (hk := ?_) | refine sSkip (hk := ?_) | refine sG (hk := ?_) | refine sOwn (hk := ?_))); refine aSeq_nil ?_)
    refine athen_n ⟨(i + 1, ver + 1), ⟨by dsimp only; omega, ?_⟩, by dsimp only; omega, ?_⟩
    · dsimp only
      rw [htk]
      intro y hy
      rcases List.mem_append.1 hy with hy | hy
      · exact hneg y hy
      · rw [List.mem_singleton.1 hy]; exact hx0
    · dsimp only
      rw [htk]
      exact le_T
  · have hb9 : (decide ((i : Int) < ((regs18L f).length : Int)) && decide (x < 0)) = false := hb9
    have htw : (regs18L f).takeWhile (fun r => decide (r < 0)) = (regs18L f).take i := by
      refine takeWhile_take hneg ?_
      by_cases hlt : i < (regs18L f).length
      · refine .inr ⟨x, hxx (decide_eq_true (by omega)), ?_⟩
        rw [decide_eq_true (by omega : (i : Int) < ((regs18L f).length : Int)), Bool.true_and] at hb9
        exact hb9
      · exact .inl (by omega)
    rw [← htw]
    have hTl : ((regs18L f).takeWhile fun r => decide (r < 0)).length ≤ 2097152 := by rw [htw, List.length_take]; omega
    generalize hT : (regs18L f).takeWhile (fun r => decide (r < 0)) = TW at hTl ⊢
    refine Awp.exit ?_
    refine h4 _ ?_
    refine nT (hk := ?_)
    refine Awp.seq fun K11 h11 => ?_
    refine Awp.seq fun K12 h12 => ?_
    (refine Awp.region ?_; (repeat (first | refine sQ (hq := Quiet.pickOr rfl rfl rfl rfl) (hk := ?_) | refine sQ (hq := Quiet.pickAnd rfl rfl rfl rfl) (hk := ?_) | refine sQ (hk := ?_) | refine sSkip (hk := ?_) | refine sG (hk := ?_) | refine sOwn (hk := ?_))); refine aSeq_nil ?_)
    refine h12 _ ?_
    refine nT (hk := ?_)
    refine Awp.block ?_
    refine Awp.loopF (fun p : Nat × Nat => ⟨[.any, .ptr 0 0, .any, .bs tInt (regs18L f), .own 1 p.2, .any, .lit (.int .i64 (p.1 : Int)), .any, .any, .any, .any, .any, .any, .any, .any, .any, .any, .any, .any, .any, .any, .any, .any, .any, .any, .any, .any, .any, .any, .any, .any, .any, .any, .any, .any, .any, .any, .any, .any, .any, .any, .any, .any, .any, .any, .any, .any, .any, .any, .any, .any, .any, .any, .any, .any, .any, .any, .any, .any, .any, .any, .any, .any, .any, .any, .any], [.box (encFunc f), .row p.2 3 tInt (TW ++ lowR f p.1)]⟩) (fun p => p.1 ≤ 6) (fun p => 6 - p.1) (0, ver) (Nat.zero_le _) (by rw [show TW ++ lowR f (0, ver).1 = TW by simp [lowR, natI]]; exact le_T) ?_
    rintro ⟨n, ver2⟩ hn
    dsimp only at hn ⊢
    have hnw := nat_wf (k := n) (by omega)
    have hll := lowR_len f n
    have hnx := lowR_next f n
    refine Awp.seq fun K14 h14 => ?_
    refine Awp.seq fun K15 h15 => ?_
    (refine Awp.region ?_; (repeat (first | refine sQ (hq := Quiet.pickOr rfl rfl rfl rfl) (hk := ?_) | refine sQ (hq := Quiet.pickAnd rfl rfl rfl rfl) (hk := ?_) | refine sQ (hk := ?_) | refine sSkip (hk := ?_) | refine sG (hk := ?_) | refine sOwn (hk := ?_))); refine aSeq_nil ?_)
    refine h15 _ ?_
    refine nT (hk := ?_)
    refine Awp.cond rfl (fun hb16 => ?_) (fun hb16 => ?_)
    · have hlt : n < 6 := by have : (n : Int) < 6 := (by simpa using hb16); omega
      have hln : (TW ++ lowR f n).length ≤ 2097160 := by rw [List.length_append]; omega
      have happ : TW ++ lowR f (n + 1) = (TW ++ lowR f n) ++ if (decide ((n : Int) < f.args) || (regs18L f).contains (n : Int)) = true then [(n : Int)] else [] := by rw [hnx, List.append_assoc]
      generalize TW ++ lowR f n = R0 at hln happ ⊢
      refine Awp.skip ?_
      refine h14 _ ?_
      refine nT (hk := ?_)
      refine Awp.seq fun K17 h17 => ?_
      refine Awp.block ?_
      refine Awp.seq fun K18 h18 => ?_
      (refine Awp.region ?_; (repeat (first | refine sQ (hq := Quiet.call rfl (in21_fn (regs18L f) (n : Int) (by omega)) rfl rfl rfl) (hk := ?_) | refine sQ (hq := Quiet.pickOr rfl rfl rfl rfl) (hk := ?_) | refine sQ (hq := Quiet.pickAnd rfl rfl rfl rfl) (hk := ?_) | refine sQ (hk := ?_) | refine sSkip (hk := ?_) | refine sG (hg := by first | rfl | exact gA_c rfl rfl) (hq := by (intro hg; (try simp only [Bool.and_eq_true, beq_iff_eq] at hg); (try simp only [hg, cond_true, Bool.true_and, beq_self_eq_true]); exact Quiet.call rfl (in21_fn (regs18L f) (n : Int) (by omega)) rfl rfl rfl)) (hk := ?_) | refine sG (hk := ?_) | refine sOwn (hk := ?_))); refine aSeq_nil ?_)
      refine h18 _ ?_
      refine nT (hk := ?_)
      refine Awp.cond rfl (fun hb19 => ?_) (fun hb19 => ?_)
      · rw [if_pos hb19] at happ
        (refine Awp.region ?_; (repeat (first | refine sQ (hq := Quiet.pickOr rfl rfl rfl rfl) (hk := ?_) | refine sQ (hq := Quiet.pickAnd rfl rfl rfl rfl) (hk := ?_) | refine sQ (hk := ?_) | refine sSkip (hk := ?_) | refine sG (hk := ?_) | refine sOwn (hk := ?_))); refine aSeq_nil ?_)
        refine h17 _ ?_
        refine nT (hk := ?_)
        (refine Awp.region ?_; (repeat (first | refine sQ (hq := Quiet.pickOr rfl rfl rfl rfl) (hk := ?_) | refine sQ (hq := Quiet.pickAnd rfl rfl rfl rfl) (hk := ?_) | refine sQ (hk := ?_) | refine sSkip (hk := ?_) | refine sG (hk := ?_) | refine sOwn (hk := ?_))); refine aSeq_nil ?_)
        refine athen_n ⟨(n + 1, ver2 + 1), by dsimp only; omega, by dsimp only; omega, ?_⟩
        dsimp only
        rw [happ]
        exact le_T
      · rw [if_neg (by rw [show (decide ((n : Int) < f.args) || (regs18L f).contains (n : Int)) = false from hb19]; simp), List.append_nil] at happ
        refine Awp.skip ?_
        refine h17 _ ?_
        refine nT (hk := ?_)
        (refine Awp.region ?_; (repeat (first | refine sQ (hq := Quiet.pickOr rfl rfl rfl rfl) (hk := ?_) | refine sQ (hq := Quiet.pickAnd rfl rfl rfl rfl) (hk := ?_) | refine sQ (hk := ?_) | refine sSkip (hk := ?_) | refine sG (hk := ?_) | refine sOwn (hk := ?_))); refine aSeq_nil ?_)
        refine athen_n ⟨(n + 1, ver2), by dsimp only; omega, by dsimp only; omega, ?_⟩
        dsimp only
        rw [happ]
        exact le_T
    · have hne : n = 6 := by have : ¬ (n : Int) < 6 := (by simpa using hb16); omega
      subst hne
      have hln : (TW ++ lowR f 6).length ≤ 2097160 := by rw [List.length_append]; omega
      have hfinE : regs21L f = TW ++ lowR f 6 ++ (regs18L f).filter (fun r => decide (r > 5)) := by unfold regs21L; rw [hT]
      generalize TW ++ lowR f 6 = R0 at hln hfinE ⊢
      refine Awp.exit ?_
      refine h11 _ ?_
      refine nT (hk := ?_)
      refine Awp.seq fun K20 h20 => ?_
      refine Awp.seq fun K21 h21 => ?_
      (refine Awp.region ?_; (repeat (first | refine sQ (hq := Quiet.pickOr rfl rfl rfl rfl) (hk := ?_) | refine sQ (hq := Quiet.pickAnd rfl rfl rfl rfl) (hk := ?_) | refine sQ (hk := ?_) | refine sSkip (hk := ?_) | refine sG (hk := ?_) | refine sOwn (hk := ?_))); refine aSeq_nil ?_)
      refine h21 _ ?_
      refine nT (hk := ?_)
      refine Awp.block ?_
      refine Awp.loopF (fun p : Nat × Nat => ⟨[.any, .ptr 0 0, .any, .bs tInt (regs18L f), .own 1 p.2, .any, .any, .lit (.int .i64 (p.1 : Int)), .any, .any, .any, .any, .any, .any, .any, .any, .any, .any, .any, .any, .any, .any, .any, .any, .any, .any, .any, .any, .any, .any, .any, .any, .any, .any, .any, .any, .any, .any, .any, .any, .any, .any, .any, .any, .any, .any, .any, .any, .any, .any, .any, .any, .any, .any, .any, .any, .any, .any, .any, .any, .any, .any, .any, .any, .any, .any], [.box (encFunc f), .row p.2 3 tInt (R0 ++ ((regs18L f).take p.1).filter fun r => decide (r > 5))]⟩) (fun p => p.1 ≤ (regs18L f).length) (fun p => (regs18L f).length - p.1) (0, ver2) (Nat.zero_le _) (by rw [show (R0 ++ ((regs18L f).take (0, ver2).1).filter fun r => decide (r > 5)) = R0 by simp]; exact le_T) ?_
      rintro ⟨k, ver3⟩ hk
      dsimp only at hk ⊢
      refine Awp.seq fun K23 h23 => ?_
      refine Awp.seq fun K24 h24 => ?_
      (refine Awp.region ?_; (repeat (first | refine sQ (hq := Quiet.pickOr rfl rfl rfl rfl) (hk := ?_) | refine sQ (hq := Quiet.pickAnd rfl rfl rfl rfl) (hk := ?_) | refine sQ (hk := ?_) | refine sSkip (hk := ?_) | refine sG (hk := ?_) | refine sOwn (hk := ?_))); refine aSeq_nil ?_)
      refine h24 _ ?_
      refine nT (hk := ?_)
      refine Awp.cond rfl (fun hb25 => ?_) (fun hb25 => ?_)
      · have hlt : k < (regs18L f).length := by simpa using hb25
        obtain ⟨y, hy⟩ : ∃ y, (regs18L f)[k]? = some y := ⟨_, List.getElem?_eq_getElem hlt⟩
        have hyw := hro y (List.mem_of_getElem? hy)
        have hfl : (R0 ++ ((regs18L f).take k).filter fun r => decide (r > 5)).length ≤ 4194320 := by
          have h1 := List.length_filter_le (fun r : Int => decide (r > 5)) ((regs18L f).take k)
          rw [List.length_take] at h1
          rw [List.length_append]
          omega
        have happ : (R0 ++ ((regs18L f).take (k + 1)).filter fun r => decide (r > 5)) = (R0 ++ ((regs18L f).take k).filter fun r => decide (r > 5)) ++ if decide (y > 5) = true then [y] else [] := by rw [filter_take_succ hy, List.append_assoc]
        generalize (R0 ++ ((regs18L f).take k).filter fun r => decide (r > 5)) = R1 at hfl happ ⊢
        refine Awp.skip ?_
        refine h23 _ ?_
        refine nT (hk := ?_)
        refine Awp.seq fun K26 h26 => ?_
        refine Awp.block ?_
        refine Awp.seq fun K27 h27 => ?_
        (refine Awp.region ?_; (repeat (first | refine sQ (hq := Quiet.pickOr rfl rfl rfl rfl) (hk := ?_) | refine sQ (hq := Quiet.pickAnd rfl rfl rfl rfl) (hk := ?_) | refine sQ (hk := ?_) | refine sSkip (hk := ?_) | refine sG (hk := ?_) | refine sOwn (hk := ?_))); refine aSeq_nil ?_)
        refine h27 _ ?_
        refine nT (hk := ?_)
        refine Awp.cond rfl (fun hb28 => ?_) (fun hb28 => ?_)
        · rw [if_pos hb28] at happ
          (refine Awp.region ?_; (repeat (first | refine sQ (hq := Quiet.pickOr rfl rfl rfl rfl) (hk := ?_) | refine sQ (hq := Quiet.pickAnd rfl rfl rfl rfl) (hk := ?_) | refine sQ (hk := ?_) | refine sSkip (hk := ?_) | refine sG (hk := ?_) | refine sOwn (hk := ?_))); refine aSeq_nil ?_)
          refine h26 _ ?_
          refine nT (hk := ?_)
          (refine Awp.region ?_; (repeat (first | refine sQ (hq := Quiet.pickOr rfl rfl rfl rfl) (hk := ?_) | refine sQ (hq := Quiet.pickAnd rfl rfl rfl rfl) (hk := ?_) | refine sQ (hk := ?_) | refine sSkip (hk := ?_) | refine sG (hk := ?_) | refine sOwn (hk := ?_))); refine aSeq_nil ?_)
          refine athen_n ⟨(k + 1, ver3 + 1), by dsimp only; omega, by dsimp only; omega, ?_⟩
          dsimp only
          rw [happ]
          exact le_T
        · rw [if_neg (by rw [show decide (y > 5) = false from hb28]; simp), List.append_nil] at happ
          refine Awp.skip ?_
          refine h26 _ ?_
          refine nT (hk := ?_)
          (refine Awp.region ?_; (repeat (first | refine sQ (hq := Quiet.pickOr rfl rfl rfl rfl) (hk := ?_) | refine sQ (hq := Quiet.pickAnd rfl rfl rfl rfl) (hk := ?_) | refine sQ (hk := ?_) | refine sSkip (hk := ?_) | refine sG (hk := ?_) | refine sOwn (hk := ?_))); refine aSeq_nil ?_)
          refine athen_n ⟨(k + 1, ver3), by dsimp only; omega, by dsimp only; omega, ?_⟩
          dsimp only
          rw [happ]
          exact le_T
      · have hke : k = (regs18L f).length := by have : ¬ k < (regs18L f).length := (by simpa using hb25); omega
        subst hke
        rw [List.take_length]
        refine Awp.exit ?_
        refine h20 _ ?_
        refine nT (hk := ?_)
        refine Awp.seq fun K29 h29 => ?_
        (refine Awp.region ?_; (repeat (first | refine sQ (hq := Quiet.pickOr rfl rfl rfl rfl) (hk := ?_) | refine sQ (hq := Quiet.pickAnd rfl rfl rfl rfl) (hk := ?_) | refine sQ (hk := ?_) | refine sSkip (hk := ?_) | refine sG (hk := ?_) | refine sOwn (hk := ?_))); refine aSeq_nil ?_)
        refine h29 _ ?_
        refine nT (hk := ?_)
        refine Awp.ret ?_
        rw [hfinE]
        exact ⟨.inr rfl, Fin.own rfl⟩
end Mu
end
section
/-
  bound.Classes, walked.
  Conditions: data of at most 2^21 everywhere.
-/
namespace Mu
open Go Go.RowKit Go.Proofs

def classL (f : Func) (leaf : Bool) (l : List Int) : List (List Int) := l.map fun r => placesP (crossL f) r leaf
theorem classL_next (f : Func) (leaf : Bool) {l : List Int} {k : Nat} {r : Int} (h : l[k]? = some r) : classL f leaf (l.take (k + 1)) = classL f leaf (l.take k) ++ [placesP (crossL f) r leaf] := by
  unfold classL
  rw [List.take_add_one, h, List.map_append]
  rfl
set_option maxRecDepth 100000 in
set_option maxHeartbeats 1000000 in
theorem classes21_fn (f : Func) (leaf : Bool) (ho : okFunc f) (hs : smallF f) (hT : (allReads f).length ≤ 2097152) (hi1 : ∀ b ∈ f.blocks, b.ins.length + 1 ≤ 2097152) (hX : (allX f).length ≤ 2097152) : Fn Tryz.prog 7 [.agg (encFunc f), .lit (.bool leaf)] (.bs tInt.slice (classL f leaf (regsB f))) := by
  have hcl : (crossL f).length ≤ 2147483648 := by have := crossL_len f; have := Nat.le_trans (regsOf_le _) hT; unfold regsL at *; omega
  have hrl : (regsB f).length ≤ 2097158 := by
    have h1 := regsB_len f
    have h2 := natI_len (argsK f)
    have h3 := (argsK_eq f).2
    unfold rawB at h1
    rw [List.length_append] at h1
    omega
  refine Fn.of_awp Tryz.func7 rfl (by kernel_rfl) rfl Tryz.ntmps7 fun C hC => ?_
  simp only [List.length_cons, List.length_nil, Nat.reduceAdd, Nat.reduceSub, List.replicate_succ, List.replicate_zero, List.cons_append, List.nil_append]
  refine Awp.seq fun K1 h1 => ?_
  (refine Awp.region ?_; (repeat (first | refine sQ (hq := Quiet.pickOr rfl rfl rfl rfl) (hk := ?_) | refine sQ (hq := Quiet.pickAnd rfl rfl rfl rfl) (hk := ?_) | refine sQ (hk := ?_) | refine sSkip (hk := ?_) | refine sG (hk := ?_) | refine sOwn (hk := ?_))); refine aSeq_nil ?_)
  refine h1 _ ?_
  refine nT (hk := ?_)
  refine Awp.seq fun K2 h2 => ?_
  (refine Awp.region ?_; (repeat (first | refine sQ (hq := Quiet.call rfl (cross_fn f ho hs hT hi1) rfl rfl rfl) (hk := ?_) | refine sQ (hq := Quiet.pickOr rfl rfl rfl rfl) (hk := ?_) | refine sQ (hq := Quiet.pickAnd rfl rfl rfl rfl) (hk := ?_) | refine sQ (hk := ?_) | refine sSkip (hk := ?_) | refine sG (hg := by first | rfl | exact gA_c rfl rfl) (hq := by (intro hg; (try simp only [Bool.and_eq_true, beq_iff_eq] at hg); (try simp only [hg, cond_true, Bool.true_and, beq_self_eq_true]); exact Quiet.call rfl (cross_fn f ho hs hT hi1) rfl rfl rfl)) (hk := ?_) | refine sG (hk := ?_) | refine sOwn (hk := ?_))); refine aSeq_nil ?_)
  refine h2 _ ?_
  refine nT (hk := ?_)
  refine Awp.seq fun K3 h3 => ?_
  (refine Awp.region ?_; (repeat (first | refine sQ (hq := Quiet.pickOr rfl rfl rfl rfl) (hk := ?_) | refine sQ (hq := Quiet.pickAnd rfl rfl rfl rfl) (hk := ?_) | refine sQ (hk := ?_) | refine sSkip (hk := ?_) | refine sG (hk := ?_) | refine sOwn (hk := ?_))); refine aSeq_nil ?_)
  refine h3 _ ?_
  refine nT (hk := ?_)
  refine Awp.seq fun K4 h4 => ?_
  refine Awp.seq fun K5 h5 => ?_
  (refine Awp.region ?_; (repeat (first | refine sQ (hq := Quiet.call rfl (regs21_fn f ho hs hX) rfl rfl rfl) (hk := ?_) | refine sQ (hq := Quiet.pickOr rfl rfl rfl rfl) (hk := ?_) | refine sQ (hq := Quiet.pickAnd rfl rfl rfl rfl) (hk := ?_) | refine sQ (hk := ?_) | refine sSkip (hk := ?_) | refine sG (hg := by first | rfl | exact gA_c rfl rfl) (hq := by (intro hg; (try simp only [Bool.and_eq_true, beq_iff_eq] at hg); (try simp only [hg, cond_true, Bool.true_and, beq_self_eq_true]); exact Quiet.call rfl (regs21_fn f ho hs hX) rfl rfl rfl)) (hk := ?_) | refine sG (hk := ?_) | refine sOwn (hk := ?_))); refine aSeq_nil ?_)
  refine h5 _ ?_
  refine nT (hk := ?_)
  refine Awp.block ?_
  refine Awp.loopF (fun p : Nat × Nat => ⟨[.any, .lit (.bool leaf), .ptr 0 0, .any, .any, .bs tInt (crossL f), .own 1 p.2, .any, .any, .any, .any, .any, .bs tInt (regsB f), .lit (.int .i64 ((regsB f).length : Int)), .lit (.int .i64 (p.1 : Int)), .any, .any, .any, .any, .any, .any, .any, .any, .any, .any, .any, .any], [.box (encFunc f), .row p.2 27 tInt.slice (classL f leaf ((regsB f).take p.1))]⟩) (fun p => p.1 ≤ (regsB f).length) (fun p => (regsB f).length - p.1) (0, 0) (Nat.zero_le _) ((St.le_nil 6 27 tInt.slice rfl (by decide)).trans (le_T)) ?_
  rintro ⟨k, ver⟩ hk
  dsimp only at hk ⊢
  refine Awp.seq fun K7 h7 => ?_
  (refine Awp.region ?_; (repeat (first | refine sQ (hq := Quiet.pickOr rfl rfl rfl rfl) (hk := ?_) | refine sQ (hq := Quiet.pickAnd rfl rfl rfl rfl) (hk := ?_) | refine sQ (hk := ?_) | refine sSkip (hk := ?_) | refine sG (hk := ?_) | refine sOwn (hk := ?_))); refine aSeq_nil ?_)
  refine h7 _ ?_
  refine nT (hk := ?_)
  refine Awp.seq fun K8 h8 => ?_
  refine Awp.cond rfl (fun hb9 => ?_) (fun hb9 => ?_)
  · have hlt : k < (regsB f).length := by simpa using hb9
    obtain ⟨r, hr⟩ : ∃ r, (regsB f)[k]? = some r := ⟨_, List.getElem?_eq_getElem hlt⟩
    have hnx := classL_next f leaf hr
    have hln : (classL f leaf ((regsB f).take k)).length ≤ 2097158 := by unfold classL; rw [List.length_map, List.length_take]; omega
    generalize classL f leaf ((regsB f).take k) = L0 at hnx hln ⊢
    refine Awp.skip ?_
    refine h8 _ ?_
    refine nT (hk := ?_)
    refine Awp.seq fun K10 h10 => ?_
    refine Awp.block ?_
    refine Awp.seq fun K11 h11 => ?_
    (refine Awp.region ?_; (repeat (first | refine sQ (hq := Quiet.pickOr rfl rfl rfl rfl) (hk := ?_) | refine sQ (hq := Quiet.pickAnd rfl rfl rfl rfl) (hk := ?_) | refine sQ (hk := ?_) | refine sSkip (hk := ?_) | refine sG (hk := ?_) | refine sOwn (hk := ?_))); refine aSeq_nil ?_)
    refine h11 _ ?_
    refine nT (hk := ?_)
    (refine Awp.region ?_; (repeat (first | refine sQ (hq := Quiet.call rfl (places21_fn (crossL f) r leaf (crossL_asc f) hcl) rfl rfl rfl) (hk := ?_) | refine sQ (hq := Quiet.pickOr rfl rfl rfl rfl) (hk := ?_) | refine sQ (hq := Quiet.pickAnd rfl rfl rfl rfl) (hk := ?_) | refine sQ (hk := ?_) | refine sSkip (hk := ?_) | refine sG (hg := by first | rfl | exact gA_c rfl rfl) (hq := by (intro hg; (try simp only [Bool.and_eq_true, beq_iff_eq] at hg); (try simp only [hg, cond_true, Bool.true_and, beq_self_eq_true]); exact Quiet.call rfl (places21_fn (crossL f) r leaf (crossL_asc f) hcl) rfl rfl rfl)) (hk := ?_) | refine sG (hk := ?_) | refine sOwn (hk := ?_))); refine aSeq_nil ?_)
    refine h10 _ ?_
    refine nT (hk := ?_)
    (refine Awp.region ?_; (repeat (first | refine sQ (hq := Quiet.pickOr rfl rfl rfl rfl) (hk := ?_) | refine sQ (hq := Quiet.pickAnd rfl rfl rfl rfl) (hk := ?_) | refine sQ (hk := ?_) | refine sSkip (hk := ?_) | refine sG (hk := ?_) | refine sOwn (hk := ?_))); refine aSeq_nil ?_)
    refine athen_n ⟨(k + 1, ver + 1), by dsimp only; omega, by dsimp only; omega, ?_⟩
    dsimp only
    rw [hnx]
    exact le_T
  · have hke : k = (regsB f).length := by have : ¬ k < (regsB f).length := (by simpa using hb9); omega
    have hfin : classL f leaf (regsB f) = classL f leaf ((regsB f).take k) := by rw [hke, List.take_length]
    refine Awp.exit ?_
    refine h4 _ ?_
    refine nT (hk := ?_)
    refine Awp.seq fun K12 h12 => ?_
    (refine Awp.region ?_; (repeat (first | refine sQ (hq := Quiet.pickOr rfl rfl rfl rfl) (hk := ?_) | refine sQ (hq := Quiet.pickAnd rfl rfl rfl rfl) (hk := ?_) | refine sQ (hk := ?_) | refine sSkip (hk := ?_) | refine sG (hk := ?_) | refine sOwn (hk := ?_))); refine aSeq_nil ?_)
    refine h12 _ ?_
    refine nT (hk := ?_)
    refine Awp.ret ?_
    rw [hfin]
    exact ⟨.inr rfl, Fin.own rfl⟩
end Mu
end
section
/-
  bound.Hints, walked.
  Conditions: at most 2^21 of everything.
-/
namespace Mu
open Go Go.RowKit Go.Proofs

def ownP (leaf : Bool) : Int := if leaf then 8 else 24
def argH (own : Int) (n : Nat) : List Hint := (List.range n).map fun (r : Nat) => ⟨(r : Int), own + (r : Int)⟩
def callH (l : List Int) (k : Nat) : List Hint := (List.range k).map fun (j : Nat) => ⟨l.getD j 0, 8 + (j : Int)⟩
def hintX (own : Int) (x : Ins) : List Hint := if x.op == 10 then [⟨x.a, own⟩] else if x.op == 5 then ⟨x.d, 8⟩ :: callH x.args (x.args.take 6).length else []
def hintB (own : Int) (b : Block) : List Hint := b.ins.flatMap (hintX own)
def hintsL (f : Func) (leaf : Bool) : List Hint := argH (ownP leaf) (argsK f) ++ f.blocks.flatMap (hintB (ownP leaf))
theorem argH_succ (own : Int) (n : Nat) : argH own (n + 1) = argH own n ++ [⟨(n : Int), own + (n : Int)⟩] := by unfold argH; rw [List.range_succ, List.map_append]; rfl
theorem argH_len (own : Int) (n : Nat) : (argH own n).length = n := by simp [argH]
theorem callH_succ {l : List Int} {k : Nat} {a : Int} (h : l[k]? = some a) : callH l (k + 1) = callH l k ++ [⟨a, 8 + (k : Int)⟩] := by
  unfold callH
  rw [List.range_succ, List.map_append]
  simp only [List.map_cons, List.map_nil, List.getD_eq_getElem?_getD, h, Option.getD_some]
theorem callH_len (l : List Int) (k : Nat) : (callH l k).length = k := by simp [callH]
theorem hintX_len (own : Int) (x : Ins) : (hintX own x).length ≤ 7 := by
  unfold hintX
  split
  · simp
  · split
    · rw [List.length_cons, callH_len, List.length_take]
      omega
    · simp
theorem flat_seven (own : Int) (l : List Ins) : (l.flatMap (hintX own)).length ≤ 7 * l.length := by
  induction l with
  | nil => simp
  | cons x l ih =>
    have := hintX_len own x
    rw [List.flatMap_cons, List.length_append, List.length_cons]
    omega
def allIns (f : Func) : List Ins := f.blocks.flatMap (·.ins)
theorem hint_total (own : Int) (f : Func) : (f.blocks.flatMap (hintB own)).length ≤ 7 * (allIns f).length := by
  have := flat_seven own (allIns f)
  unfold allIns at *
  rw [List.flatMap_assoc] at this
  exact this

set_option maxRecDepth 100000 in
set_option maxHeartbeats 4000000 in
theorem hints21_fn (f : Func) (leaf : Bool) (ho : okFunc f) (hs : smallF f) (hI : (allIns f).length ≤ 2097152) : Fn Tryz.prog 12 [.agg (encFunc f), .lit (.bool leaf)] (.bs tHint (hintsL f leaf)) := by
  have hbl := hs.blocks
  have hk6 := (argsK_eq f).2
  refine Fn.of_awp Tryz.func12 rfl (by kernel_rfl) rfl Tryz.ntmps12 fun C hC => ?_
  simp only [List.length_cons, List.length_nil, Nat.reduceAdd, Nat.reduceSub, List.replicate_succ, List.replicate_zero, List.cons_append, List.nil_append]
  refine Awp.seq fun K1 h1 => ?_
  (refine Awp.region ?_; (repeat (first | refine sQ (hq := Quiet.pickOr rfl rfl rfl rfl) (hk := ?_) | refine sQ (hq := Quiet.pickAnd rfl rfl rfl rfl) (hk := ?_) | refine sQ (hk := ?_) | refine sSkip (hk := ?_) | refine sG (hk := ?_) | refine sOwn (hk := ?_))); refine aSeq_nil ?_)
  refine h1 _ ?_
  refine nT (hk := ?_)
  refine Awp.seq fun K2 h2 => ?_
  (refine Awp.region ?_; (repeat (first | refine sQ (hq := Quiet.pickOr rfl rfl rfl rfl) (hk := ?_) | refine sQ (hq := Quiet.pickAnd rfl rfl rfl rfl) (hk := ?_) | refine sQ (hk := ?_) | refine sSkip (hk := ?_) | refine sG (hk := ?_) | refine sOwn (hk := ?_))); refine aSeq_nil ?_)
  refine h2 _ ?_
  refine nT (hk := ?_)
  refine Awp.seq fun K3 h3 => ?_
  have key : ∀ s' : St, St.le C s' ⟨[.any, .any, .ptr 0 0, .any, .any, .lit (.int .i64 (ownP leaf)), .any, .any, .any, .any, .any, .any, .any, .any, .any, .any, .any, .any, .any, .any, .any, .any, .any, .any, .any, .any, .any, .any, .any, .any, .any, .any, .any, .any, .any, .any, .any, .any, .any, .any, .any, .any, .any, .any, .any, .any, .any, .any, .any, .any, .any, .any, .any, .any, .any, .any, .any, .any, .any, .any, .any, .any, .any, .any, .any, .any, .any, .any, .any, .any, .any, .any, .any, .any, .any, .any, .any, .any, .any, .any, .any, .any, .any, .any, .any, .any], [.box (encFunc f)]⟩ → K3 s' := by
    intro s' hle
    refine h3 _ (Awp.via _ hle ?_)
    have how : 8 ≤ ownP leaf ∧ ownP leaf ≤ 24 := by unfold ownP; split <;> omega
    have hOw : ∀ j : Nat, j ≤ 6 → wfI .i64 (ownP leaf + (j : Int)) := fun j hj => by
      have : wfI .i64 (((ownP leaf).toNat + j : Nat) : Int) := nat_wf (by omega)
      rwa [show (((ownP leaf).toNat + j : Nat) : Int) = ownP leaf + (j : Int) by omega] at this
    have hOw0 : wfI .i64 (ownP leaf) := by have := hOw 0 (by omega); rwa [show ownP leaf + ((0 : Nat) : Int) = ownP leaf by omega] at this
    have htot := hint_total (ownP leaf) f
    generalize hown : ownP leaf = own at how hOw hOw0 htot
    have hfin : hintsL f leaf = argH own (argsK f) ++ f.blocks.flatMap (hintB own) := by unfold hintsL; rw [hown]
    rw [hfin]
    have w8 : wfI .i64 8 := (by decide : (Lit.int .i64 (8 : Int)).wf = true)
    refine Awp.seq fun K6 h6 => ?_
    (refine Awp.region ?_; (repeat (first | refine sQ (hq := Quiet.pickOr rfl rfl rfl rfl) (hk := ?_) | refine sQ (hq := Quiet.pickAnd rfl rfl rfl rfl) (hk := ?_) | refine sQ (hk := ?_) | refine sSkip (hk := ?_) | refine sG (hk := ?_) | refine sOwn (hk := ?_))); refine aSeq_nil ?_)
    refine h6 _ ?_
    refine nT (hk := ?_)
    refine Awp.seq fun K7 h7 => ?_
    refine Awp.seq fun K8 h8 => ?_
    (refine Awp.region ?_; (repeat (first | refine sQ (hq := Quiet.call rfl (args21_fn f) rfl rfl rfl) (hk := ?_) | refine sQ (hq := Quiet.pickOr rfl rfl rfl rfl) (hk := ?_) | refine sQ (hq := Quiet.pickAnd rfl rfl rfl rfl) (hk := ?_) | refine sQ (hk := ?_) | refine sSkip (hk := ?_) | refine sG (hg := by first | rfl | exact gA_c rfl rfl) (hq := by (intro hg; (try simp only [Bool.and_eq_true, beq_iff_eq] at hg); (try simp only [hg, cond_true, Bool.true_and, beq_self_eq_true]); exact Quiet.call rfl (args21_fn f) rfl rfl rfl)) (hk := ?_) | refine sG (hk := ?_) | refine sOwn (hk := ?_))); refine aSeq_nil ?_)
    refine h8 _ ?_
    refine nT (hk := ?_)
    refine Awp.block ?_
    refine Awp.loopF (fun p : Nat × Nat => ⟨[.any, .any, .ptr 0 0, .any, .any, .lit (.int .i64 own), .own 1 p.2, .any, .any, .any, .any, .any, .any, .any, .any, .any, .lit (.int .i64 (argsK f : Int)), .lit (.int .i64 (p.1 : Int)), .any, .any, .any, .any, .any, .any, .any, .any, .any, .any, .any, .any, .any, .any, .any, .any, .any, .any, .any, .any, .any, .any, .any, .any, .any, .any, .any, .any, .any, .any, .any, .any, .any, .any, .any, .any, .any, .any, .any, .any, .any, .any, .any, .any, .any, .any, .any, .any, .any, .any, .any, .any, .any, .any, .any, .any, .any, .any, .any, .any, .any, .any, .any, .any, .any, .any, .any, .any], [.box (encFunc f), .row p.2 41 tHint (argH own p.1)]⟩) (fun p => p.1 ≤ argsK f) (fun p => argsK f - p.1) (0, 0) (Nat.zero_le _) ((St.le_nil 6 41 tHint rfl (by decide)).trans (le_T)) ?_
    rintro ⟨k, ver⟩ hk
    dsimp only at hk ⊢
    refine Awp.seq fun K10 h10 => ?_
    (refine Awp.region ?_; (repeat (first | refine sQ (hq := Quiet.pickOr rfl rfl rfl rfl) (hk := ?_) | refine sQ (hq := Quiet.pickAnd rfl rfl rfl rfl) (hk := ?_) | refine sQ (hk := ?_) | refine sSkip (hk := ?_) | refine sG (hk := ?_) | refine sOwn (hk := ?_))); refine aSeq_nil ?_)
    refine h10 _ ?_
    refine nT (hk := ?_)
    refine Awp.seq fun K11 h11 => ?_
    refine Awp.cond rfl (fun hb12 => ?_) (fun hb12 => ?_)
    · have hlt : k < argsK f := by simpa using hb12
      have hw := nat_wf (k := k) (by omega)
      have hwo := hOw k (by omega)
      have hln := argH_len own k
      have hsn := argH_succ own k
      generalize hL0 : argH own k = L0 at hln hsn ⊢
      have hn1 : L0.length + [(⟨(k : Int), own + (k : Int)⟩ : Hint)].length ≤ maxLen := by simp [maxLen]; omega
      have hn2 : (L0.length + [(⟨(k : Int), own + (k : Int)⟩ : Hint)].length) * 16 ≤ 140737488355328 := by simp; omega
      refine Awp.skip ?_
      refine h11 _ ?_
      refine nT (hk := ?_)
      refine Awp.seq fun K13 h13 => ?_
      refine Awp.block ?_
      refine Awp.seq fun K14 h14 => ?_
      (refine Awp.region ?_; (repeat (first | refine sQ (hq := Quiet.pickOr rfl rfl rfl rfl) (hk := ?_) | refine sQ (hq := Quiet.pickAnd rfl rfl rfl rfl) (hk := ?_) | refine sQ (hk := ?_) | refine sSkip (hk := ?_) | refine sG (hk := ?_) | refine sOwn (hk := ?_))); refine aSeq_nil ?_)
      refine h14 _ ?_
      refine nT (hk := ?_)
      (refine Awp.region ?_; (repeat (first | refine sQ (hq := Quiet.bld (rs := [.lit (.int .i64 (k : Int)), .lit (.int .i64 (own + (k : Int)))]) rfl plHint rfl rfl) (hk := ?_) | refine sQ (hq := Quiet.lt1 (T := tHint) rfl rfl rfl (by rfl) (by decide) (fit_hint hw hwo)) (hk := ?_) | refine sQ (hq := Quiet.pickOr rfl rfl rfl rfl) (hk := ?_) | refine sQ (hq := Quiet.pickAnd rfl rfl rfl rfl) (hk := ?_) | refine sQ (hk := ?_) | refine sSkip (hk := ?_) | refine sG (hg := by first | rfl | exact gA_c rfl rfl) (hq := by (intro hg; (try simp only [Bool.and_eq_true, beq_iff_eq] at hg); (try simp only [hg, cond_true, Bool.true_and, beq_self_eq_true]); exact Quiet.bld (rs := [.lit (.int .i64 (k : Int)), .lit (.int .i64 (own + (k : Int)))]) rfl plHint rfl rfl)) (hk := ?_) | refine sG (hg := by first | rfl | exact gA_c rfl rfl) (hq := by (intro hg; (try simp only [Bool.and_eq_true, beq_iff_eq] at hg); (try simp only [hg, cond_true, Bool.true_and, beq_self_eq_true]); exact Quiet.lt1 (T := tHint) rfl rfl rfl (by rfl) (by decide) (fit_hint hw hwo))) (hk := ?_) | refine sG (hk := ?_) | refine sOwn (hk := ?_))); refine aSeq_nil ?_)
      refine h13 _ ?_
      refine nT (hk := ?_)
      (refine Awp.region ?_; (repeat (first | refine sQ (hq := Quiet.pickOr rfl rfl rfl rfl) (hk := ?_) | refine sQ (hq := Quiet.pickAnd rfl rfl rfl rfl) (hk := ?_) | refine sQ (hk := ?_) | refine sSkip (hk := ?_) | refine sG (hk := ?_) | refine sOwn (hk := ?_))); refine aSeq_nil ?_)
      refine athen_n ⟨(k + 1, ver + 1), by dsimp only; omega, by dsimp only; omega, ?_⟩
      dsimp only
      rw [hsn]
      exact le_T
    · have hke : k = argsK f := by have : ¬ k < argsK f := by simpa using hb12
                                   omega
      subst hke
      have hln := argH_len own (argsK f)
      generalize hA0 : argH own (argsK f) = A0 at hln ⊢
      refine Awp.exit ?_
      refine h7 _ ?_
      refine nT (hk := ?_)
      refine Awp.seq fun K15 h15 => ?_
      refine Awp.seq fun K16 h16 => ?_
      (refine Awp.region ?_; (repeat (first | refine sQ (hq := Quiet.pickOr rfl rfl rfl rfl) (hk := ?_) | refine sQ (hq := Quiet.pickAnd rfl rfl rfl rfl) (hk := ?_) | refine sQ (hk := ?_) | refine sSkip (hk := ?_) | refine sG (hk := ?_) | refine sOwn (hk := ?_))); refine aSeq_nil ?_)
      refine h16 _ ?_
      refine nT (hk := ?_)
      refine Awp.block ?_
      refine Awp.loopF (fun p : Nat × Nat => ⟨[.any, .any, .ptr 0 0, .any, .any, .lit (.int .i64 own), .own 1 p.2, .any, .any, .any, .any, .any, .any, .any, .any, .any, .any, .any, .any, .any, .any, .any, .any, .any, .any, .any, .any, .any, .any, .any, .bs tBlock f.blocks, .lit (.int .i64 (f.blocks.length : Int)), .lit (.int .i64 (p.1 : Int)), .any, .any, .any, .any, .any, .any, .any, .any, .any, .any, .any, .any, .any, .any, .any, .any, .any, .any, .any, .any, .any, .any, .any, .any, .any, .any, .any, .any, .any, .any, .any, .any, .any, .any, .any, .any, .any, .any, .any, .any, .any, .any, .any, .any, .any, .any, .any, .any, .any, .any, .any, .any, .any], [.box (encFunc f), .row p.2 41 tHint (A0 ++ (f.blocks.take p.1).flatMap (hintB own))]⟩) (fun p => p.1 ≤ f.blocks.length) (fun p => f.blocks.length - p.1) (0, ver) (Nat.zero_le _) (by rw [show A0 ++ (f.blocks.take (0, ver).1).flatMap (hintB own) = A0 by simp]; exact le_T) ?_
      rintro ⟨b, ver⟩ hb
      dsimp only at hb ⊢
      refine Awp.seq fun K18 h18 => ?_
      (refine Awp.region ?_; (repeat (first | refine sQ (hq := Quiet.pickOr rfl rfl rfl rfl) (hk := ?_) | refine sQ (hq := Quiet.pickAnd rfl rfl rfl rfl) (hk := ?_) | refine sQ (hk := ?_) | refine sSkip (hk := ?_) | refine sG (hk := ?_) | refine sOwn (hk := ?_))); refine aSeq_nil ?_)
      refine h18 _ ?_
      refine nT (hk := ?_)
      refine Awp.seq fun K19 h19 => ?_
      refine Awp.cond rfl (fun hb20 => ?_) (fun hb20 => ?_)
      · have hlt : b < f.blocks.length := by simpa using hb20
        obtain ⟨bl, hblk⟩ : ∃ bl, f.blocks[b]? = some bl := ⟨_, List.getElem?_eq_getElem hlt⟩
        have hmem := List.mem_of_getElem? hblk
        have hob := ho.blocks bl hmem
        have hsb := hs.all bl hmem
        have hil := hsb.ins
        have hfn := flat_next (g := hintB own) hblk
        refine Awp.skip ?_
        refine h19 _ ?_
        refine nT (hk := ?_)
        refine Awp.seq fun K21 h21 => ?_
        refine Awp.block ?_
        refine Awp.seq fun K22 h22 => ?_
        (refine Awp.region ?_; (repeat (first | refine sQ (hq := Quiet.pickOr rfl rfl rfl rfl) (hk := ?_) | refine sQ (hq := Quiet.pickAnd rfl rfl rfl rfl) (hk := ?_) | refine sQ (hk := ?_) | refine sSkip (hk := ?_) | refine sG (hk := ?_) | refine sOwn (hk := ?_))); refine aSeq_nil ?_)
        refine h22 _ ?_
        refine nT (hk := ?_)
        refine Awp.seq fun K23 h23 => ?_
        (refine Awp.region ?_; (repeat (first | refine sQ (hq := Quiet.pickOr rfl rfl rfl rfl) (hk := ?_) | refine sQ (hq := Quiet.pickAnd rfl rfl rfl rfl) (hk := ?_) | refine sQ (hk := ?_) | refine sSkip (hk := ?_) | refine sG (hk := ?_) | refine sOwn (hk := ?_))); refine aSeq_nil ?_)
        refine h23 _ ?_
        refine nT (hk := ?_)
        refine Awp.block ?_
        refine Awp.loopF (fun p : Nat × Nat => ⟨[.any, .any, .ptr 0 0, .any, .any, .lit (.int .i64 own), .own 1 p.2, .any, .any, .any, .any, .any, .any, .any, .any, .any, .any, .any, .any, .any, .any, .any, .any, .any, .any, .any, .any, .any, .any, .any, .bs tBlock f.blocks, .lit (.int .i64 (f.blocks.length : Int)), .lit (.int .i64 (b : Int)), .any, .any, .any, .any, .bs tIns bl.ins, .lit (.int .i64 (bl.ins.length : Int)), .lit (.int .i64 (p.1 : Int)), .any, .any, .any, .any, .any, .any, .any, .any, .any, .any, .any, .any, .any, .any, .any, .any, .any, .any, .any, .any, .any, .any, .any, .any, .any, .any, .any, .any, .any, .any, .any, .any, .any, .any, .any, .any, .any, .any, .any, .any, .any, .any, .any, .any, .any, .any], [.box (encFunc f), .row p.2 41 tHint (A0 ++ (f.blocks.take b).flatMap (hintB own) ++ (bl.ins.take p.1).flatMap (hintX own))]⟩) (fun p => p.1 ≤ bl.ins.length) (fun p => bl.ins.length - p.1) (0, ver) (Nat.zero_le _) (by rw [show A0 ++ (f.blocks.take b).flatMap (hintB own) ++ (bl.ins.take (0, ver).1).flatMap (hintX own) = A0 ++ (f.blocks.take b).flatMap (hintB own) by simp]; exact le_C (.cons (.cons (Cut.nil _)))) ?_
        rintro ⟨i, ver⟩ hi
        dsimp only at hi ⊢
        refine Awp.seq fun K25 h25 => ?_
        (refine Awp.region ?_; (repeat (first | refine sQ (hq := Quiet.pickOr rfl rfl rfl rfl) (hk := ?_) | refine sQ (hq := Quiet.pickAnd rfl rfl rfl rfl) (hk := ?_) | refine sQ (hk := ?_) | refine sSkip (hk := ?_) | refine sG (hk := ?_) | refine sOwn (hk := ?_))); refine aSeq_nil ?_)
        refine h25 _ ?_
        refine nT (hk := ?_)
        refine Awp.seq fun K26 h26 => ?_
        refine Awp.cond rfl (fun hb27 => ?_) (fun hb27 => ?_)
        · have hil2 : i < bl.ins.length := by simpa using hb27
          obtain ⟨x, hx⟩ : ∃ x, bl.ins[i]? = some x := ⟨_, List.getElem?_eq_getElem hil2⟩
          have hxm := List.mem_of_getElem? hx
          have hox := hob.ins x hxm
          have hxl : x.args.length ≤ 2097152 := by have := hsb.all x hxm; omega
          have hxn := flat_next (g := hintX own) hx
          have hle := flat2_le (g := hintX own) hblk hx
          have hX' : (f.blocks.flatMap fun c => c.ins.flatMap (hintX own)).length ≤ 14680064 := by
            have : (f.blocks.flatMap fun c => c.ins.flatMap (hintX own)) = f.blocks.flatMap (hintB own) := rfl
            rw [this]
            omega
          have hL : (A0 ++ (f.blocks.take b).flatMap (hintB own) ++ (bl.ins.take i).flatMap (hintX own)).length + (hintX own x).length ≤ 14680070 := by
            rw [List.length_append, List.length_append, hln]
            have : ((f.blocks.take b).flatMap (hintB own)).length = ((f.blocks.take b).flatMap fun c => c.ins.flatMap (hintX own)).length := rfl
            omega
          have hnext : A0 ++ (f.blocks.take b).flatMap (hintB own) ++ (bl.ins.take (i + 1)).flatMap (hintX own) = (A0 ++ (f.blocks.take b).flatMap (hintB own) ++ (bl.ins.take i).flatMap (hintX own)) ++ hintX own x := by rw [hxn, List.append_assoc _ _ (hintX own x)]
          generalize hL0 : A0 ++ (f.blocks.take b).flatMap (hintB own) ++ (bl.ins.take i).flatMap (hintX own) = L0 at hL hnext ⊢
          have hL1 : L0.length ≤ 14680070 := by omega
          refine Awp.skip ?_
          refine h26 _ ?_
          refine nT (hk := ?_)
          refine Awp.seq fun K28 h28 => ?_
          refine Awp.block ?_
          refine Awp.seq fun K29 h29 => ?_
          (refine Awp.region ?_; (repeat (first | refine sQ (hq := Quiet.pickOr rfl rfl rfl rfl) (hk := ?_) | refine sQ (hq := Quiet.pickAnd rfl rfl rfl rfl) (hk := ?_) | refine sQ (hk := ?_) | refine sSkip (hk := ?_) | refine sG (hk := ?_) | refine sOwn (hk := ?_))); refine aSeq_nil ?_)
          refine h29 _ ?_
          refine nT (hk := ?_)
          refine Awp.seq fun K30 h30 => ?_
          (refine Awp.region ?_; (repeat (first | refine sQ (hq := Quiet.pickOr rfl rfl rfl rfl) (hk := ?_) | refine sQ (hq := Quiet.pickAnd rfl rfl rfl rfl) (hk := ?_) | refine sQ (hk := ?_) | refine sSkip (hk := ?_) | refine sG (hk := ?_) | refine sOwn (hk := ?_))); refine aSeq_nil ?_)
          refine h30 _ ?_
          refine nT (hk := ?_)
          refine Awp.block ?_
          refine Awp.seq fun K31 h31 => ?_
          (refine Awp.region ?_; (repeat (first | refine sQ (hq := Quiet.pickOr rfl rfl rfl rfl) (hk := ?_) | refine sQ (hq := Quiet.pickAnd rfl rfl rfl rfl) (hk := ?_) | refine sQ (hk := ?_) | refine sSkip (hk := ?_) | refine sG (hk := ?_) | refine sOwn (hk := ?_))); refine aSeq_nil ?_)
          refine h31 _ ?_
          refine nT (hk := ?_)
          refine Awp.cond rfl (fun hb32 => ?_) (fun hb32 => ?_)
          · have e : hintX own x = [⟨x.a, own⟩] := by unfold hintX; rw [if_pos hb32]
            have hn1 : L0.length + [(⟨x.a, own⟩ : Hint)].length ≤ maxLen := by simp [maxLen]; omega
            have hn2 : (L0.length + [(⟨x.a, own⟩ : Hint)].length) * 16 ≤ 140737488355328 := by simp; omega
            (refine Awp.region ?_; (repeat (first | refine sQ (hq := Quiet.bld (rs := [.lit (.int .i64 x.a), .lit (.int .i64 own)]) rfl plHint rfl rfl) (hk := ?_) | refine sQ (hq := Quiet.lt1 (T := tHint) rfl rfl rfl (by rfl) (by decide) (fit_hint hox.a hOw0)) (hk := ?_) | refine sQ (hq := Quiet.pickOr rfl rfl rfl rfl) (hk := ?_) | refine sQ (hq := Quiet.pickAnd rfl rfl rfl rfl) (hk := ?_) | refine sQ (hk := ?_) | refine sSkip (hk := ?_) | refine sG (hg := by first | rfl | exact gA_c rfl rfl) (hq := by (intro hg; (try simp only [Bool.and_eq_true, beq_iff_eq] at hg); (try simp only [hg, cond_true, Bool.true_and, beq_self_eq_true]); exact Quiet.bld (rs := [.lit (.int .i64 x.a), .lit (.int .i64 own)]) rfl plHint rfl rfl)) (hk := ?_) | refine sG (hg := by first | rfl | exact gA_c rfl rfl) (hq := by (intro hg; (try simp only [Bool.and_eq_true, beq_iff_eq] at hg); (try simp only [hg, cond_true, Bool.true_and, beq_self_eq_true]); exact Quiet.lt1 (T := tHint) rfl rfl rfl (by rfl) (by decide) (fit_hint hox.a hOw0))) (hk := ?_) | refine sG (hk := ?_) | refine sOwn (hk := ?_))); refine aSeq_nil ?_)
            refine h28 _ ?_
            refine nT (hk := ?_)
            (refine Awp.region ?_; (repeat (first | refine sQ (hq := Quiet.pickOr rfl rfl rfl rfl) (hk := ?_) | refine sQ (hq := Quiet.pickAnd rfl rfl rfl rfl) (hk := ?_) | refine sQ (hk := ?_) | refine sSkip (hk := ?_) | refine sG (hk := ?_) | refine sOwn (hk := ?_))); refine aSeq_nil ?_)
            refine athen_n ⟨(i + 1, ver + 1), by dsimp only; omega, by dsimp only; omega, ?_⟩
            dsimp only
            rw [hnext, e]
            exact le_C (.cons (.cons (Cut.nil _)))
          · refine Awp.seq fun K33 h33 => ?_
            (refine Awp.region ?_; (repeat (first | refine sQ (hq := Quiet.pickOr rfl rfl rfl rfl) (hk := ?_) | refine sQ (hq := Quiet.pickAnd rfl rfl rfl rfl) (hk := ?_) | refine sQ (hk := ?_) | refine sSkip (hk := ?_) | refine sG (hk := ?_) | refine sOwn (hk := ?_))); refine aSeq_nil ?_)
            refine h33 _ ?_
            refine nT (hk := ?_)
            refine Awp.cond rfl (fun hb34 => ?_) (fun hb34 => ?_)
            · have e : hintX own x = ⟨x.d, 8⟩ :: callH x.args (x.args.take 6).length := by unfold hintX; rw [if_neg (by rw [hb32]; simp), if_pos hb34]
              have hn1 : L0.length + [(⟨x.d, 8⟩ : Hint)].length ≤ maxLen := by simp [maxLen]; omega
              have hn2 : (L0.length + [(⟨x.d, 8⟩ : Hint)].length) * 16 ≤ 140737488355328 := by simp; omega
              refine Awp.seq fun K35 h35 => ?_
              (refine Awp.region ?_; (repeat (first | refine sQ (hq := Quiet.bld (rs := [.lit (.int .i64 x.d), .lit (.int .i64 8)]) rfl plHint rfl rfl) (hk := ?_) | refine sQ (hq := Quiet.lt1 (T := tHint) rfl rfl rfl (by rfl) (by decide) (fit_hint hox.d w8)) (hk := ?_) | refine sQ (hq := Quiet.pickOr rfl rfl rfl rfl) (hk := ?_) | refine sQ (hq := Quiet.pickAnd rfl rfl rfl rfl) (hk := ?_) | refine sQ (hk := ?_) | refine sSkip (hk := ?_) | refine sG (hg := by first | rfl | exact gA_c rfl rfl) (hq := by (intro hg; (try simp only [Bool.and_eq_true, beq_iff_eq] at hg); (try simp only [hg, cond_true, Bool.true_and, beq_self_eq_true]); exact Quiet.bld (rs := [.lit (.int .i64 x.d), .lit (.int .i64 8)]) rfl plHint rfl rfl)) (hk := ?_) | refine sG (hg := by first | rfl | exact gA_c rfl rfl) (hq := by (intro hg; (try simp only [Bool.and_eq_true, beq_iff_eq] at hg); (try simp only [hg, cond_true, Bool.true_and, beq_self_eq_true]); exact Quiet.lt1 (T := tHint) rfl rfl rfl (by rfl) (by decide) (fit_hint hox.d w8))) (hk := ?_) | refine sG (hk := ?_) | refine sOwn (hk := ?_))); refine aSeq_nil ?_)
              refine h35 _ ?_
              refine nT (hk := ?_)
              refine Awp.seq fun K36 h36 => ?_
              have hmin : (if (6 : Int) < (x.args.length : Int) then (6 : Int) else (x.args.length : Int)) = ((x.args.take 6).length : Int) := by rw [List.length_take]; split <;> omega
              have hml : (x.args.take 6).length ≤ x.args.length := by rw [List.length_take]; omega
              have hm6 : (x.args.take 6).length ≤ 6 := by rw [List.length_take]; omega
              (refine Awp.region ?_; (repeat (first | refine sQ (hq := Quiet.slc (l := 0) (m := (x.args.take 6).length) rfl rfl rfl rfl ⟨_, congrArg (fun z => AV.lit (Value.int .i64 z)) hmin⟩ (Nat.zero_le _) hml) (hk := ?_) | refine sQ (hq := Quiet.pickOr rfl rfl rfl rfl) (hk := ?_) | refine sQ (hq := Quiet.pickAnd rfl rfl rfl rfl) (hk := ?_) | refine sQ (hk := ?_) | refine sSkip (hk := ?_) | refine sG (hg := by first | rfl | exact gA_c rfl rfl) (hq := by (intro hg; (try simp only [Bool.and_eq_true, beq_iff_eq] at hg); (try simp only [hg, cond_true, Bool.true_and, beq_self_eq_true]); exact Quiet.slc (l := 0) (m := (x.args.take 6).length) rfl rfl rfl rfl ⟨_, congrArg (fun z => AV.lit (Value.int .i64 z)) hmin⟩ (Nat.zero_le _) hml)) (hk := ?_) | refine sG (hk := ?_) | refine sOwn (hk := ?_))); refine aSeq_nil ?_)
              have hSl : ((x.args.take (x.args.take 6).length).drop 0).length = (x.args.take 6).length := by rw [List.length_drop, List.length_take]; omega
              have hSg : ∀ j, j < (x.args.take 6).length → ((x.args.take (x.args.take 6).length).drop 0)[j]? = x.args[j]? := fun j hj => by rw [List.drop_zero, List.getElem?_take_of_lt hj]
              generalize hm0 : (x.args.take 6).length = m at hml hm6 hSl hSg e ⊢
              generalize hS0 : (x.args.take m).drop 0 = S at hSl hSg ⊢
              refine h36 _ ?_
              refine nT (hk := ?_)
              refine Awp.block ?_
              refine Awp.loopF (fun p : Nat × Nat => ⟨[.any, .any, .ptr 0 0, .any, .any, .lit (.int .i64 own), .own 1 p.2, .any, .any, .any, .any, .any, .any, .any, .any, .any, .any, .any, .any, .any, .any, .any, .any, .any, .any, .any, .any, .any, .any, .any, .bs tBlock f.blocks, .lit (.int .i64 (f.blocks.length : Int)), .lit (.int .i64 (b : Int)), .any, .any, .any, .any, .bs tIns bl.ins, .lit (.int .i64 (bl.ins.length : Int)), .lit (.int .i64 (i : Int)), .any, .any, .any, .any, .any, .any, .any, .any, .any, .any, .any, .any, .any, .any, .any, .any, .any, .any, .any, .any, .any, .any, .any, .any, .any, .any, .any, .any, .bs tInt S, .lit (.int .i64 (S.length : Int)), .lit (.int .i64 (p.1 : Int)), .any, .any, .any, .any, .any, .any, .any, .any, .any, .any, .any, .any, .any, .any, .any], [.box (encFunc f), .row p.2 41 tHint (L0 ++ [⟨x.d, 8⟩] ++ callH x.args p.1)]⟩) (fun p => p.1 ≤ S.length) (fun p => S.length - p.1) (0, ver + 1) (Nat.zero_le _) (by rw [show L0 ++ [⟨x.d, 8⟩] ++ callH x.args (0, ver + 1).1 = L0 ++ [⟨x.d, 8⟩] by simp [callH]]; exact le_C (.cons (.cons (Cut.nil _)))) ?_
              rintro ⟨j, ver⟩ hj
              dsimp only at hj ⊢
              refine Awp.seq fun K38 h38 => ?_
              (refine Awp.region ?_; (repeat (first | refine sQ (hq := Quiet.pickOr rfl rfl rfl rfl) (hk := ?_) | refine sQ (hq := Quiet.pickAnd rfl rfl rfl rfl) (hk := ?_) | refine sQ (hk := ?_) | refine sSkip (hk := ?_) | refine sG (hk := ?_) | refine sOwn (hk := ?_))); refine aSeq_nil ?_)
              refine h38 _ ?_
              refine nT (hk := ?_)
              refine Awp.seq fun K39 h39 => ?_
              refine Awp.cond rfl (fun hb40 => ?_) (fun hb40 => ?_)
              · have hjl : j < S.length := by simpa using hb40
                obtain ⟨a, ha⟩ : ∃ a, S[j]? = some a := ⟨_, List.getElem?_eq_getElem hjl⟩
                have haa : x.args[j]? = some a := by rw [← hSg j (by omega)]; exact ha
                have hwa := hox.args a (List.mem_of_getElem? haa)
                have hw8 : wfI .i64 (8 + (j : Int)) := by
                  have : wfI .i64 ((8 + j : Nat) : Int) := nat_wf (by omega)
                  rwa [show ((8 + j : Nat) : Int) = 8 + (j : Int) by omega] at this
                have hcs := callH_succ haa
                have hcl := callH_len x.args j
                generalize hC0 : callH x.args j = C0 at hcs hcl ⊢
                have hn3 : (L0 ++ [(⟨x.d, 8⟩ : Hint)] ++ C0).length + [(⟨a, 8 + (j : Int)⟩ : Hint)].length ≤ maxLen := by simp [maxLen]; omega
                have hn4 : ((L0 ++ [(⟨x.d, 8⟩ : Hint)] ++ C0).length + [(⟨a, 8 + (j : Int)⟩ : Hint)].length) * 16 ≤ 140737488355328 := by simp; omega
                refine Awp.skip ?_
                refine h39 _ ?_
                refine nT (hk := ?_)
                refine Awp.seq fun K41 h41 => ?_
                refine Awp.block ?_
                refine Awp.seq fun K42 h42 => ?_
                (refine Awp.region ?_; (repeat (first | refine sQ (hq := Quiet.pickOr rfl rfl rfl rfl) (hk := ?_) | refine sQ (hq := Quiet.pickAnd rfl rfl rfl rfl) (hk := ?_) | refine sQ (hk := ?_) | refine sSkip (hk := ?_) | refine sG (hk := ?_) | refine sOwn (hk := ?_))); refine aSeq_nil ?_)
                refine h42 _ ?_
                refine nT (hk := ?_)
                (refine Awp.region ?_; (repeat (first | refine sQ (hq := Quiet.bld (rs := [.lit (.int .i64 a), .lit (.int .i64 (8 + (j : Int)))]) rfl plHint rfl rfl) (hk := ?_) | refine sQ (hq := Quiet.lt1 (T := tHint) rfl rfl rfl (by rfl) (by decide) (fit_hint hwa hw8)) (hk := ?_) | refine sQ (hq := Quiet.pickOr rfl rfl rfl rfl) (hk := ?_) | refine sQ (hq := Quiet.pickAnd rfl rfl rfl rfl) (hk := ?_) | refine sQ (hk := ?_) | refine sSkip (hk := ?_) | refine sG (hg := by first | rfl | exact gA_c rfl rfl) (hq := by (intro hg; (try simp only [Bool.and_eq_true, beq_iff_eq] at hg); (try simp only [hg, cond_true, Bool.true_and, beq_self_eq_true]); exact Quiet.bld (rs := [.lit (.int .i64 a), .lit (.int .i64 (8 + (j : Int)))]) rfl plHint rfl rfl)) (hk := ?_) | refine sG (hg := by first | rfl | exact gA_c rfl rfl) (hq := by (intro hg; (try simp only [Bool.and_eq_true, beq_iff_eq] at hg); (try simp only [hg, cond_true, Bool.true_and, beq_self_eq_true]); exact Quiet.lt1 (T := tHint) rfl rfl rfl (by rfl) (by decide) (fit_hint hwa hw8))) (hk := ?_) | refine sG (hk := ?_) | refine sOwn (hk := ?_))); refine aSeq_nil ?_)
                refine h41 _ ?_
                refine nT (hk := ?_)
                (refine Awp.region ?_; (repeat (first | refine sQ (hq := Quiet.pickOr rfl rfl rfl rfl) (hk := ?_) | refine sQ (hq := Quiet.pickAnd rfl rfl rfl rfl) (hk := ?_) | refine sQ (hk := ?_) | refine sSkip (hk := ?_) | refine sG (hk := ?_) | refine sOwn (hk := ?_))); refine aSeq_nil ?_)
                refine athen_n ⟨(j + 1, ver + 1), by dsimp only; omega, by dsimp only; omega, ?_⟩
                dsimp only
                rw [hcs, ← List.append_assoc]
                exact le_T
              · have hje : j = S.length := by have : ¬ j < S.length := by simpa using hb40
                                              omega
                subst hje
                refine Awp.exit ?_
                refine h28 _ ?_
                refine nT (hk := ?_)
                (refine Awp.region ?_; (repeat (first | refine sQ (hq := Quiet.pickOr rfl rfl rfl rfl) (hk := ?_) | refine sQ (hq := Quiet.pickAnd rfl rfl rfl rfl) (hk := ?_) | refine sQ (hk := ?_) | refine sSkip (hk := ?_) | refine sG (hk := ?_) | refine sOwn (hk := ?_))); refine aSeq_nil ?_)
                refine athen_n ⟨(i + 1, ver), by dsimp only; omega, by dsimp only; omega, ?_⟩
                dsimp only
                rw [hnext, e, hSl, List.append_assoc L0]
                exact le_T
            · have e : hintX own x = [] := by unfold hintX; rw [if_neg (by rw [hb32]; simp), if_neg (by rw [hb34]; simp)]
              refine Awp.skip ?_
              refine h28 _ ?_
              refine nT (hk := ?_)
              (refine Awp.region ?_; (repeat (first | refine sQ (hq := Quiet.pickOr rfl rfl rfl rfl) (hk := ?_) | refine sQ (hq := Quiet.pickAnd rfl rfl rfl rfl) (hk := ?_) | refine sQ (hk := ?_) | refine sSkip (hk := ?_) | refine sG (hk := ?_) | refine sOwn (hk := ?_))); refine aSeq_nil ?_)
              refine athen_n ⟨(i + 1, ver), by dsimp only; omega, by dsimp only; omega, ?_⟩
              dsimp only
              rw [hnext, e, List.append_nil]
              exact le_C (.cons (.cons (Cut.nil _)))
        · have hie : i = bl.ins.length := by have : ¬ i < bl.ins.length := by simpa using hb27
                                             omega
          subst hie
          rw [List.take_length]
          refine Awp.exit ?_
          refine h21 _ ?_
          refine nT (hk := ?_)
          (refine Awp.region ?_; (repeat (first | refine sQ (hq := Quiet.pickOr rfl rfl rfl rfl) (hk := ?_) | refine sQ (hq := Quiet.pickAnd rfl rfl rfl rfl) (hk := ?_) | refine sQ (hk := ?_) | refine sSkip (hk := ?_) | refine sG (hk := ?_) | refine sOwn (hk := ?_))); refine aSeq_nil ?_)
          refine athen_n ⟨(b + 1, ver), by dsimp only; omega, by dsimp only; omega, ?_⟩
          dsimp only
          rw [hfn, ← List.append_assoc]
          exact le_T
      · have hbe : b = f.blocks.length := by have : ¬ b < f.blocks.length := by simpa using hb20
                                             omega
        subst hbe
        rw [List.take_length]
        refine Awp.exit ?_
        refine h15 _ ?_
        refine nT (hk := ?_)
        refine Awp.seq fun K43 h43 => ?_
        (refine Awp.region ?_; (repeat (first | refine sQ (hq := Quiet.pickOr rfl rfl rfl rfl) (hk := ?_) | refine sQ (hq := Quiet.pickAnd rfl rfl rfl rfl) (hk := ?_) | refine sQ (hk := ?_) | refine sSkip (hk := ?_) | refine sG (hk := ?_) | refine sOwn (hk := ?_))); refine aSeq_nil ?_)
        refine h43 _ ?_
        refine nT (hk := ?_)
        refine Awp.ret ?_
        subst hA0
        exact ⟨.inr rfl, Fin.own rfl⟩
  refine Awp.seq fun K4 h4 => ?_
  (refine Awp.region ?_; (repeat (first | refine sQ (hq := Quiet.pickOr rfl rfl rfl rfl) (hk := ?_) | refine sQ (hq := Quiet.pickAnd rfl rfl rfl rfl) (hk := ?_) | refine sQ (hk := ?_) | refine sSkip (hk := ?_) | refine sG (hk := ?_) | refine sOwn (hk := ?_))); refine aSeq_nil ?_)
  refine h4 _ ?_
  refine nT (hk := ?_)
  refine Awp.cond rfl (fun hb5 => ?_) (fun hb5 => ?_)
  · subst hb5
    (refine Awp.region ?_; (repeat (first | refine sQ (hq := Quiet.pickOr rfl rfl rfl rfl) (hk := ?_) | refine sQ (hq := Quiet.pickAnd rfl rfl rfl rfl) (hk := ?_) | refine sQ (hk := ?_) | refine sSkip (hk := ?_) | refine sG (hk := ?_) | refine sOwn (hk := ?_))); refine aSeq_nil ?_)
    refine key _ ?_
    exact le_T
  · subst hb5
    refine Awp.skip ?_
    refine key _ ?_
    exact le_T
end Mu
end
section
/-
  muntinref21.Hints, walked: it is bound's.
  Conditions: at most 2^21 of everything.
-/
namespace Mu
open Go Go.RowKit Go.Proofs

set_option maxRecDepth 100000 in
set_option maxHeartbeats 4000000 in
theorem hints21r_fn (f : Func) (leaf : Bool) (ho : okFunc f) (hs : smallF f) (hI : (allIns f).length ≤ 2097152) : Fn Tryz.prog 13 [.agg (encFunc f), .lit (.bool leaf)] (.bs tHint (hintsL f leaf)) := by
  have hbl := hs.blocks
  have hk6 := (argsK_eq f).2
  have hkI : (argsK f : Int) = argsI f := (argsK_eq f).1.symm
  unfold argsI at hkI
  refine Fn.of_awp Tryz.func13 rfl (by kernel_rfl) rfl Tryz.ntmps13 fun C hC => ?_
  simp only [List.length_cons, List.length_nil, Nat.reduceAdd, Nat.reduceSub, List.replicate_succ, List.replicate_zero, List.cons_append, List.nil_append]
  refine Awp.seq fun K1 h1 => ?_
  (refine Awp.region ?_; (repeat (first | refine sQ (hq := Quiet.pickOr rfl rfl rfl rfl) (hk := ?_) | refine sQ (hq := Quiet.pickAnd rfl rfl rfl rfl) (hk := ?_) | refine sQ (hk := ?_) | refine sSkip (hk := ?_) | refine sG (hk := ?_) | refine sOwn (hk := ?_))); refine aSeq_nil ?_)
  refine h1 _ ?_
  refine nT (hk := ?_)
  refine Awp.seq fun K2 h2 => ?_
  (refine Awp.region ?_; (repeat (first | refine sQ (hq := Quiet.pickOr rfl rfl rfl rfl) (hk := ?_) | refine sQ (hq := Quiet.pickAnd rfl rfl rfl rfl) (hk := ?_) | refine sQ (hk := ?_) | refine sSkip (hk := ?_) | refine sG (hk := ?_) | refine sOwn (hk := ?_))); refine aSeq_nil ?_)
  refine h2 _ ?_
  refine nT (hk := ?_)
  refine Awp.seq fun K3 h3 => ?_
  have key : ∀ s' : St, St.le C s' ⟨[.any, .any, .ptr 0 0, .any, .any, .lit (.int .i64 (ownP leaf)), .any, .any, .any, .any, .any, .any, .any, .any, .any, .any, .any, .any, .any, .any, .any, .any, .any, .any, .any, .any, .any, .any, .any, .any, .any, .any, .any, .any, .any, .any, .any, .any, .any, .any, .any, .any, .any, .any, .any, .any, .any, .any, .any, .any, .any, .any, .any, .any, .any, .any, .any, .any, .any, .any, .any, .any, .any, .any, .any, .any, .any, .any, .any, .any, .any, .any, .any, .any, .any, .any, .any, .any, .any, .any, .any, .any, .any, .any, .any, .any, .any, .any, .any, .any, .any, .any, .any, .any, .any, .any, .any, .any, .any, .any], [.box (encFunc f)]⟩ → K3 s' := by
    intro s' hle
    refine h3 _ (Awp.via _ hle ?_)
    have how : 8 ≤ ownP leaf ∧ ownP leaf ≤ 24 := by unfold ownP; split <;> omega
    have hOw : ∀ j : Nat, j ≤ 6 → wfI .i64 (ownP leaf + (j : Int)) := fun j hj => by
      have : wfI .i64 (((ownP leaf).toNat + j : Nat) : Int) := nat_wf (by omega)
      rwa [show (((ownP leaf).toNat + j : Nat) : Int) = ownP leaf + (j : Int) by omega] at this
    have hOw0 : wfI .i64 (ownP leaf) := by have := hOw 0 (by omega); rwa [show ownP leaf + ((0 : Nat) : Int) = ownP leaf by omega] at this
    have htot := hint_total (ownP leaf) f
    generalize hown : ownP leaf = own at how hOw hOw0 htot
    have hfin : hintsL f leaf = argH own (argsK f) ++ f.blocks.flatMap (hintB own) := by unfold hintsL; rw [hown]
    rw [hfin]
    have w8 : wfI .i64 8 := (by decide : (Lit.int .i64 (8 : Int)).wf = true)
    refine Awp.seq fun K6 h6 => ?_
    (refine Awp.region ?_; (repeat (first | refine sQ (hq := Quiet.pickOr rfl rfl rfl rfl) (hk := ?_) | refine sQ (hq := Quiet.pickAnd rfl rfl rfl rfl) (hk := ?_) | refine sQ (hk := ?_) | refine sSkip (hk := ?_) | refine sG (hk := ?_) | refine sOwn (hk := ?_))); refine aSeq_nil ?_)
    refine h6 _ ?_
    refine nT (hk := ?_)
    refine Awp.seq fun K7 h7 => ?_
    refine Awp.seq fun K8 h8 => ?_
    (refine Awp.region ?_; (repeat (first | refine sQ (hq := Quiet.pickOr rfl rfl rfl rfl) (hk := ?_) | refine sQ (hq := Quiet.pickAnd rfl rfl rfl rfl) (hk := ?_) | refine sQ (hk := ?_) | refine sSkip (hk := ?_) | refine sG (hk := ?_) | refine sOwn (hk := ?_))); refine aSeq_nil ?_)
    refine h8 _ ?_
    refine nT (hk := ?_)
    refine Awp.block ?_
    refine Awp.loopF (fun p : Nat × Nat => ⟨[.any, .any, .ptr 0 0, .any, .any, .lit (.int .i64 own), .own 1 p.2, .lit (.int .i64 (p.1 : Int)), .any, .any, .any, .any, .any, .any, .any, .any, .any, .any, .any, .any, .any, .any, .any, .any, .any, .any, .any, .any, .any, .any, .any, .any, .any, .any, .any, .any, .any, .any, .any, .any, .any, .any, .any, .any, .any, .any, .any, .any, .any, .any, .any, .any, .any, .any, .any, .any, .any, .any, .any, .any, .any, .any, .any, .any, .any, .any, .any, .any, .any, .any, .any, .any, .any, .any, .any, .any, .any, .any, .any, .any, .any, .any, .any, .any, .any, .any, .any, .any, .any, .any, .any, .any, .any, .any, .any, .any, .any, .any, .any, .any], [.box (encFunc f), .row p.2 41 tHint (argH own p.1)]⟩) (fun p => p.1 ≤ argsK f) (fun p => argsK f - p.1) (0, 0) (Nat.zero_le _) ((St.le_nil 6 41 tHint rfl (by decide)).trans (le_T)) ?_
    rintro ⟨r, ver⟩ hr
    dsimp only at hr ⊢
    refine Awp.seq fun K10 h10 => ?_
    refine Awp.seq fun K11 h11 => ?_
    (refine Awp.region ?_; (repeat (first | refine sQ (hq := Quiet.pickOr rfl rfl rfl rfl) (hk := ?_) | refine sQ (hq := Quiet.pickAnd rfl rfl rfl rfl) (hk := ?_) | refine sQ (hk := ?_) | refine sSkip (hk := ?_) | refine sG (hk := ?_) | refine sOwn (hk := ?_))); refine aSeq_nil ?_)
    refine h11 _ ?_
    refine nT (hk := ?_)
    refine Awp.cond rfl (fun hb12 => ?_) (fun hb12 => ?_)
    · have hb12 : (decide ((r : Int) < f.args) && decide ((r : Int) < 6)) = true := hb12
      simp only [Bool.and_eq_true, decide_eq_true_eq] at hb12
      have hlt : r < argsK f := by split at hkI <;> split at hkI <;> omega
      have hrw := nat_wf (k := r) (by omega)
      have hln := argH_len own r
      have hsn := argH_succ own r
      have hor := hOw r (by omega)
      generalize argH own r = L0 at hln hsn ⊢
      have hn1 : L0.length + [(⟨(r : Int), own + (r : Int)⟩ : Hint)].length ≤ maxLen := by simp [maxLen]; omega
      have hn2 : (L0.length + [(⟨(r : Int), own + (r : Int)⟩ : Hint)].length) * 16 ≤ 140737488355328 := by simp; omega
      refine Awp.skip ?_
      refine h10 _ ?_
      refine nT (hk := ?_)
      refine Awp.seq fun K13 h13 => ?_
      refine Awp.block ?_
      (refine Awp.region ?_; (repeat (first | refine sQ (hq := Quiet.bld (rs := [.lit (.int .i64 (r : Int)), .lit (.int .i64 (own + (r : Int)))]) rfl plHint rfl rfl) (hk := ?_) | refine sQ (hq := Quiet.lt1 (T := tHint) rfl rfl rfl (by rfl) (by decide) (fit_hint hrw hor)) (hk := ?_) | refine sQ (hq := Quiet.pickOr rfl rfl rfl rfl) (hk := ?_) | refine sQ (hq := Quiet.pickAnd rfl rfl rfl rfl) (hk := ?_) | refine sQ (hk := ?_) | refine sSkip (hk := ?_) | refine sG (hg := by first | rfl | exact gA_c rfl rfl) (hq := by (intro hg; (try simp only [Bool.and_eq_true, beq_iff_eq] at hg); (try simp only [hg, cond_true, Bool.true_and, beq_self_eq_true]); exact Quiet.bld (rs := [.lit (.int .i64 (r : Int)), .lit (.int .i64 (own + (r : Int)))]) rfl plHint rfl rfl)) (hk := ?_) | refine sG (hg := by first | rfl | exact gA_c rfl rfl) (hq := by (intro hg; (try simp only [Bool.and_eq_true, beq_iff_eq] at hg); (try simp only [hg, cond_true, Bool.true_and, beq_self_eq_true]); exact Quiet.lt1 (T := tHint) rfl rfl rfl (by rfl) (by decide) (fit_hint hrw hor))) (hk := ?_) | refine sG (hk := ?_) | refine sOwn (hk := ?_))); refine aSeq_nil ?_)
      refine h13 _ ?_
      refine nT (hk := ?_)
      (refine Awp.region ?_; (repeat (first | refine sQ (hq := Quiet.pickOr rfl rfl rfl rfl) (hk := ?_) | refine sQ (hq := Quiet.pickAnd rfl rfl rfl rfl) (hk := ?_) | refine sQ (hk := ?_) | refine sSkip (hk := ?_) | refine sG (hk := ?_) | refine sOwn (hk := ?_))); refine aSeq_nil ?_)
      refine athen_n ⟨(r + 1, ver + 1), by dsimp only; omega, by dsimp only; omega, ?_⟩
      dsimp only
      rw [hsn]
      exact le_T
    · have hb12 : (decide ((r : Int) < f.args) && decide ((r : Int) < 6)) = false := hb12
      simp only [Bool.and_eq_false_iff, decide_eq_false_iff_not] at hb12
      have hre : r = argsK f := by split at hkI <;> split at hkI <;> omega
      subst hre
      refine Awp.exit ?_
      refine h7 _ ?_
      refine nT (hk := ?_)
      refine Awp.seq fun K14 h14 => ?_
      refine Awp.seq fun K15 h15 => ?_
      (refine Awp.region ?_; (repeat (first | refine sQ (hq := Quiet.pickOr rfl rfl rfl rfl) (hk := ?_) | refine sQ (hq := Quiet.pickAnd rfl rfl rfl rfl) (hk := ?_) | refine sQ (hk := ?_) | refine sSkip (hk := ?_) | refine sG (hk := ?_) | refine sOwn (hk := ?_))); refine aSeq_nil ?_)
      refine h15 _ ?_
      refine nT (hk := ?_)
      have hA0 := argH_len own (argsK f)
      generalize hA : argH own (argsK f) = A0 at hA0 ⊢
      refine Awp.block ?_
      refine Awp.loopF (fun p : Nat × Nat => ⟨[.any, .any, .ptr 0 0, .any, .any, .lit (.int .i64 own), .own 1 p.2, .any, .lit (.int .i64 (p.1 : Int)), .any, .any, .any, .any, .any, .any, .any, .any, .any, .any, .any, .any, .any, .any, .any, .any, .any, .any, .any, .any, .any, .any, .any, .any, .any, .any, .any, .any, .any, .any, .any, .any, .any, .any, .any, .any, .any, .any, .any, .any, .any, .any, .any, .any, .any, .any, .any, .any, .any, .any, .any, .any, .any, .any, .any, .any, .any, .any, .any, .any, .any, .any, .any, .any, .any, .any, .any, .any, .any, .any, .any, .any, .any, .any, .any, .any, .any, .any, .any, .any, .any, .any, .any, .any, .any, .any, .any, .any, .any, .any, .any], [.box (encFunc f), .row p.2 41 tHint (A0 ++ (f.blocks.take p.1).flatMap (hintB own))]⟩) (fun p => p.1 ≤ f.blocks.length) (fun p => f.blocks.length - p.1) (0, ver) (Nat.zero_le _) (by rw [show A0 ++ (f.blocks.take (0, ver).1).flatMap (hintB own) = A0 by simp]; exact le_T) ?_
      rintro ⟨b, ver⟩ hb
      dsimp only at hb ⊢
      refine Awp.seq fun K17 h17 => ?_
      refine Awp.seq fun K18 h18 => ?_
      (refine Awp.region ?_; (repeat (first | refine sQ (hq := Quiet.pickOr rfl rfl rfl rfl) (hk := ?_) | refine sQ (hq := Quiet.pickAnd rfl rfl rfl rfl) (hk := ?_) | refine sQ (hk := ?_) | refine sSkip (hk := ?_) | refine sG (hk := ?_) | refine sOwn (hk := ?_))); refine aSeq_nil ?_)
      refine h18 _ ?_
      refine nT (hk := ?_)
      refine Awp.cond rfl (fun hb19 => ?_) (fun hb19 => ?_)
      · have hlt : b < f.blocks.length := by simpa using hb19
        obtain ⟨bl, hblk⟩ : ∃ bl, f.blocks[b]? = some bl := ⟨_, List.getElem?_eq_getElem hlt⟩
        have hmem := List.mem_of_getElem? hblk
        have hob := ho.blocks bl hmem
        have hsb := hs.all bl hmem
        have hil := hsb.ins
        have hfn := flat_next (g := hintB own) hblk
        refine Awp.skip ?_
        refine h17 _ ?_
        refine nT (hk := ?_)
        refine Awp.seq fun K20 h20 => ?_
        refine Awp.block ?_
        refine Awp.seq fun K21 h21 => ?_
        (refine Awp.region ?_; (repeat (first | refine sQ (hq := Quiet.pickOr rfl rfl rfl rfl) (hk := ?_) | refine sQ (hq := Quiet.pickAnd rfl rfl rfl rfl) (hk := ?_) | refine sQ (hk := ?_) | refine sSkip (hk := ?_) | refine sG (hk := ?_) | refine sOwn (hk := ?_))); refine aSeq_nil ?_)
        refine h21 _ ?_
        refine nT (hk := ?_)
        refine Awp.block ?_
        refine Awp.loopF (fun p : Nat × Nat => ⟨[.any, .any, .ptr 0 0, .any, .any, .lit (.int .i64 own), .own 1 p.2, .any, .lit (.int .i64 (b : Int)), .lit (.int .i64 (p.1 : Int)), .any, .any, .any, .any, .any, .any, .any, .any, .any, .any, .any, .any, .any, .any, .any, .any, .any, .any, .any, .any, .any, .any, .any, .any, .any, .any, .any, .any, .any, .any, .any, .any, .any, .any, .any, .any, .any, .any, .any, .any, .any, .any, .any, .any, .any, .any, .any, .any, .any, .any, .any, .any, .any, .any, .any, .any, .any, .any, .any, .any, .any, .any, .any, .any, .any, .any, .any, .any, .any, .any, .any, .any, .any, .any, .any, .any, .any, .any, .any, .any, .any, .any, .any, .any, .any, .any, .any, .any, .any, .any], [.box (encFunc f), .row p.2 41 tHint (A0 ++ (f.blocks.take b).flatMap (hintB own) ++ (bl.ins.take p.1).flatMap (hintX own))]⟩) (fun p => p.1 ≤ bl.ins.length) (fun p => bl.ins.length - p.1) (0, ver) (Nat.zero_le _) (by rw [show A0 ++ (f.blocks.take b).flatMap (hintB own) ++ (bl.ins.take (0, ver).1).flatMap (hintX own) = A0 ++ (f.blocks.take b).flatMap (hintB own) by simp]; exact le_T) ?_
        rintro ⟨i, ver⟩ hi
        dsimp only at hi ⊢
        refine Awp.seq fun K23 h23 => ?_
        refine Awp.seq fun K24 h24 => ?_
        (refine Awp.region ?_; (repeat (first | refine sQ (hq := Quiet.pickOr rfl rfl rfl rfl) (hk := ?_) | refine sQ (hq := Quiet.pickAnd rfl rfl rfl rfl) (hk := ?_) | refine sQ (hk := ?_) | refine sSkip (hk := ?_) | refine sG (hk := ?_) | refine sOwn (hk := ?_))); refine aSeq_nil ?_)
        refine h24 _ ?_
        refine nT (hk := ?_)
        refine Awp.cond rfl (fun hb25 => ?_) (fun hb25 => ?_)
        · have hil2 : i < bl.ins.length := by simpa using hb25
          obtain ⟨x, hx⟩ : ∃ x, bl.ins[i]? = some x := ⟨_, List.getElem?_eq_getElem hil2⟩
          have hxm := List.mem_of_getElem? hx
          have hox := hob.ins x hxm
          have hxl : x.args.length ≤ 2097152 := by have := hsb.all x hxm; omega
          have hxn := flat_next (g := hintX own) hx
          have hle := flat2_le (g := hintX own) hblk hx
          have hX' : (f.blocks.flatMap fun c => c.ins.flatMap (hintX own)).length ≤ 14680064 := by
            have : (f.blocks.flatMap fun c => c.ins.flatMap (hintX own)) = f.blocks.flatMap (hintB own) := rfl
            rw [this]
            omega
          have hL : (A0 ++ (f.blocks.take b).flatMap (hintB own) ++ (bl.ins.take i).flatMap (hintX own)).length + (hintX own x).length ≤ 14680070 := by
            rw [List.length_append, List.length_append, hA0]
            have : ((f.blocks.take b).flatMap (hintB own)).length = ((f.blocks.take b).flatMap fun c => c.ins.flatMap (hintX own)).length := rfl
            omega
          have hnext : A0 ++ (f.blocks.take b).flatMap (hintB own) ++ (bl.ins.take (i + 1)).flatMap (hintX own) = (A0 ++ (f.blocks.take b).flatMap (hintB own) ++ (bl.ins.take i).flatMap (hintX own)) ++ hintX own x := by rw [hxn, List.append_assoc _ _ (hintX own x)]
          generalize hL0 : A0 ++ (f.blocks.take b).flatMap (hintB own) ++ (bl.ins.take i).flatMap (hintX own) = L0 at hL hnext ⊢
          have hL1 : L0.length ≤ 14680070 := by omega
          refine Awp.skip ?_
          refine h23 _ ?_
          refine nT (hk := ?_)
          refine Awp.seq fun K26 h26 => ?_
          refine Awp.block ?_
          refine Awp.seq fun K27 h27 => ?_
          (refine Awp.region ?_; (repeat (first | refine sQ (hq := Quiet.pickOr rfl rfl rfl rfl) (hk := ?_) | refine sQ (hq := Quiet.pickAnd rfl rfl rfl rfl) (hk := ?_) | refine sQ (hk := ?_) | refine sSkip (hk := ?_) | refine sG (hk := ?_) | refine sOwn (hk := ?_))); refine aSeq_nil ?_)
          refine h27 _ ?_
          refine nT (hk := ?_)
          refine Awp.seq fun K28 h28 => ?_
          refine Awp.seq fun K29 h29 => ?_
          (refine Awp.region ?_; (repeat (first | refine sQ (hq := Quiet.pickOr rfl rfl rfl rfl) (hk := ?_) | refine sQ (hq := Quiet.pickAnd rfl rfl rfl rfl) (hk := ?_) | refine sQ (hk := ?_) | refine sSkip (hk := ?_) | refine sG (hk := ?_) | refine sOwn (hk := ?_))); refine aSeq_nil ?_)
          refine h29 _ ?_
          refine nT (hk := ?_)
          refine Awp.cond rfl (fun hb30 => ?_) (fun hb30 => ?_)
          · have h10 : x.op = 10 := by simpa using hb30
            have e : hintX own x = [⟨x.a, own⟩] := by unfold hintX; rw [if_pos hb30]
            have hn1 : L0.length + [(⟨x.a, own⟩ : Hint)].length ≤ maxLen := by simp [maxLen]; omega
            have hn2 : (L0.length + [(⟨x.a, own⟩ : Hint)].length) * 16 ≤ 140737488355328 := by simp; omega
            (refine Awp.region ?_; (repeat (first | refine sQ (hq := Quiet.bld (rs := [.lit (.int .i64 x.a), .lit (.int .i64 own)]) rfl plHint rfl rfl) (hk := ?_) | refine sQ (hq := Quiet.lt1 (T := tHint) rfl rfl rfl (by rfl) (by decide) (fit_hint hox.a hOw0)) (hk := ?_) | refine sQ (hq := Quiet.pickOr rfl rfl rfl rfl) (hk := ?_) | refine sQ (hq := Quiet.pickAnd rfl rfl rfl rfl) (hk := ?_) | refine sQ (hk := ?_) | refine sSkip (hk := ?_) | refine sG (hg := by first | rfl | exact gA_c rfl rfl) (hq := by (intro hg; (try simp only [Bool.and_eq_true, beq_iff_eq] at hg); (try simp only [hg, cond_true, Bool.true_and, beq_self_eq_true]); exact Quiet.bld (rs := [.lit (.int .i64 x.a), .lit (.int .i64 own)]) rfl plHint rfl rfl)) (hk := ?_) | refine sG (hg := by first | rfl | exact gA_c rfl rfl) (hq := by (intro hg; (try simp only [Bool.and_eq_true, beq_iff_eq] at hg); (try simp only [hg, cond_true, Bool.true_and, beq_self_eq_true]); exact Quiet.lt1 (T := tHint) rfl rfl rfl (by rfl) (by decide) (fit_hint hox.a hOw0))) (hk := ?_) | refine sG (hk := ?_) | refine sOwn (hk := ?_))); refine aSeq_nil ?_)
            refine h28 _ ?_
            refine nT (hk := ?_)
            refine Awp.seq fun K31 h31 => ?_
            refine Awp.seq fun K32 h32 => ?_
            (refine Awp.region ?_; (repeat (first | refine sQ (hq := Quiet.pickOr rfl rfl rfl rfl) (hk := ?_) | refine sQ (hq := Quiet.pickAnd rfl rfl rfl rfl) (hk := ?_) | refine sQ (hk := ?_) | refine sSkip (hk := ?_) | refine sG (hk := ?_) | refine sOwn (hk := ?_))); refine aSeq_nil ?_)
            refine h32 _ ?_
            refine nT (hk := ?_)
            refine Awp.cond rfl (fun hb33 => ?_) (fun hb33 => ?_)
            · refine Awp.exit ?_
              refine h26 _ ?_
              refine nT (hk := ?_)
              (refine Awp.region ?_; (repeat (first | refine sQ (hq := Quiet.pickOr rfl rfl rfl rfl) (hk := ?_) | refine sQ (hq := Quiet.pickAnd rfl rfl rfl rfl) (hk := ?_) | refine sQ (hk := ?_) | refine sSkip (hk := ?_) | refine sG (hk := ?_) | refine sOwn (hk := ?_))); refine aSeq_nil ?_)
              refine athen_n ⟨(i + 1, ver + 1), by dsimp only; omega, by dsimp only; omega, ?_⟩
              dsimp only
              rw [hnext, e]
              exact le_C (.cons (.cons (Cut.nil _)))
            · exfalso
              rw [h10] at hb33
              revert hb33
              decide
          · have h10 : ¬ x.op = 10 := by simpa using hb30
            refine Awp.skip ?_
            refine h28 _ ?_
            refine nT (hk := ?_)
            refine Awp.seq fun K41 h41 => ?_
            refine Awp.seq fun K42 h42 => ?_
            (refine Awp.region ?_; (repeat (first | refine sQ (hq := Quiet.pickOr rfl rfl rfl rfl) (hk := ?_) | refine sQ (hq := Quiet.pickAnd rfl rfl rfl rfl) (hk := ?_) | refine sQ (hk := ?_) | refine sSkip (hk := ?_) | refine sG (hk := ?_) | refine sOwn (hk := ?_))); refine aSeq_nil ?_)
            refine h42 _ ?_
            refine nT (hk := ?_)
            refine Awp.cond rfl (fun hb43 => ?_) (fun hb43 => ?_)
            · have h5 : ¬ x.op = 5 := by simpa using hb43
              have e : hintX own x = [] := by unfold hintX; rw [if_neg (by simpa using h10), if_neg (by simpa using h5)]
              refine Awp.exit ?_
              refine h26 _ ?_
              refine nT (hk := ?_)
              (refine Awp.region ?_; (repeat (first | refine sQ (hq := Quiet.pickOr rfl rfl rfl rfl) (hk := ?_) | refine sQ (hq := Quiet.pickAnd rfl rfl rfl rfl) (hk := ?_) | refine sQ (hk := ?_) | refine sSkip (hk := ?_) | refine sG (hk := ?_) | refine sOwn (hk := ?_))); refine aSeq_nil ?_)
              refine athen_n ⟨(i + 1, ver), by dsimp only; omega, by dsimp only; omega, ?_⟩
              dsimp only
              rw [hnext, e, List.append_nil]
              exact le_C (.cons (.cons (Cut.nil _)))
            · have h5 : x.op = 5 := by simpa using hb43
              have e : hintX own x = ⟨x.d, 8⟩ :: callH x.args (x.args.take 6).length := by unfold hintX; rw [if_neg (by simpa using h10), if_pos (by simpa using h5)]
              have hm6 : (x.args.take 6).length ≤ 6 := by rw [List.length_take]; omega
              have hml : (x.args.take 6).length ≤ x.args.length := by rw [List.length_take]; omega
              have hmE : ∀ k : Nat, k < (x.args.take 6).length ↔ k < x.args.length ∧ k < 6 := fun k => by rw [List.length_take]; omega
              have hn1 : L0.length + [(⟨x.d, 8⟩ : Hint)].length ≤ maxLen := by simp [maxLen]; omega
              have hn2 : (L0.length + [(⟨x.d, 8⟩ : Hint)].length) * 16 ≤ 140737488355328 := by simp; omega
              generalize (x.args.take 6).length = m at hm6 hml hmE e ⊢
              refine Awp.skip ?_
              refine h41 _ ?_
              refine nT (hk := ?_)
              refine Awp.seq fun K44 h44 => ?_
              (refine Awp.region ?_; (repeat (first | refine sQ (hq := Quiet.bld (rs := [.lit (.int .i64 x.d), .lit (.int .i64 8)]) rfl plHint rfl rfl) (hk := ?_) | refine sQ (hq := Quiet.lt1 (T := tHint) rfl rfl rfl (by rfl) (by decide) (fit_hint hox.d w8)) (hk := ?_) | refine sQ (hq := Quiet.pickOr rfl rfl rfl rfl) (hk := ?_) | refine sQ (hq := Quiet.pickAnd rfl rfl rfl rfl) (hk := ?_) | refine sQ (hk := ?_) | refine sSkip (hk := ?_) | refine sG (hg := by first | rfl | exact gA_c rfl rfl) (hq := by (intro hg; (try simp only [Bool.and_eq_true, beq_iff_eq] at hg); (try simp only [hg, cond_true, Bool.true_and, beq_self_eq_true]); exact Quiet.bld (rs := [.lit (.int .i64 x.d), .lit (.int .i64 8)]) rfl plHint rfl rfl)) (hk := ?_) | refine sG (hg := by first | rfl | exact gA_c rfl rfl) (hq := by (intro hg; (try simp only [Bool.and_eq_true, beq_iff_eq] at hg); (try simp only [hg, cond_true, Bool.true_and, beq_self_eq_true]); exact Quiet.lt1 (T := tHint) rfl rfl rfl (by rfl) (by decide) (fit_hint hox.d w8))) (hk := ?_) | refine sG (hk := ?_) | refine sOwn (hk := ?_))); refine aSeq_nil ?_)
              refine h44 _ ?_
              refine nT (hk := ?_)
              refine Awp.seq fun K45 h45 => ?_
              (refine Awp.region ?_; (repeat (first | refine sQ (hq := Quiet.pickOr rfl rfl rfl rfl) (hk := ?_) | refine sQ (hq := Quiet.pickAnd rfl rfl rfl rfl) (hk := ?_) | refine sQ (hk := ?_) | refine sSkip (hk := ?_) | refine sG (hk := ?_) | refine sOwn (hk := ?_))); refine aSeq_nil ?_)
              refine h45 _ ?_
              refine nT (hk := ?_)
              refine Awp.block ?_
              refine Awp.loopF (fun p : Nat × Nat => ⟨[.any, .any, .ptr 0 0, .any, .any, .lit (.int .i64 own), .own 1 p.2, .any, .lit (.int .i64 (b : Int)), .lit (.int .i64 (i : Int)), .ptr 2 0, .lit (.int .i64 (p.1 : Int)), .any, .any, .any, .any, .any, .any, .any, .any, .any, .any, .any, .any, .any, .any, .any, .any, .any, .any, .any, .any, .any, .any, .any, .any, .any, .any, .any, .any, .any, .any, .any, .any, .any, .any, .any, .any, .any, .any, .any, .any, .any, .any, .any, .any, .any, .any, .any, .any, .any, .any, .any, .any, .any, .any, .any, .any, .any, .any, .any, .any, .any, .any, .any, .any, .any, .any, .any, .any, .any, .any, .any, .any, .any, .any, .any, .any, .any, .any, .any, .any, .any, .any, .any, .any, .any, .any, .any, .any], [.box (encFunc f), .row p.2 41 tHint (L0 ++ [⟨x.d, 8⟩] ++ callH x.args p.1), .box (encIns x)]⟩) (fun p => p.1 ≤ m) (fun p => m - p.1) (0, ver + 1) (Nat.zero_le _) (by rw [show L0 ++ [⟨x.d, 8⟩] ++ callH x.args (0, ver + 1).1 = L0 ++ [⟨x.d, 8⟩] by simp [callH]]; exact le_T) ?_
              rintro ⟨j, ver⟩ hj
              dsimp only at hj ⊢
              refine Awp.seq fun K47 h47 => ?_
              refine Awp.seq fun K48 h48 => ?_
              (refine Awp.region ?_; (repeat (first | refine sQ (hq := Quiet.pickOr rfl rfl rfl rfl) (hk := ?_) | refine sQ (hq := Quiet.pickAnd rfl rfl rfl rfl) (hk := ?_) | refine sQ (hk := ?_) | refine sSkip (hk := ?_) | refine sG (hk := ?_) | refine sOwn (hk := ?_))); refine aSeq_nil ?_)
              refine h48 _ ?_
              refine nT (hk := ?_)
              refine Awp.cond rfl (fun hb49 => ?_) (fun hb49 => ?_)
              · have hb49 : (decide ((j : Int) < (x.args.length : Int)) && decide ((j : Int) < 6)) = true := hb49
                simp only [Bool.and_eq_true, decide_eq_true_eq] at hb49
                have hjm : j < m := (hmE j).2 (by omega)
                obtain ⟨a, haa⟩ : ∃ a, x.args[j]? = some a := ⟨_, List.getElem?_eq_getElem (by omega)⟩
                have hwa := hox.args a (List.mem_of_getElem? haa)
                have hw8 : wfI .i64 (8 + (j : Int)) := by
                  have : wfI .i64 ((8 + j : Nat) : Int) := nat_wf (by omega)
                  rwa [show ((8 + j : Nat) : Int) = 8 + (j : Int) by omega] at this
                have hcs := callH_succ haa
                have hcl := callH_len x.args j
                have happ : L0 ++ [(⟨x.d, 8⟩ : Hint)] ++ callH x.args (j + 1) = (L0 ++ [(⟨x.d, 8⟩ : Hint)] ++ callH x.args j) ++ [(⟨a, 8 + (j : Int)⟩ : Hint)] := by rw [hcs, List.append_assoc (L0 ++ [(⟨x.d, 8⟩ : Hint)])]
                have hll : (L0 ++ [(⟨x.d, 8⟩ : Hint)] ++ callH x.args j).length ≤ 14680080 := by rw [List.length_append, List.length_append, hcl]; simp; omega
                generalize L0 ++ [(⟨x.d, 8⟩ : Hint)] ++ callH x.args j = L1 at happ hll ⊢
                have hn3 : L1.length + [(⟨a, 8 + (j : Int)⟩ : Hint)].length ≤ maxLen := by simp [maxLen]; omega
                have hn4 : (L1.length + [(⟨a, 8 + (j : Int)⟩ : Hint)].length) * 16 ≤ 140737488355328 := by simp; omega
                refine Awp.skip ?_
                refine h47 _ ?_
                refine nT (hk := ?_)
                refine Awp.seq fun K50 h50 => ?_
                refine Awp.block ?_
                (refine Awp.region ?_; (repeat (first | refine sQ (hq := Quiet.bld (rs := [.lit (.int .i64 a), .lit (.int .i64 (8 + (j : Int)))]) rfl plHint rfl rfl) (hk := ?_) | refine sQ (hq := Quiet.lt1 (T := tHint) rfl rfl rfl (by rfl) (by decide) (fit_hint hwa hw8)) (hk := ?_) | refine sQ (hq := Quiet.pickOr rfl rfl rfl rfl) (hk := ?_) | refine sQ (hq := Quiet.pickAnd rfl rfl rfl rfl) (hk := ?_) | refine sQ (hk := ?_) | refine sSkip (hk := ?_) | refine sG (hg := by first | rfl | exact gA_c rfl rfl) (hq := by (intro hg; (try simp only [Bool.and_eq_true, beq_iff_eq] at hg); (try simp only [hg, cond_true, Bool.true_and, beq_self_eq_true]); exact Quiet.bld (rs := [.lit (.int .i64 a), .lit (.int .i64 (8 + (j : Int)))]) rfl plHint rfl rfl)) (hk := ?_) | refine sG (hg := by first | rfl | exact gA_c rfl rfl) (hq := by (intro hg; (try simp only [Bool.and_eq_true, beq_iff_eq] at hg); (try simp only [hg, cond_true, Bool.true_and, beq_self_eq_true]); exact Quiet.lt1 (T := tHint) rfl rfl rfl (by rfl) (by decide) (fit_hint hwa hw8))) (hk := ?_) | refine sG (hk := ?_) | refine sOwn (hk := ?_))); refine aSeq_nil ?_)
                refine h50 _ ?_
                refine nT (hk := ?_)
                (refine Awp.region ?_; (repeat (first | refine sQ (hq := Quiet.pickOr rfl rfl rfl rfl) (hk := ?_) | refine sQ (hq := Quiet.pickAnd rfl rfl rfl rfl) (hk := ?_) | refine sQ (hk := ?_) | refine sSkip (hk := ?_) | refine sG (hk := ?_) | refine sOwn (hk := ?_))); refine aSeq_nil ?_)
                refine athen_n ⟨(j + 1, ver + 1), by dsimp only; omega, by dsimp only; omega, ?_⟩
                dsimp only
                rw [happ]
                exact le_T
              · have hb49 : (decide ((j : Int) < (x.args.length : Int)) && decide ((j : Int) < 6)) = false := hb49
                simp only [Bool.and_eq_false_iff, decide_eq_false_iff_not] at hb49
                have hje : j = m := by
                  have : ¬ j < m := fun h => by have := (hmE j).1 h; omega
                  omega
                subst hje
                refine Awp.exit ?_
                refine h26 _ ?_
                refine nT (hk := ?_)
                (refine Awp.region ?_; (repeat (first | refine sQ (hq := Quiet.pickOr rfl rfl rfl rfl) (hk := ?_) | refine sQ (hq := Quiet.pickAnd rfl rfl rfl rfl) (hk := ?_) | refine sQ (hk := ?_) | refine sSkip (hk := ?_) | refine sG (hk := ?_) | refine sOwn (hk := ?_))); refine aSeq_nil ?_)
                refine athen_n ⟨(i + 1, ver), by dsimp only; omega, by dsimp only; omega, ?_⟩
                dsimp only
                rw [hnext, e, show L0 ++ ((⟨x.d, 8⟩ : Hint) :: callH x.args j) = L0 ++ [(⟨x.d, 8⟩ : Hint)] ++ callH x.args j by simp]
                exact le_C (.cons (.cons (Cut.nil _)))
        · have hie : i = bl.ins.length := by have : ¬ i < bl.ins.length := (by simpa using hb25); omega
          refine Awp.exit ?_
          refine h20 _ ?_
          refine nT (hk := ?_)
          (refine Awp.region ?_; (repeat (first | refine sQ (hq := Quiet.pickOr rfl rfl rfl rfl) (hk := ?_) | refine sQ (hq := Quiet.pickAnd rfl rfl rfl rfl) (hk := ?_) | refine sQ (hk := ?_) | refine sSkip (hk := ?_) | refine sG (hk := ?_) | refine sOwn (hk := ?_))); refine aSeq_nil ?_)
          refine athen_n ⟨(b + 1, ver), by dsimp only; omega, by dsimp only; omega, ?_⟩
          dsimp only
          rw [hfn, hie, List.take_length, ← List.append_assoc]
          exact le_T
      · have hbe : b = f.blocks.length := by have : ¬ b < f.blocks.length := (by simpa using hb19); omega
        subst hbe
        rw [List.take_length]
        refine Awp.exit ?_
        refine h14 _ ?_
        refine nT (hk := ?_)
        refine Awp.seq fun K60 h60 => ?_
        (refine Awp.region ?_; (repeat (first | refine sQ (hq := Quiet.pickOr rfl rfl rfl rfl) (hk := ?_) | refine sQ (hq := Quiet.pickAnd rfl rfl rfl rfl) (hk := ?_) | refine sQ (hk := ?_) | refine sSkip (hk := ?_) | refine sG (hk := ?_) | refine sOwn (hk := ?_))); refine aSeq_nil ?_)
        refine h60 _ ?_
        refine nT (hk := ?_)
        refine Awp.ret ?_
        rw [hA]
        exact ⟨.inr rfl, Fin.own rfl⟩
  refine Awp.seq fun K4 h4 => ?_
  (refine Awp.region ?_; (repeat (first | refine sQ (hq := Quiet.pickOr rfl rfl rfl rfl) (hk := ?_) | refine sQ (hq := Quiet.pickAnd rfl rfl rfl rfl) (hk := ?_) | refine sQ (hk := ?_) | refine sSkip (hk := ?_) | refine sG (hk := ?_) | refine sOwn (hk := ?_))); refine aSeq_nil ?_)
  refine h4 _ ?_
  refine nT (hk := ?_)
  refine Awp.cond rfl (fun hb5 => ?_) (fun hb5 => ?_)
  · have e : ownP leaf = 8 := by unfold ownP; rw [if_pos hb5]
    (refine Awp.region ?_; (repeat (first | refine sQ (hq := Quiet.pickOr rfl rfl rfl rfl) (hk := ?_) | refine sQ (hq := Quiet.pickAnd rfl rfl rfl rfl) (hk := ?_) | refine sQ (hk := ?_) | refine sSkip (hk := ?_) | refine sG (hk := ?_) | refine sOwn (hk := ?_))); refine aSeq_nil ?_)
    refine key _ ?_
    rw [e]
    exact le_T
  · have hb5 : leaf = false := hb5
    have e : ownP leaf = 24 := by unfold ownP; rw [hb5]; rfl
    refine Awp.skip ?_
    refine key _ ?_
    rw [e]
    exact le_T
end Mu
end
section
/-
  Records of two integers that are compared; muntinref21.Same; muntinlaw21.example.
  Conditions: none.
-/
namespace Mu
open Go Go.RowKit Go.Proofs

def int64T (P : Program) (ty : TypeId) : Bool := match P.underlying ty with | some (.int .i64) => true | _ => false
theorem int64T_spec {P : Program} {ty : TypeId} (h : int64T P ty = true) : P.underlying ty = some (.int .i64) := by
  unfold int64T at h
  split at h
  · assumption
  · cases h
/-- a record type of two integers, as '==' reads it -/
def two64 (P : Program) (ty : TypeId) : Bool :=
  (match P.underlying ty with
    | some (.struct fs) => (match fs.toList with
      | [f, g] => f.name != "_" && g.name != "_" && int64T P f.type && int64T P g.type && f.offset == 0 && g.offset == 1
      | _ => false)
    | _ => false) && !P.stoodInHeld ty && !P.eqGuardType P.depth ty
section
variable {P : Program} {w : World}
theorem run_part_int {e : TypeId} {k : IntKind} {xs : Array Value} {off : Nat} {v : Value} (he : P.underlying e = some (.int k)) (hx : xs[off]? = some v) : (part e xs off).run P w = .ok v w := by
  simp [part, isAgg, run_underlying he, hx]
theorem run_same2 {ty : TypeId} {a b c d : Int} (h : two64 P ty = true) : (Op.equalIn 10000 ty (.agg #[.int .i64 a, .int .i64 b]) (.agg #[.int .i64 c, .int .i64 d])).run P w = .ok (a == c && b == d) w ∧ P.eqGuardType P.depth ty = false := by
  unfold two64 at h
  simp only [Bool.and_eq_true, Bool.not_eq_true'] at h
  obtain ⟨⟨h1, h2⟩, h3⟩ := h
  refine ⟨?_, h3⟩
  split at h1
  · rename_i fs hfs
    split at h1
    · rename_i f g hfg
      simp only [Bool.and_eq_true, bne_iff_ne, ne_eq, beq_iff_eq] at h1
      obtain ⟨⟨⟨⟨⟨n1, n2⟩, t1⟩, t2⟩, o1⟩, o2⟩ := h1
      have hF : P.fieldsOf ty = fs := by unfold Program.fieldsOf; rw [hfs]
      have t1 := int64T_spec t1
      have t2 := int64T_spec t2
      rw [show (10000 : Nat) = 9999 + 1 from rfl, run_equalIn_struct w 9999 ty _ _ (by rw [hF]; exact hfs) h2, hF, hfg]
      have p1 : ∀ (xs : Array Value) (v : Value), xs[0]? = some v → (part f.type xs f.offset).run P w = .ok v w := fun xs v hv => run_part_int t1 (by rw [o1]; exact hv)
      have p2 : ∀ (xs : Array Value) (v : Value), xs[1]? = some v → (part g.type xs g.offset).run P w = .ok v w := fun xs v hv => run_part_int t2 (by rw [o2]; exact hv)
      have q1 : (Op.equalIn 9999 f.type (.int .i64 a) (.int .i64 c)).run P w = .ok (a == c) w := run_equalIn_int (P := P) w 9998 f.type .i64 .i64 a c t1
      have q2 : (Op.equalIn 9999 g.type (.int .i64 b) (.int .i64 d)).run P w = .ok (b == d) w := run_equalIn_int (P := P) w 9998 g.type .i64 .i64 b d t2
      have r1 : (part f.type #[Value.int .i64 a, .int .i64 b] f.offset).run P w = .ok (.int .i64 a) w := p1 _ _ rfl
      have r2 : (part f.type #[Value.int .i64 c, .int .i64 d] f.offset).run P w = .ok (.int .i64 c) w := p1 _ _ rfl
      have r3 : (part g.type #[Value.int .i64 a, .int .i64 b] g.offset).run P w = .ok (.int .i64 b) w := p2 _ _ rfl
      have r4 : (part g.type #[Value.int .i64 c, .int .i64 d] g.offset).run P w = .ok (.int .i64 d) w := p2 _ _ rfl
      simp only [Op.eqFields, n1, n2, ne_eq, not_false_eq_true, if_true, Sem.run_bind]
      rw [r1, Result.andThen_ok, r2, Result.andThen_ok, q1, Result.andThen_ok]
      by_cases e : a = c
      · subst e
        simp only [beq_self_eq_true, Bool.not_true, Bool.false_eq_true, if_false, Bool.true_and, Sem.run_bind]
        rw [r3, Result.andThen_ok, r4, Result.andThen_ok, q2, Result.andThen_ok]
        cases (b == d) <;> rfl
      · have : (a == c) = false := by simpa using e
        rw [this]
        rfl
    · cases h1
  · cases h1
end
section
variable {P : Program} {C : Ctx} {t : List AV} {h : List ABlk} {o : Oper}
theorem Quiet.neq2 {xt yt : TypeId} {x y : Operand} {a b c d : Int} (hT : two64 P xt = true) (ho : o.op = .binOp .neq xt x y yt) (hx : evA t x = .agg [.lit (.int .i64 a), .lit (.int .i64 b)]) (hy : evA t y = .agg [.lit (.int .i64 c), .lit (.int .i64 d)]) : Quiet P C t h o (.lit (.bool (!(a == c && b == d)))) :=
  Quiet.of_run fun S ψ w ρ _ hρ => by
    have h1 := hρ x (by simp [ho, Op.operands])
    have h2 := hρ y (by simp [ho, Op.operands])
    rw [hx] at h1
    rw [hy] at h2
    simp only [AV.rel, AV.relL] at h1 h2
    obtain ⟨_, h1, _, _, rfl, rfl, _, _, rfl, rfl, rfl⟩ := h1
    obtain ⟨_, h2, _, _, rfl, rfl, _, _, rfl, rfl, rfl⟩ := h2
    obtain ⟨e1, e2⟩ := run_same2 (w := w) (a := a) (b := b) (c := c) (d := d) hT
    refine ⟨_, ?_, by unfold AV.rel; rfl⟩
    simp only [execOp, ho, h1, h2, Sem.run_bind]
    rw [run_eqGuard_agg w .neq xt x y _ _ e2, Result.andThen_ok, run_neq_struct, e1, Result.andThen_ok]
    rfl
end
theorem two_hint : two64 Tryz.prog 41 = true := by kernel_rfl
instance inMuSame211 : DecidableEq Hint := fun a b => decidable_of_iff (a.r = b.r ∧ a.at_ = b.at_) ⟨fun ⟨h1, h2⟩ => by cases a; cases b; cases h1; cases h2; rfl, fun h => by rw [h]; exact ⟨rfl, rfl⟩⟩
set_option maxRecDepth 100000 in
theorem same21_fn (a b : List Hint) (hl : a.length ≤ 1000000000) : Fn Tryz.prog 11 [.bs tHint a, .bs tHint b] (.lit (.bool (decide (a = b)))) := by
  refine Fn.of_awp Tryz.func11 rfl (by kernel_rfl) rfl Tryz.ntmps11 fun C hC => ?_
  simp only [List.length_cons, List.length_nil, Nat.reduceAdd, Nat.reduceSub, List.replicate_succ, List.replicate_zero, List.cons_append, List.nil_append]
  refine Awp.seq fun K1 h1 => ?_
  (refine Awp.region ?_; (repeat (first | refine sQ (hk := ?_) | refine sSkip (hk := ?_) | refine sOwn (hk := ?_))); refine aSeq_nil ?_)
  refine h1 _ ?_
  refine nT (hk := ?_)
  refine Awp.seq fun K2 h2 => ?_
  refine Awp.seq fun K3 h3 => ?_
  (refine Awp.region ?_; (repeat (first | refine sQ (hk := ?_) | refine sSkip (hk := ?_) | refine sOwn (hk := ?_))); refine aSeq_nil ?_)
  refine h3 _ ?_
  refine nT (hk := ?_)
  refine Awp.cond rfl (fun hb4 => ?_) (fun hb4 => ?_)
  · have hne : a.length ≠ b.length := by
      intro e
      rw [e] at hb4
      simp at hb4
    have hne' : ¬ a = b := fun e => hne (by rw [e])
    refine Awp.seq fun K5 h5 => ?_
    (refine Awp.region ?_; (repeat (first | refine sQ (hk := ?_) | refine sSkip (hk := ?_) | refine sOwn (hk := ?_))); refine aSeq_nil ?_)
    refine h5 _ ?_
    refine nT (hk := ?_)
    refine Awp.ret ?_
    rw [decide_eq_false hne']
    exact ⟨.inr rfl, Fin.cl rfl⟩
  · have hlen : a.length = b.length := by
      have : ((a.length : Int) != (b.length : Int)) = false := hb4
      simp only [bne_eq_false_iff_eq] at this
      omega
    refine Awp.skip ?_
    refine h2 _ ?_
    refine nT (hk := ?_)
    refine Awp.seq fun K6 h6 => ?_
    refine Awp.seq fun K7 h7 => ?_
    (refine Awp.region ?_; (repeat (first | refine sQ (hk := ?_) | refine sSkip (hk := ?_) | refine sOwn (hk := ?_))); refine aSeq_nil ?_)
    refine h7 _ ?_
    refine nT (hk := ?_)
    refine Awp.block ?_
    refine Awp.loopF (fun i : Nat => ⟨[.bs tHint a, .bs tHint b, .any, .any, .any, .lit (.int .i64 (i : Int)), .any, .any, .any, .any, .any, .any, .any, .any, .any, .any, .any, .any, .any, .any, .any, .any, .any, .any, .any, .any], []⟩) (fun i => i ≤ a.length ∧ a.take i = b.take i) (fun i => a.length - i) 0 ⟨Nat.zero_le _, rfl⟩ (le_T) ?_
    rintro i ⟨hi, heq⟩
    refine Awp.seq fun K9 h9 => ?_
    refine Awp.seq fun K10 h10 => ?_
    (refine Awp.region ?_; (repeat (first | refine sQ (hk := ?_) | refine sSkip (hk := ?_) | refine sOwn (hk := ?_))); refine aSeq_nil ?_)
    refine h10 _ ?_
    refine nT (hk := ?_)
    refine Awp.cond rfl (fun hb11 => ?_) (fun hb11 => ?_)
    · have hlt : i < a.length := by simpa using hb11
      obtain ⟨x, hx⟩ : ∃ x, a[i]? = some x := ⟨_, List.getElem?_eq_getElem hlt⟩
      obtain ⟨y, hy⟩ : ∃ y, b[i]? = some y := ⟨_, List.getElem?_eq_getElem (by omega)⟩
      obtain ⟨x0, x1⟩ := x
      obtain ⟨y0, y1⟩ := y
      refine Awp.skip ?_
      refine h9 _ ?_
      refine nT (hk := ?_)
      refine Awp.seq fun K12 h12 => ?_
      refine Awp.block ?_
      refine Awp.seq fun K13 h13 => ?_
      (refine drawD 9 (hh := ?_); (repeat (first | refine qQ (hq := Quiet.neq2 two_hint rfl rfl rfl) (hk := ?_) | refine qQ (hk := ?_) | refine qSkip (hk := ?_))); refine aQ_nil ?_; (repeat (first | refine sQ (hq := Quiet.neq2 two_hint rfl rfl rfl) (hk := ?_) | refine sQ (hk := ?_) | refine sSkip (hk := ?_) | refine sOwn (hk := ?_))); refine aSeq_nil ?_)
      refine h13 _ ?_
      refine nT (hk := ?_)
      refine Awp.cond rfl (fun hb14 => ?_) (fun hb14 => ?_)
      · have hne : ¬ a = b := by
          intro e
          subst e
          rw [hx] at hy
          cases hy
          simp at hb14
        refine Awp.seq fun K15 h15 => ?_
        (refine Awp.region ?_; (repeat (first | refine sQ (hk := ?_) | refine sSkip (hk := ?_) | refine sOwn (hk := ?_))); refine aSeq_nil ?_)
        refine h15 _ ?_
        refine nT (hk := ?_)
        refine Awp.ret ?_
        rw [decide_eq_false hne]
        exact ⟨.inr rfl, Fin.cl rfl⟩
      · have hxy : (!(x0 == y0 && x1 == y1)) = false := hb14
        simp only [Bool.not_eq_false', Bool.and_eq_true, beq_iff_eq] at hxy
        obtain ⟨rfl, rfl⟩ := hxy
        refine Awp.skip ?_
        refine h12 _ ?_
        refine nT (hk := ?_)
        (refine Awp.region ?_; (repeat (first | refine sQ (hk := ?_) | refine sSkip (hk := ?_) | refine sOwn (hk := ?_))); refine aSeq_nil ?_)
        refine athen_n ⟨i + 1, ⟨by omega, by rw [List.take_add_one, List.take_add_one, hx, hy, heq]⟩, by omega, le_T⟩
    · have hie : i = a.length := by have : ¬ i < a.length := by simpa using hb11
                                    omega
      have hab : a = b := by
        rw [hie, List.take_length, hlen, List.take_length] at heq
        exact heq
      refine Awp.exit ?_
      refine h6 _ ?_
      refine nT (hk := ?_)
      refine Awp.seq fun K16 h16 => ?_
      (refine Awp.region ?_; (repeat (first | refine sQ (hk := ?_) | refine sSkip (hk := ?_) | refine sOwn (hk := ?_))); refine aSeq_nil ?_)
      refine h16 _ ?_
      refine nT (hk := ?_)
      refine Awp.ret ?_
      rw [decide_eq_true hab]
      exact ⟨.inr rfl, Fin.cl rfl⟩

theorem wf_decK {k : IntKind} {n : Int} (h : (Lit.int k n).wf = true) : wfI k n := h
def e21I0 : Ins := ⟨5, 2, 0, 0, 0, 0, [1], 0, 0⟩
def e21I1 : Ins := ⟨1, 2, 2, 0, 0, 0, [], 0, 0⟩
def e21I2 : Ins := ⟨10, 0, 2, 0, 0, 0, [], 0, 0⟩
def e21B : Block := ⟨noName, [e21I0, e21I1, e21I2]⟩
def e21F : Func := ⟨noName, 2, 3, [e21B]⟩
theorem e21I0_ok : okIns e21I0 := ⟨wf_decK (by decide), wf_decK (by decide), wf_decK (by decide), wf_decK (by decide), wf_decK (by decide), wf_decK (by decide), wf_decK (by decide), wf_decK (by decide), fun y hy => by
  simp only [e21I0, List.mem_cons, List.not_mem_nil, or_false] at hy
  subst hy
  exact wf_decK (by decide)⟩
theorem e21I1_ok : okIns e21I1 := okI_dec _ (by decide)
theorem e21I2_ok : okIns e21I2 := okI_dec _ (by decide)
theorem e21B_ok : okBlock e21B := ⟨noName_ok, fun x hx => by
  simp only [e21B, List.mem_cons, List.not_mem_nil, or_false] at hx
  rcases hx with rfl | rfl | rfl
  · exact e21I0_ok
  · exact e21I1_ok
  · exact e21I2_ok⟩
theorem e21F_ok : okFunc e21F := ⟨noName_ok, (by decide : (Lit.int .i64 (2 : Int)).wf = true), (by decide : (Lit.int .i64 (3 : Int)).wf = true), fun x hx => by
  simp only [e21F, List.mem_cons, List.not_mem_nil, or_false] at hx
  subst hx
  exact e21B_ok⟩
theorem e21F_small : smallF e21F := ⟨by decide, fun x hx => by
  simp only [e21F, List.mem_cons, List.not_mem_nil, or_false] at hx
  subst hx
  exact ⟨by decide, fun y hy => by
    simp only [e21B, List.mem_cons, List.not_mem_nil, or_false] at hy
    rcases hy with rfl | rfl | rfl <;> decide⟩⟩
set_option maxRecDepth 100000 in
set_option maxHeartbeats 4000000 in
theorem example21_fn : Fn Tryz.prog 21 [] (.agg (encFunc e21F)) := by
  refine Fn.of_awpC Tryz.func21 rfl (by kernel_rfl) rfl (show aggT Tryz.prog 24 = some (true, 4) by kernel_rfl) Tryz.ntmps21 fun C hC => ?_
  simp only [List.length_nil, Nat.sub_zero, List.replicate_succ, List.replicate_zero, List.nil_append]
  refine Awp.seq fun K1 h1 => ?_
  (refine Awp.region ?_; (repeat (first | refine sQ (hk := ?_) | refine sSkip (hk := ?_) | refine sOwn (hk := ?_))); refine aSeq_nil ?_)
  refine h1 _ ?_
  refine nT (hk := ?_)
  refine Awp.seq fun K2 h2 => ?_
  refine Awp.region ?_
  refine aSeq_t rfl (AOp.q (Quiet.lt (xs := [.const (.int .i64 1)]) (T := tInt) (ds := [1]) rfl rfl rfl (by rfl) (by decide) (fits_lits [1] (okI_list (by decide)))) ?_)
  refine sNt (hk := ?_)
  refine aSeq_t rfl (AOp.q (r := .agg (encIns e21I0)) (Quiet.bld rfl plIns rfl rfl) ?_)
  refine sNt (hk := ?_)
  refine aSeq_t rfl (AOp.q (r := .agg (encIns0 e21I1)) (Quiet.bld rfl plIns rfl rfl) ?_)
  refine sNt (hk := ?_)
  refine aSeq_t rfl (AOp.q (r := .agg (encIns0 e21I2)) (Quiet.bld rfl plIns rfl rfl) ?_)
  refine sNt (hk := ?_)
  refine aSeq_t rfl (AOp.q (Quiet.lt (xs := [.tmp 2, .tmp 3, .tmp 4]) (T := tIns) (ds := [e21I0, e21I1, e21I2]) rfl rfl rfl (by rfl) (by decide) (.cons (Fit.agg fun _ _ _ _ h => put_ins e21I0_ok h) (.cons (Fit.agg fun _ _ _ _ h => put_ins0 e21I1_ok rfl h) (.cons (Fit.agg fun _ _ _ _ h => put_ins0 e21I2_ok rfl h) .nil)))) ?_)
  refine sNt (hk := ?_)
  refine aSeq_t rfl (AOp.q (r := .agg (encBlock e21B)) (Quiet.bld rfl plBlock rfl rfl) ?_)
  refine sNt (hk := ?_)
  refine aSeq_t rfl (AOp.q (Quiet.lt (xs := [.tmp 6]) (T := tBlock) (ds := [e21B]) rfl rfl rfl (by rfl) (by decide) (.cons (Fit.agg fun _ _ _ _ h => put_block noName_ok h) .nil)) ?_)
  refine sNt (hk := ?_)
  refine aSeq_t rfl (AOp.q (r := .agg (encFunc e21F)) (Quiet.bld rfl plFunc rfl rfl) ?_)
  refine sNt (hk := ?_)
  (first | refine sQ (hk := ?_) | refine sSkip (hk := ?_) | refine sOwn (hk := ?_))
  refine aSeq_nil ?_
  refine h2 _ ?_
  refine nT (hk := ?_)
  refine Awp.ret ?_
  refine ⟨⟨.inr rfl, 0, _, rfl, rfl, Fin.cl rfl⟩, fun i cells h1 h2 => ?_⟩
  have : i = 0 := by injection h1 with h1; exact h1.symm
  subst this
  injection h2 with h2
  injection h2 with h2
  rw [← h2]
  rfl
end Mu
end
section
/-
  muntinlaw21.head, walked.
  Conditions: none.
-/
namespace Mu
open Go Go.RowKit Go.Proofs

def keptL21 : List Int := [16, 17, 18, 19, 20, 21, 22, 23, 24, 25, 26, 27, 28, 29]
def bothL21 : List Int := fewP ++ keptL21
def hintL21 : List Hint := [⟨0, 24⟩, ⟨1, 25⟩, ⟨2, 8⟩, ⟨1, 8⟩, ⟨2, 24⟩]
theorem e21_places0 : placesP (crossL e21F) 0 false = keptL21 := by decide +kernel
theorem e21_places2 : placesP (crossL e21F) 2 false = bothL21 := by decide +kernel
theorem e21_placesL : placesP (crossL e21F) 0 true = fewP := by decide +kernel
theorem e21_hints : hintsL e21F false = hintL21 := by decide +kernel
theorem e21_reads : (allReads e21F).length ≤ 2097152 := by decide +kernel
theorem e21_ins : (allIns e21F).length ≤ 2097152 := by decide +kernel
theorem e21_blk : ∀ b ∈ e21F.blocks, b.ins.length + 1 ≤ 2097152 := fun b hb => by
  simp only [e21F, List.mem_cons, List.not_mem_nil, or_false] at hb
  subst hb
  decide
theorem sameSelf (l : List Int) (hl : l.length ≤ 2097152) : Fn Tryz.prog 8 [.bs tInt l, .bs tInt l] (.lit (.bool true)) := by
  have := same_fn l l hl
  rwa [decide_eq_true rfl] at this
theorem sameSelfH (l : List Hint) (hl : l.length ≤ 1000000000) : Fn Tryz.prog 11 [.bs tHint l, .bs tHint l] (.lit (.bool true)) := by
  have := same21_fn l l hl
  rwa [decide_eq_true rfl] at this
theorem Quiet.eqSelf {P : Program} {C : Ctx} {t : List AV} {h : List ABlk} {o : Oper} {xt yt : TypeId} {x y : Operand} {a : ByteArray} (ho : o.op = .binOp .eql xt x y yt) (hx : evA t x = .lit (.string a)) (hy : evA t y = .lit (.string a)) : Quiet P C t h o (.lit (.bool true)) := by
  have := Quiet.eqS (P := P) (C := C) (h := h) ho hx hy
  rwa [show (a == a) = true from by first | (show (a.data == a.data) = true; exact beq_self_eq_true _) | (cases a; rfl) | (cases a; simp) | exact beq_self_eq_true a] at this
theorem name_g4 : nameP 4 = ⟨#[103, 52]⟩ := by decide +kernel
theorem name_o5 : nameP 13 = ⟨#[111, 53]⟩ := by decide +kernel
theorem name_i0 : nameP 24 = ⟨#[105, 48]⟩ := by decide +kernel
theorem name_s10 : nameP 42 = ⟨#[115, 49, 48]⟩ := by decide +kernel
set_option maxRecDepth 100000 in
set_option maxHeartbeats 4000000 in
theorem head21_fn : Fn Tryz.prog 5 [] (.lit (.bool true)) := by
  have hP0 := Places21_fn e21F 0 false e21F_ok e21F_small e21_reads e21_blk
  have hP2 := Places21_fn e21F 2 false e21F_ok e21F_small e21_reads e21_blk
  have hPL := Places21_fn e21F 0 true e21F_ok e21F_small e21_reads e21_blk
  have hH := hints21_fn e21F false e21F_ok e21F_small e21_ins
  rw [e21_places0] at hP0
  rw [e21_places2] at hP2
  rw [e21_placesL] at hPL
  rw [e21_hints] at hH
  have hN4 : Fn Tryz.prog 17 [.lit (.int .i64 4)] (.lit (.string (nameP 4))) := name21_fn 4 (by decide)
  have hN13 : Fn Tryz.prog 17 [.lit (.int .i64 13)] (.lit (.string (nameP 13))) := name21_fn 13 (by decide)
  have hN24 : Fn Tryz.prog 17 [.lit (.int .i64 24)] (.lit (.string (nameP 24))) := name21_fn 24 (by decide)
  have hN42 : Fn Tryz.prog 17 [.lit (.int .i64 42)] (.lit (.string (nameP 42))) := name21_fn 42 (by decide)
  rw [name_g4] at hN4
  rw [name_o5] at hN13
  rw [name_i0] at hN24
  rw [name_s10] at hN42
  have hK24 : Fn Tryz.prog 15 [.lit (.int .i64 24)] (.lit (.bool true)) := kept21_fn 24
  have hK30 : Fn Tryz.prog 15 [.lit (.int .i64 30)] (.lit (.bool false)) := kept21_fn 30
  have hs1 := sameSelf keptL21 (by decide)
  have hs2 := sameSelf bothL21 (by decide)
  have hs3 := sameSelf fewP (by decide)
  have hs4 := sameSelfH hintL21 (by decide)
  refine Fn.of_awp Tryz.func5 rfl (by kernel_rfl) rfl Tryz.ntmps5 fun C hC => ?_
  simp only [List.length_nil, Nat.sub_zero, List.replicate_succ, List.replicate_zero, List.nil_append]
  refine Awp.seq fun K1 h1 => ?_
  (refine Awp.region ?_; (repeat (first | refine sQ (hk := ?_) | refine sSkip (hk := ?_) | refine sOwn (hk := ?_))); refine aSeq_nil ?_)
  refine h1 _ ?_
  refine nT (hk := ?_)
  refine Awp.seq fun K2 h2 => ?_
  (refine Awp.region ?_; (repeat (first | refine sQ (hq := Quiet.call rfl example21_fn rfl rfl rfl) (hk := ?_) | refine sQ (hk := ?_) | refine sSkip (hk := ?_) | refine sOwn (hk := ?_))); refine aSeq_nil ?_)
  refine h2 _ ?_
  refine nT (hk := ?_)
  refine Awp.seq fun K3 h3 => ?_
  (refine Awp.region ?_; (repeat (first | refine sQ (hq := Quiet.lt (xs := [.const (.int .i64 16), .const (.int .i64 17), .const (.int .i64 18), .const (.int .i64 19), .const (.int .i64 20), .const (.int .i64 21), .const (.int .i64 22), .const (.int .i64 23), .const (.int .i64 24), .const (.int .i64 25), .const (.int .i64 26), .const (.int .i64 27), .const (.int .i64 28), .const (.int .i64 29)]) (T := tInt) (ds := keptL21) rfl rfl rfl (by rfl) (by decide) (fits_lits keptL21 (okI_list (by decide)))) (hk := ?_) | refine sQ (hk := ?_) | refine sSkip (hk := ?_) | refine sOwn (hk := ?_))); refine aSeq_nil ?_)
  refine h3 _ ?_
  refine nT (hk := ?_)
  refine Awp.seq fun K4 h4 => ?_
  (refine Awp.region ?_; (repeat (first | refine sQ (hq := Quiet.lt (xs := [.const (.int .i64 8), .const (.int .i64 9), .const (.int .i64 10), .const (.int .i64 11), .const (.int .i64 12), .const (.int .i64 13), .const (.int .i64 4)]) (T := tInt) (ds := fewP) rfl rfl rfl (by rfl) (by decide) (fits_lits fewP (okI_list (by decide)))) (hk := ?_) | refine sQ (hk := ?_) | refine sSkip (hk := ?_) | refine sOwn (hk := ?_))); refine aSeq_nil ?_)
  refine h4 _ ?_
  refine nT (hk := ?_)
  refine Awp.seq fun K5 h5 => ?_
  refine Awp.region ?_
  iterate 7 (first | refine sQ (hq := Quiet.call rfl hP0 rfl rfl rfl) (hk := ?_) | refine sQ (hq := Quiet.call rfl hs1 rfl rfl rfl) (hk := ?_) | refine sQ (hq := Quiet.call rfl hP2 rfl rfl rfl) (hk := ?_) | refine sQ (hk := ?_) | refine sSkip (hk := ?_) | refine sOwn (hk := ?_))
  refine aSeq_t rfl (AOp.lit (s := ⟨_, _⟩) (T := tInt) (xs := []) (ds := []) (e := 3) (bytes := 8) rfl rfl rfl (by kernel_rfl) (by decide) (by decide) .nil ?_)
  refine sNt (hk := ?_)
  (first | refine sQ (hk := ?_) | refine sSkip (hk := ?_) | refine sOwn (hk := ?_))
  refine aSeq_t rfl (AOp.app (T := tInt) (l := []) (l2 := fewP) rfl rfl rfl rfl rfl (by decide) (by decide) ?_)
  refine sNt (hk := ?_)
  (first | refine sQ (hk := ?_) | refine sSkip (hk := ?_) | refine sOwn (hk := ?_))
  refine aSeq_t rfl (AOp.app (T := tInt) (l := fewP) (l2 := keptL21) rfl rfl rfl rfl rfl (by decide) (by decide) ?_)
  refine sNt (hk := ?_)
  (repeat (first | refine sQ (hq := Quiet.lend rfl hs2 (.cl rfl (.own rfl .nil))) (hk := ?_) | refine sQ (hq := Quiet.call rfl hPL rfl rfl rfl) (hk := ?_) | refine sQ (hq := Quiet.call rfl hs3 rfl rfl rfl) (hk := ?_) | refine sQ (hq := Quiet.call rfl hH rfl rfl rfl) (hk := ?_) | refine sQ (hq := Quiet.call rfl hs4 rfl rfl rfl) (hk := ?_) | refine sQ (hq := Quiet.call rfl hN4 rfl rfl rfl) (hk := ?_) | refine sQ (hq := Quiet.call rfl hN13 rfl rfl rfl) (hk := ?_) | refine sQ (hq := Quiet.call rfl hN24 rfl rfl rfl) (hk := ?_) | refine sQ (hq := Quiet.call rfl hN42 rfl rfl rfl) (hk := ?_) | refine sQ (hq := Quiet.call rfl hK24 rfl rfl rfl) (hk := ?_) | refine sQ (hq := Quiet.call rfl hK30 rfl rfl rfl) (hk := ?_) | refine sQ (hq := Quiet.eqSelf rfl rfl rfl) (hk := ?_) | refine sQ (hq := Quiet.bld rfl plHint rfl rfl) (hk := ?_) | refine sQ (hq := Quiet.lt (xs := [.tmp 30, .tmp 31, .tmp 32, .tmp 33, .tmp 34]) (T := tHint) (ds := hintL21) rfl rfl rfl (by rfl) (by decide) (.cons (fit_hint (wf_decK (by decide)) (wf_decK (by decide))) (.cons (fit_hint (wf_decK (by decide)) (wf_decK (by decide))) (.cons (fit_hint (wf_decK (by decide)) (wf_decK (by decide))) (.cons (fit_hint (wf_decK (by decide)) (wf_decK (by decide))) (.cons (fit_hint (wf_decK (by decide)) (wf_decK (by decide))) .nil)))))) (hk := ?_) | refine sQ (hk := ?_) | refine sSkip (hk := ?_) | refine sOwn (hk := ?_)))
  refine aSeq_nil ?_
  refine h5 _ ?_
  refine nT (hk := ?_)
  refine Awp.ret ?_
  exact ⟨.inr rfl, Fin.cl rfl⟩
end Mu
end
section
/-
  Places and hints, in plain terms, of any function.
  Conditions: none.
-/
namespace Mu
open Go Go.RowKit Go.Proofs

theorem place_row (cross : List Int) (r : Int) (leaf : Bool) : (leaf = true ∧ placesP cross r leaf = someP [0]) ∨ (leaf = false ∧ cross.contains r = true ∧ placesP cross r leaf = someP [1, 2]) ∨ (leaf = false ∧ cross.contains r = false ∧ placesP cross r leaf = someP [0, 1, 2]) := by
  unfold placesP
  cases leaf
  · cases cross.contains r
    · exact .inr (.inr ⟨rfl, rfl, rfl⟩)
    · exact .inr (.inl ⟨rfl, rfl, rfl⟩)
  · exact .inl ⟨rfl, rfl⟩
theorem place_len (cross : List Int) (r : Int) (leaf : Bool) : 7 ≤ (placesP cross r leaf).length ∧ (placesP cross r leaf).length ≤ 24 ∧ (placesP cross r leaf).Nodup := by
  rcases place_row cross r leaf with ⟨_, h2⟩ | ⟨_, _, h2⟩ | ⟨_, _, h2⟩ <;> rw [h2] <;> decide
end Mu
end
section
/-
  muntinlaw21.BoundTells, walked: it answers true of any function, register and place.
  Conditions: data of at most 2^21 everywhere; the table of tens is laid.
-/
namespace Mu
open Go Go.RowKit Go.Proofs

theorem regsB_few {f : Func} (h : great18 f = false) : (regsB f).length ≤ 126 := by
  have h1 : (regs18L f).length ≤ 60 := by
    unfold great18 at h
    rw [Bool.or_eq_false_iff] at h
    have := of_decide_eq_false h.2
    omega
  rw [← regs21_eq]
  unfold regs21L
  have h2 := (List.takeWhile_sublist (fun r : Int => decide (r < 0)) (l := regs18L f)).length_le
  have h3 := lowR_len f 6
  have h4 := List.length_filter_le (fun r : Int => decide (r > 5)) (regs18L f)
  simp only [List.length_append]
  omega
set_option maxRecDepth 100000 in
set_option maxHeartbeats 4000000 in
theorem boundTells21_fn (f : Func) (r place : Int) (hp : wfI .i64 place) (ho : okFunc f) (hs : smallF f) (hT : (allReads f).length ≤ 2097152) (hi1 : ∀ b ∈ f.blocks, b.ins.length + 1 ≤ 2097152) (hX : (allX f).length ≤ 2097152) (hI : (allIns f).length ≤ 2097152) : FnT TensLaid Tryz.prog 3 [.agg (encFunc f), .lit (.int .i64 r), .lit (.int .i64 place)] (.lit (.bool true)) := by
  have hgr := great18_fn f ho hs hX
  have hhd := head21_fn
  have hr1 := regs21_fn f ho hs hX
  have hr2 := regs21r_fn f ho hs hX
  have hk1 := kept21_fn place
  have hk2 := kept21r_fn place
  have hkk : (keptB place == keptB place) = true := beq_self_eq_true _
  have hn1 := name21T_fn place hp
  have hn2 := name21r_fn place hp
  refine FnT.of_awp Tryz.func3 rfl (by kernel_rfl) rfl Tryz.ntmps3 fun C hC hG => ?_
  simp only [List.length_cons, List.length_nil, Nat.reduceAdd, Nat.reduceSub, List.replicate_succ, List.replicate_zero, List.cons_append, List.nil_append]
  refine wR (hk := ?_)
  refine Awp.seq fun K2 h2 => ?_
  refine wR (hk := ?_)
  refine Awp.cond rfl (fun hb4 => ?_) (fun hb4 => ?_)
  · refine wR (hk := ?_)
    exact Awp.ret ⟨.inr rfl, Fin.cl rfl⟩
  · have hfew := regsB_few hb4
    have hsr := sameSelf (regsB f) (by omega)
    refine Awp.skip ?_
    refine h2 _ ?_
    refine nT (hk := ?_)
    refine Awp.seq fun K7 h7 => ?_
    refine wR (hk := ?_)
    refine Awp.block ?_
    refine Awp.loopF (fun i : Nat => ⟨[.any, .lit (.int .i64 r), .lit (.int .i64 place), .ptr 0 0, .any, .any, .any, .lit (.int .i64 (i : Int)), .any, .any, .any, .any, .any, .any, .any, .any, .any, .any, .any, .any, .any, .any, .any, .any, .any, .any, .any, .any, .any, .any, .any, .any, .any, .any, .any, .any, .any, .any, .any, .any, .any, .any, .any, .any, .any, .any, .any, .any, .any, .any, .any, .any, .any, .any, .any, .any, .any, .any, .any, .any, .any, .any, .any, .any, .any, .any, .any, .any, .any, .any, .any, .any, .any, .any, .any, .any, .any, .any, .any, .any, .any, .any, .any, .any, .any, .any, .any, .any, .any, .any, .any, .any], [.box (encFunc f)]⟩) (fun i => i ≤ 2) (fun i => 2 - i) 0 (Nat.zero_le _) (le_T) ?_
    intro i hi
    refine Awp.seq fun K10 h10 => ?_
    refine wR (hk := ?_)
    refine Awp.cond rfl (fun hb12 => ?_) (fun hb12 => ?_)
    · refine Awp.skip ?_
      refine h10 _ ?_
      refine nT (hk := ?_)
      refine Awp.seq fun K13 h13 => ?_
      refine Awp.block ?_
      obtain ⟨leaf, hleaf⟩ : ∃ leaf : Bool, intBin .eql .i64 (i : Int) 1 = some (.bool leaf) := ⟨_, rfl⟩
      refine wR (hk := ?_)
      have hcl := classes21_fn f leaf ho hs hT hi1 hX
      have hlen : intBin .neq .i64 ((classL f leaf (regsB f)).length : Int) ((regsB f).length : Int) = some (.bool false) := by
        unfold classL intBin
        rw [List.length_map]
        simp
      refine wD 7 (hk := ?_)
      refine Awp.seq fun K16 h16 => ?_
      refine wR (hk := ?_)
      refine Awp.cond rfl (fun hb18 => ?_) (fun hb18 => ?_)
      · cases hb18
      · refine Awp.skip ?_
        refine h16 _ ?_
        refine nT (hk := ?_)
        refine Awp.seq fun K21 h21 => ?_
        refine wR (hk := ?_)
        refine Awp.block ?_
        refine Awp.loopF (fun k : Nat => ⟨[.any, .lit (.int .i64 r), .lit (.int .i64 place), .ptr 0 0, .any, .any, .any, .lit (.int .i64 (i : Int)), .lit (.bool leaf), .bs tInt (regsB f), .bs tInt.slice (classL f leaf (regsB f)), .lit (.int .i64 (k : Int)), .any, .any, .any, .any, .any, .any, .any, .any, .any, .any, .any, .any, .any, .any, .any, .any, .any, .any, .any, .any, .any, .any, .any, .any, .any, .any, .any, .any, .any, .any, .any, .any, .any, .any, .any, .any, .any, .any, .any, .any, .any, .any, .any, .any, .any, .any, .any, .any, .any, .any, .any, .any, .any, .any, .any, .any, .any, .any, .any, .any, .any, .any, .any, .any, .any, .any, .any, .any, .any, .any, .any, .any, .any, .any, .any, .any, .any, .any, .any, .any], [.box (encFunc f)]⟩) (fun k => k ≤ (regsB f).length) (fun k => (regsB f).length - k) 0 (Nat.zero_le _) (le_T) ?_
        intro k hk
        refine Awp.seq fun K24 h24 => ?_
        refine wR (hk := ?_)
        refine Awp.cond rfl (fun hb26 => ?_) (fun hb26 => ?_)
        · have hlt : k < (regsB f).length := by simpa using hb26
          obtain ⟨q, hq⟩ : ∃ q, (regsB f)[k]? = some q := ⟨_, List.getElem?_eq_getElem hlt⟩
          have hc : (classL f leaf (regsB f))[k]? = some (placesP (crossL f) q leaf) := by unfold classL; rw [List.getElem?_map, hq]; rfl
          refine Awp.skip ?_
          refine h24 _ ?_
          refine nT (hk := ?_)
          refine Awp.seq fun K27 h27 => ?_
          refine Awp.block ?_
          have hpl := places21r_fn f q leaf ho hs hT hi1
          have hsp := sameSelf (placesP (crossL f) q leaf) (by have := place_len (crossL f) q leaf; omega)
          refine wD 13 (hk := ?_)
          refine Awp.cond rfl (fun hb29 => ?_) (fun hb29 => ?_)
          · cases hb29
          · refine Awp.skip ?_
            refine h27 _ ?_
            refine nT (hk := ?_)
            refine wRE (hk := ?_)
            refine athen_n ⟨k + 1, by omega, by omega, le_T⟩
        · refine Awp.exit ?_
          refine h21 _ ?_
          refine nT (hk := ?_)
          have hpl := places21r_fn f r leaf ho hs hT hi1
          have hpb := Places21_fn f r leaf ho hs hT hi1
          have hsp := sameSelf (placesP (crossL f) r leaf) (by have := place_len (crossL f) r leaf; omega)
          have hh1 := hints21_fn f leaf ho hs hI
          have hh2 := hints21r_fn f leaf ho hs hI
          have hll : (hintsL f leaf).length ≤ 20000000 := by
            have h1 := hint_total (ownP leaf) f
            have h2 := argH_len (ownP leaf) (argsK f)
            have h3 := (argsK_eq f).2
            unfold hintsL
            rw [List.length_append]
            omega
          have hsh := sameSelfH (hintsL f leaf) (by omega)
          refine wD 20 (hk := ?_)
          refine Awp.cond rfl (fun hb34 => ?_) (fun hb34 => ?_)
          · cases hb34
          · refine Awp.skip ?_
            refine h13 _ ?_
            refine nT (hk := ?_)
            refine wRE (hk := ?_)
            refine athen_n ⟨i + 1, by have : (i : Int) < 2 := (by simpa using hb12); omega, by have : (i : Int) < 2 := (by simpa using hb12); omega, le_T⟩
    · refine Awp.exit ?_
      refine h7 _ ?_
      refine nT (hk := ?_)
      refine wD 23 (hq := by ((repeat (first | refine qA (hq := Quiet.callT hC tens_lasts hG rfl hn1 rfl rfl rfl) (hk := ?_) | refine qA (hk := ?_) | refine qSkip (hk := ?_) | refine qAG (hq := by (intro hg; (try simp only [Bool.and_eq_true, beq_iff_eq] at hg); (try simp only [hg, cond_true, Bool.true_and, beq_self_eq_true]); exact Quiet.callT hC tens_lasts hG rfl hn1 rfl rfl rfl)) (hk := ?_) | refine qAG (hk := ?_))); exact qEnd rfl)) (hx := by ((repeat (first | refine sA (hq := Quiet.callT hC tens_lasts hG rfl hn1 rfl rfl rfl) (hk := ?_) | refine sA (hk := ?_) | refine sSkip (hk := ?_) | refine sAG (hq := by (intro hg; (try simp only [Bool.and_eq_true, beq_iff_eq] at hg); (try simp only [hg, cond_true, Bool.true_and, beq_self_eq_true]); exact Quiet.callT hC tens_lasts hG rfl hn1 rfl rfl rfl)) (hk := ?_) | refine sAG (hk := ?_) | refine sOwn (hk := ?_))); exact wEnd rfl)) (hk := ?_)
      exact Awp.ret ⟨.inr rfl, Fin.cl rfl⟩
end Mu
end
section
/-
  What a bulk of at most 2^21 gives of a program and its functions, for the Bound laws.
  Conditions: none.
-/
namespace Mu
open Go Go.RowKit Go.Proofs
theorem regs_ins (l : List Ins) : (l.flatMap regsX).length ≤ bulkL tIns.bulk l := by
  induction l with
  | nil => simp [bulkL]
  | cons x l ih =>
    have h1 := readsC_len2 x
    have h2 := bulk_ins x
    have h3 := bulkL_length one_int x.args
    have h4 : (regsX x).length ≤ (readsC x).length + 1 := by
      unfold regsX
      rw [List.length_append]
      split <;> simp
    simp only [List.flatMap_cons, List.length_append, bulkL]
    omega
theorem regs_blocks (l : List Block) : (l.flatMap fun b => b.ins.flatMap regsX).length ≤ bulkL tBlock.bulk l := by
  induction l with
  | nil => simp [bulkL]
  | cons b l ih =>
    have h1 := regs_ins b.ins
    have h2 := bulk_block b
    simp only [List.flatMap_cons, List.length_append, bulkL]
    omega
theorem allX_func {f : Func} (h : tFunc.bulk f ≤ 2097152) : (allX f).length ≤ 2097152 := by
  have h1 := regs_blocks f.blocks
  have h2 := bulk_func f
  have e : (allX f).length = (f.blocks.flatMap fun b => b.ins.flatMap regsX).length := rfl
  omega
theorem ins_blocks (l : List Block) : (l.flatMap fun b => b.ins).length ≤ bulkL tBlock.bulk l := by
  induction l with
  | nil => simp [bulkL]
  | cons b l ih =>
    have h1 := bulkL_length one_ins b.ins
    have h2 := bulk_block b
    simp only [List.flatMap_cons, List.length_append, bulkL]
    omega
theorem allIns_func {f : Func} (h : tFunc.bulk f ≤ 2097152) : (allIns f).length ≤ 2097152 := by
  have h1 := ins_blocks f.blocks
  have h2 := bulk_func f
  have e : (allIns f).length = (f.blocks.flatMap fun b => b.ins).length := rfl
  omega
end Mu
end
section
/-
  The arguments of a row, read; what a call that makes new blocks only leaves of them.
  Conditions: none.
-/
namespace Mu
open Go Go.RowKit Go.ChangeShapes Go.WideShapes Go.Proofs

theorem laid_out : laidOutB Tryz.prog = true := by kernel_rfl
mutual
theorem bulk_le {H : Type} : ∀ d : DataW H, bulkD d ≤ YtanncdfhjlgncaaGreatDoor.Rows.uptoBulk d
  | .lit (.string _) => Nat.le_refl _
  | .lit (.bool _) => Nat.le_refl _
  | .lit (.int _ _) => Nat.le_refl _
  | .lit (.float _ _) => Nat.le_refl _
  | .lit .nil => Nat.le_refl _
  | .nil => Nat.le_refl _
  | .ptr d => by show 1 ≤ YtanncdfhjlgncaaGreatDoor.Rows.uptoBulk d + 1; omega
  | .slice e s => by
    have h1 := bulks_le e
    have h2 := bulks_le s
    show bulkD.go e + bulkD.go s + 1 ≤ YtanncdfhjlgncaaGreatDoor.Rows.uptoBulkAll e + YtanncdfhjlgncaaGreatDoor.Rows.uptoBulkAll s + 1
    omega
  | .agg p => by
    have h1 := bulks_le p
    show bulkD.go p + 1 ≤ YtanncdfhjlgncaaGreatDoor.Rows.uptoBulkAll p + 1
    omega
  | .iface _ d => by show 1 ≤ YtanncdfhjlgncaaGreatDoor.Rows.uptoBulk d + 1; omega
  | .map m => by show 1 ≤ YtanncdfhjlgncaaGreatDoor.Rows.uptoBulkEntries m + 1; omega
  | .held _ => Nat.le_refl _
theorem bulks_le {H : Type} : ∀ l : List (DataW H), bulkD.go l ≤ YtanncdfhjlgncaaGreatDoor.Rows.uptoBulkAll l
  | [] => Nat.le_refl _
  | d :: r => by
    have h1 := bulk_le d
    have h2 := bulks_le r
    show bulkD d + bulkD.go r ≤ YtanncdfhjlgncaaGreatDoor.Rows.uptoBulk d + YtanncdfhjlgncaaGreatDoor.Rows.uptoBulkAll r
    omega
end

/-- an argument of a type that is read: a value of many cells -/
theorem open_many {α : Type} {t : TypeId} {T : Ty α} {H : Type} {enc : TypeId × Value → H} {W : World} {v : Value} {d : DataW H} {p : List MemPlace} (ho : Opens Tryz.prog t T) (hs : 1 < T.size)
    (h : DataW.Trod enc Tryz.prog W 0 (fun _ => true) true t v d p) (hp : ∀ x ∈ p, x.block < W.heap.size) :
    ∃ cs x, v = .agg cs.toArray ∧ T.R W W.heap.size cs x ∧ T.bulk x ≤ YtanncdfhjlgncaaGreatDoor.Rows.uptoBulk d := by
  obtain ⟨fuel, hf⟩ := h
  obtain ⟨x, hR, hb⟩ := ho.go H enc W 0 _ true fuel _ (d, p) W.heap.size hf hp
  have hl := T.len hR
  refine ⟨v.cells.toList, x, ?_, hR, Nat.le_trans hb (bulk_le d)⟩
  cases v <;> first
    | (simp [Value.cells] at hl; omega)
    | simp [Value.cells]
/-- what an argument read as, it reads as behind a call that makes new blocks only -/
theorem stays {t : TypeId} {H : Type} {enc : TypeId × Value → H} {W W' : World} {v : Value} {d : DataW H} {p : List MemPlace} (hr : Tryz.prog.readableRec t = true) (ht : t < Tryz.prog.types.size)
    (h : DataW.Trod enc Tryz.prog W 0 (fun _ => true) true t v d p) (hb : Below W.heap.size W W') (hp : ∀ x ∈ p, x.block < W.heap.size) :
    DataW.Trod enc Tryz.prog W' 0 (fun b => decide (b < W.heap.size)) true t v d p := Below.trod laid_out hr ht h hb hp
end Mu
end
