/-
  Own texts laid together, part 4: MuRef17D, MuRef17E, MuRef17F, MuLiveQ, MuLiveR, MuAll, MuLiveF, MuLaw17A, MuLaw17B, MuOpen, MuRowP, MuLaw17C, MuLaw17P, MuFull, MuLaw17D, MuLaw17E.
  Conditions: as each part says.
-/
import Derived.Test.YteeekjidkjdpjaaLw3
import Derived.Test.YteeekjidkjdpjaaRows
import Derived.Carry
import Derived.OpenShut
import Derived.ProofKit
import Derived.Deep.Upon
section
/-
  muntinref17.Regs, walked.
  Conditions: at most 2^21 of everything.
-/
namespace Mu
open Go Go.RowKit Go.Proofs

def allReads (f : Func) : List Int := f.blocks.flatMap fun b => b.ins.flatMap readsC
def insR (out : List Int) (x : Int) : List Int := if out.contains x then out else sortedL (out ++ [x])
def regsOf (l : List Int) : List Int := l.foldl insR []
def regsL (f : Func) : List Int := regsOf (allReads f)
theorem regsOf_snoc (l : List Int) (x : Int) : regsOf (l ++ [x]) = insR (regsOf l) x := by simp [regsOf]
theorem sortedL_len (l : List Int) : (sortedL l).length = l.length := siftL_len _ _
theorem siftL_ok : ∀ (k : Nat) (l : List Int), k < l.length → okInts l → okInts (siftL k l)
  | 0, l, _, h => h
  | q + 1, l, hq, h => by
    unfold siftL
    split
    · exact siftL_ok q _ (by rw [swapL_len]; omega) (swapL_ok h hq)
    · exact h
theorem insR_len (out : List Int) (x : Int) : (insR out x).length ≤ out.length + 1 := by
  unfold insR
  split
  · omega
  · rw [sortedL_len]; simp
theorem insR_ok {out : List Int} {x : Int} (h : okInts out) (hx : wfI .i64 x) : okInts (insR out x) := by
  unfold insR
  split
  · exact h
  · unfold sortedL
    refine siftL_ok _ _ (by simp) fun y hy => ?_
    rcases List.mem_append.1 hy with h1 | h1
    · exact h y h1
    · simp at h1; rw [h1]; exact hx
theorem regsOf_rev (l : List Int) : (regsOf l).length ≤ l.length ∧ (okInts l → okInts (regsOf l)) := by
  have key : ∀ (l out : List Int), (l.foldl insR out).length ≤ out.length + l.length ∧ (okInts l → okInts out → okInts (l.foldl insR out)) := by
    intro l
    induction l with
    | nil => intro out; exact ⟨by simp, fun _ h => h⟩
    | cons x l ih =>
      intro out
      obtain ⟨h1, h2⟩ := ih (insR out x)
      have := insR_len out x
      refine ⟨by simp only [List.foldl_cons, List.length_cons]; omega, fun hl ho => h2 (fun y hy => hl y (by simp [hy])) (insR_ok ho (hl x (by simp)))⟩
  obtain ⟨h1, h2⟩ := key l []
  unfold regsOf
  exact ⟨by simpa using h1, fun h => h2 h fun y hy => by cases hy⟩
theorem flat_ok {l : List Ins} (h : ∀ x ∈ l, okIns x) : okInts (l.flatMap readsC) := fun r hr => by
  obtain ⟨x, hx, h1⟩ := List.mem_flatMap.1 hr
  exact readsC_ok (h x hx) r h1
theorem allReads_ok {f : Func} (h : okFunc f) : okInts (allReads f) := fun r hr => by
  obtain ⟨b, hb, h1⟩ := List.mem_flatMap.1 hr
  exact flat_ok (h.blocks b hb).ins r h1
theorem flat_take_len {α : Type} (g : α → List Int) (l : List α) (k : Nat) : ((l.take k).flatMap g).length ≤ (l.flatMap g).length := by
  have : l.flatMap g = (l.take k).flatMap g ++ (l.drop k).flatMap g := by rw [← List.flatMap_append, List.take_append_drop]
  rw [this, List.length_append]
  omega
theorem flat_take_succ {α : Type} (g : α → List Int) {l : List α} {k : Nat} {x : α} (hx : l[k]? = some x) : (l.take (k + 1)).flatMap g = (l.take k).flatMap g ++ g x := by
  rw [List.take_add_one, hx, List.flatMap_append]
  simp

set_option maxRecDepth 100000 in
set_option maxHeartbeats 4000000 in
theorem regs17_fn (f : Func) (ho : okFunc f) (hs : smallF f) (hT : (allReads f).length ≤ 2097152) : Fn Try.prog 50 [.agg (encFunc f)] (.bs tInt (regsL f)) := by
  have hbl := hs.blocks
  refine Fn.of_awp Try.func50 rfl (by kernel_rfl) rfl Try.ntmps50 fun C hC => ?_
  simp only [List.length_cons, List.length_nil, Nat.reduceAdd, Nat.reduceSub, List.replicate_succ, List.replicate_zero, List.cons_append, List.nil_append]
  refine Awp.seq fun K1 h1 => ?_
  (refine Awp.region ?_; (repeat (first | refine sQ (hk := ?_) | refine sSkip (hk := ?_) | refine sOwn (hk := ?_))); refine aSeq_nil ?_)
  refine h1 _ ?_
  refine nT (hk := ?_)
  refine Awp.seq fun K2 h2 => ?_
  (refine Awp.region ?_; (repeat (first | refine sQ (hk := ?_) | refine sSkip (hk := ?_) | refine sOwn (hk := ?_))); refine aSeq_nil ?_)
  refine h2 _ ?_
  refine nT (hk := ?_)
  refine Awp.seq fun K3 h3 => ?_
  refine Awp.seq fun K4 h4 => ?_
  (refine Awp.region ?_; (repeat (first | refine sQ (hk := ?_) | refine sSkip (hk := ?_) | refine sOwn (hk := ?_))); refine aSeq_nil ?_)
  refine h4 _ ?_
  refine nT (hk := ?_)
  refine Awp.block ?_
  refine Awp.loopF (fun p : Nat × Nat => ⟨[.any, .ptr 0 0, .any, .own 1 p.2, .lit (.int .i64 (p.1 : Int)), .any, .any, .any, .any, .any, .any, .any, .any, .any, .any, .any, .any, .any, .any, .any, .any, .any, .any, .any, .any, .any, .any, .any, .any, .any, .any, .any, .any, .any, .any, .any, .any, .any, .any, .any, .any, .any, .any, .any, .any, .any, .any, .any, .any, .any, .any, .any, .any, .any, .any, .any, .any, .any], [.box (encFunc f), .row p.2 3 tInt (regsOf ((f.blocks.take p.1).flatMap fun b => b.ins.flatMap readsC))]⟩) (fun p => p.1 ≤ f.blocks.length) (fun p => f.blocks.length - p.1) (0, 0) (Nat.zero_le _) ((St.le_nil 3 3 tInt rfl Nat.zero_lt_one).trans (le_T)) ?_
  rintro ⟨b, ver⟩ hb
  dsimp only at hb ⊢
  refine Awp.seq fun K6 h6 => ?_
  refine Awp.seq fun K7 h7 => ?_
  (refine Awp.region ?_; (repeat (first | refine sQ (hk := ?_) | refine sSkip (hk := ?_) | refine sOwn (hk := ?_))); refine aSeq_nil ?_)
  refine h7 _ ?_
  refine nT (hk := ?_)
  refine Awp.cond rfl (fun hb8 => ?_) (fun hb8 => ?_)
  · have hlt : b < f.blocks.length := by simpa using hb8
    obtain ⟨bl, hbk⟩ : ∃ bl, f.blocks[b]? = some bl := ⟨_, List.getElem?_eq_getElem hlt⟩
    have hmem := List.mem_of_getElem? hbk
    have hsb := (hs.all bl hmem).ins
    have hsuc := flat_take_succ (fun b : Block => b.ins.flatMap readsC) hbk
    have hcnt := flat_take_len (fun b : Block => b.ins.flatMap readsC) f.blocks (b + 1)
    have hokA : okInts ((f.blocks.take b).flatMap fun b => b.ins.flatMap readsC) := fun r hr => allReads_ok ho r (by
      obtain ⟨c, hc, h1⟩ := List.mem_flatMap.1 hr
      exact List.mem_flatMap.2 ⟨c, List.mem_of_mem_take hc, h1⟩)
    generalize ((f.blocks.take b).flatMap fun b => b.ins.flatMap readsC) = A at hsuc hokA ⊢
    rw [hsuc] at hcnt
    have hcnt2 : (A ++ bl.ins.flatMap readsC).length ≤ 2097152 := Nat.le_trans hcnt hT
    refine Awp.skip ?_
    refine h6 _ ?_
    refine nT (hk := ?_)
    refine Awp.seq fun K9 h9 => ?_
    refine Awp.block ?_
    refine Awp.seq fun K10 h10 => ?_
    (refine Awp.region ?_; (repeat (first | refine sQ (hk := ?_) | refine sSkip (hk := ?_) | refine sOwn (hk := ?_))); refine aSeq_nil ?_)
    refine h10 _ ?_
    refine nT (hk := ?_)
    refine Awp.block ?_
    refine Awp.loopF (fun p : Nat × Nat => ⟨[.any, .ptr 0 0, .any, .own 1 p.2, .lit (.int .i64 (b : Int)), .lit (.int .i64 (p.1 : Int)), .any, .any, .any, .any, .any, .any, .any, .any, .any, .any, .any, .any, .any, .any, .any, .any, .any, .any, .any, .any, .any, .any, .any, .any, .any, .any, .any, .any, .any, .any, .any, .any, .any, .any, .any, .any, .any, .any, .any, .any, .any, .any, .any, .any, .any, .any, .any, .any, .any, .any, .any, .any], [.box (encFunc f), .row p.2 3 tInt (regsOf (A ++ (bl.ins.take p.1).flatMap readsC))]⟩) (fun p => p.1 ≤ bl.ins.length) (fun p => bl.ins.length - p.1) (0, ver) (Nat.zero_le _) (by simp only [List.take_zero, List.flatMap_nil, List.append_nil]; exact le_T) ?_
    rintro ⟨i, ver1⟩ hi
    dsimp only at hi ⊢
    refine Awp.seq fun K12 h12 => ?_
    refine Awp.seq fun K13 h13 => ?_
    (refine Awp.region ?_; (repeat (first | refine sQ (hk := ?_) | refine sSkip (hk := ?_) | refine sOwn (hk := ?_))); refine aSeq_nil ?_)
    refine h13 _ ?_
    refine nT (hk := ?_)
    refine Awp.cond rfl (fun hb14 => ?_) (fun hb14 => ?_)
    · have hlti : i < bl.ins.length := by simpa using hb14
      obtain ⟨x, hx⟩ : ∃ x, bl.ins[i]? = some x := ⟨_, List.getElem?_eq_getElem hlti⟩
      have hxm := List.mem_of_getElem? hx
      have hxo := (ho.blocks bl hmem).ins x hxm
      have hxa := (hs.all bl hmem).all x hxm
      have hsuc2 := flat_take_succ readsC hx
      have hcnt3 := flat_take_len readsC bl.ins (i + 1)
      have hokB : okInts (A ++ (bl.ins.take i).flatMap readsC) := fun r hr => by
        rcases List.mem_append.1 hr with h1 | h1
        · exact hokA r h1
        · exact flat_ok (fun y hy => (ho.blocks bl hmem).ins y (List.mem_of_mem_take hy)) r h1
      rw [hsuc2] at hcnt3
      have hcnt4 : (A ++ (bl.ins.take i).flatMap readsC).length + (readsC x).length ≤ 2097152 := by
        simp only [List.length_append] at hcnt2 hcnt3 ⊢
        omega
      generalize hB : A ++ (bl.ins.take i).flatMap readsC = B at hokB hcnt4 ⊢
      have hrx := readsC_ok hxo
      have hrl : (readsC x).length ≤ 2097152 := by omega
      refine Awp.skip ?_
      refine h12 _ ?_
      refine nT (hk := ?_)
      refine Awp.seq fun K15 h15 => ?_
      refine Awp.block ?_
      refine Awp.seq fun K16 h16 => ?_
      (refine Awp.region ?_; (repeat (first | refine sQ (hq := Quiet.call rfl (ref_reads_fn x hxo (by omega)) rfl rfl rfl) (hk := ?_) | refine sQ (hk := ?_) | refine sSkip (hk := ?_) | refine sOwn (hk := ?_))); refine aSeq_nil ?_)
      refine h16 _ ?_
      refine nT (hk := ?_)
      refine Awp.seq fun K17 h17 => ?_
      (refine Awp.region ?_; (repeat (first | refine sQ (hk := ?_) | refine sSkip (hk := ?_) | refine sOwn (hk := ?_))); refine aSeq_nil ?_)
      refine h17 _ ?_
      refine nT (hk := ?_)
      refine Awp.block ?_
      refine Awp.loopF (fun p : Nat × Nat => ⟨[.any, .ptr 0 0, .any, .own 1 p.2, .lit (.int .i64 (b : Int)), .lit (.int .i64 (i : Int)), .bs tInt (readsC x), .lit (.int .i64 (p.1 : Int)), .any, .any, .any, .any, .any, .any, .any, .any, .any, .any, .any, .any, .any, .any, .any, .any, .any, .any, .any, .any, .any, .any, .any, .any, .any, .any, .any, .any, .any, .any, .any, .any, .any, .any, .any, .any, .any, .any, .any, .any, .any, .any, .any, .any, .any, .any, .any, .any, .any, .any], [.box (encFunc f), .row p.2 3 tInt (regsOf (B ++ (readsC x).take p.1))]⟩) (fun p => p.1 ≤ (readsC x).length) (fun p => (readsC x).length - p.1) (0, ver1) (Nat.zero_le _) (by simp only [List.take_zero, List.append_nil]; exact le_T) ?_
      rintro ⟨k, ver2⟩ hk
      dsimp only at hk ⊢
      refine Awp.seq fun K18 h18 => ?_
      refine Awp.seq fun K19 h19 => ?_
      (refine Awp.region ?_; (repeat (first | refine sQ (hk := ?_) | refine sSkip (hk := ?_) | refine sOwn (hk := ?_))); refine aSeq_nil ?_)
      refine h19 _ ?_
      refine nT (hk := ?_)
      refine Awp.cond rfl (fun hb20 => ?_) (fun hb20 => ?_)
      · have hltk : k < (readsC x).length := by simpa using hb20
        obtain ⟨r, hr⟩ : ∃ r, (readsC x)[k]? = some r := ⟨_, List.getElem?_eq_getElem hltk⟩
        have hrw := hrx r (List.mem_of_getElem? hr)
        have hst : regsOf (B ++ (readsC x).take (k + 1)) = insR (regsOf (B ++ (readsC x).take k)) r := by
          rw [List.take_add_one, hr, ← List.append_assoc]
          exact regsOf_snoc _ _
        obtain ⟨hol, hoo⟩ := regsOf_rev (B ++ (readsC x).take k)
        have hoo' := hoo fun y hy => by
          rcases List.mem_append.1 hy with h1 | h1
          · exact hokB y h1
          · exact hrx y (List.mem_of_mem_take h1)
        have hol' : (regsOf (B ++ (readsC x).take k)).length ≤ 2097152 := by
          simp only [List.length_append, List.length_take] at hol hcnt4
          omega
        generalize regsOf (B ++ (readsC x).take k) = out at hst hol' hoo' ⊢
        refine Awp.skip ?_
        refine h18 _ ?_
        refine nT (hk := ?_)
        refine Awp.seq fun K21 h21 => ?_
        refine Awp.block ?_
        refine Awp.seq fun K22 h22 => ?_
        rcases hc : out.contains r with _ | _
        · have hins : insR out r = sortedL (out ++ [r]) := by unfold insR; rw [if_neg (by rw [hc]; simp)]
          have hn1 : out.length + [r].length ≤ maxLen := by simp [maxLen]; omega
          have hn2 : (out.length + [r].length) * 8 ≤ 140737488355328 := by simp; omega
          (refine Awp.region ?_; (repeat (first | refine sQ (hq := Quiet.lend rfl (by have := in17_fn out r hol'; rw [hc] at this; exact this) (.own rfl (.cl rfl .nil))) (hk := ?_) | refine sQ (hk := ?_) | refine sSkip (hk := ?_) | refine sOwn (hk := ?_))); refine aSeq_nil ?_)
          refine h22 _ ?_
          refine nT (hk := ?_)
          refine Awp.cond rfl (fun hb23 => ?_) (fun hb => by cases hb)
          (refine Awp.region ?_; (repeat (first | (refine aSeq_t rfl (AOp.callRow rfl (sorted17_fn (out ++ [r]) (fun y hy => (List.mem_append.1 hy).elim (hoo' y) fun h => by simp at h; rw [h]; exact hrw) (by simp) (by simp; omega)) rfl rfl ?_); refine sNt (hk := ?_)) | refine sQ (hk := ?_) | refine sSkip (hk := ?_) | refine sOwn (hk := ?_))); refine aSeq_nil ?_)
          refine h21 _ ?_
          refine nT (hk := ?_)
          (refine Awp.region ?_; (repeat (first | refine sQ (hk := ?_) | refine sSkip (hk := ?_) | refine sOwn (hk := ?_))); refine aSeq_nil ?_)
          refine athen_n ⟨(k + 1, ver2 + 1 + 1), by omega, by dsimp only; omega, ?_⟩
          dsimp only
          rw [hst, hins]
          exact le_T
        · have hins : insR out r = out := by unfold insR; rw [if_pos hc]
          (refine Awp.region ?_; (repeat (first | refine sQ (hq := Quiet.lend rfl (by have := in17_fn out r hol'; rw [hc] at this; exact this) (.own rfl (.cl rfl .nil))) (hk := ?_) | refine sQ (hk := ?_) | refine sSkip (hk := ?_) | refine sOwn (hk := ?_))); refine aSeq_nil ?_)
          refine h22 _ ?_
          refine nT (hk := ?_)
          refine Awp.cond rfl (fun hb => by cases hb) (fun hb23 => ?_)
          refine Awp.skip ?_
          refine h21 _ ?_
          refine nT (hk := ?_)
          (refine Awp.region ?_; (repeat (first | refine sQ (hk := ?_) | refine sSkip (hk := ?_) | refine sOwn (hk := ?_))); refine aSeq_nil ?_)
          refine athen_n ⟨(k + 1, ver2), by omega, by dsimp only; omega, ?_⟩
          dsimp only
          rw [hst, hins]
          exact le_T
      · refine Awp.exit ?_
        refine h15 _ ?_
        refine nT (hk := ?_)
        have hkk : k = (readsC x).length := by have : ¬ k < (readsC x).length := by simpa using hb20
                                               omega
        (refine Awp.region ?_; (repeat (first | refine sQ (hk := ?_) | refine sSkip (hk := ?_) | refine sOwn (hk := ?_))); refine aSeq_nil ?_)
        refine athen_n ⟨(i + 1, ver2), by omega, by dsimp only; omega, ?_⟩
        dsimp only
        rw [hsuc2, hkk, List.take_length, ← List.append_assoc, hB]
        exact le_T
    · refine Awp.exit ?_
      refine h9 _ ?_
      refine nT (hk := ?_)
      have hii : i = bl.ins.length := by have : ¬ i < bl.ins.length := by simpa using hb14
                                         omega
      (refine Awp.region ?_; (repeat (first | refine sQ (hk := ?_) | refine sSkip (hk := ?_) | refine sOwn (hk := ?_))); refine aSeq_nil ?_)
      refine athen_n ⟨(b + 1, ver1), by omega, by dsimp only; omega, ?_⟩
      dsimp only
      rw [hsuc, hii, List.take_length]
      exact le_T
  · refine Awp.exit ?_
    refine h3 _ ?_
    refine nT (hk := ?_)
    have hbb : b = f.blocks.length := by have : ¬ b < f.blocks.length := by simpa using hb8
                                         omega
    refine Awp.seq fun K24 h24 => ?_
    (refine Awp.region ?_; (repeat (first | refine sQ (hk := ?_) | refine sSkip (hk := ?_) | refine sOwn (hk := ?_))); refine aSeq_nil ?_)
    refine h24 _ ?_
    refine nT (hk := ?_)
    refine Awp.ret ?_
    rw [hbb, List.take_length]
    exact ⟨.inr rfl, Fin.own rfl⟩
end Mu
end
section
/-
  muntinref17: Place, All, walked.
  Conditions: at most 2^21 of everything.
-/
namespace Mu
open Go Go.RowKit Go.Proofs

def liveAt (f : Func) (b i : Nat) (r : Int) : Bool := (readsP r ((insOf f b).drop i)).1 || (!(readsP r ((insOf f b).drop i)).2 && behindB f (insI f r) b)
def placeL (f : Func) (regs : List Int) (b i : Nat) : List Int := regs.filter (liveAt f b i)
def blockL (f : Func) (b : Nat) : List (List Int) := (List.range ((insOf f b).length + 1)).map (placeL f (regsL f) b)
def allL (f : Func) : List (List (List Int)) := (List.range f.blocks.length).map (blockL f)
theorem filter_take_succ {p : Int → Bool} {l : List Int} {k : Nat} {x : Int} (hx : l[k]? = some x) : (l.take (k + 1)).filter p = (l.take k).filter p ++ if p x then [x] else [] := by
  rw [List.take_add_one, hx, List.filter_append]
  cases h : p x <;> simp [h]
theorem insI_len (f : Func) (r : Int) : (insI f r).length = f.blocks.length := roundsI_len f r _

set_option maxRecDepth 100000 in
set_option maxHeartbeats 4000000 in
theorem place17_fn (f : Func) (regs : List Int) (b i : Nat) (bl : Block) (ho : okFunc f) (hs : smallF f) (hr : okInts regs) (hrl : regs.length ≤ 2097152) (hb : f.blocks[b]? = some bl) (hi : i ≤ bl.ins.length) :
    Fn Try.prog 52 [.agg (encFunc f), .bs tInt regs, .bs Ty.bool.slice (regs.map (insI f)), .lit (.int .i64 (b : Int)), .lit (.int .i64 (i : Int))] (.bs tInt (placeL f regs b i)) := by
  have hbl := hs.blocks
  have hmem := List.mem_of_getElem? hb
  have hins : insOf f b = bl.ins := by unfold insOf; rw [hb]
  refine Fn.of_awp Try.func52 rfl (by kernel_rfl) rfl Try.ntmps52 fun C hC => ?_
  simp only [List.length_cons, List.length_nil, Nat.reduceAdd, Nat.reduceSub, List.replicate_succ, List.replicate_zero, List.cons_append, List.nil_append]
  refine Awp.seq fun K1 h1 => ?_
  (refine Awp.region ?_; (repeat (first | refine sQ (hk := ?_) | refine sSkip (hk := ?_) | refine sOwn (hk := ?_))); refine aSeq_nil ?_)
  refine h1 _ ?_
  refine nT (hk := ?_)
  refine Awp.seq fun K2 h2 => ?_
  (refine Awp.region ?_; (repeat (first | refine sQ (hk := ?_) | refine sSkip (hk := ?_) | refine sOwn (hk := ?_))); refine aSeq_nil ?_)
  refine h2 _ ?_
  refine nT (hk := ?_)
  refine Awp.seq fun K3 h3 => ?_
  refine Awp.seq fun K4 h4 => ?_
  (refine Awp.region ?_; (repeat (first | refine sQ (hk := ?_) | refine sSkip (hk := ?_) | refine sOwn (hk := ?_))); refine aSeq_nil ?_)
  refine h4 _ ?_
  refine nT (hk := ?_)
  refine Awp.block ?_
  refine Awp.loopF (fun p : Nat × Nat => ⟨[.any, .bs tInt regs, .bs Ty.bool.slice (regs.map (insI f)), .lit (.int .i64 (b : Int)), .lit (.int .i64 (i : Int)), .ptr 0 0, .any, .any, .any, .any, .any, .own 1 p.2, .lit (.int .i64 (p.1 : Int)), .any, .any, .any, .any, .any, .any, .any, .any, .any, .any, .any, .any, .any, .any, .any, .any, .any, .any, .any, .any, .any, .any, .any, .any, .any, .any, .any, .any, .any, .any, .any, .any, .any, .any, .any, .any, .any, .any, .any, .any, .any, .any, .any, .any], [.box (encFunc f), .row p.2 3 tInt ((regs.take p.1).filter (liveAt f b i))]⟩) (fun p => p.1 ≤ regs.length) (fun p => regs.length - p.1) (0, 0) (Nat.zero_le _) ((St.le_nil 11 3 tInt rfl Nat.zero_lt_one).trans (le_T)) ?_
  rintro ⟨k, ver⟩ hk
  dsimp only at hk ⊢
  refine Awp.seq fun K6 h6 => ?_
  refine Awp.seq fun K7 h7 => ?_
  (refine Awp.region ?_; (repeat (first | refine sQ (hk := ?_) | refine sSkip (hk := ?_) | refine sOwn (hk := ?_))); refine aSeq_nil ?_)
  refine h7 _ ?_
  refine nT (hk := ?_)
  refine Awp.cond rfl (fun hb8 => ?_) (fun hb8 => ?_)
  · have hlt : k < regs.length := by simpa using hb8
    obtain ⟨r, hrk⟩ : ∃ r, regs[k]? = some r := ⟨_, List.getElem?_eq_getElem hlt⟩
    have hrw := hr r (List.mem_of_getElem? hrk)
    have hik : (regs.map (insI f))[k]? = some (insI f r) := by rw [List.getElem?_map, hrk]; rfl
    have hst := filter_take_succ (p := liveAt f b i) hrk
    have hol := List.length_filter_le (liveAt f b i) (regs.take k)
    have hol2 : ((regs.take k).filter (liveAt f b i)).length ≤ 2097152 := by simp only [List.length_take] at hol; omega
    have hlv : liveAt f b i r = ((readsP r (bl.ins.drop i)).1 || (!(readsP r (bl.ins.drop i)).2 && behindB f (insI f r) b)) := by unfold liveAt; rw [hins]
    have hyes : liveAt f b i r = true → (regs.take (k + 1)).filter (liveAt f b i) = (regs.take k).filter (liveAt f b i) ++ [r] := fun h => by rw [hst, if_pos h]
    have hno : liveAt f b i r = false → (regs.take (k + 1)).filter (liveAt f b i) = (regs.take k).filter (liveAt f b i) := fun h => by rw [hst, if_neg (by simp [h]), List.append_nil]
    generalize hout : (regs.take k).filter (liveAt f b i) = out at hyes hno hol2 ⊢
    have hn1 : out.length + [r].length ≤ maxLen := by simp [maxLen]; omega
    have hn2 : (out.length + [r].length) * 8 ≤ 140737488355328 := by simp; omega
    refine Awp.skip ?_
    refine h6 _ ?_
    refine nT (hk := ?_)
    refine Awp.seq fun K9 h9 => ?_
    refine Awp.block ?_
    refine Awp.seq fun K10 h10 => ?_
    (refine drawD 16 (hh := ?_); (repeat (first | refine qQ (hq := Quiet.call rfl (reads17_fn bl i r (ho.blocks bl hmem) (hs.all bl hmem) hi) rfl rfl rfl) (hk := ?_) | refine qQ (hk := ?_) | refine qSkip (hk := ?_))); refine aQ_nil ?_; (repeat (first | refine sQ (hq := Quiet.call rfl (reads17_fn bl i r (ho.blocks bl hmem) (hs.all bl hmem) hi) rfl rfl rfl) (hk := ?_) | refine sQ (hk := ?_) | refine sSkip (hk := ?_) | refine sOwn (hk := ?_))); refine aSeq_nil ?_)
    refine h10 _ ?_
    refine nT (hk := ?_)
    rcases hr1 : (readsP r (bl.ins.drop i)).1 with _ | _
    · rcases hr2 : (readsP r (bl.ins.drop i)).2 with _ | _
      · rw [hr1, hr2] at hlv
        refine Awp.seq fun K11 h11 => ?_
        rcases hbb : behindB f (insI f r) b with _ | _
        · rw [hbb] at hlv
          (refine drawD 14 (hh := ?_); (repeat (first | refine qQ (hq := Quiet.call rfl (by have := behind17_fn f (insI f r) b ho hs (insI_len f r); rw [hbb] at this; exact this) rfl rfl rfl) (hk := ?_) | refine qQ (hk := ?_) | refine qSkip (hk := ?_))); refine aQ_nil ?_; (repeat (first | refine sQ (hq := Quiet.call rfl (by have := behind17_fn f (insI f r) b ho hs (insI_len f r); rw [hbb] at this; exact this) rfl rfl rfl) (hk := ?_) | refine sQ (hk := ?_) | refine sSkip (hk := ?_) | refine sOwn (hk := ?_))); refine aSeq_nil ?_)
          refine h11 _ ?_
          refine nT (hk := ?_)
          refine Awp.cond rfl (fun hb => by cases hb) (fun hb12 => ?_)
          refine Awp.skip ?_
          refine h9 _ ?_
          refine nT (hk := ?_)
          (refine Awp.region ?_; (repeat (first | refine sQ (hk := ?_) | refine sSkip (hk := ?_) | refine sOwn (hk := ?_))); refine aSeq_nil ?_)
          refine athen_n ⟨(k + 1, ver), by omega, by dsimp only; omega, ?_⟩
          dsimp only
          rw [hno hlv]
          exact le_T
        · rw [hbb] at hlv
          (refine drawD 14 (hh := ?_); (repeat (first | refine qQ (hq := Quiet.call rfl (by have := behind17_fn f (insI f r) b ho hs (insI_len f r); rw [hbb] at this; exact this) rfl rfl rfl) (hk := ?_) | refine qQ (hk := ?_) | refine qSkip (hk := ?_))); refine aQ_nil ?_; (repeat (first | refine sQ (hq := Quiet.call rfl (by have := behind17_fn f (insI f r) b ho hs (insI_len f r); rw [hbb] at this; exact this) rfl rfl rfl) (hk := ?_) | refine sQ (hk := ?_) | refine sSkip (hk := ?_) | refine sOwn (hk := ?_))); refine aSeq_nil ?_)
          refine h11 _ ?_
          refine nT (hk := ?_)
          refine Awp.cond rfl (fun hb12 => ?_) (fun hb => by cases hb)
          (refine Awp.region ?_; (repeat (first | refine sQ (hk := ?_) | refine sSkip (hk := ?_) | refine sOwn (hk := ?_))); refine aSeq_nil ?_)
          refine h9 _ ?_
          refine nT (hk := ?_)
          (refine Awp.region ?_; (repeat (first | refine sQ (hk := ?_) | refine sSkip (hk := ?_) | refine sOwn (hk := ?_))); refine aSeq_nil ?_)
          refine athen_n ⟨(k + 1, ver + 1), by omega, by dsimp only; omega, ?_⟩
          dsimp only
          rw [hyes hlv]
          exact le_T
      · rw [hr1, hr2] at hlv
        refine Awp.seq fun K11 h11 => ?_
        (refine drawD 14 (hh := ?_); (repeat (first | refine qQ (hk := ?_) | refine qSkip (hk := ?_))); refine aQ_nil ?_; (repeat (first | refine sQ (hk := ?_) | refine sSkip (hk := ?_) | refine sOwn (hk := ?_))); refine aSeq_nil ?_)
        refine h11 _ ?_
        refine nT (hk := ?_)
        refine Awp.cond rfl (fun hb => by cases hb) (fun hb12 => ?_)
        refine Awp.skip ?_
        refine h9 _ ?_
        refine nT (hk := ?_)
        (refine Awp.region ?_; (repeat (first | refine sQ (hk := ?_) | refine sSkip (hk := ?_) | refine sOwn (hk := ?_))); refine aSeq_nil ?_)
        refine athen_n ⟨(k + 1, ver), by omega, by dsimp only; omega, ?_⟩
        dsimp only
        rw [hno hlv]
        exact le_T
    · rw [hr1] at hlv
      refine Awp.seq fun K11 h11 => ?_
      (refine drawD 14 (hh := ?_); (repeat (first | refine qQ (hk := ?_) | refine qSkip (hk := ?_))); refine aQ_nil ?_; (repeat (first | refine sQ (hk := ?_) | refine sSkip (hk := ?_) | refine sOwn (hk := ?_))); refine aSeq_nil ?_)
      refine h11 _ ?_
      refine nT (hk := ?_)
      refine Awp.cond rfl (fun hb12 => ?_) (fun hb => by cases hb)
      (refine Awp.region ?_; (repeat (first | refine sQ (hk := ?_) | refine sSkip (hk := ?_) | refine sOwn (hk := ?_))); refine aSeq_nil ?_)
      refine h9 _ ?_
      refine nT (hk := ?_)
      (refine Awp.region ?_; (repeat (first | refine sQ (hk := ?_) | refine sSkip (hk := ?_) | refine sOwn (hk := ?_))); refine aSeq_nil ?_)
      refine athen_n ⟨(k + 1, ver + 1), by omega, by dsimp only; omega, ?_⟩
      dsimp only
      rw [hyes hlv]
      exact le_T
  · refine Awp.exit ?_
    refine h3 _ ?_
    refine nT (hk := ?_)
    have hkk : k = regs.length := by have : ¬ k < regs.length := by simpa using hb8
                                     omega
    refine Awp.seq fun K13 h13 => ?_
    (refine Awp.region ?_; (repeat (first | refine sQ (hk := ?_) | refine sSkip (hk := ?_) | refine sOwn (hk := ?_))); refine aSeq_nil ?_)
    refine h13 _ ?_
    refine nT (hk := ?_)
    refine Awp.ret ?_
    rw [hkk, List.take_length]
    exact ⟨.inr rfl, Fin.own rfl⟩
end Mu
end
section
/-
  muntinref17.All, walked.
  Conditions: at most 2^21 of everything.
-/
namespace Mu
open Go Go.RowKit Go.Proofs

theorem map_take_succ {α β : Type} (g : α → β) {l : List α} {k : Nat} {x : α} (hx : l[k]? = some x) : (l.take (k + 1)).map g = (l.take k).map g ++ [g x] := by
  rw [List.take_add_one, hx, List.map_append]
  simp
theorem range_map_succ {β : Type} (g : Nat → β) (k : Nat) : (List.range (k + 1)).map g = (List.range k).map g ++ [g k] := by rw [List.range_succ, List.map_append]; rfl

set_option maxRecDepth 100000 in
set_option maxHeartbeats 4000000 in
theorem all17_fn (f : Func) (ho : okFunc f) (hs : smallF f) (hT : (allReads f).length ≤ 2097152) : Fn Try.prog 27 [.agg (encFunc f)] (.bs tInt.slice.slice (allL f)) := by
  have hbl := hs.blocks
  obtain ⟨hrl0, hrk0⟩ := regsOf_rev (allReads f)
  have hrl : (regsL f).length ≤ 2097152 := Nat.le_trans hrl0 hT
  have hro : okInts (regsL f) := hrk0 (allReads_ok ho)
  refine Fn.of_awp Try.func27 rfl (by kernel_rfl) rfl Try.ntmps27 fun C hC => ?_
  simp only [List.length_cons, List.length_nil, Nat.reduceAdd, Nat.reduceSub, List.replicate_succ, List.replicate_zero, List.cons_append, List.nil_append]
  refine Awp.seq fun K1 h1 => ?_
  (refine Awp.region ?_; (repeat (first | refine sQ (hk := ?_) | refine sSkip (hk := ?_) | refine sOwn (hk := ?_))); refine aSeq_nil ?_)
  refine h1 _ ?_
  refine nT (hk := ?_)
  refine Awp.seq fun K2 h2 => ?_
  (refine Awp.region ?_; (repeat (first | refine sQ (hq := Quiet.call rfl (regs17_fn f ho hs hT) rfl rfl rfl) (hk := ?_) | refine sQ (hk := ?_) | refine sSkip (hk := ?_) | refine sOwn (hk := ?_))); refine aSeq_nil ?_)
  refine h2 _ ?_
  refine nT (hk := ?_)
  refine Awp.seq fun K3 h3 => ?_
  (refine Awp.region ?_; (repeat (first | refine sQ (hk := ?_) | refine sSkip (hk := ?_) | refine sOwn (hk := ?_))); refine aSeq_nil ?_)
  refine h3 _ ?_
  refine nT (hk := ?_)
  refine Awp.seq fun K4 h4 => ?_
  refine Awp.seq fun K5 h5 => ?_
  (refine Awp.region ?_; (repeat (first | refine sQ (hk := ?_) | refine sSkip (hk := ?_) | refine sOwn (hk := ?_))); refine aSeq_nil ?_)
  refine h5 _ ?_
  refine nT (hk := ?_)
  refine Awp.block ?_
  refine Awp.loopF (fun p : Nat × Nat => ⟨[.any, .ptr 0 0, .any, .bs tInt (regsL f), .own 1 p.2, .lit (.int .i64 (p.1 : Int)), .any, .any, .any, .any, .any, .any, .any, .any, .any, .any, .any, .any, .any, .any, .any, .any, .any, .any, .any, .any, .any, .any, .any, .any, .any, .any, .any, .any, .any, .any, .any, .any, .any, .any, .any, .any, .any, .any, .any, .any, .any, .any, .any, .any, .any, .any, .any, .any, .any, .any, .any, .any, .any], [.box (encFunc f), .row p.2 69 Ty.bool.slice (((regsL f).take p.1).map (insI f))]⟩) (fun p => p.1 ≤ (regsL f).length) (fun p => (regsL f).length - p.1) (0, 0) (Nat.zero_le _) ((St.le_nil 4 69 Ty.bool.slice rfl Nat.zero_lt_one).trans (le_T)) ?_
  rintro ⟨k, ver⟩ hk
  dsimp only at hk ⊢
  refine Awp.seq fun K7 h7 => ?_
  refine Awp.seq fun K8 h8 => ?_
  (refine Awp.region ?_; (repeat (first | refine sQ (hk := ?_) | refine sSkip (hk := ?_) | refine sOwn (hk := ?_))); refine aSeq_nil ?_)
  refine h8 _ ?_
  refine nT (hk := ?_)
  refine Awp.cond rfl (fun hb9 => ?_) (fun hb9 => ?_)
  · have hlt : k < (regsL f).length := by simpa using hb9
    obtain ⟨r, hrk⟩ : ∃ r, (regsL f)[k]? = some r := ⟨_, List.getElem?_eq_getElem hlt⟩
    have hst := map_take_succ (insI f) hrk
    have hol : (((regsL f).take k).map (insI f)).length ≤ 2097152 := by simp only [List.length_map, List.length_take]; omega
    generalize ((regsL f).take k).map (insI f) = out at hst hol ⊢
    have hn1 : out.length + [insI f r].length ≤ maxLen := by simp [maxLen]; omega
    have hn2 : (out.length + [insI f r].length) * 24 ≤ 140737488355328 := by simp; omega
    refine Awp.skip ?_
    refine h7 _ ?_
    refine nT (hk := ?_)
    refine Awp.seq fun K10 h10 => ?_
    refine Awp.block ?_
    (refine drawD 8 (hh := ?_); (repeat (first | refine qQ (hq := Quiet.call rfl (ins17_fn f r ho hs) rfl rfl rfl) (hk := ?_) | refine qQ (hk := ?_) | refine qSkip (hk := ?_))); refine aQ_nil ?_; (repeat (first | refine sQ (hq := Quiet.call rfl (ins17_fn f r ho hs) rfl rfl rfl) (hk := ?_) | refine sQ (hk := ?_) | refine sSkip (hk := ?_) | refine sOwn (hk := ?_))); refine aSeq_nil ?_)
    refine h10 _ ?_
    refine nT (hk := ?_)
    (refine Awp.region ?_; (repeat (first | refine sQ (hk := ?_) | refine sSkip (hk := ?_) | refine sOwn (hk := ?_))); refine aSeq_nil ?_)
    refine athen_n ⟨(k + 1, ver + 1), by omega, by dsimp only; omega, ?_⟩
    dsimp only
    rw [hst]
    exact le_T
  · refine Awp.exit ?_
    refine h4 _ ?_
    refine nT (hk := ?_)
    have hkk : k = (regsL f).length := by have : ¬ k < (regsL f).length := by simpa using hb9
                                          omega
    rw [hkk, List.take_length]
    refine Awp.via ⟨[.any, .ptr 0 0, .any, .bs tInt (regsL f), .bs Ty.bool.slice ((regsL f).map (insI f)), .any, .any, .any, .any, .any, .any, .any, .any, .any, .any, .any, .any, .any, .any, .any, .any, .any, .any, .any, .any, .any, .any, .any, .any, .any, .any, .any, .any, .any, .any, .any, .any, .any, .any, .any, .any, .any, .any, .any, .any, .any, .any, .any, .any, .any, .any, .any, .any, .any, .any, .any, .any, .any, .any], [.box (encFunc f), .dead]⟩ ((St.le_fz hC 1 rfl).trans (by simp only [fzH, AV.fzL, AV.fz, ABlk.fz, List.map_cons, List.map_nil, List.set_cons_zero, List.set_cons_succ, and_self, if_true, encFunc]; exact le_T)) ?_
    refine Awp.seq fun K11 h11 => ?_
    (refine Awp.region ?_; (repeat (first | refine sQ (hk := ?_) | refine sSkip (hk := ?_) | refine sOwn (hk := ?_))); refine aSeq_nil ?_)
    refine h11 _ ?_
    refine nT (hk := ?_)
    refine Awp.seq fun K12 h12 => ?_
    refine Awp.seq fun K13 h13 => ?_
    (refine Awp.region ?_; (repeat (first | refine sQ (hk := ?_) | refine sSkip (hk := ?_) | refine sOwn (hk := ?_))); refine aSeq_nil ?_)
    refine h13 _ ?_
    refine nT (hk := ?_)
    refine Awp.block ?_
    refine Awp.loopF (fun p : Nat × Nat => ⟨[.any, .ptr 0 0, .any, .bs tInt (regsL f), .bs Ty.bool.slice ((regsL f).map (insI f)), .any, .own 2 p.2, .lit (.int .i64 (p.1 : Int)), .any, .any, .any, .any, .any, .any, .any, .any, .any, .any, .any, .any, .any, .any, .any, .any, .any, .any, .any, .any, .any, .any, .any, .any, .any, .any, .any, .any, .any, .any, .any, .any, .any, .any, .any, .any, .any, .any, .any, .any, .any, .any, .any, .any, .any, .any, .any, .any, .any, .any, .any], [.box (encFunc f), .dead, .row p.2 48 tInt.slice.slice ((List.range p.1).map (blockL f))]⟩) (fun p => p.1 ≤ f.blocks.length) (fun p => f.blocks.length - p.1) (0, 0) (Nat.zero_le _) ((St.le_nil 6 48 tInt.slice.slice rfl Nat.zero_lt_one).trans (le_T)) ?_
    rintro ⟨b, ver⟩ hb
    dsimp only at hb ⊢
    refine Awp.seq fun K15 h15 => ?_
    refine Awp.seq fun K16 h16 => ?_
    (refine Awp.region ?_; (repeat (first | refine sQ (hk := ?_) | refine sSkip (hk := ?_) | refine sOwn (hk := ?_))); refine aSeq_nil ?_)
    refine h16 _ ?_
    refine nT (hk := ?_)
    refine Awp.cond rfl (fun hb17 => ?_) (fun hb17 => ?_)
    · have hltb : b < f.blocks.length := by simpa using hb17
      obtain ⟨bl, hbk⟩ : ∃ bl, f.blocks[b]? = some bl := ⟨_, List.getElem?_eq_getElem hltb⟩
      have hmem := List.mem_of_getElem? hbk
      have hsi := (hs.all bl hmem).ins
      have hins : insOf f b = bl.ins := by unfold insOf; rw [hbk]
      have hstb := range_map_succ (blockL f) b
      have hblk : blockL f b = (List.range (bl.ins.length + 1)).map (placeL f (regsL f) b) := by unfold blockL; rw [hins]
      have holb : ((List.range b).map (blockL f)).length ≤ 2097152 := by simp; omega
      generalize (List.range b).map (blockL f) = out at hstb holb ⊢
      have hn1 : out.length + [blockL f b].length ≤ maxLen := by simp [maxLen]; omega
      have hn2 : (out.length + [blockL f b].length) * 24 ≤ 140737488355328 := by simp; omega
      refine Awp.skip ?_
      refine h15 _ ?_
      refine nT (hk := ?_)
      refine Awp.seq fun K18 h18 => ?_
      refine Awp.block ?_
      refine Awp.seq fun K19 h19 => ?_
      (refine Awp.region ?_; (repeat (first | refine sQ (hk := ?_) | refine sSkip (hk := ?_) | refine sOwn (hk := ?_))); refine aSeq_nil ?_)
      refine h19 _ ?_
      refine nT (hk := ?_)
      refine Awp.seq fun K20 h20 => ?_
      refine Awp.seq fun K21 h21 => ?_
      (refine Awp.region ?_; (repeat (first | refine sQ (hk := ?_) | refine sSkip (hk := ?_) | refine sOwn (hk := ?_))); refine aSeq_nil ?_)
      refine h21 _ ?_
      refine nT (hk := ?_)
      refine Awp.block ?_
      refine Awp.loopF (fun p : Nat × Nat => ⟨[.any, .ptr 0 0, .any, .bs tInt (regsL f), .bs Ty.bool.slice ((regsL f).map (insI f)), .any, .own 2 ver, .lit (.int .i64 (b : Int)), .own 3 p.2, .lit (.int .i64 (p.1 : Int)), .any, .any, .any, .any, .any, .any, .any, .any, .any, .any, .any, .any, .any, .any, .any, .any, .any, .any, .any, .any, .any, .any, .any, .any, .any, .any, .any, .any, .any, .any, .any, .any, .any, .any, .any, .any, .any, .any, .any, .any, .any, .any, .any, .any, .any, .any, .any, .any, .any], [.box (encFunc f), .dead, .row ver 48 tInt.slice.slice out, .row p.2 22 tInt.slice ((List.range p.1).map (placeL f (regsL f) b))]⟩) (fun p => p.1 ≤ bl.ins.length + 1) (fun p => bl.ins.length + 1 - p.1) (0, 0) (Nat.zero_le _) ((St.le_nil 8 22 tInt.slice rfl Nat.zero_lt_one).trans (le_T)) ?_
      rintro ⟨i, ver2⟩ hi
      dsimp only at hi ⊢
      refine Awp.seq fun K22 h22 => ?_
      refine Awp.seq fun K23 h23 => ?_
      (refine Awp.region ?_; (repeat (first | refine sQ (hk := ?_) | refine sSkip (hk := ?_) | refine sOwn (hk := ?_))); refine aSeq_nil ?_)
      refine h23 _ ?_
      refine nT (hk := ?_)
      refine Awp.cond rfl (fun hb24 => ?_) (fun hb24 => ?_)
      · have hlti : i ≤ bl.ins.length := by simpa using hb24
        have hsti := range_map_succ (placeL f (regsL f) b) i
        have holi : ((List.range i).map (placeL f (regsL f) b)).length ≤ 2097152 := by simp; omega
        generalize (List.range i).map (placeL f (regsL f) b) = l at hsti holi ⊢
        have hn3 : l.length + [placeL f (regsL f) b i].length ≤ maxLen := by simp [maxLen]; omega
        have hn4 : (l.length + [placeL f (regsL f) b i].length) * 24 ≤ 140737488355328 := by simp; omega
        refine Awp.skip ?_
        refine h22 _ ?_
        refine nT (hk := ?_)
        refine Awp.seq fun K25 h25 => ?_
        refine Awp.block ?_
        (refine Awp.region ?_; (repeat (first | refine sQ (hq := Quiet.call rfl (place17_fn f (regsL f) b i bl ho hs hro hrl hbk hlti) rfl rfl rfl) (hk := ?_) | refine sQ (hk := ?_) | refine sSkip (hk := ?_) | refine sOwn (hk := ?_))); refine aSeq_nil ?_)
        refine h25 _ ?_
        refine nT (hk := ?_)
        (refine Awp.region ?_; (repeat (first | refine sQ (hk := ?_) | refine sSkip (hk := ?_) | refine sOwn (hk := ?_))); refine aSeq_nil ?_)
        refine athen_n ⟨(i + 1, ver2 + 1), by omega, by dsimp only; omega, ?_⟩
        dsimp only
        rw [hsti]
        exact le_T
      · refine Awp.exit ?_
        refine h20 _ ?_
        refine nT (hk := ?_)
        have hii : i = bl.ins.length + 1 := by have : ¬ i ≤ bl.ins.length := by simpa using hb24
                                               omega
        rw [hii, ← hblk]
        refine Awp.via ⟨[.any, .ptr 0 0, .any, .bs tInt (regsL f), .bs Ty.bool.slice ((regsL f).map (insI f)), .any, .own 2 ver, .lit (.int .i64 (b : Int)), .bs tInt.slice (blockL f b), .any, .any, .any, .any, .any, .any, .any, .any, .any, .any, .any, .any, .any, .any, .any, .any, .any, .any, .any, .any, .any, .any, .any, .any, .any, .any, .any, .any, .any, .any, .any, .any, .any, .any, .any, .any, .any, .any, .any, .any, .any, .any, .any, .any, .any, .any, .any, .any, .any, .any], [.box (encFunc f), .dead, .row ver 48 tInt.slice.slice out, .dead]⟩ ((St.le_fz hC 3 rfl).trans (by simp only [fzH, AV.fzL, AV.fz, ABlk.fz, List.map_cons, List.map_nil, List.set_cons_zero, List.set_cons_succ, and_self, if_true, encFunc, Nat.reduceEqDiff, false_and, if_false]; exact le_T)) ?_
        (refine Awp.region ?_; (repeat (first | refine sQ (hk := ?_) | refine sSkip (hk := ?_) | refine sOwn (hk := ?_))); refine aSeq_nil ?_)
        refine h18 _ ?_
        refine nT (hk := ?_)
        (refine Awp.region ?_; (repeat (first | refine sQ (hk := ?_) | refine sSkip (hk := ?_) | refine sOwn (hk := ?_))); refine aSeq_nil ?_)
        refine athen_n ⟨(b + 1, ver + 1), by omega, by dsimp only; omega, ?_⟩
        dsimp only
        rw [hstb]
        exact le_C (Cut.cons (Cut.cons (Cut.cons (Cut.nil _))))
    · refine Awp.exit ?_
      refine h12 _ ?_
      refine nT (hk := ?_)
      have hbb : b = f.blocks.length := by have : ¬ b < f.blocks.length := by simpa using hb17
                                           omega
      refine Awp.seq fun K26 h26 => ?_
      (refine Awp.region ?_; (repeat (first | refine sQ (hk := ?_) | refine sSkip (hk := ?_) | refine sOwn (hk := ?_))); refine aSeq_nil ?_)
      refine h26 _ ?_
      refine nT (hk := ?_)
      refine Awp.ret ?_
      rw [hbb]
      exact ⟨.inr rfl, Fin.own rfl⟩
end Mu
end
section
/-
  The document's answer on what is live, plain: it is the least one; its registers rise.
  Conditions: none.
-/
namespace Mu
open Go

/-- live at a block's beginning -/
def LIn (f : Func) (b : Nat) (r : Int) : Prop := rdB r (insOf f b) = true ∨ (thru r (insOf f b) = true ∧ LOut f b r)
theorem lout_iff {f : Func} {k : Nat} {r : Int} : LOut f k r ↔ ∃ b, Edge f k b ∧ LIn f b r := by
  constructor
  · intro h
    cases h with
    | read he h => exact ⟨_, he, .inl h⟩
    | pass he h hl => exact ⟨_, he, .inr ⟨h, hl⟩⟩
  · rintro ⟨b, he, h | ⟨h, hl⟩⟩
    · exact .read he h
    · exact .pass he h hl
theorem behind_iff {f : Func} {out : List Bool} {k : Nat} : behindB f out (k : Int) = true ↔ ∃ b, Edge f k b ∧ out.getD b false = true := by
  unfold behindB nextL Edge
  rw [List.any_eq_true]
  constructor
  · rintro ⟨x, hx, h⟩
    obtain ⟨y, hy, rfl⟩ := List.mem_map.1 hx
    exact ⟨y.1, ⟨y, hy, rfl⟩, by simpa [blkI] using h⟩
  · rintro ⟨b, ⟨y, hy, rfl⟩, h⟩
    exact ⟨blkI y, List.mem_map.2 ⟨y, hy, rfl⟩, by simpa [blkI] using h⟩
theorem go_eq (f : Func) (r : Int) (out : List Bool) (b : Nat) : goB f r out b = (rdB r (insOf f b) || (thru r (insOf f b) && behindB f out b)) := by
  have h := readsP_in r (insOf f b) (fun _ => behindB f out b)
  rw [inS_eq] at h
  exact h
theorem edge_lt {f : Func} {k b : Nat} (h : Edge f k b) : b < f.blocks.length := by
  obtain ⟨x, _, rfl⟩ := h
  exact x.2

/-! ### nothing but what is live -/
def SoundO (f : Func) (r : Int) (out : List Bool) : Prop := ∀ b, out.getD b false = true → LIn f b r
theorem sound_behind {f : Func} {r : Int} {out : List Bool} (h : SoundO f r out) {k : Nat} (hb : behindB f out (k : Int) = true) : LOut f k r := by
  obtain ⟨b, he, ho⟩ := behind_iff.1 hb
  exact lout_iff.2 ⟨b, he, h b ho⟩
theorem sound_step {f : Func} {r : Int} {out : List Bool} (h : SoundO f r out) (b : Nat) : SoundO f r (stepI f r out b) := by
  unfold stepI
  split
  · rename_i hg
    intro c hc
    by_cases hbc : b = c
    · subst hbc
      rw [go_eq] at hg
      simp only [Bool.or_eq_true, Bool.and_eq_true] at hg
      rcases hg with hg | ⟨h1, h2⟩
      · exact .inl hg
      · exact .inr ⟨h1, sound_behind h h2⟩
    · rw [List.getD_eq_getElem?_getD, List.getElem?_set_ne hbc, ← List.getD_eq_getElem?_getD] at hc
      exact h c hc
  · exact h
theorem sound_fold {f : Func} {r : Int} {out : List Bool} (h : SoundO f r out) (m : Nat) : SoundO f r (foldI f r out m) := by
  induction m with
  | zero => exact h
  | succ m ih => rw [foldI_succ]; exact sound_step ih m
theorem sound_rounds (f : Func) (r : Int) (m : Nat) : SoundO f r (roundsI f r m) := by
  induction m with
  | zero =>
    intro b hb
    unfold roundsI at hb
    rw [List.getD_eq_getElem?_getD, List.getElem?_replicate] at hb
    split at hb <;> simp at hb
  | succ m ih => exact sound_fold ih _

/-! ### all that is live -/
theorem step_keeps {f : Func} {r : Int} {out : List Bool} {b c : Nat} (h : out.getD c false = true) : (stepI f r out b).getD c false = true := by
  unfold stepI
  split
  · by_cases hbc : b = c
    · subst hbc
      have hl : b < out.length := by
        rcases Nat.lt_or_ge b out.length with h1 | h1
        · exact h1
        · rw [List.getD_eq_getElem?_getD, List.getElem?_eq_none h1] at h; simp at h
      rw [List.getD_eq_getElem?_getD, List.getElem?_set_self hl]
      rfl
    · rw [List.getD_eq_getElem?_getD, List.getElem?_set_ne hbc, ← List.getD_eq_getElem?_getD]
      exact h
  · exact h
theorem step_count (f : Func) (r : Int) (out : List Bool) (b : Nat) : out.count true ≤ (stepI f r out b).count true ∧ (stepI f r out b ≠ out → out.count true < (stepI f r out b).count true) := by
  unfold stepI
  split
  · by_cases hb : b < out.length
    · have hs : out.set b true = out.take b ++ true :: out.drop (b + 1) := List.set_eq_take_append_cons_drop .. |>.trans (by rw [if_pos hb])
      have ho : out = out.take b ++ out[b] :: out.drop (b + 1) := by rw [← List.drop_eq_getElem_cons hb, List.take_append_drop]
      have h1 : (out.set b true).count true = (out.take b).count true + 1 + (out.drop (b + 1)).count true := by rw [hs, List.count_append, List.count_cons_self]; omega
      cases hv : out[b] with
      | true =>
        have h2 : out.count true = (out.take b).count true + 1 + (out.drop (b + 1)).count true := by
          conv => lhs; rw [ho, hv]
          rw [List.count_append, List.count_cons_self]; omega
        refine ⟨by omega, fun hne => absurd ?_ hne⟩
        rw [hs]
        conv => rhs; rw [ho, hv]
      | false =>
        have h2 : out.count true = (out.take b).count true + (out.drop (b + 1)).count true := by
          conv => lhs; rw [ho, hv]
          rw [List.count_append, List.count_cons_of_ne (by simp)]
        exact ⟨by omega, fun _ => by omega⟩
    · rw [List.set_eq_of_length_le (by omega)]
      exact ⟨Nat.le_refl _, fun h => absurd rfl h⟩
  · exact ⟨Nat.le_refl _, fun h => absurd rfl h⟩
theorem fold_count (f : Func) (r : Int) (out : List Bool) (m : Nat) : out.count true ≤ (foldI f r out m).count true ∧ (foldI f r out m ≠ out → out.count true < (foldI f r out m).count true) := by
  induction m with
  | zero => exact ⟨Nat.le_refl _, fun h => absurd rfl h⟩
  | succ m ih =>
    rw [foldI_succ]
    obtain ⟨h1, h2⟩ := step_count f r (foldI f r out m) m
    refine ⟨by omega, fun hne => ?_⟩
    by_cases he : foldI f r out m = out
    · rw [he] at h1 h2 hne ⊢
      exact h2 hne
    · have := ih.2 he
      omega
theorem fold_fixed {f : Func} {r : Int} {out : List Bool} {n : Nat} (h : foldI f r out n = out) : ∀ m, m ≤ n → foldI f r out m = out := by
  intro m hm
  by_cases he : foldI f r out m = out
  · exact he
  · exfalso
    have h1 := (fold_count f r out m).2 he
    have key : ∀ k, (foldI f r out m).count true ≤ (foldI f r out (m + k)).count true := by
      intro k
      induction k with
      | zero => exact Nat.le_refl _
      | succ k ih => rw [← Nat.add_assoc, foldI_succ]; exact Nat.le_trans ih (step_count f r _ _).1
    have h2 := key (n - m)
    rw [show m + (n - m) = n by omega, h] at h2
    omega
theorem fixed_go {f : Func} {r : Int} {out : List Bool} (hl : out.length = f.blocks.length) (h : foldI f r out f.blocks.length = out) {b : Nat} (hb : b < f.blocks.length) (hg : goB f r out b = true) : out.getD b false = true := by
  have h1 := fold_fixed h (b + 1) (by omega)
  rw [foldI_succ, fold_fixed h b (by omega), stepI, if_pos hg] at h1
  rw [← h1, List.getD_eq_getElem?_getD, List.getElem?_set_self (by omega)]
  rfl
theorem fixed_all {f : Func} {r : Int} {out : List Bool} (hl : out.length = f.blocks.length) (h : foldI f r out f.blocks.length = out) {k : Nat} (hlo : LOut f k r) : behindB f out (k : Int) = true := by
  induction hlo with
  | read he h1 => exact behind_iff.2 ⟨_, he, fixed_go hl h (edge_lt he) (by rw [go_eq, h1]; rfl)⟩
  | pass he h1 _ ih => exact behind_iff.2 ⟨_, he, fixed_go hl h (edge_lt he) (by rw [go_eq, h1, ih h]; simp)⟩
theorem rounds_fixed (f : Func) (r : Int) : foldI f r (insI f r) f.blocks.length = insI f r := by
  have key : ∀ m, (∃ j, j < m ∧ roundsI f r (j + 1) = roundsI f r j) ∨ m ≤ (roundsI f r m).count true := by
    intro m
    induction m with
    | zero => exact .inr (Nat.zero_le _)
    | succ m ih =>
      rcases ih with ⟨j, hj, he⟩ | h
      · exact .inl ⟨j, by omega, he⟩
      · by_cases he : roundsI f r (m + 1) = roundsI f r m
        · exact .inl ⟨m, by omega, he⟩
        · have := (fold_count f r (roundsI f r m) f.blocks.length).2 he
          exact .inr (Nat.lt_of_le_of_lt h this)
  rcases key (f.blocks.length + 1) with ⟨j, hj, he⟩ | h
  · have hst : ∀ k, roundsI f r (j + k) = roundsI f r j := by
      intro k
      induction k with
      | zero => rfl
      | succ k ih =>
        show foldI f r (roundsI f r (j + k)) f.blocks.length = _
        rw [ih]
        exact he
    have h1 : insI f r = roundsI f r j := by
      unfold insI
      rw [show f.blocks.length + 1 = j + (f.blocks.length + 1 - j) by omega]
      exact hst _
    rw [h1]
    exact he
  · have := List.count_le_length (a := true) (l := roundsI f r (f.blocks.length + 1))
    rw [roundsI_len] at this
    omega
theorem behind_live (f : Func) (r : Int) (k : Nat) : behindB f (insI f r) (k : Int) = true ↔ LOut f k r :=
  ⟨fun h => sound_behind (sound_rounds f r _) h, fun h => fixed_all (insI_len f r) (rounds_fixed f r) h⟩
/-- what is live at a place, by the least answer -/
theorem liveAt_eq (f : Func) (S : Int → Bool) (b i : Nat) (hS : ∀ r, S r = true ↔ LOut f b r) (r : Int) : liveAt f b i r = inS ((insOf f b).drop i) S r := by
  unfold liveAt
  have e : behindB f (insI f r) (b : Int) = S r := by
    cases h1 : behindB f (insI f r) (b : Int) <;> cases h2 : S r
    · rfl
    · have := (behind_live f r b).2 ((hS r).1 h2); rw [h1] at this; cases this
    · have := (hS r).2 ((behind_live f r b).1 h1); rw [h2] at this; cases this
    · rfl
  rw [e]
  exact readsP_in r _ S
end Mu
end
section
/-
  The registers that are read, plain: they rise, each once.
  Conditions: none.
-/
namespace Mu
open Go

/-- put in from behind; the row lies the other way round -/
def insRev (x : Int) : List Int → List Int
  | [] => [x]
  | a :: l => if a > x then a :: insRev x l else x :: a :: l
theorem getD_at {A B : List Int} {x : Int} {q : Nat} (h : A.length = q) : (A ++ x :: B).getD q 0 = x := by
  rw [List.getD_eq_getElem?_getD, List.getElem?_append_right (by omega)]
  simp [h]
theorem swapL_at {A B : List Int} {a x : Int} {q : Nat} (h : A.length = q) : swapL (A ++ a :: x :: B) q = A ++ x :: a :: B := by
  unfold swapL
  have h1 : (A ++ a :: x :: B).getD q 0 = a := getD_at h
  have h2 : (A ++ a :: x :: B).getD (q + 1) 0 = x := by
    rw [show A ++ a :: x :: B = (A ++ [a]) ++ x :: B by simp]
    exact getD_at (by simp [h])
  rw [h1, h2]
  subst h
  simp []
theorem sift_at (x : Int) : ∀ (R B : List Int), siftL R.length (R.reverse ++ x :: B) = (insRev x R).reverse ++ B
  | [], B => by simp [siftL, insRev]
  | a :: R, B => by
    have hl : R.reverse.length = R.length := List.length_reverse
    have e : (a :: R).reverse ++ x :: B = R.reverse ++ a :: x :: B := by simp
    rw [e, List.length_cons, siftL]
    have h1 : (R.reverse ++ a :: x :: B).getD R.length 0 = a := getD_at hl
    have h2 : (R.reverse ++ a :: x :: B).getD (R.length + 1) 0 = x := by
      rw [show R.reverse ++ a :: x :: B = (R.reverse ++ [a]) ++ x :: B by simp]
      exact getD_at (by simp)
    rw [h1, h2, swapL_at hl]
    unfold insRev
    by_cases hax : a > x
    · rw [if_pos hax, if_pos hax, sift_at x R (a :: B)]
      simp
    · rw [if_neg hax, if_neg hax]
      simp
theorem sortedL_snoc (l : List Int) (x : Int) : sortedL (l ++ [x]) = (insRev x l.reverse).reverse := by
  have h := sift_at x l.reverse []
  rw [List.reverse_reverse, List.length_reverse, List.append_nil] at h
  unfold sortedL
  simpa using h
theorem insRev_mem {x y : Int} : ∀ {l : List Int}, y ∈ insRev x l ↔ y = x ∨ y ∈ l
  | [] => by simp [insRev]
  | a :: l => by
    unfold insRev
    split
    · rw [List.mem_cons, insRev_mem (l := l), List.mem_cons]
      constructor
      · rintro (h | h | h) <;> simp [h]
      · rintro (h | h | h) <;> simp [h]
    · rw [List.mem_cons]
theorem insRev_desc {x : Int} : ∀ {l : List Int}, l.Pairwise (fun a b => b < a) → x ∉ l → (insRev x l).Pairwise fun a b => b < a
  | [], _, _ => by simp [insRev]
  | a :: l, h, hx => by
    rw [List.pairwise_cons] at h
    simp only [List.mem_cons, not_or] at hx
    unfold insRev
    split
    · rename_i hax
      refine List.pairwise_cons.2 ⟨fun y hy => ?_, insRev_desc h.2 hx.2⟩
      rcases insRev_mem.1 hy with rfl | hy
      · exact hax
      · exact h.1 y hy
    · rename_i hax
      refine List.pairwise_cons.2 ⟨fun y hy => ?_, List.pairwise_cons.2 h⟩
      rcases List.mem_cons.1 hy with rfl | hy
      · omega
      · have := h.1 y hy
        omega
theorem insR_asc {l : List Int} {x : Int} (h : Asc l) : Asc (insR l x) ∧ ∀ y, y ∈ insR l x ↔ y = x ∨ y ∈ l := by
  unfold insR
  split
  · rename_i hc
    have hm : x ∈ l := by simpa using hc
    refine ⟨h, fun y => ⟨fun hy => .inr hy, ?_⟩⟩
    rintro (rfl | hy)
    · exact hm
    · exact hy
  · rename_i hc
    have hm : x ∉ l := by simpa using hc
    rw [sortedL_snoc]
    refine ⟨?_, fun y => by rw [List.mem_reverse, insRev_mem, List.mem_reverse]⟩
    unfold Asc at *
    rw [List.pairwise_reverse]
    exact insRev_desc (by rw [List.pairwise_reverse]; exact h) (by rw [List.mem_reverse]; exact hm)
theorem regsOf_asc (l : List Int) : Asc (regsOf l) ∧ ∀ y, y ∈ regsOf l ↔ y ∈ l := by
  have key : ∀ (l out : List Int), Asc out → Asc (l.foldl insR out) ∧ ∀ y, y ∈ l.foldl insR out ↔ y ∈ out ∨ y ∈ l := by
    intro l
    induction l with
    | nil => intro out h; exact ⟨h, fun y => by simp⟩
    | cons x l ih =>
      intro out h
      obtain ⟨h1, h2⟩ := insR_asc (x := x) h
      obtain ⟨h3, h4⟩ := ih _ h1
      refine ⟨h3, fun y => ?_⟩
      rw [List.foldl_cons, h4 y, h2 y, List.mem_cons]
      constructor
      · rintro ((h | h) | h) <;> simp [h]
      · rintro (h | h | h) <;> simp [h]
  obtain ⟨h1, h2⟩ := key l [] List.Pairwise.nil
  exact ⟨h1, fun y => by unfold regsOf; rw [h2 y]; simp⟩
theorem regsL_asc (f : Func) : Asc (regsL f) := (regsOf_asc _).1
theorem regsL_mem {f : Func} {r : Int} : r ∈ regsL f ↔ ∃ b ∈ f.blocks, ∃ x ∈ b.ins, r ∈ readsC x := by
  unfold regsL
  rw [(regsOf_asc _).2 r]
  unfold allReads
  simp only [List.mem_flatMap]
end Mu
end
section
/-
  live.all, walked: the row of sets of what is live behind blocks.
  Conditions: at most 2^21 of everything.
-/
namespace Mu
open Go Go.RowKit Go.Proofs Go.Maps
instance : AG Try.prog 77 false 1 := ⟨by kernel_rfl⟩
instance : SZ Try.prog 77 1 := ⟨by kernel_rfl⟩
instance : ES Try.prog 77 1 := ⟨by kernel_rfl⟩
instance : SL Try.prog 77 := ⟨by kernel_rfl⟩
instance : RT Try.prog 77 80 1 8 := ⟨by kernel_rfl⟩
instance : AG Try.prog 80 false 1 := ⟨by kernel_rfl⟩
instance : SZ Try.prog 80 1 := ⟨by kernel_rfl⟩
instance : ZC Try.prog 80 [.map none] := ⟨by kernel_rfl⟩

theorem athen_x {i : Nat} {K : St → Prop} {Q : Exit → St → Prop} {s : St} (h : Q (.exit i) s) : athen K Q (.exit i) s := h
theorem ablock_hit {id : Nat} {Q : Exit → St → Prop} {s : St} (h : Q .normal s) : ablock id Q (.exit id) s := by simp [ablock, h]
theorem ablock_n {id : Nat} {Q : Exit → St → Prop} {s : St} (h : Q .normal s) : ablock id Q .normal s := h
theorem z1set : zeroOne Try.prog 77 = some (80, .map none, 8) := by kernel_rfl
theorem undSet : Try.prog.underlying 80 = some (.map 3 3) := by kernel_rfl
theorem regsOf_le (l : List Int) : (regsOf l).length ≤ l.length := by
  have key : ∀ (l acc : List Int), (l.foldl insR acc).length ≤ acc.length + l.length := by
    intro l
    induction l with
    | nil => intro acc; simp
    | cons x l ih =>
      intro acc
      have := ih (insR acc x)
      have h2 : (insR acc x).length ≤ acc.length + 1 := by
        unfold insR
        split
        · omega
        · rw [sortedL_len]; simp
      simp only [List.foldl_cons, List.length_cons]
      omega
  simpa [regsOf] using key l []
theorem regsR_of (f : Func) (ho : okFunc f) (hT : (allReads f).length ≤ 2097152) : RegsR (regsL f) := by
  refine ⟨regsL_asc f, fun x hx => ?_, ?_⟩
  · obtain ⟨b, h1, y, h2, h3⟩ := regsL_mem.1 hx
    exact readsC_ok ((ho.blocks b h1).ins y h2) x h3
  · have := regsOf_le (allReads f)
    unfold regsL
    omega

/-- the cells of the row: sets that are there, and none behind -/
def cellsM (ms : List Nat) (n : Nat) : List AV := ms.map cellM ++ List.replicate (n - ms.length) (.lit (.map none))
theorem cellsM_put {ms : List Nat} {n b m : Nat} (hb : ms.length = b) (_hn : b < n) : (cellsM ms n).take b ++ [cellM m] ++ (cellsM ms n).drop (b + 1) = cellsM (ms ++ [m]) n := by
  unfold cellsM
  have h1 : (ms.map cellM).length = b := by simp [hb]
  rw [List.take_append_of_le_length (by omega), List.take_of_length_le (by omega), List.drop_append, List.drop_eq_nil_of_le (by simp; omega), List.nil_append, h1, List.drop_replicate, List.map_append, List.length_append, List.append_assoc, List.append_assoc]
  congr 3
  simp
  omega
theorem cellsM_len {ms : List Nat} {n : Nat} (h : ms.length ≤ n) : (cellsM ms n).length = n := by
  unfold cellsM
  simp
  omega
theorem cellsM_full {ms : List Nat} {n : Nat} (h : ms.length = n) : cellsM ms n = ms.map cellM := by
  unfold cellsM
  rw [h]
  simp
def i64s (l : List Nat) : List Int := l.map fun k : Nat => (k : Int)
theorem i64s_len (l : List Nat) : (i64s l).length = l.length := by simp [i64s]
theorem i64s_snoc (l : List Nat) (b : Nat) : i64s (l ++ [b]) = i64s l ++ [(b : Int)] := by simp [i64s]
/-- what is live behind the first of so many instructions at a block's end -/
def bkS (ds : List Ins) (S : Int → Bool) (k : Nat) : Int → Bool := inS (ds.drop (ds.length - k)) S
theorem bkS_zero (ds : List Ins) (S : Int → Bool) : bkS ds S 0 = S := by
  unfold bkS
  rw [Nat.sub_zero, List.drop_eq_nil_of_le (Nat.le_refl _)]
  rfl
theorem bkS_all (ds : List Ins) (S : Int → Bool) : bkS ds S ds.length = inS ds S := by
  unfold bkS
  rw [Nat.sub_self]
  rfl
theorem bkS_succ {ds : List Ins} {S : Int → Bool} {k : Nat} {d : Ins} (hd : ds[ds.length - 1 - k]? = some d) (hk : k < ds.length) : bkS ds S (k + 1) = backS d (bkS ds S k) := by
  unfold bkS
  have h1 : ds.length - (k + 1) = ds.length - 1 - k := by omega
  have h2 : ds.length - k = ds.length - 1 - k + 1 := by omega
  rw [h1, h2, List.drop_eq_getElem_cons (by omega)]
  have : ds[ds.length - 1 - k] = d := by
    rw [List.getElem?_eq_getElem (by omega)] at hd
    exact Option.some.inj hd
  rw [this]
  rfl
theorem bkS_sub {ds : List Ins} {L : List Int} {S : Int → Bool} (h : Sub L S) (hx : ∀ x ∈ ds, ∀ r ∈ readsC x, r ∈ L) (k : Nat) : Sub L (bkS ds S k) :=
  h.inS fun x hm => hx x (List.mem_of_mem_drop hm)
theorem lackBd {a b c : Nat} (hb : b ≤ 2097152) (hc : c ≤ 2097152) (h : a ≤ b * c) : a ≤ 4398046511104 := Nat.le_trans h (Nat.le_trans (Nat.mul_le_mul hb hc) (by decide))

set_option maxRecDepth 100000 in
set_option maxHeartbeats 4000000 in
theorem all_fn (f : Func) (ho : okFunc f) (hs : smallF f) (hT : (allReads f).length ≤ 2097152) : Fn Try.prog 53 [.agg (encFunc f)] (.bs tSet ((List.range f.blocks.length).map (outS f))) := by
  have hbl := hs.blocks
  have hRR := regsR_of f ho hT
  have hLl : (regsL f).length ≤ 2097152 := Nat.le_trans (regsOf_le _) hT
  have hLr : ∀ b ∈ f.blocks, ∀ x ∈ b.ins, ∀ r ∈ readsC x, r ∈ regsL f := fun b hb x hx r hr => regsL_mem.2 ⟨b, hb, x, hx, hr⟩
  have hmk : 8 * f.blocks.length ≤ 281474976710656 := by omega
  have hmx : f.blocks.length ≤ maxLen := by unfold maxLen; omega
  refine Fn.of_awpM Try.func53 rfl (by kernel_rfl) rfl Try.ntmps53 fun C hC hrd => ?_
  simp only [List.length_cons, List.length_nil, Nat.reduceAdd, Nat.reduceSub, List.replicate_succ, List.replicate_zero, List.cons_append, List.nil_append]
  refine Awp.seq fun K1 h1 => ?_
  (refine Awp.region ?_; (repeat (first | refine sQ (hk := ?_) | refine sSkip (hk := ?_) | refine sOwn (hk := ?_))); refine aSeq_nil ?_)
  refine h1 _ ?_
  refine nT (hk := ?_)
  refine Awp.open_box 1 rfl rfl rfl (fun g => [.any, .lit (.pointer (some ⟨g, 0, none⟩)), .any, .any, .any, .any, .any, .any, .any, .any, .any, .any, .any, .any, .any, .any, .any, .any, .any, .any, .any, .any, .any, .any, .any, .any, .any, .any, .any, .any, .any, .any, .any, .any, .any, .any, .any, .any, .any, .any, .any, .any, .any, .any, .any, .any, .any, .any, .any, .any, .any, .any, .any, .any, .any, .any, .any, .any, .any, .any, .any, .any, .any, .any, .any, .any, .any, .any, .any, .any, .any, .any, .any, .any, .any, .any, .any, .any, .any, .any, .any, .any, .any, .any, .any, .any, .any, .any, .any, .any, .any, .any, .any, .any, .any, .any, .any, .any, .any, .any, .any, .any, .any]) (fun g => (by (repeat (first | exact OpnB.nil | refine OpnB.ptr ?_ | refine OpnB.any ?_ | refine OpnB.keep rfl ?_)))) fun g1 => ?_
  refine Awp.seq fun K2 h2 => ?_
  (refine Awp.region ?_; (repeat (first | refine sQ (hk := ?_) | refine sSkip (hk := ?_) | refine sOwn (hk := ?_))))
  refine aSeq_t rfl (AOp.mkL rfl z1set rfl rfl hmk hmx fun O => ?_)
  refine sNt (hk := ?_)
  (repeat (first | refine sQ (hk := ?_) | refine sSkip (hk := ?_) | refine sOwn (hk := ?_)))
  refine aSeq_nil ?_
  refine h2 _ ?_
  refine nT (hk := ?_)
  refine Awp.via ⟨[.any, .lit (.pointer (some ⟨g1, 0, none⟩)), .any, .lit (.slice (some ⟨O, 0, none⟩) f.blocks.length f.blocks.length), .any, .any, .any, .any, .any, .any, .any, .any, .any, .any, .any, .any, .any, .any, .any, .any, .any, .any, .any, .any, .any, .any, .any, .any, .any, .any, .any, .any, .any, .any, .any, .any, .any, .any, .any, .any, .any, .any, .any, .any, .any, .any, .any, .any, .any, .any, .any, .any, .any, .any, .any, .any, .any, .any, .any, .any, .any, .any, .any, .any, .any, .any, .any, .any, .any, .any, .any, .any, .any, .any, .any, .any, .any, .any, .any, .any, .any, .any, .any, .any, .any, .any, .any, .any, .any, .any, .any, .any, .any, .any, .any, .any, .any, .any, .any, .any, .any, .any, .any], [.res (marksR []), .res (boxR g1 (encFunc f)), .res (boxR O (List.replicate f.blocks.length (.lit (.map none))))]⟩ (le_T) ?_
  refine Awp.seq fun K3 h3 => ?_
  suffices hM3 : ∀ s' : St, St.le C s' ⟨[.any, .lit (.pointer (some ⟨g1, 0, none⟩)), .any, .lit (.slice (some ⟨O, 0, none⟩) f.blocks.length f.blocks.length), .own 3 0, .bs tInt.slice (befN f f.blocks.length), .any, .any, .any, .any, .any, .any, .any, .any, .any, .any, .any, .any, .any, .any, .any, .any, .any, .any, .any, .any, .any, .any, .any, .any, .any, .any, .any, .any, .any, .any, .any, .any, .any, .any, .any, .any, .any, .any, .any, .any, .any, .any, .any, .any, .any, .any, .any, .any, .any, .any, .any, .any, .any, .any, .any, .any, .any, .any, .any, .any, .any, .any, .any, .any, .any, .any, .any, .any, .any, .any, .any, .any, .any, .any, .any, .any, .any, .any, .any, .any, .any, .any, .any, .any, .any, .any, .any, .any, .any, .any, .any, .any, .any, .any, .any, .any, .any], [.res (marksR []), .res (boxR g1 (encFunc f)), .res (boxR O (List.replicate f.blocks.length (.lit (.map none)))), .row 0 3 tInt []]⟩ → K3 s' by
    (refine Awp.drawT 0 (by kernel_rfl) (by kernel_rfl) ?_; refine aQ_nil ?_; (refine tStep [0, 4] (tC ?_ (tC ?_ tAll_nil)); ((first | refine oQ (hq := Quiet.call rfl (before_fn f ho hs) rfl rfl rfl) (hk := ?_) | refine oQ (hk := ?_)); (refine tStep [1, 4] (tC ?_ (tC ?_ tAll_nil)); ((first | refine oQ (hq := Quiet.call rfl (before_fn f ho hs) rfl rfl rfl) (hk := ?_) | refine oQ (hk := ?_)); (refine tStep [2, 4] (tC ?_ (tC ?_ tAll_nil)); ((first | refine oQ (hq := Quiet.call rfl (before_fn f ho hs) rfl rfl rfl) (hk := ?_) | refine oQ (hk := ?_)); (refine tStep [3, 4] (tC ?_ (tC ?_ tAll_nil)); ((refine AOp.mk0 (T := tInt) (m := 1) (e := 3) rfl rfl (by decide) rfl rfl hmk hmx ?_; refine tNt (hk := ?_)); (refine tStep [4] (tC ?_ tAll_nil); ((first | refine oQ (hq := Quiet.call rfl (before_fn f ho hs) rfl rfl rfl) (hk := ?_) | refine oQ (hk := ?_)); (refine tStep [5] (tC ?_ tAll_nil); ((first | refine oQ (hq := Quiet.call rfl (before_fn f ho hs) rfl rfl rfl) (hk := ?_) | refine oQ (hk := ?_)); (refine tStep [6] (tC ?_ tAll_nil); ((first | refine oQ (hq := Quiet.call rfl (before_fn f ho hs) rfl rfl rfl) (hk := ?_) | refine oQ (hk := ?_)); (refine tStep [7] (tC ?_ tAll_nil); ((first | refine oQ (hq := Quiet.call rfl (before_fn f ho hs) rfl rfl rfl) (hk := ?_) | refine oQ (hk := ?_)); (exact tDone (hM3 _ (le_T)))))))))))); ((first | refine oQ (hq := Quiet.call rfl (before_fn f ho hs) rfl rfl rfl) (hk := ?_) | refine oQ (hk := ?_)); (refine tStep [3, 5] (tC ?_ (tC ?_ tAll_nil)); ((refine AOp.mk0 (T := tInt) (m := 1) (e := 3) rfl rfl (by decide) rfl rfl hmk hmx ?_; refine tNt (hk := ?_)); (refine tStep [5] (tC ?_ tAll_nil); ((first | refine oQ (hq := Quiet.call rfl (before_fn f ho hs) rfl rfl rfl) (hk := ?_) | refine oQ (hk := ?_)); (refine tStep [6] (tC ?_ tAll_nil); ((first | refine oQ (hq := Quiet.call rfl (before_fn f ho hs) rfl rfl rfl) (hk := ?_) | refine oQ (hk := ?_)); (refine tStep [7] (tC ?_ tAll_nil); ((first | refine oQ (hq := Quiet.call rfl (before_fn f ho hs) rfl rfl rfl) (hk := ?_) | refine oQ (hk := ?_)); (exact tDone (hM3 _ (le_T)))))))))); ((first | refine oQ (hq := Quiet.call rfl (before_fn f ho hs) rfl rfl rfl) (hk := ?_) | refine oQ (hk := ?_)); (refine tStep [3] (tC ?_ tAll_nil); ((refine AOp.mk0 (T := tInt) (m := 1) (e := 3) rfl rfl (by decide) rfl rfl hmk hmx ?_; refine tNt (hk := ?_)); (refine tStep [6] (tC ?_ tAll_nil); ((first | refine oQ (hq := Quiet.call rfl (before_fn f ho hs) rfl rfl rfl) (hk := ?_) | refine oQ (hk := ?_)); (refine tStep [7] (tC ?_ tAll_nil); ((first | refine oQ (hq := Quiet.call rfl (before_fn f ho hs) rfl rfl rfl) (hk := ?_) | refine oQ (hk := ?_)); (exact tDone (hM3 _ (le_T)))))))))))))); ((first | refine oQ (hq := Quiet.call rfl (before_fn f ho hs) rfl rfl rfl) (hk := ?_) | refine oQ (hk := ?_)); (refine tStep [2, 5] (tC ?_ (tC ?_ tAll_nil)); ((first | refine oQ (hq := Quiet.call rfl (before_fn f ho hs) rfl rfl rfl) (hk := ?_) | refine oQ (hk := ?_)); (refine tStep [3, 5] (tC ?_ (tC ?_ tAll_nil)); ((refine AOp.mk0 (T := tInt) (m := 1) (e := 3) rfl rfl (by decide) rfl rfl hmk hmx ?_; refine tNt (hk := ?_)); (refine tStep [5] (tC ?_ tAll_nil); ((first | refine oQ (hq := Quiet.call rfl (before_fn f ho hs) rfl rfl rfl) (hk := ?_) | refine oQ (hk := ?_)); (refine tStep [6] (tC ?_ tAll_nil); ((first | refine oQ (hq := Quiet.call rfl (before_fn f ho hs) rfl rfl rfl) (hk := ?_) | refine oQ (hk := ?_)); (refine tStep [7] (tC ?_ tAll_nil); ((first | refine oQ (hq := Quiet.call rfl (before_fn f ho hs) rfl rfl rfl) (hk := ?_) | refine oQ (hk := ?_)); (exact tDone (hM3 _ (le_T)))))))))); ((first | refine oQ (hq := Quiet.call rfl (before_fn f ho hs) rfl rfl rfl) (hk := ?_) | refine oQ (hk := ?_)); (refine tStep [3] (tC ?_ tAll_nil); ((refine AOp.mk0 (T := tInt) (m := 1) (e := 3) rfl rfl (by decide) rfl rfl hmk hmx ?_; refine tNt (hk := ?_)); (refine tStep [6] (tC ?_ tAll_nil); ((first | refine oQ (hq := Quiet.call rfl (before_fn f ho hs) rfl rfl rfl) (hk := ?_) | refine oQ (hk := ?_)); (refine tStep [7] (tC ?_ tAll_nil); ((first | refine oQ (hq := Quiet.call rfl (before_fn f ho hs) rfl rfl rfl) (hk := ?_) | refine oQ (hk := ?_)); (exact tDone (hM3 _ (le_T)))))))))))); ((first | refine oQ (hq := Quiet.call rfl (before_fn f ho hs) rfl rfl rfl) (hk := ?_) | refine oQ (hk := ?_)); (refine tStep [2] (tC ?_ tAll_nil); ((first | refine oQ (hq := Quiet.call rfl (before_fn f ho hs) rfl rfl rfl) (hk := ?_) | refine oQ (hk := ?_)); (refine tStep [3] (tC ?_ tAll_nil); ((refine AOp.mk0 (T := tInt) (m := 1) (e := 3) rfl rfl (by decide) rfl rfl hmk hmx ?_; refine tNt (hk := ?_)); (refine tStep [6] (tC ?_ tAll_nil); ((first | refine oQ (hq := Quiet.call rfl (before_fn f ho hs) rfl rfl rfl) (hk := ?_) | refine oQ (hk := ?_)); (refine tStep [7] (tC ?_ tAll_nil); ((first | refine oQ (hq := Quiet.call rfl (before_fn f ho hs) rfl rfl rfl) (hk := ?_) | refine oQ (hk := ?_)); (exact tDone (hM3 _ (le_T)))))))))))))))); ((first | refine oQ (hq := Quiet.call rfl (before_fn f ho hs) rfl rfl rfl) (hk := ?_) | refine oQ (hk := ?_)); (refine tStep [1, 5] (tC ?_ (tC ?_ tAll_nil)); ((first | refine oQ (hq := Quiet.call rfl (before_fn f ho hs) rfl rfl rfl) (hk := ?_) | refine oQ (hk := ?_)); (refine tStep [2, 5] (tC ?_ (tC ?_ tAll_nil)); ((first | refine oQ (hq := Quiet.call rfl (before_fn f ho hs) rfl rfl rfl) (hk := ?_) | refine oQ (hk := ?_)); (refine tStep [3, 5] (tC ?_ (tC ?_ tAll_nil)); ((refine AOp.mk0 (T := tInt) (m := 1) (e := 3) rfl rfl (by decide) rfl rfl hmk hmx ?_; refine tNt (hk := ?_)); (refine tStep [5] (tC ?_ tAll_nil); ((first | refine oQ (hq := Quiet.call rfl (before_fn f ho hs) rfl rfl rfl) (hk := ?_) | refine oQ (hk := ?_)); (refine tStep [6] (tC ?_ tAll_nil); ((first | refine oQ (hq := Quiet.call rfl (before_fn f ho hs) rfl rfl rfl) (hk := ?_) | refine oQ (hk := ?_)); (refine tStep [7] (tC ?_ tAll_nil); ((first | refine oQ (hq := Quiet.call rfl (before_fn f ho hs) rfl rfl rfl) (hk := ?_) | refine oQ (hk := ?_)); (exact tDone (hM3 _ (le_T)))))))))); ((first | refine oQ (hq := Quiet.call rfl (before_fn f ho hs) rfl rfl rfl) (hk := ?_) | refine oQ (hk := ?_)); (refine tStep [3] (tC ?_ tAll_nil); ((refine AOp.mk0 (T := tInt) (m := 1) (e := 3) rfl rfl (by decide) rfl rfl hmk hmx ?_; refine tNt (hk := ?_)); (refine tStep [6] (tC ?_ tAll_nil); ((first | refine oQ (hq := Quiet.call rfl (before_fn f ho hs) rfl rfl rfl) (hk := ?_) | refine oQ (hk := ?_)); (refine tStep [7] (tC ?_ tAll_nil); ((first | refine oQ (hq := Quiet.call rfl (before_fn f ho hs) rfl rfl rfl) (hk := ?_) | refine oQ (hk := ?_)); (exact tDone (hM3 _ (le_T)))))))))))); ((first | refine oQ (hq := Quiet.call rfl (before_fn f ho hs) rfl rfl rfl) (hk := ?_) | refine oQ (hk := ?_)); (refine tStep [2] (tC ?_ tAll_nil); ((first | refine oQ (hq := Quiet.call rfl (before_fn f ho hs) rfl rfl rfl) (hk := ?_) | refine oQ (hk := ?_)); (refine tStep [3] (tC ?_ tAll_nil); ((refine AOp.mk0 (T := tInt) (m := 1) (e := 3) rfl rfl (by decide) rfl rfl hmk hmx ?_; refine tNt (hk := ?_)); (refine tStep [6] (tC ?_ tAll_nil); ((first | refine oQ (hq := Quiet.call rfl (before_fn f ho hs) rfl rfl rfl) (hk := ?_) | refine oQ (hk := ?_)); (refine tStep [7] (tC ?_ tAll_nil); ((first | refine oQ (hq := Quiet.call rfl (before_fn f ho hs) rfl rfl rfl) (hk := ?_) | refine oQ (hk := ?_)); (exact tDone (hM3 _ (le_T)))))))))))))); ((first | refine oQ (hq := Quiet.call rfl (before_fn f ho hs) rfl rfl rfl) (hk := ?_) | refine oQ (hk := ?_)); (refine tStep [1] (tC ?_ tAll_nil); ((first | refine oQ (hq := Quiet.call rfl (before_fn f ho hs) rfl rfl rfl) (hk := ?_) | refine oQ (hk := ?_)); (refine tStep [2] (tC ?_ tAll_nil); ((first | refine oQ (hq := Quiet.call rfl (before_fn f ho hs) rfl rfl rfl) (hk := ?_) | refine oQ (hk := ?_)); (refine tStep [3] (tC ?_ tAll_nil); ((refine AOp.mk0 (T := tInt) (m := 1) (e := 3) rfl rfl (by decide) rfl rfl hmk hmx ?_; refine tNt (hk := ?_)); (refine tStep [6] (tC ?_ tAll_nil); ((first | refine oQ (hq := Quiet.call rfl (before_fn f ho hs) rfl rfl rfl) (hk := ?_) | refine oQ (hk := ?_)); (refine tStep [7] (tC ?_ tAll_nil); ((first | refine oQ (hq := Quiet.call rfl (before_fn f ho hs) rfl rfl rfl) (hk := ?_) | refine oQ (hk := ?_)); (exact tDone (hM3 _ (le_T)))))))))))))))))); ((first | refine oQ (hq := Quiet.call rfl (before_fn f ho hs) rfl rfl rfl) (hk := ?_) | refine oQ (hk := ?_)); (refine tStep [0, 5] (tC ?_ (tC ?_ tAll_nil)); ((first | refine oQ (hq := Quiet.call rfl (before_fn f ho hs) rfl rfl rfl) (hk := ?_) | refine oQ (hk := ?_)); (refine tStep [1, 5] (tC ?_ (tC ?_ tAll_nil)); ((first | refine oQ (hq := Quiet.call rfl (before_fn f ho hs) rfl rfl rfl) (hk := ?_) | refine oQ (hk := ?_)); (refine tStep [2, 5] (tC ?_ (tC ?_ tAll_nil)); ((first | refine oQ (hq := Quiet.call rfl (before_fn f ho hs) rfl rfl rfl) (hk := ?_) | refine oQ (hk := ?_)); (refine tStep [3, 5] (tC ?_ (tC ?_ tAll_nil)); ((refine AOp.mk0 (T := tInt) (m := 1) (e := 3) rfl rfl (by decide) rfl rfl hmk hmx ?_; refine tNt (hk := ?_)); (refine tStep [5] (tC ?_ tAll_nil); ((first | refine oQ (hq := Quiet.call rfl (before_fn f ho hs) rfl rfl rfl) (hk := ?_) | refine oQ (hk := ?_)); (refine tStep [6] (tC ?_ tAll_nil); ((first | refine oQ (hq := Quiet.call rfl (before_fn f ho hs) rfl rfl rfl) (hk := ?_) | refine oQ (hk := ?_)); (refine tStep [7] (tC ?_ tAll_nil); ((first | refine oQ (hq := Quiet.call rfl (before_fn f ho hs) rfl rfl rfl) (hk := ?_) | refine oQ (hk := ?_)); (exact tDone (hM3 _ (le_T)))))))))); ((first | refine oQ (hq := Quiet.call rfl (before_fn f ho hs) rfl rfl rfl) (hk := ?_) | refine oQ (hk := ?_)); (refine tStep [3] (tC ?_ tAll_nil); ((refine AOp.mk0 (T := tInt) (m := 1) (e := 3) rfl rfl (by decide) rfl rfl hmk hmx ?_; refine tNt (hk := ?_)); (refine tStep [6] (tC ?_ tAll_nil); ((first | refine oQ (hq := Quiet.call rfl (before_fn f ho hs) rfl rfl rfl) (hk := ?_) | refine oQ (hk := ?_)); (refine tStep [7] (tC ?_ tAll_nil); ((first | refine oQ (hq := Quiet.call rfl (before_fn f ho hs) rfl rfl rfl) (hk := ?_) | refine oQ (hk := ?_)); (exact tDone (hM3 _ (le_T)))))))))))); ((first | refine oQ (hq := Quiet.call rfl (before_fn f ho hs) rfl rfl rfl) (hk := ?_) | refine oQ (hk := ?_)); (refine tStep [2] (tC ?_ tAll_nil); ((first | refine oQ (hq := Quiet.call rfl (before_fn f ho hs) rfl rfl rfl) (hk := ?_) | refine oQ (hk := ?_)); (refine tStep [3] (tC ?_ tAll_nil); ((refine AOp.mk0 (T := tInt) (m := 1) (e := 3) rfl rfl (by decide) rfl rfl hmk hmx ?_; refine tNt (hk := ?_)); (refine tStep [6] (tC ?_ tAll_nil); ((first | refine oQ (hq := Quiet.call rfl (before_fn f ho hs) rfl rfl rfl) (hk := ?_) | refine oQ (hk := ?_)); (refine tStep [7] (tC ?_ tAll_nil); ((first | refine oQ (hq := Quiet.call rfl (before_fn f ho hs) rfl rfl rfl) (hk := ?_) | refine oQ (hk := ?_)); (exact tDone (hM3 _ (le_T)))))))))))))); ((first | refine oQ (hq := Quiet.call rfl (before_fn f ho hs) rfl rfl rfl) (hk := ?_) | refine oQ (hk := ?_)); (refine tStep [1] (tC ?_ tAll_nil); ((first | refine oQ (hq := Quiet.call rfl (before_fn f ho hs) rfl rfl rfl) (hk := ?_) | refine oQ (hk := ?_)); (refine tStep [2] (tC ?_ tAll_nil); ((first | refine oQ (hq := Quiet.call rfl (before_fn f ho hs) rfl rfl rfl) (hk := ?_) | refine oQ (hk := ?_)); (refine tStep [3] (tC ?_ tAll_nil); ((refine AOp.mk0 (T := tInt) (m := 1) (e := 3) rfl rfl (by decide) rfl rfl hmk hmx ?_; refine tNt (hk := ?_)); (refine tStep [6] (tC ?_ tAll_nil); ((first | refine oQ (hq := Quiet.call rfl (before_fn f ho hs) rfl rfl rfl) (hk := ?_) | refine oQ (hk := ?_)); (refine tStep [7] (tC ?_ tAll_nil); ((first | refine oQ (hq := Quiet.call rfl (before_fn f ho hs) rfl rfl rfl) (hk := ?_) | refine oQ (hk := ?_)); (exact tDone (hM3 _ (le_T)))))))))))))))); ((first | refine oQ (hq := Quiet.call rfl (before_fn f ho hs) rfl rfl rfl) (hk := ?_) | refine oQ (hk := ?_)); (refine tStep [0] (tC ?_ tAll_nil); ((first | refine oQ (hq := Quiet.call rfl (before_fn f ho hs) rfl rfl rfl) (hk := ?_) | refine oQ (hk := ?_)); (refine tStep [1] (tC ?_ tAll_nil); ((first | refine oQ (hq := Quiet.call rfl (before_fn f ho hs) rfl rfl rfl) (hk := ?_) | refine oQ (hk := ?_)); (refine tStep [2] (tC ?_ tAll_nil); ((first | refine oQ (hq := Quiet.call rfl (before_fn f ho hs) rfl rfl rfl) (hk := ?_) | refine oQ (hk := ?_)); (refine tStep [3] (tC ?_ tAll_nil); ((refine AOp.mk0 (T := tInt) (m := 1) (e := 3) rfl rfl (by decide) rfl rfl hmk hmx ?_; refine tNt (hk := ?_)); (refine tStep [6] (tC ?_ tAll_nil); ((first | refine oQ (hq := Quiet.call rfl (before_fn f ho hs) rfl rfl rfl) (hk := ?_) | refine oQ (hk := ?_)); (refine tStep [7] (tC ?_ tAll_nil); ((first | refine oQ (hq := Quiet.call rfl (before_fn f ho hs) rfl rfl rfl) (hk := ?_) | refine oQ (hk := ?_)); (exact tDone (hM3 _ (le_T))))))))))))))))))))
  intro s' hle
  · refine h3 _ (Awp.via _ hle ?_)
    refine Awp.via _ (St.le_res0 (R := mapsR [] []) (fun _ _ => ⟨rfl, List.nodup_nil, fun i m S hm => by simp at hm⟩) (fun g hg => by cases hg) rfl) ?_
    refine Awp.seq fun K4 h4 => ?_
    refine Awp.seq fun K5 h5 => ?_
    (refine Awp.region ?_; (repeat (first | refine sQ (hk := ?_) | refine sSkip (hk := ?_) | refine sOwn (hk := ?_))); refine aSeq_nil ?_)
    refine h5 _ ?_
    refine nT (hk := ?_)
    refine Awp.block ?_
    refine Awp.loopF (fun p : Nat × Nat × List Nat => ⟨[.any, .lit (.pointer (some ⟨g1, 0, none⟩)), .any, .lit (.slice (some ⟨O, 0, none⟩) f.blocks.length f.blocks.length), .own 3 p.2.1, .bs tInt.slice (befN f f.blocks.length), .any, .any, .any, .any, .any, .any, .any, .any, .any, .any, .any, .any, .any, .any, .any, .any, .any, .any, .any, .any, .lit (.int .i64 (f.blocks.length : Int)), .lit (.int .i64 (p.1 : Int)), .any, .any, .any, .any, .any, .any, .any, .any, .any, .any, .any, .any, .any, .any, .any, .any, .any, .any, .any, .any, .any, .any, .any, .any, .any, .any, .any, .any, .any, .any, .any, .any, .any, .any, .any, .any, .any, .any, .any, .any, .any, .any, .any, .any, .any, .any, .any, .any, .any, .any, .any, .any, .any, .any, .any, .any, .any, .any, .any, .any, .any, .any, .any, .any, .any, .any, .any, .any, .any, .any, .any, .any, .any, .any, .any], [.res (marksR []), .res (boxR g1 (encFunc f)), .res (boxR O (cellsM p.2.2 f.blocks.length)), .row p.2.1 3 tInt (i64s (List.range p.1)), .res (mapsR p.2.2 (List.replicate p.1 fun _ => false))]⟩) (fun p => p.1 ≤ f.blocks.length ∧ p.2.2.length = p.1) (fun p => f.blocks.length - p.1) (0, 0, []) ⟨Nat.zero_le _, rfl⟩ (le_T) ?_
    rintro ⟨b, ver, ms⟩ ⟨hbn, hms⟩
    dsimp only at hbn hms ⊢
    refine Awp.seq fun K7 h7 => ?_
    (refine Awp.region ?_; (repeat (first | refine sQ (hk := ?_) | refine sSkip (hk := ?_) | refine sOwn (hk := ?_))); refine aSeq_nil ?_)
    refine h7 _ ?_
    refine nT (hk := ?_)
    refine Awp.seq fun K8 h8 => ?_
    refine Awp.cond rfl (fun hb9 => ?_) (fun hb9 => ?_)
    · have hlt : b < f.blocks.length := by simpa using hb9
      have hclen : b + [cellM 0].length ≤ (cellsM ms f.blocks.length).length := by rw [cellsM_len (by omega)]; exact hlt
      have hw := nat_wf (k := b) (by omega)
      have hn1 : (i64s (List.range b)).length + [(b : Int)].length ≤ maxLen := by rw [i64s_len]; simp [maxLen]; omega
      have hn2 : ((i64s (List.range b)).length + [(b : Int)].length) * 8 ≤ 140737488355328 := by rw [i64s_len]; simp; omega
      refine Awp.skip ?_
      refine h8 _ ?_
      refine nT (hk := ?_)
      refine Awp.seq fun K10 h10 => ?_
      refine Awp.block ?_
      refine Awp.seq fun K11 h11 => ?_
      (refine Awp.region ?_; (repeat (first | refine sQ (hk := ?_) | refine sSkip (hk := ?_) | refine sOwn (hk := ?_))); refine aSeq_nil ?_)
      refine h11 _ ?_
      refine nT (hk := ?_)
      refine Awp.seq fun K12 h12 => ?_
      (refine Awp.region ?_; (repeat (first | refine sQ (hk := ?_) | refine sSkip (hk := ?_) | refine sOwn (hk := ?_))))
      refine aSeq_t rfl (AOp.mkMap rfl fun m => ?_)
      refine sNt (hk := ?_)
      (repeat (first | refine sQ (hk := ?_) | refine sSkip (hk := ?_) | refine sOwn (hk := ?_)))
      refine aSeq_t rfl (AOp.stL (i := 2) (new := [cellM m]) rfl rfl rfl (Parts.one (One.lit rfl)) rfl rfl hclen ?_)
      refine sNt (hk := ?_)
      refine aSeq_nil ?_
      rw [cellsM_put hms hlt]
      refine h12 _ ?_
      refine nT (hk := ?_)
      refine Awp.via _ (St.le_maps (i := 4) (j := 5) (by decide) rfl rfl) ?_
      (refine Awp.region ?_; (repeat (first | refine sQ (hk := ?_) | refine sSkip (hk := ?_) | refine sOwn (hk := ?_))); refine aSeq_nil ?_)
      refine h10 _ ?_
      refine nT (hk := ?_)
      (refine Awp.region ?_; (repeat (first | refine sQ (hk := ?_) | refine sSkip (hk := ?_) | refine sOwn (hk := ?_))); refine aSeq_nil ?_)
      refine athen_n ⟨(b + 1, ver + 1, ms ++ [m]), ⟨by omega, by simp [hms]⟩, by dsimp only; omega, ?_⟩
      dsimp only
      rw [List.range_succ, i64s_snoc, List.replicate_succ']
      exact le_C (Cut.cons (Cut.cons (Cut.cons (Cut.cons (Cut.cons (Cut.nil _))))))
    · refine Awp.exit ?_
      have hbe : b = f.blocks.length := by have : ¬ b < f.blocks.length := by simpa using hb9
                                           omega
      subst hbe
      refine h4 _ ?_
      refine nT (hk := ?_)
      rw [cellsM_full hms]
      refine Awp.seq fun K13 h13 => ?_
      refine Awp.block ?_
      have hI0 : AllI f (regsL f) (List.range f.blocks.length) (List.replicate f.blocks.length fun _ => false) := AllI.start fun b => List.mem_range
      have hlk := lack_le (regsL f) (List.replicate f.blocks.length fun _ => false)
      rw [List.length_replicate] at hlk
      have hlk2 := lackBd hbl hLl hlk
      refine Awp.loopF (fun p : List Nat × Nat × List Nat × List (Int → Bool) => ⟨[.any, .lit (.pointer (some ⟨g1, 0, none⟩)), .any, .lit (.slice (some ⟨O, 0, none⟩) f.blocks.length f.blocks.length), .own 3 p.2.1, .bs tInt.slice (befN f f.blocks.length), .any, .any, .any, .any, .any, .any, .any, .any, .any, .any, .any, .any, .any, .any, .any, .any, .any, .any, .any, .any, .any, .any, .any, .any, .any, .any, .any, .any, .any, .any, .any, .any, .any, .any, .any, .any, .any, .any, .any, .any, .any, .any, .any, .any, .any, .any, .any, .any, .any, .any, .any, .any, .any, .any, .any, .any, .any, .any, .any, .any, .any, .any, .any, .any, .any, .any, .any, .any, .any, .any, .any, .any, .any, .any, .any, .any, .any, .any, .any, .any, .any, .any, .any, .any, .any, .any, .any, .any, .any, .any, .any, .any, .any, .any, .any, .any, .any], [.res (marksR p.1), .res (boxR g1 (encFunc f)), .res (boxR O (ms.map cellM)), .row p.2.1 3 tInt (i64s p.2.2.1), .res (mapsR ms p.2.2.2)]⟩) (fun p => AllI f (regsL f) p.2.2.1 p.2.2.2 ∧ 2 * lackS (regsL f) p.2.2.2 + p.2.2.1.length ≤ 10000000000000) (fun p => 2 * lackS (regsL f) p.2.2.2 + p.2.2.1.length) ([], ver, List.range f.blocks.length, List.replicate f.blocks.length fun _ => false) ⟨hI0, by dsimp only; rw [List.length_range]; omega⟩ (le_T) ?_
      rintro ⟨ds, ver, wait, Ss⟩ ⟨hI, hmu⟩
      dsimp only at hI hmu ⊢
      refine Awp.seq fun K15 h15 => ?_
      refine Awp.seq fun K16 h16 => ?_
      (refine Awp.region ?_; (repeat (first | refine sQ (hk := ?_) | refine sSkip (hk := ?_) | refine sOwn (hk := ?_))); refine aSeq_nil ?_)
      refine h16 _ ?_
      refine nT (hk := ?_)
      refine Awp.cond rfl (fun hb17 => ?_) (fun hb17 => ?_)
      · have hne : wait ≠ [] := fun e => by subst e; simp [i64s] at hb17
        obtain ⟨w0, b, rfl⟩ : ∃ w0 b, wait = w0 ++ [b] := ⟨_, _, (List.dropLast_concat_getLast hne).symm⟩
        have hl : (i64s (w0 ++ [b])).length = w0.length + 1 := by rw [i64s_len]; simp
        have hwl : w0.length ≤ 10000000000000 := by simp at hmu; omega
        have hx0 : (i64s (w0 ++ [b]))[(((i64s (w0 ++ [b])).length : Int) - 1).toNat]? = some (b : Int) := by
          rw [hl, i64s_snoc, show (((w0.length + 1 : Nat) : Int) - 1).toNat = (i64s w0).length by rw [i64s_len]; omega]
          simp
        have hcut : AV.lit (.int .i64 (((i64s (w0 ++ [b])).length : Int) - 1)) = .lit (.int .i64 (w0.length : Int)) := by
          rw [hl, show (((w0.length + 1 : Nat) : Int) - 1) = (w0.length : Int) by omega]
        have hcl : w0.length ≤ (i64s (w0 ++ [b])).length := by omega
        have htk : (i64s (w0 ++ [b])).take w0.length = i64s w0 := by rw [i64s_snoc, ← i64s_len w0]; simp
        have hbn : b < f.blocks.length := hI.lt b (by simp)
        obtain ⟨m, hm⟩ : ∃ m, ms[b]? = some m := ⟨_, List.getElem?_eq_getElem (by omega)⟩
        obtain ⟨S, hS⟩ : ∃ S, Ss[b]? = some S := ⟨_, List.getElem?_eq_getElem (by rw [hI.len]; exact hbn)⟩
        obtain ⟨bl, hblk⟩ : ∃ bl, f.blocks[b]? = some bl := ⟨_, List.getElem?_eq_getElem hbn⟩
        have hat : at_ Ss b = S := by unfold at_; rw [List.getD_eq_getElem?_getD, hS]; rfl
        have hins : insOf f b = bl.ins := by unfold insOf; rw [hblk]
        have hmem := List.mem_of_getElem? hblk
        have hsb := hs.all bl hmem
        have hob := ho.blocks bl hmem
        have hSs : Sub (regsL f) S := by have := hI.sub b; rwa [hat] at this
        have hmc : (ms.map cellM)[b]? = some (cellM m) := by rw [List.getElem?_map, hm]; rfl
        refine Awp.skip ?_
        refine h15 _ ?_
        refine nT (hk := ?_)
        refine Awp.block ?_
        refine Awp.seq fun K18 h18 => ?_
        (refine Awp.region ?_; (repeat (first | refine sQ (hk := ?_) | refine sSkip (hk := ?_) | refine sOwn (hk := ?_))); refine aSeq_nil ?_)
        refine h18 _ ?_
        refine nT (hk := ?_)
        refine Awp.seq fun K19 h19 => ?_
        (refine Awp.region ?_; (repeat (first | refine sQ (hk := ?_) | refine sSkip (hk := ?_) | refine sOwn (hk := ?_))))
        refine aSeq_t rfl (AOp.cutRow (i := 3) (m := w0.length) rfl rfl rfl rfl ⟨.i64, hcut⟩ hcl ?_)
        refine sNt (hk := ?_)
        (repeat (first | refine sQ (hk := ?_) | refine sSkip (hk := ?_) | refine sOwn (hk := ?_)))
        refine aSeq_nil ?_
        rw [htk]
        refine h19 _ ?_
        refine nT (hk := ?_)
        refine Awp.seq fun K20 h20 => ?_
        (refine Awp.region ?_; (repeat (first | refine sQ (hk := ?_) | refine sSkip (hk := ?_) | refine sOwn (hk := ?_))))
        refine aSeq_t rfl (AOp.callRNew (i := 4) rfl rfl (clone_maps hm hS) (fun _ => rfl) rfl rfl fun mn => ?_)
        refine sNt (hk := ?_)
        (repeat (first | (refine aSeq_t rfl (AOp.stBox (new := [_]) rfl rfl rfl (Parts.one (One.lit rfl)) rfl (Nat.le_of_ble_eq_true rfl) ?_); refine sNt (hk := ?_)) | refine sQ (hk := ?_) | refine sSkip (hk := ?_) | refine sOwn (hk := ?_)))
        refine aSeq_nil ?_
        refine h20 _ ?_
        refine nT (hk := ?_)
        refine Awp.open_box 6 rfl rfl rfl (fun g => [.any, .lit (.pointer (some ⟨g1, 0, none⟩)), .any, .lit (.slice (some ⟨O, 0, none⟩) f.blocks.length f.blocks.length), .own 3 (ver + 1), .bs tInt.slice (befN f f.blocks.length), .any, .lit (.int .i64 (b : Int)), .lit (.pointer (some ⟨g, 0, none⟩)), .any, .any, .any, .any, .any, .any, .any, .any, .any, .any, .any, .any, .any, .any, .any, .any, .any, .any, .any, .any, .any, .any, .any, .any, .any, .any, .any, .any, .any, .any, .any, .any, .any, .any, .any, .any, .any, .any, .any, .any, .any, .any, .any, .any, .any, .any, .any, .any, .any, .any, .any, .any, .any, .any, .any, .any, .any, .any, .any, .any, .any, .any, .any, .any, .any, .any, .any, .any, .any, .any, .any, .any, .any, .any, .any, .any, .any, .any, .any, .any, .any, .any, .any, .any, .any, .any, .any, .any, .any, .any, .any, .any, .any, .any]) (fun g => (by (repeat (first | exact OpnB.nil | refine OpnB.ptr ?_ | refine OpnB.any ?_ | refine OpnB.keep rfl ?_)))) fun gn => ?_
        refine Awp.open_row 3 rfl rfl (fun v => [.any, .lit (.pointer (some ⟨g1, 0, none⟩)), .any, .lit (.slice (some ⟨O, 0, none⟩) f.blocks.length f.blocks.length), .lit v, .bs tInt.slice (befN f f.blocks.length), .any, .lit (.int .i64 (b : Int)), .lit (.pointer (some ⟨gn, 0, none⟩)), .any, .any, .any, .any, .any, .any, .any, .any, .any, .any, .any, .any, .any, .any, .any, .any, .any, .any, .any, .any, .any, .any, .any, .any, .any, .any, .any, .any, .any, .any, .any, .any, .any, .any, .any, .any, .any, .any, .any, .any, .any, .any, .any, .any, .any, .any, .any, .any, .any, .any, .any, .any, .any, .any, .any, .any, .any, .any, .any, .any, .any, .any, .any, .any, .any, .any, .any, .any, .any, .any, .any, .any, .any, .any, .any, .any, .any, .any, .any, .any, .any, .any, .any, .any, .any, .any, .any, .any, .any, .any, .any, .any, .any, .any]) (fun v => (by (repeat (first | exact Opn.nil | refine Opn.own ?_ | refine Opn.any ?_ | refine Opn.keep rfl ?_)))) fun vw => ?_
        refine Awp.seq fun K21 h21 => ?_
        refine Awp.seq fun K22 h22 => ?_
        (refine Awp.region ?_; (repeat (first | refine sQ (hk := ?_) | refine sSkip (hk := ?_) | refine sOwn (hk := ?_))))
        refine aSeq_t rfl (AOp.callNew rfl (backward_new bl.ins) (fun _ => rfl) rfl rfl fun p => ?_)
        refine sNt (hk := ?_)
        (repeat (first | refine sQ (hk := ?_) | refine sSkip (hk := ?_) | refine sOwn (hk := ?_)))
        refine aSeq_nil ?_
        refine h22 _ ?_
        refine nT (hk := ?_)
        refine Awp.via ⟨[.any, .lit (.pointer (some ⟨g1, 0, none⟩)), .any, .lit (.slice (some ⟨O, 0, none⟩) f.blocks.length f.blocks.length), .lit vw, .bs tInt.slice (befN f f.blocks.length), .any, .lit (.int .i64 (b : Int)), .lit (.pointer (some ⟨gn, 0, none⟩)), .any, .any, .any, .any, .any, .any, .any, .any, .any, .any, .any, .any, .any, .any, .any, .any, .any, .any, .any, .any, .any, .any, .any, .any, .any, .any, .any, .any, .any, .any, .any, .any, .any, .any, .any, .any, .any, .any, .any, .any, .any, .any, .any, .any, .any, .any, .any, .any, .any, .any, .any, .any, .any, .any, .any, .lit (bkF p), .any, .any, .any, .any, .any, .any, .any, .any, .any, .any, .any, .any, .any, .any, .any, .any, .any, .any, .any, .any, .any, .any, .any, .any, .any, .any, .any, .any, .any, .any, .any, .any, .any, .any, .any, .any, .any, .any], [.res (marksR ds), .res (boxR g1 (encFunc f)), .res (boxR O (ms.map cellM)), .res (rowR vw 3 tInt (i64s w0)), .res (mapsR ms Ss), .res (mapR S mn), .res (boxR gn [cellM mn]), .res (bkR bl.ins p)]⟩ (le_T) ?_
        refine Awp.block ?_
        obtain ⟨sg, hsg⟩ : ∃ sg : (Int → Bool) → List ABlk, sg = fun T => [.dead, .res (boxR g1 (encFunc f)), .res (boxR O (ms.map cellM)), .res (rowR vw 3 tInt (i64s w0)), .res (mapsR ms Ss), .res (mapR T mn), .res (boxR gn [cellM mn]), .dead] := ⟨_, rfl⟩
        refine Awp.rangeK 7 0 (fun k => sg (bkS bl.ins S k)) hrd (by kernel_rfl) rfl rfl rfl rfl ?hdrop ?hd1 ?hd2 ?hd3 rfl (bkE_cl _) (bkE_len _) (fun w T h1 h2 h3 => backward_iter bl.ins hsb.ins p w T h1 h2 h3) ?hround ?hdone
        case hdrop =>
          rw [bkS_zero, hsg]
          exact ⟨Cut.dead (Cut.cons (Cut.cons (Cut.cons (Cut.cons (Cut.cons (Cut.cons (Cut.dead (Cut.nil _)))))))), fun b hb => List.all_eq_true.1 (show bdH [.dead, .res (boxR g1 (encFunc f)), .res (boxR O (ms.map cellM)), .res (rowR vw 3 tInt (i64s w0)), .res (mapsR ms Ss), .res (mapR S mn), .res (boxR gn [cellM mn]), .dead] = true from rfl) b hb⟩
        case hd1 => rw [hsg]; rfl
        case hd2 => intro k; rw [hsg]; rfl
        case hd3 => intro k; rw [hsg]; rfl
        case hround =>
          intro k hk C' hr'
          obtain ⟨d, hd⟩ : ∃ d, bl.ins[bl.ins.length - 1 - k]? = some d := ⟨_, List.getElem?_eq_getElem (by omega)⟩
          have hmd := List.mem_of_getElem? hd
          have hbk : bkE bl.ins k = [.lit (.int .i64 ((bl.ins.length - 1 - k : Nat) : Int)), .agg (encIns d)] := by unfold bkE; rw [hd]
          have hsub := bkS_sub hSs (hLr bl hmem) k
          have hal : d.args.length ≤ 2097152 := by have := hsb.all d hmd; omega
          rw [hbk, hsg]
          refine Awp.nt2 (t' := [.any, .lit (.pointer (some ⟨g1, 0, none⟩)), .any, .lit (.slice (some ⟨O, 0, none⟩) f.blocks.length f.blocks.length), .lit vw, .bs tInt.slice (befN f f.blocks.length), .any, .lit (.int .i64 (b : Int)), .lit (.pointer (some ⟨gn, 0, none⟩)), .any, .any, .any, .any, .any, .any, .any, .any, .any, .any, .any, .any, .any, .any, .any, .any, .any, .any, .any, .any, .any, .any, .any, .any, .any, .any, .any, .any, .any, .any, .any, .any, .any, .any, .any, .any, .any, .any, .any, .any, .any, .any, .any, .any, .any, .any, .any, .any, .any, .any, .any, .any, .any, .any, .any, .lit (bkF p), .lit (.int .i64 ((bl.ins.length - 1 - k : Nat) : Int)), .agg (encIns d), .any, .any, .any, .any, .any, .any, .any, .any, .any, .any, .any, .any, .any, .any, .any, .any, .any, .any, .any, .any, .any, .any, .any, .any, .any, .any, .any, .any, .any, .any, .any, .any, .any, .any, .any, .any]) rfl rfl ?_
          (refine Awp.region ?_; (repeat (first | refine sQ (hk := ?_) | refine sSkip (hk := ?_) | refine sOwn (hk := ?_))); refine aSeq_nil ?_)
          refine athen_n ?_
          intro C'' hr''
          refine nT (hk := ?_)
          refine Awp.block ?_
          (refine Awp.region ?_; (repeat (first | refine sQ (hk := ?_) | refine sSkip (hk := ?_) | refine sOwn (hk := ?_))))
          refine aSeq_t rfl (AOp.callTurn (i := 5) rfl rfl (back_turn d _ (regsL f) mn (hob.ins d hmd) hal hRR hsub.inR (hLr bl hmem d hmd)) (fun _ => rfl) rfl rfl fun _ => ?_)
          refine sNt (hk := ?_)
          refine aSeq_nil ?_
          refine ⟨rfl, ?_⟩
          rw [bkS_succ hd hk]
          exact ⟨Cut.cons (Cut.cons (Cut.cons (Cut.cons (Cut.cons (Cut.cons (Cut.cons (Cut.cons (Cut.nil _)))))))), fun b hb => List.all_eq_true.1 (show bdH [.dead, .res (boxR g1 (encFunc f)), .res (boxR O (ms.map cellM)), .res (rowR vw 3 tInt (i64s w0)), .res (mapsR ms Ss), .res (mapR (backS d (bkS bl.ins S k)) mn), .res (boxR gn [cellM mn]), .dead] = true from rfl) b hb⟩
        case hdone =>
          intro D
          have hbf : (befN f f.blocks.length)[b]? = some (befL f b) := by
            unfold befL
            rw [List.getD_eq_getElem?_getD, List.getElem?_eq_getElem (by rw [befN_length]; exact hbn)]
            rfl
          have hbe := befN_le f f.blocks.length _ (List.mem_of_getElem? hbf)
          have hNs : Sub (regsL f) (inS bl.ins S) := hSs.inS (hLr bl hmem)
          rw [bkS_all, hsg]
          refine h21 _ ?_
          refine Awp.nt2 (t' := [.any, .lit (.pointer (some ⟨g1, 0, none⟩)), .any, .lit (.slice (some ⟨O, 0, none⟩) f.blocks.length f.blocks.length), .lit vw, .bs tInt.slice (befN f f.blocks.length), .any, .lit (.int .i64 (b : Int)), .lit (.pointer (some ⟨gn, 0, none⟩)), .any, .any, .any, .any, .any, .any, .any, .any, .any, .any, .any, .any, .any, .any, .any, .any, .any, .any, .any, .any, .any, .any, .any, .any, .any, .any, .any, .any, .any, .any, .any, .any, .any, .any, .any, .any, .any, .any, .any, .any, .any, .any, .any, .any, .any, .any, .any, .any, .any, .any, .any, .any, .any, .any, .any, .lit (bkF p), .any, .any, .any, .any, .any, .any, .any, .any, .any, .any, .any, .any, .any, .any, .any, .any, .any, .any, .any, .any, .any, .any, .any, .any, .any, .any, .any, .any, .any, .any, .any, .any, .any, .any, .any, .any, .any, .any]) (h' := [.res (marksR (D :: ds)), .res (boxR g1 (encFunc f)), .res (boxR O (ms.map cellM)), .res (rowR vw 3 tInt (i64s w0)), .res (mapsR ms Ss), .res (mapR (inS bl.ins S) mn), .res (boxR gn [cellM mn]), .dead]) rfl rfl ?_
          refine Awp.via _ (St.le_close 3 (ver := ver + 1) (t' := [.any, .lit (.pointer (some ⟨g1, 0, none⟩)), .any, .lit (.slice (some ⟨O, 0, none⟩) f.blocks.length f.blocks.length), .own 3 (ver + 1), .bs tInt.slice (befN f f.blocks.length), .any, .lit (.int .i64 (b : Int)), .lit (.pointer (some ⟨gn, 0, none⟩)), .any, .any, .any, .any, .any, .any, .any, .any, .any, .any, .any, .any, .any, .any, .any, .any, .any, .any, .any, .any, .any, .any, .any, .any, .any, .any, .any, .any, .any, .any, .any, .any, .any, .any, .any, .any, .any, .any, .any, .any, .any, .any, .any, .any, .any, .any, .any, .any, .any, .any, .any, .any, .any, .any, .any, .any, .any, .any, .any, .any, .any, .any, .any, .any, .any, .any, .any, .any, .any, .any, .any, .any, .any, .any, .any, .any, .any, .any, .any, .any, .any, .any, .any, .any, .any, .any, .any, .any, .any, .any, .any, .any, .any, .any]) rfl rfl (by (try simp only []); (repeat (first | exact Cls.nil | refine Cls.own ?_ | refine Cls.any ?_ | refine Cls.keep rfl ?_)))) ?_
          refine Awp.seq fun K30 h30 => ?_
          (refine Awp.region ?_; (repeat (first | refine sQ (hk := ?_) | refine sSkip (hk := ?_) | refine sOwn (hk := ?_))); refine aSeq_nil ?_)
          refine h30 _ ?_
          refine nT (hk := ?_)
          refine Awp.block ?_
          refine Awp.loopF (fun p : Nat × Nat × List Nat × List (Int → Bool) => ⟨[.any, .lit (.pointer (some ⟨g1, 0, none⟩)), .any, .lit (.slice (some ⟨O, 0, none⟩) f.blocks.length f.blocks.length), .own 3 p.2.1, .bs tInt.slice (befN f f.blocks.length), .any, .any, .lit (.pointer (some ⟨gn, 0, none⟩)), .any, .any, .any, .any, .any, .any, .any, .any, .any, .any, .any, .any, .any, .any, .any, .any, .any, .any, .any, .any, .any, .any, .any, .any, .any, .any, .any, .any, .any, .any, .any, .any, .any, .any, .any, .any, .any, .any, .any, .any, .any, .any, .any, .any, .any, .any, .any, .any, .any, .any, .any, .any, .any, .any, .any, .any, .any, .any, .any, .any, .any, .any, .any, .any, .bs tInt (befL f b), .lit (.int .i64 ((befL f b).length : Int)), .lit (.int .i64 (p.1 : Int)), .any, .any, .any, .any, .any, .any, .any, .any, .any, .any, .any, .any, .any, .any, .any, .any, .any, .any, .any, .any, .any, .any, .any, .any, .any, .any, .any], [.res (marksR (D :: ds)), .res (boxR g1 (encFunc f)), .res (boxR O (ms.map cellM)), .row p.2.1 3 tInt (i64s p.2.2.1), .res (mapsR ms p.2.2.2), .res (mapR (inS bl.ins S) mn), .res (boxR gn [cellM mn]), .dead]⟩) (fun p => p.1 ≤ (befL f b).length ∧ AllJ f (regsL f) b w0 Ss ((befL f b).take p.1) p.2.2.1 p.2.2.2) (fun p => (befL f b).length - p.1) (0, ver + 1, w0, Ss) ⟨Nat.zero_le _, hI.split⟩ (le_T) ?_
          rintro ⟨i, v2, wt, Ts⟩ ⟨hil, hJ⟩
          dsimp only at hil hJ ⊢
          have hless := hJ.less
          have hwt : wt.length ≤ 10000000000000 := by simp at hmu; omega
          refine Awp.seq fun K31 h31 => ?_
          (refine Awp.region ?_; (repeat (first | refine sQ (hk := ?_) | refine sSkip (hk := ?_) | refine sOwn (hk := ?_))); refine aSeq_nil ?_)
          refine h31 _ ?_
          refine nT (hk := ?_)
          refine Awp.seq fun K32 h32 => ?_
          refine Awp.cond rfl (fun hb33 => ?_) (fun hb33 => ?_)
          · have hlt : i < (befL f b).length := by simpa using hb33
            obtain ⟨x, hxb⟩ : ∃ x, (befL f b)[i]? = some x := ⟨_, List.getElem?_eq_getElem hlt⟩
            obtain ⟨k, hek, rfl⟩ := (befL_mem hbn x).1 (List.mem_of_getElem? hxb)
            have hkn := (edge_src hek).1
            obtain ⟨mk, hmk2⟩ : ∃ mk, ms[k]? = some mk := ⟨_, List.getElem?_eq_getElem (by omega)⟩
            obtain ⟨T, hTk⟩ : ∃ T, Ts[k]? = some T := ⟨_, List.getElem?_eq_getElem (by rw [hJ.len]; exact hkn)⟩
            have hmck : (ms.map cellM)[k]? = some (cellM mk) := by rw [List.getElem?_map, hmk2]; rfl
            have hatT : at_ Ts k = T := by unfold at_; rw [List.getD_eq_getElem?_getD, hTk]; rfl
            have hTs : Sub (regsL f) T := by have := hJ.sub k; rwa [hatT] at this
            have hUs : Sub (regsL f) (uni T (inS bl.ins S)) := fun r hr => by
              unfold uni at hr
              rw [Bool.or_eq_true] at hr
              rcases hr with hr | hr
              · exact hTs r hr
              · exact hNs r hr
            have hTk2 : (Ts.set k (uni T (inS bl.ins S)))[k]? = some (uni T (inS bl.ins S)) := List.getElem?_set_self (by rw [hJ.len]; exact hkn)
            have hstep := hJ.step hI hek hTk (by rw [hins]; exact hLr bl hmem)
            dsimp only at hstep
            rw [hins, hat] at hstep
            have htk2 : (befL f b).take (i + 1) = (befL f b).take i ++ [(k : Int)] := by rw [List.take_add_one, hxb]; rfl
            rw [← htk2] at hstep
            have hw := nat_wf (k := k) (by omega)
            have hn1 : (i64s wt).length + [(k : Int)].length ≤ maxLen := by rw [i64s_len]; simp [maxLen]; omega
            have hn2 : ((i64s wt).length + [(k : Int)].length) * 8 ≤ 140737488355328 := by rw [i64s_len]; simp; omega
            refine Awp.skip ?_
            refine h32 _ ?_
            refine nT (hk := ?_)
            refine Awp.seq fun K34 h34 => ?_
            refine Awp.block ?_
            refine Awp.seq fun K35 h35 => ?_
            (refine Awp.region ?_; (repeat (first | refine sQ (hk := ?_) | refine sSkip (hk := ?_) | refine sOwn (hk := ?_))); refine aSeq_nil ?_)
            refine h35 _ ?_
            refine nT (hk := ?_)
            refine Awp.seq fun K36 h36 => ?_
            (refine Awp.region ?_; (repeat (first | refine sQ (hq := Quiet.lenM (i := 4) rfl undSet rfl rfl (mapsR_set hmk2 hTk) hRR hTs.inR) (hk := ?_) | refine sQ (hk := ?_) | refine sSkip (hk := ?_) | refine sOwn (hk := ?_))); refine aSeq_nil ?_)
            refine h36 _ ?_
            refine nT (hk := ?_)
            refine Awp.seq fun K37 h37 => ?_
            (refine drawD 5 (hh := ?_); (repeat (first | refine qQ (hk := ?_) | refine qSkip (hk := ?_))); refine aQ_nil ?_; (repeat (first | (refine aSeq_t rfl (AOp.callTurn2 (i := 4) (j := 5) (by decide) rfl rfl rfl (copy_turn2 hmk2 hTk hRR hTs.inR hNs.inR) (fun _ => rfl) rfl rfl fun _ => ?_); refine sNt (hk := ?_)) | refine sQ (hk := ?_) | refine sSkip (hk := ?_) | refine sOwn (hk := ?_))); refine aSeq_nil ?_)
            refine h37 _ ?_
            refine nT (hk := ?_)
            refine Awp.seq fun K38 h38 => ?_
            rcases hc : decide ((((regsL f).filter (uni T (inS bl.ins S))).length : Int) > (((regsL f).filter T).length : Int)) with _ | _
            · rw [if_neg (by simpa using hc)] at hstep
              (refine Awp.region ?_; (repeat (first | refine sQ (hq := Quiet.lenM (i := 4) rfl undSet rfl rfl (mapsR_set hmk2 hTk2) hRR hUs.inR) (hk := ?_) | refine sQ (hk := ?_) | refine sSkip (hk := ?_) | refine sOwn (hk := ?_))); refine aSeq_nil ?_)
              refine h38 _ ?_
              refine nT (hk := ?_)
              refine Awp.cond rfl (fun hb39 => by cases hb39) (fun hb39 => ?_)
              refine Awp.skip ?_
              refine h34 _ ?_
              refine nT (hk := ?_)
              (refine Awp.region ?_; (repeat (first | refine sQ (hk := ?_) | refine sSkip (hk := ?_) | refine sOwn (hk := ?_))); refine aSeq_nil ?_)
              refine athen_n ⟨(i + 1, v2, wt, Ts.set k (uni T (inS bl.ins S))), ⟨by omega, hstep⟩, by dsimp only; omega, ?_⟩
              exact le_T
            · rw [if_pos (by simpa using hc)] at hstep
              (refine Awp.region ?_; (repeat (first | refine sQ (hq := Quiet.lenM (i := 4) rfl undSet rfl rfl (mapsR_set hmk2 hTk2) hRR hUs.inR) (hk := ?_) | refine sQ (hk := ?_) | refine sSkip (hk := ?_) | refine sOwn (hk := ?_))); refine aSeq_nil ?_)
              refine h38 _ ?_
              refine nT (hk := ?_)
              refine Awp.cond rfl (fun hb39 => ?_) (fun hb39 => by cases hb39)
              (refine Awp.region ?_; (repeat (first | refine sQ (hk := ?_) | refine sSkip (hk := ?_) | refine sOwn (hk := ?_))); refine aSeq_nil ?_)
              refine h34 _ ?_
              refine nT (hk := ?_)
              (refine Awp.region ?_; (repeat (first | refine sQ (hk := ?_) | refine sSkip (hk := ?_) | refine sOwn (hk := ?_))); refine aSeq_nil ?_)
              refine athen_n ⟨(i + 1, v2 + 1, wt ++ [k], Ts.set k (uni T (inS bl.ins S))), ⟨by omega, hstep⟩, by dsimp only; omega, ?_⟩
              dsimp only
              rw [i64s_snoc]
              exact le_T
          · refine Awp.exit ?_
            have hie : i = (befL f b).length := by have : ¬ i < (befL f b).length := by simpa using hb33
                                                   omega
            subst hie
            rw [List.take_length] at hJ
            refine athen_x (athen_x ?_)
            refine ablock_hit ?_
            refine ablock_n ?_
            refine athen_n ⟨(D :: ds, v2, wt, Ts), ⟨hJ.done_all hI, by dsimp only; simp at hmu; omega⟩, by dsimp only; simp; omega, ?_⟩
            dsimp only
            exact le_C (Cut.cons (Cut.cons (Cut.cons (Cut.cons (Cut.cons (Cut.nil _))))))
      · refine Awp.exit ?_
        have hw0 : wait = [] := List.eq_nil_of_length_eq_zero (by
          have : ¬ (0 : Int) < ((i64s wait).length : Int) := by simpa using hb17
          rw [i64s_len] at this
          omega)
        subst hw0
        refine h13 _ ?_
        refine nT (hk := ?_)
        have hend := hI.end_
        have hln := hI.len
        subst hend
        refine Awp.via _ (St.le_setsA (i := 2) (j := 4) (by decide) rfl rfl) ?_
        refine Awp.seq fun K23 h23 => ?_
        (refine Awp.region ?_; (repeat (first | refine sQ (hk := ?_) | refine sSkip (hk := ?_) | refine sOwn (hk := ?_))); refine aSeq_nil ?_)
        refine h23 _ ?_
        refine nT (hk := ?_)
        refine Awp.ret ?_
        exact ⟨.inr rfl, ds, rfl, rfl, Fin.sets (i := 2) (p := (O, ms)) rfl hln hmx⟩
end Mu
end
section
/-
  live.In, Out, At, Most, walked.
  Conditions: at most 2^21 of everything.
-/
namespace Mu
open Go Go.RowKit Go.Proofs Go.Maps
instance : AG Try.prog 48 false 1 := ⟨by kernel_rfl⟩
instance : SZ Try.prog 48 1 := ⟨by kernel_rfl⟩
instance : ES Try.prog 48 1 := ⟨by kernel_rfl⟩
instance : SL Try.prog 48 := ⟨by kernel_rfl⟩
instance : RT Try.prog 48 22 1 24 := ⟨by kernel_rfl⟩
instance : AG Try.prog 22 false 1 := ⟨by kernel_rfl⟩
instance : SZ Try.prog 22 1 := ⟨by kernel_rfl⟩
instance : ES Try.prog 22 1 := ⟨by kernel_rfl⟩
instance : SL Try.prog 22 := ⟨by kernel_rfl⟩
instance : RT Try.prog 22 3 1 8 := ⟨by kernel_rfl⟩
instance : AG Try.prog 29 false 1 := ⟨by kernel_rfl⟩
instance : SZ Try.prog 29 1 := ⟨by kernel_rfl⟩
instance : ES Try.prog 29 2 := ⟨by kernel_rfl⟩
instance : SL Try.prog 29 := ⟨by kernel_rfl⟩
instance : RT Try.prog 29 42 2 40 := ⟨by kernel_rfl⟩
instance : AG Try.prog 42 true 2 := ⟨by kernel_rfl⟩
instance : SZ Try.prog 42 2 := ⟨by kernel_rfl⟩

theorem places_fold {R : List Int} {ds : List Ins} {S : Int → Bool} : ∀ (k : Nat), k ≤ ds.length → ∀ p : (Int → Bool) × List (List Int), p.1 = inS (ds.drop k) S → p.2.length = ds.length + 1 →
    ((List.range k).reverse.foldl (stepP R ds) p).2 = (List.range k).map (fun j => R.filter (inS (ds.drop j) S)) ++ p.2.drop k
  | 0, _, p, _, _ => by simp
  | k + 1, hk, p, h1, h2 => by
    have hd : ds[k]? = some (ds[k]'(by omega)) := List.getElem?_eq_getElem (by omega)
    have hb : stepB ds p.1 k = inS (ds.drop k) S := by
      unfold stepB
      rw [hd, h1, List.drop_eq_getElem_cons (i := k) (by omega)]
      rfl
    rw [List.range_succ, List.reverse_append, List.reverse_singleton, List.singleton_append, List.foldl_cons, places_fold k (by omega) (stepP R ds p k) hb (by simp [stepP, h2])]
    simp only [stepP, hb, List.map_append, List.map_cons, List.map_nil, List.append_assoc, List.singleton_append]
    congr 1
    rw [List.drop_eq_getElem_cons (i := k) (by simp; omega), List.getElem_set_self, List.drop_set_of_lt (by omega)]
theorem placesL_eq (R : List Int) (ds : List Ins) (S : Int → Bool) : placesL R ds S = (List.range (ds.length + 1)).map fun i => R.filter (inS (ds.drop i) S) := by
  unfold placesL placesN
  rw [places_fold ds.length (Nat.le_refl _) _ (by rw [List.drop_eq_nil_of_le (Nat.le_refl _)]; rfl) (by simp), List.range_succ, List.map_append]
  congr 1
  rw [List.drop_set]
  simp [List.drop_replicate, inS]
/-- what is live at the places of a block -/
theorem atL_eq (f : Func) (b : Nat) : placesL (regsL f) (insOf f b) (outS f b) = blockL f b := by
  rw [placesL_eq]
  unfold blockL placeL
  refine List.map_congr_left fun i _ => ?_
  congr 1
  funext r
  exact (liveAt_eq f (outS f b) b i (fun r => outS_iff) r).symm
theorem blockL_len (f : Func) (b : Nat) : (blockL f b).length = (insOf f b).length + 1 := by simp [blockL]
theorem allL_len (f : Func) : (allL f).length = f.blocks.length := by simp [allL]
noncomputable def inL (f : Func) (b : Nat) : List Int := (regsL f).filter (inS (insOf f b) (outS f b))
noncomputable def outL (f : Func) (b : Nat) : List Int := (regsL f).filter (outS f b)
noncomputable def inF (f : Func) : List (List Int) := (List.range f.blocks.length).map (inL f)
noncomputable def outF (f : Func) : List (List Int) := (List.range f.blocks.length).map (outL f)
def atF (f : Func) (b : Int) : List (List Int) := if 0 ≤ b ∧ b < f.blocks.length then blockL f b.toNat else []
def mxI (n : Int) (l : List Int) : Int := if (l.length : Int) > n then (l.length : Int) else n
def mxB (n : Int) (ls : List (List Int)) : Int := ls.foldl mxI n
def mostF (f : Func) : Int := (allL f).foldl mxB 0
theorem blockL_first (f : Func) (b : Nat) : (blockL f b)[0]? = some (inL f b) := by
  rw [← atL_eq, placesL_eq, List.getElem?_map, List.getElem?_range (by omega)]
  rfl
theorem blockL_last (f : Func) (b : Nat) : (blockL f b)[(insOf f b).length]? = some (outL f b) := by
  rw [← atL_eq, placesL_eq, List.getElem?_map, List.getElem?_range (by omega)]
  simp [inS, outL]
theorem range_snoc {α : Type} (g : Nat → α) (b : Nat) : (List.range (b + 1)).map g = (List.range b).map g ++ [g b] := by rw [List.range_succ, List.map_append]; rfl

set_option maxRecDepth 100000 in
set_option maxHeartbeats 1000000 in
theorem in_fn (f : Func) (ho : okFunc f) (hs : smallF f) (hT : (allReads f).length ≤ 2097152) : Fn Try.prog 28 [.agg (encFunc f)] (.bs tInt.slice (inF f)) := by
  have hbl := hs.blocks
  have hRR := regsR_of f ho hT
  have hLr : ∀ b ∈ f.blocks, ∀ x ∈ b.ins, ∀ r ∈ readsC x, r ∈ regsL f := fun b hb x hx r hr => regsL_mem.2 ⟨b, hb, x, hx, hr⟩
  refine Fn.of_awp Try.func28 rfl (by kernel_rfl) rfl Try.ntmps28 fun C hC => ?_
  simp only [List.length_cons, List.length_nil, Nat.reduceAdd, Nat.reduceSub, List.replicate_succ, List.replicate_zero, List.cons_append, List.nil_append]
  refine Awp.seq fun K1 h1 => ?_
  (refine Awp.region ?_; (repeat (first | refine sQ (hk := ?_) | refine sSkip (hk := ?_) | refine sOwn (hk := ?_))); refine aSeq_nil ?_)
  refine h1 _ ?_
  refine nT (hk := ?_)
  refine Awp.seq fun K2 h2 => ?_
  (refine Awp.region ?_; (repeat (first | refine sQ (hk := ?_) | refine sSkip (hk := ?_) | refine sOwn (hk := ?_))); refine aSeq_nil ?_)
  refine h2 _ ?_
  refine nT (hk := ?_)
  refine Awp.seq fun K3 h3 => ?_
  refine Awp.seq fun K4 h4 => ?_
  (refine Awp.region ?_; (repeat (first | refine sQ (hq := Quiet.call rfl (all_fn f ho hs hT) rfl rfl rfl) (hk := ?_) | refine sQ (hk := ?_) | refine sSkip (hk := ?_) | refine sOwn (hk := ?_))); refine aSeq_nil ?_)
  refine h4 _ ?_
  refine nT (hk := ?_)
  refine Awp.block ?_
  refine Awp.loopF (fun p : Nat × Nat => ⟨[.any, .ptr 0 0, .any, .own 1 p.2, .any, .any, .any, .bs tSet ((List.range f.blocks.length).map (outS f)), .lit (.int .i64 (f.blocks.length : Int)), .lit (.int .i64 (p.1 : Int)), .any, .any, .any, .any, .any, .any, .any, .any, .any, .any, .any, .any, .any, .any, .any, .any, .any, .any], [.box (encFunc f), .row p.2 22 tInt.slice ((List.range p.1).map (inL f))]⟩) (fun p => p.1 ≤ f.blocks.length) (fun p => f.blocks.length - p.1) (0, 0) (Nat.zero_le _) ((St.le_nil 3 22 tInt.slice rfl (by decide)).trans (St.le_t rfl (by rw [List.length_map, List.length_range]; exact (by (try simp only [List.set_cons_zero, List.set_cons_succ]); repeat (first | exact Fgt.nil | refine Fgt.keep rfl ?_ | refine Fgt.any ?_))))) ?_
  rintro ⟨b, ver⟩ hbn
  dsimp only at hbn ⊢
  refine Awp.seq fun K6 h6 => ?_
  (refine Awp.region ?_; (repeat (first | refine sQ (hk := ?_) | refine sSkip (hk := ?_) | refine sOwn (hk := ?_))); refine aSeq_nil ?_)
  refine h6 _ ?_
  refine nT (hk := ?_)
  refine Awp.seq fun K7 h7 => ?_
  refine Awp.cond rfl (fun hb8 => ?_) (fun hb8 => ?_)
  · have hlt : b < f.blocks.length := by simpa using hb8
    obtain ⟨bl, hblk⟩ : ∃ bl, f.blocks[b]? = some bl := ⟨_, List.getElem?_eq_getElem hlt⟩
    have hmem := List.mem_of_getElem? hblk
    have hins : insOf f b = bl.ins := by unfold insOf; rw [hblk]
    have hset : ((List.range f.blocks.length).map (outS f))[b]? = some (outS f b) := by rw [List.getElem?_map, List.getElem?_range hlt]; rfl
    have hp0 : (placesL (regsL f) bl.ins (outS f b))[(0 : Int).toNat]? = some (inL f b) := by rw [← hins, atL_eq]; exact blockL_first f b
    have hn1 : ((List.range b).map (inL f)).length + [inL f b].length ≤ maxLen := by simp [maxLen]; omega
    have hn2 : (((List.range b).map (inL f)).length + [inL f b].length) * 24 ≤ 140737488355328 := by simp; omega
    refine Awp.skip ?_
    refine h7 _ ?_
    refine nT (hk := ?_)
    refine Awp.seq fun K9 h9 => ?_
    refine Awp.block ?_
    refine Awp.seq fun K10 h10 => ?_
    (refine Awp.region ?_; (repeat (first | refine sQ (hk := ?_) | refine sSkip (hk := ?_) | refine sOwn (hk := ?_))); refine aSeq_nil ?_)
    refine h10 _ ?_
    refine nT (hk := ?_)
    (refine Awp.region ?_; (repeat (first | refine sQ (hq := Quiet.call rfl (places_fn bl (outS f b) (regsL f) (ho.blocks bl hmem) (hs.all bl hmem) hRR (outS_sub hLr b) (hLr bl hmem)) rfl rfl rfl) (hk := ?_) | refine sQ (hk := ?_) | refine sSkip (hk := ?_) | refine sOwn (hk := ?_))); refine aSeq_nil ?_)
    refine h9 _ ?_
    refine nT (hk := ?_)
    (refine Awp.region ?_; (repeat (first | refine sQ (hk := ?_) | refine sSkip (hk := ?_) | refine sOwn (hk := ?_))); refine aSeq_nil ?_)
    refine athen_n ⟨(b + 1, ver + 1), by dsimp only; omega, by dsimp only; omega, ?_⟩
    dsimp only
    rw [range_snoc]
    exact le_T
  · refine Awp.exit ?_
    have hbe : b = f.blocks.length := by have : ¬ b < f.blocks.length := by simpa using hb8
                                         omega
    subst hbe
    refine h3 _ ?_
    refine nT (hk := ?_)
    refine Awp.seq fun K11 h11 => ?_
    (refine Awp.region ?_; (repeat (first | refine sQ (hk := ?_) | refine sSkip (hk := ?_) | refine sOwn (hk := ?_))); refine aSeq_nil ?_)
    refine h11 _ ?_
    refine nT (hk := ?_)
    refine Awp.ret ?_
    exact ⟨.inr rfl, Fin.own rfl⟩

set_option maxRecDepth 100000 in
set_option maxHeartbeats 1000000 in
theorem out_fn (f : Func) (ho : okFunc f) (hs : smallF f) (hT : (allReads f).length ≤ 2097152) : Fn Try.prog 29 [.agg (encFunc f)] (.bs tInt.slice (outF f)) := by
  have hbl := hs.blocks
  have hRR := regsR_of f ho hT
  have hLr : ∀ b ∈ f.blocks, ∀ x ∈ b.ins, ∀ r ∈ readsC x, r ∈ regsL f := fun b hb x hx r hr => regsL_mem.2 ⟨b, hb, x, hx, hr⟩
  refine Fn.of_awp Try.func29 rfl (by kernel_rfl) rfl Try.ntmps29 fun C hC => ?_
  simp only [List.length_cons, List.length_nil, Nat.reduceAdd, Nat.reduceSub, List.replicate_succ, List.replicate_zero, List.cons_append, List.nil_append]
  refine Awp.seq fun K1 h1 => ?_
  (refine Awp.region ?_; (repeat (first | refine sQ (hk := ?_) | refine sSkip (hk := ?_) | refine sOwn (hk := ?_))); refine aSeq_nil ?_)
  refine h1 _ ?_
  refine nT (hk := ?_)
  refine Awp.seq fun K2 h2 => ?_
  (refine Awp.region ?_; (repeat (first | refine sQ (hk := ?_) | refine sSkip (hk := ?_) | refine sOwn (hk := ?_))); refine aSeq_nil ?_)
  refine h2 _ ?_
  refine nT (hk := ?_)
  refine Awp.seq fun K3 h3 => ?_
  refine Awp.seq fun K4 h4 => ?_
  (refine Awp.region ?_; (repeat (first | refine sQ (hq := Quiet.call rfl (all_fn f ho hs hT) rfl rfl rfl) (hk := ?_) | refine sQ (hk := ?_) | refine sSkip (hk := ?_) | refine sOwn (hk := ?_))); refine aSeq_nil ?_)
  refine h4 _ ?_
  refine nT (hk := ?_)
  refine Awp.block ?_
  refine Awp.loopF (fun p : Nat × Nat => ⟨[.any, .any, .any, .own 1 p.2, .any, .any, .any, .bs tSet ((List.range f.blocks.length).map (outS f)), .lit (.int .i64 (f.blocks.length : Int)), .lit (.int .i64 (p.1 : Int)), .any, .any, .any, .any, .any, .any, .any, .any, .any, .any], [.box (encFunc f), .row p.2 22 tInt.slice ((List.range p.1).map (outL f))]⟩) (fun p => p.1 ≤ f.blocks.length) (fun p => f.blocks.length - p.1) (0, 0) (Nat.zero_le _) ((St.le_nil 3 22 tInt.slice rfl (by decide)).trans (St.le_t rfl (by rw [List.length_map, List.length_range]; exact (by (try simp only [List.set_cons_zero, List.set_cons_succ]); repeat (first | exact Fgt.nil | refine Fgt.keep rfl ?_ | refine Fgt.any ?_))))) ?_
  rintro ⟨b, ver⟩ hbn
  dsimp only at hbn ⊢
  refine Awp.seq fun K6 h6 => ?_
  (refine Awp.region ?_; (repeat (first | refine sQ (hk := ?_) | refine sSkip (hk := ?_) | refine sOwn (hk := ?_))); refine aSeq_nil ?_)
  refine h6 _ ?_
  refine nT (hk := ?_)
  refine Awp.seq fun K7 h7 => ?_
  refine Awp.cond rfl (fun hb8 => ?_) (fun hb8 => ?_)
  · have hlt : b < f.blocks.length := by simpa using hb8
    obtain ⟨bl, hblk⟩ : ∃ bl, f.blocks[b]? = some bl := ⟨_, List.getElem?_eq_getElem hlt⟩
    have hmem := List.mem_of_getElem? hblk
    have hins : insOf f b = bl.ins := by unfold insOf; rw [hblk]
    have hset : ((List.range f.blocks.length).map (outS f))[b]? = some (outS f b) := by rw [List.getElem?_map, List.getElem?_range hlt]; rfl
    have hn1 : ((List.range b).map (outL f)).length + [outL f b].length ≤ maxLen := by simp [maxLen]; omega
    have hn2 : (((List.range b).map (outL f)).length + [outL f b].length) * 24 ≤ 140737488355328 := by simp; omega
    refine Awp.skip ?_
    refine h7 _ ?_
    refine nT (hk := ?_)
    refine Awp.seq fun K9 h9 => ?_
    refine Awp.block ?_
    refine Awp.seq fun K10 h10 => ?_
    (refine Awp.region ?_; (repeat (first | refine sQ (hk := ?_) | refine sSkip (hk := ?_) | refine sOwn (hk := ?_))); refine aSeq_nil ?_)
    refine h10 _ ?_
    refine nT (hk := ?_)
    (refine Awp.region ?_; (repeat (first | refine sQ (hq := Quiet.call (r := .bs tInt (outL f b)) rfl (list_fn (outS f b) (regsL f) hRR (outS_sub hLr b)) rfl rfl rfl) (hk := ?_) | refine sQ (hk := ?_) | refine sSkip (hk := ?_) | refine sOwn (hk := ?_))); refine aSeq_nil ?_)
    refine h9 _ ?_
    refine nT (hk := ?_)
    (refine Awp.region ?_; (repeat (first | refine sQ (hk := ?_) | refine sSkip (hk := ?_) | refine sOwn (hk := ?_))); refine aSeq_nil ?_)
    refine athen_n ⟨(b + 1, ver + 1), by dsimp only; omega, by dsimp only; omega, ?_⟩
    dsimp only
    rw [range_snoc]
    exact le_T
  · refine Awp.exit ?_
    have hbe : b = f.blocks.length := by have : ¬ b < f.blocks.length := by simpa using hb8
                                         omega
    subst hbe
    refine h3 _ ?_
    refine nT (hk := ?_)
    refine Awp.seq fun K11 h11 => ?_
    (refine Awp.region ?_; (repeat (first | refine sQ (hk := ?_) | refine sSkip (hk := ?_) | refine sOwn (hk := ?_))); refine aSeq_nil ?_)
    refine h11 _ ?_
    refine nT (hk := ?_)
    refine Awp.ret ?_
    exact ⟨.inr rfl, Fin.own rfl⟩

theorem Fin.nilRow {h : List ABlk} {α : Type} {T : Ty α} (hm : mkD h = [] := by rfl) : Fin h (.lit (.slice none 0 0)) (.bs T []) := ⟨hm, fun C S ψ w v hC H hv => ⟨S, fun _ h => h, fun _ h => .inl h, H.lt, by
  unfold AV.rel at hv ⊢
  rw [hv]
  exact T.slice_nilS _ _⟩⟩

set_option maxRecDepth 100000 in
set_option maxHeartbeats 1000000 in
theorem at_fn (f : Func) (b : Int) (ho : okFunc f) (hs : smallF f) (hT : (allReads f).length ≤ 2097152) : Fn Try.prog 30 [.agg (encFunc f), .lit (.int .i64 b)] (.bs tInt.slice (atF f b)) := by
  have hbl := hs.blocks
  have hRR := regsR_of f ho hT
  have hLr : ∀ b ∈ f.blocks, ∀ x ∈ b.ins, ∀ r ∈ readsC x, r ∈ regsL f := fun b hb x hx r hr => regsL_mem.2 ⟨b, hb, x, hx, hr⟩
  refine Fn.of_awp Try.func30 rfl (by kernel_rfl) rfl Try.ntmps30 fun C hC => ?_
  simp only [List.length_cons, List.length_nil, Nat.reduceAdd, Nat.reduceSub, List.replicate_succ, List.replicate_zero, List.cons_append, List.nil_append]
  refine Awp.seq fun K1 h1 => ?_
  (refine Awp.region ?_; (repeat (first | refine sQ (hk := ?_) | refine sSkip (hk := ?_) | refine sOwn (hk := ?_))); refine aSeq_nil ?_)
  refine h1 _ ?_
  refine nT (hk := ?_)
  refine Awp.seq fun K2 h2 => ?_
  refine Awp.seq fun K3 h3 => ?_
  rcases hd1 : decide (b < 0) with _ | _
  · rcases hd2 : decide (b ≥ (f.blocks.length : Int)) with _ | _
    · have h0 : 0 ≤ b := by simpa using hd1
      have hlt : b.toNat < f.blocks.length := by have : b < (f.blocks.length : Int) := by simpa using hd2
                                                 omega
      obtain ⟨bl, hblk⟩ : ∃ bl, f.blocks[b.toNat]? = some bl := ⟨_, List.getElem?_eq_getElem hlt⟩
      have hmem := List.mem_of_getElem? hblk
      have hins : insOf f b.toNat = bl.ins := by unfold insOf; rw [hblk]
      have hset : ((List.range f.blocks.length).map (outS f))[b.toNat]? = some (outS f b.toNat) := by rw [List.getElem?_map, List.getElem?_range hlt]; rfl
      have hres : atF f b = placesL (regsL f) bl.ins (outS f b.toNat) := by
        unfold atF
        rw [if_pos ⟨h0, by omega⟩, ← hins, atL_eq]
      (refine Awp.region ?_; (repeat (first | refine sQ (hk := ?_) | refine sSkip (hk := ?_) | refine sOwn (hk := ?_))); refine aSeq_nil ?_)
      refine h3 _ ?_
      refine nT (hk := ?_)
      refine Awp.cond rfl (fun hb4 => by cases hb4) (fun hb4 => ?_)
      refine Awp.skip ?_
      refine h2 _ ?_
      refine nT (hk := ?_)
      refine Awp.seq fun K6 h6 => ?_
      (refine drawD 12 (hh := ?_); (repeat (first | refine qQ (hq := Quiet.call rfl (all_fn f ho hs hT) rfl rfl rfl) (hk := ?_) | refine qQ (hq := Quiet.call rfl (places_fn bl (outS f b.toNat) (regsL f) (ho.blocks bl hmem) (hs.all bl hmem) hRR (outS_sub hLr _) (hLr bl hmem)) rfl rfl rfl) (hk := ?_) | refine qQ (hk := ?_) | refine qSkip (hk := ?_))); refine aQ_nil ?_; (repeat (first | refine sQ (hq := Quiet.call rfl (all_fn f ho hs hT) rfl rfl rfl) (hk := ?_) | refine sQ (hq := Quiet.call rfl (places_fn bl (outS f b.toNat) (regsL f) (ho.blocks bl hmem) (hs.all bl hmem) hRR (outS_sub hLr _) (hLr bl hmem)) rfl rfl rfl) (hk := ?_) | refine sQ (hk := ?_) | refine sSkip (hk := ?_) | refine sOwn (hk := ?_))); refine aSeq_nil ?_)
      refine h6 _ ?_
      refine nT (hk := ?_)
      refine Awp.ret ?_
      rw [hres]
      exact ⟨.inr rfl, Fin.cl rfl⟩
    · have hres : atF f b = [] := by
        have : (f.blocks.length : Int) ≤ b := by simpa using hd2
        unfold atF
        rw [if_neg (by omega)]
      (refine Awp.region ?_; (repeat (first | refine sQ (hk := ?_) | refine sSkip (hk := ?_) | refine sOwn (hk := ?_))); refine aSeq_nil ?_)
      refine h3 _ ?_
      refine nT (hk := ?_)
      refine Awp.cond rfl (fun hb4 => ?_) (fun hb4 => by cases hb4)
      refine Awp.seq fun K5 h5 => ?_
      (refine Awp.region ?_; (repeat (first | refine sQ (hk := ?_) | refine sSkip (hk := ?_) | refine sOwn (hk := ?_))); refine aSeq_nil ?_)
      refine h5 _ ?_
      refine nT (hk := ?_)
      refine Awp.ret ?_
      rw [hres]
      exact ⟨.inr rfl, Fin.nilRow⟩
  · have hres : atF f b = [] := by
      have : b < 0 := by simpa using hd1
      unfold atF
      rw [if_neg (by omega)]
    (refine Awp.region ?_; (repeat (first | refine sQ (hk := ?_) | refine sSkip (hk := ?_) | refine sOwn (hk := ?_))); refine aSeq_nil ?_)
    refine h3 _ ?_
    refine nT (hk := ?_)
    refine Awp.cond rfl (fun hb4 => ?_) (fun hb4 => by cases hb4)
    refine Awp.seq fun K5 h5 => ?_
    (refine Awp.region ?_; (repeat (first | refine sQ (hk := ?_) | refine sSkip (hk := ?_) | refine sOwn (hk := ?_))); refine aSeq_nil ?_)
    refine h5 _ ?_
    refine nT (hk := ?_)
    refine Awp.ret ?_
    rw [hres]
    exact ⟨.inr rfl, Fin.nilRow⟩

theorem fold_take_succ {α β : Type} (g : β → α → β) (z : β) {l : List α} {i : Nat} {x : α} (h : l[i]? = some x) : (l.take (i + 1)).foldl g z = g ((l.take i).foldl g z) x := by
  rw [List.take_add_one, h, List.foldl_append]
  rfl
set_option maxRecDepth 100000 in
set_option maxHeartbeats 1000000 in
theorem most_fn (f : Func) (ho : okFunc f) (hs : smallF f) (hT : (allReads f).length ≤ 2097152) : Fn Try.prog 32 [.agg (encFunc f)] (.lit (.int .i64 (mostF f))) := by
  have hbl := hs.blocks
  have hRR := regsR_of f ho hT
  have hLr : ∀ b ∈ f.blocks, ∀ x ∈ b.ins, ∀ r ∈ readsC x, r ∈ regsL f := fun b hb x hx r hr => regsL_mem.2 ⟨b, hb, x, hx, hr⟩
  refine Fn.of_awp Try.func32 rfl (by kernel_rfl) rfl Try.ntmps32 fun C hC => ?_
  simp only [List.length_cons, List.length_nil, Nat.reduceAdd, Nat.reduceSub, List.replicate_succ, List.replicate_zero, List.cons_append, List.nil_append]
  refine Awp.seq fun K1 h1 => ?_
  (refine Awp.region ?_; (repeat (first | refine sQ (hk := ?_) | refine sSkip (hk := ?_) | refine sOwn (hk := ?_))); refine aSeq_nil ?_)
  refine h1 _ ?_
  refine nT (hk := ?_)
  refine Awp.seq fun K2 h2 => ?_
  (refine Awp.region ?_; (repeat (first | refine sQ (hk := ?_) | refine sSkip (hk := ?_) | refine sOwn (hk := ?_))); refine aSeq_nil ?_)
  refine h2 _ ?_
  refine nT (hk := ?_)
  refine Awp.seq fun K3 h3 => ?_
  refine Awp.seq fun K4 h4 => ?_
  (refine Awp.region ?_; (repeat (first | refine sQ (hq := Quiet.call rfl (all_fn f ho hs hT) rfl rfl rfl) (hk := ?_) | refine sQ (hk := ?_) | refine sSkip (hk := ?_) | refine sOwn (hk := ?_))); refine aSeq_nil ?_)
  refine h4 _ ?_
  refine nT (hk := ?_)
  refine Awp.block ?_
  refine Awp.loopF (fun p : Nat => ⟨[.any, .ptr 0 0, .any, .lit (.int .i64 (((allL f).take p).foldl mxB 0)), .any, .any, .any, .any, .any, .bs tSet ((List.range f.blocks.length).map (outS f)), .lit (.int .i64 (f.blocks.length : Int)), .lit (.int .i64 (p : Int)), .any, .any, .any, .any, .any, .any, .any, .any, .any, .any, .any, .any, .any, .any, .any, .any, .any, .any, .any, .any, .any, .any, .any], [.box (encFunc f)]⟩) (fun p => p ≤ f.blocks.length) (fun p => f.blocks.length - p) 0 (Nat.zero_le _) (St.le_t rfl (by rw [List.length_map, List.length_range]; exact (by (try simp only []); repeat (first | exact Fgt.nil | refine Fgt.keep rfl ?_ | refine Fgt.any ?_)))) ?_
  intro b hbn
  dsimp only at hbn ⊢
  refine Awp.seq fun K6 h6 => ?_
  (refine Awp.region ?_; (repeat (first | refine sQ (hk := ?_) | refine sSkip (hk := ?_) | refine sOwn (hk := ?_))); refine aSeq_nil ?_)
  refine h6 _ ?_
  refine nT (hk := ?_)
  refine Awp.seq fun K7 h7 => ?_
  refine Awp.cond rfl (fun hb8 => ?_) (fun hb8 => ?_)
  · have hlt : b < f.blocks.length := by simpa using hb8
    obtain ⟨bl, hblk⟩ : ∃ bl, f.blocks[b]? = some bl := ⟨_, List.getElem?_eq_getElem hlt⟩
    have hmem := List.mem_of_getElem? hblk
    have hins : insOf f b = bl.ins := by unfold insOf; rw [hblk]
    have hset : ((List.range f.blocks.length).map (outS f))[b]? = some (outS f b) := by rw [List.getElem?_map, List.getElem?_range hlt]; rfl
    have hall : (allL f)[b]? = some (blockL f b) := by unfold allL; rw [List.getElem?_map, List.getElem?_range hlt]; rfl
    have hbe := fold_take_succ mxB 0 hall
    have hpl : placesL (regsL f) bl.ins (outS f b) = blockL f b := by rw [← hins, atL_eq]
    have hbll : (blockL f b).length ≤ 2097153 := by rw [blockL_len, hins]; have := (hs.all bl hmem).ins; omega
    generalize hn0 : ((allL f).take b).foldl mxB 0 = n0 at hbe ⊢
    refine Awp.skip ?_
    refine h7 _ ?_
    refine nT (hk := ?_)
    refine Awp.seq fun K9 h9 => ?_
    refine Awp.block ?_
    refine Awp.seq fun K10 h10 => ?_
    (refine Awp.region ?_; (repeat (first | refine sQ (hk := ?_) | refine sSkip (hk := ?_) | refine sOwn (hk := ?_))); refine aSeq_nil ?_)
    refine h10 _ ?_
    refine nT (hk := ?_)
    refine Awp.seq fun K11 h11 => ?_
    (refine Awp.region ?_; (repeat (first | refine sQ (hq := Quiet.call rfl (by have := places_fn bl (outS f b) (regsL f) (ho.blocks bl hmem) (hs.all bl hmem) hRR (outS_sub hLr b) (hLr bl hmem); rw [hpl] at this; exact this) rfl rfl rfl) (hk := ?_) | refine sQ (hk := ?_) | refine sSkip (hk := ?_) | refine sOwn (hk := ?_))); refine aSeq_nil ?_)
    refine h11 _ ?_
    refine nT (hk := ?_)
    refine Awp.block ?_
    refine Awp.loopF (fun p : Nat => ⟨[.any, .ptr 0 0, .any, .lit (.int .i64 (mxB n0 ((blockL f b).take p))), .any, .any, .any, .any, .any, .bs tSet ((List.range f.blocks.length).map (outS f)), .lit (.int .i64 (f.blocks.length : Int)), .lit (.int .i64 (b : Int)), .any, .any, .any, .any, .any, .any, .any, .any, .any, .any, .bs tInt.slice (blockL f b), .lit (.int .i64 ((blockL f b).length : Int)), .lit (.int .i64 (p : Int)), .any, .any, .any, .any, .any, .any, .any, .any, .any, .any], [.box (encFunc f)]⟩) (fun p => p ≤ (blockL f b).length) (fun p => (blockL f b).length - p) 0 (Nat.zero_le _) (le_T) ?_
    intro i hil
    dsimp only at hil ⊢
    refine Awp.seq fun K13 h13 => ?_
    (refine Awp.region ?_; (repeat (first | refine sQ (hk := ?_) | refine sSkip (hk := ?_) | refine sOwn (hk := ?_))); refine aSeq_nil ?_)
    refine h13 _ ?_
    refine nT (hk := ?_)
    refine Awp.seq fun K14 h14 => ?_
    refine Awp.cond rfl (fun hb15 => ?_) (fun hb15 => ?_)
    · have hlt2 : i < (blockL f b).length := by simpa using hb15
      obtain ⟨l, hl⟩ : ∃ l, (blockL f b)[i]? = some l := ⟨_, List.getElem?_eq_getElem hlt2⟩
      have hst : mxB n0 ((blockL f b).take (i + 1)) = mxI (mxB n0 ((blockL f b).take i)) l := fold_take_succ mxI n0 hl
      refine Awp.skip ?_
      refine h14 _ ?_
      refine nT (hk := ?_)
      refine Awp.seq fun K16 h16 => ?_
      refine Awp.block ?_
      refine Awp.seq fun K17 h17 => ?_
      (refine Awp.region ?_; (repeat (first | refine sQ (hk := ?_) | refine sSkip (hk := ?_) | refine sOwn (hk := ?_))); refine aSeq_nil ?_)
      refine h17 _ ?_
      refine nT (hk := ?_)
      (refine Awp.region ?_; (repeat (first | refine sQ (hk := ?_) | refine sSkip (hk := ?_) | refine sOwn (hk := ?_))); refine aSeq_nil ?_)
      refine h16 _ ?_
      refine nT (hk := ?_)
      (refine Awp.region ?_; (repeat (first | refine sQ (hk := ?_) | refine sSkip (hk := ?_) | refine sOwn (hk := ?_))); refine aSeq_nil ?_)
      refine athen_n ⟨i + 1, by omega, by omega, ?_⟩
      rw [hst]
      exact le_T
    · refine Awp.exit ?_
      have hie : i = (blockL f b).length := by have : ¬ i < (blockL f b).length := by simpa using hb15
                                               omega
      subst hie
      refine h9 _ ?_
      refine nT (hk := ?_)
      (refine Awp.region ?_; (repeat (first | refine sQ (hk := ?_) | refine sSkip (hk := ?_) | refine sOwn (hk := ?_))); refine aSeq_nil ?_)
      refine athen_n ⟨b + 1, by omega, by omega, ?_⟩
      rw [hbe]
      rw [List.take_length]
      exact le_T
  · refine Awp.exit ?_
    have hbe : b = f.blocks.length := by have : ¬ b < f.blocks.length := by simpa using hb8
                                         omega
    subst hbe
    refine h3 _ ?_
    refine nT (hk := ?_)
    refine Awp.seq fun K18 h18 => ?_
    (refine Awp.region ?_; (repeat (first | refine sQ (hk := ?_) | refine sSkip (hk := ?_) | refine sOwn (hk := ?_))); refine aSeq_nil ?_)
    refine h18 _ ?_
    refine nT (hk := ?_)
    refine Awp.ret ?_
    rw [← allL_len f, List.take_length]
    exact ⟨.inr rfl, Fin.cl rfl⟩
end Mu
end
section
/-
  muntinlaw17: example, head, walked, by the contracts of package live.
  Conditions: none.
-/
namespace Mu
open Go Go.RowKit Go.Proofs

def noName : ByteArray := ⟨#[]⟩
def exI0 : Ins := ⟨0, 0, 0, 0, 3, 0, [], 0, 0⟩
def exI1 : Ins := ⟨8, 0, 0, 0, 0, 0, [], 1, 0⟩
def exI2 : Ins := ⟨1, 1, 0, 0, 0, 0, [], 0, 0⟩
def exI3 : Ins := ⟨9, 0, 1, 0, 0, 0, [], 1, 2⟩
def exI4 : Ins := ⟨10, 0, 0, 0, 0, 0, [], 0, 0⟩
def exB0 : Block := ⟨noName, [exI0, exI1]⟩
def exB1 : Block := ⟨noName, [exI2, exI3]⟩
def exB2 : Block := ⟨noName, [exI4]⟩
def exF : Func := ⟨noName, 0, 2, [exB0, exB1, exB2]⟩
theorem okI_dec (x : Ins) (h : ((Lit.int .u8 x.op).wf && (Lit.int .i64 x.d).wf && (Lit.int .i64 x.a).wf && (Lit.int .i64 x.b).wf && (Lit.int .u32 x.n).wf && (Lit.int .i64 x.f).wf && (Lit.int .i64 x.l1).wf && (Lit.int .i64 x.l2).wf && x.args.isEmpty) = true) : okIns x := by
  simp only [Bool.and_eq_true] at h
  obtain ⟨⟨⟨⟨⟨⟨⟨⟨h1, h2⟩, h3⟩, h4⟩, h5⟩, h6⟩, h7⟩, h8⟩, h9⟩ := h
  exact ⟨h1, h2, h3, h4, h5, h6, h7, h8, fun y hy => by rw [List.isEmpty_iff.1 h9] at hy; cases hy⟩
theorem ok0 : okIns exI0 := okI_dec _ (by decide)
theorem ok1 : okIns exI1 := okI_dec _ (by decide)
theorem ok2 : okIns exI2 := okI_dec _ (by decide)
theorem ok3 : okIns exI3 := okI_dec _ (by decide)
theorem ok4 : okIns exI4 := okI_dec _ (by decide)
theorem noName_ok : noName.size ≤ maxLen := by decide
theorem okB0 : okBlock exB0 := ⟨noName_ok, fun x hx => by
  simp only [exB0, List.mem_cons, List.not_mem_nil, or_false] at hx
  rcases hx with rfl | rfl
  · exact ok0
  · exact ok1⟩
theorem okB1 : okBlock exB1 := ⟨noName_ok, fun x hx => by
  simp only [exB1, List.mem_cons, List.not_mem_nil, or_false] at hx
  rcases hx with rfl | rfl
  · exact ok2
  · exact ok3⟩
theorem okB2 : okBlock exB2 := ⟨noName_ok, fun x hx => by
  simp only [exB2, List.mem_cons, List.not_mem_nil, or_false] at hx
  subst hx
  exact ok4⟩
theorem okF : okFunc exF := ⟨noName_ok, (by decide : (Lit.int .i64 (0 : Int)).wf = true), (by decide : (Lit.int .i64 (2 : Int)).wf = true), fun x hx => by
  simp only [exF, List.mem_cons, List.not_mem_nil, or_false] at hx
  rcases hx with rfl | rfl | rfl
  · exact okB0
  · exact okB1
  · exact okB2⟩
theorem smF : smallF exF := ⟨by decide, fun x hx => by
  simp only [exF, List.mem_cons, List.not_mem_nil, or_false] at hx
  rcases hx with rfl | rfl | rfl
  · exact ⟨by decide, fun y hy => by simp only [exB0, List.mem_cons, List.not_mem_nil, or_false] at hy; rcases hy with rfl | rfl <;> decide⟩
  · exact ⟨by decide, fun y hy => by simp only [exB1, List.mem_cons, List.not_mem_nil, or_false] at hy; rcases hy with rfl | rfl <;> decide⟩
  · exact ⟨by decide, fun y hy => by simp only [exB2, List.mem_cons, List.not_mem_nil, or_false] at hy; subst hy; decide⟩⟩

section
variable {P : Program} {C : Ctx} {t : List AV} {h : List ABlk} {o : Oper}
theorem Quiet.bld {ty : TypeId} {parts : Array (Nat × Operand)} {zs : List Value} {pl : List (Nat × Nat)} {rs : List AV} [ZC P ty zs] (ho : o.op = .build ty parts) (hpl : places? P ty = some pl)
    (hr : putCells pl (zs.map .lit) (parts.toList.map fun p => (p.1, evA t p.2)) = some rs) (h1 : (parts.toList.all fun p => litBs (evA t p.2)) = true) : Quiet P C t h o (.agg rs) :=
  Quiet.build ho ZC.eq hpl hr fun p hp => One.litBs (List.all_eq_true.1 h1 p hp)
theorem Fit.agg {α : Type} {T : Ty α} {enc : α → List AV} {x : α} (hp : ∀ w S cs ψ, AV.relL w S h ψ (enc x) cs → T.RS w S cs x) : Fit h T (.agg (enc x)) x := fun C S ψ w v H hv => by
  unfold AV.rel at hv
  obtain ⟨cs, rfl, hl⟩ := hv
  exact hp w S cs ψ hl
end
def encIns0 (x : Ins) : List AV := [.lit (.int .u8 x.op), .lit (.int .i64 x.d), .lit (.int .i64 x.a), .lit (.int .i64 x.b), .lit (.int .u32 x.n), .lit (.int .i64 x.f), .lit (.slice none 0 0), .lit (.int .i64 x.l1), .lit (.int .i64 x.l2)]
theorem put_ins0 {w : World} {S : Nat → Prop} {cs : List Value} {h : List ABlk} {ψ : Nat → Value} {x : Ins} (ho : okIns x) (ha : x.args = []) (H : AV.relL w S h ψ (encIns0 x) cs) : tIns.RS w S cs x := by
  refine put_ins (h := h) (ψ := ψ) ho ?_
  simp only [encIns0, encIns, AV.relL, AV.rel] at H ⊢
  obtain ⟨_, _, rfl, rfl, _, _, rfl, rfl, _, _, rfl, rfl, _, _, rfl, rfl, _, _, rfl, rfl, _, _, rfl, rfl, _, _, rfl, rfl, _, _, rfl, rfl, _, _, rfl, rfl, rfl⟩ := H
  rw [ha]
  exact ⟨_, _, rfl, rfl, _, _, rfl, rfl, _, _, rfl, rfl, _, _, rfl, rfl, _, _, rfl, rfl, _, _, rfl, rfl, _, _, rfl, tInt.slice_nilS _ _, _, _, rfl, rfl, _, _, rfl, rfl, rfl⟩
theorem plIns : places? Try.prog 39 = some [(0, 1), (1, 1), (2, 1), (3, 1), (4, 1), (5, 1), (6, 1), (7, 1), (8, 1)] := by kernel_rfl
theorem plBlock : places? Try.prog 42 = some [(0, 1), (1, 1)] := by kernel_rfl
theorem plFunc : places? Try.prog 31 = some [(0, 1), (1, 1), (2, 1), (3, 1)] := by kernel_rfl

set_option maxRecDepth 100000 in
set_option maxHeartbeats 4000000 in
theorem example17_fn : Fn Try.prog 49 [] (.agg (encFunc exF)) := by
  refine Fn.of_awpC Try.func49 rfl (by kernel_rfl) rfl (show aggT Try.prog 31 = some (true, 4) by kernel_rfl) Try.ntmps49 fun C hC => ?_
  simp only [List.length_nil, Nat.sub_zero, List.replicate_succ, List.replicate_zero, List.nil_append]
  refine Awp.seq fun K1 h1 => ?_
  (refine Awp.region ?_; (repeat (first | refine sQ (hk := ?_) | refine sSkip (hk := ?_) | refine sOwn (hk := ?_))); refine aSeq_nil ?_)
  refine h1 _ ?_
  refine nT (hk := ?_)
  refine Awp.seq fun K2 h2 => ?_
  refine Awp.region ?_
  refine aSeq_t rfl (AOp.q (r := .agg (encIns0 exI0)) (Quiet.bld rfl plIns rfl rfl) ?_)
  refine sNt (hk := ?_)
  refine aSeq_t rfl (AOp.q (r := .agg (encIns0 exI1)) (Quiet.bld rfl plIns rfl rfl) ?_)
  refine sNt (hk := ?_)
  refine aSeq_t rfl (AOp.q (Quiet.lt (xs := [.tmp 1, .tmp 2]) (T := tIns) (ds := [exI0, exI1]) rfl rfl rfl (by rfl) (by decide) (.cons (Fit.agg fun _ _ _ _ h => put_ins0 ok0 rfl h) (.cons (Fit.agg fun _ _ _ _ h => put_ins0 ok1 rfl h) .nil))) ?_)
  refine sNt (hk := ?_)
  refine aSeq_t rfl (AOp.q (r := .agg (encBlock exB0)) (Quiet.bld rfl plBlock rfl rfl) ?_)
  refine sNt (hk := ?_)
  refine aSeq_t rfl (AOp.q (r := .agg (encIns0 exI2)) (Quiet.bld rfl plIns rfl rfl) ?_)
  refine sNt (hk := ?_)
  refine aSeq_t rfl (AOp.q (r := .agg (encIns0 exI3)) (Quiet.bld rfl plIns rfl rfl) ?_)
  refine sNt (hk := ?_)
  refine aSeq_t rfl (AOp.q (Quiet.lt (xs := [.tmp 5, .tmp 6]) (T := tIns) (ds := [exI2, exI3]) rfl rfl rfl (by rfl) (by decide) (.cons (Fit.agg fun _ _ _ _ h => put_ins0 ok2 rfl h) (.cons (Fit.agg fun _ _ _ _ h => put_ins0 ok3 rfl h) .nil))) ?_)
  refine sNt (hk := ?_)
  refine aSeq_t rfl (AOp.q (r := .agg (encBlock exB1)) (Quiet.bld rfl plBlock rfl rfl) ?_)
  refine sNt (hk := ?_)
  refine aSeq_t rfl (AOp.q (r := .agg (encIns0 exI4)) (Quiet.bld rfl plIns rfl rfl) ?_)
  refine sNt (hk := ?_)
  refine aSeq_t rfl (AOp.q (Quiet.lt (xs := [.tmp 9]) (T := tIns) (ds := [exI4]) rfl rfl rfl (by rfl) (by decide) (.cons (Fit.agg fun _ _ _ _ h => put_ins0 ok4 rfl h) .nil)) ?_)
  refine sNt (hk := ?_)
  refine aSeq_t rfl (AOp.q (r := .agg (encBlock exB2)) (Quiet.bld rfl plBlock rfl rfl) ?_)
  refine sNt (hk := ?_)
  refine aSeq_t rfl (AOp.q (Quiet.lt (xs := [.tmp 4, .tmp 8, .tmp 11]) (T := tBlock) (ds := [exB0, exB1, exB2]) rfl rfl rfl (by rfl) (by decide) (.cons (Fit.agg fun _ _ _ _ h => put_block noName_ok h) (.cons (Fit.agg fun _ _ _ _ h => put_block noName_ok h) (.cons (Fit.agg fun _ _ _ _ h => put_block noName_ok h) .nil)))) ?_)
  refine sNt (hk := ?_)
  refine aSeq_t rfl (AOp.q (r := .agg (encFunc exF)) (Quiet.bld rfl plFunc rfl rfl) ?_)
  refine sNt (hk := ?_)
  (first | refine sQ (hk := ?_) | refine sSkip (hk := ?_) | refine sOwn (hk := ?_))
  refine aSeq_nil ?_
  refine h2 _ ?_
  refine nT (hk := ?_)
  refine Awp.ret ?_
  refine ⟨⟨.inr rfl, 0, _, rfl, rfl, Fin.cl rfl⟩, fun i cells h1 h2 => ?_⟩
  have : i = 0 := by injection h1 with h1; exact h1.symm
  subst this
  injection h2 with h2
  injection h2 with h2
  rw [← h2]
  rfl
end Mu
end
section
/-
  muntinlaw17: head, LiveTells, walked.
  Conditions: at most 2^21 of everything.
-/
namespace Mu
open Go Go.RowKit Go.Proofs
instance : AG Try.prog 46 false 1 := ⟨by kernel_rfl⟩
instance : SZ Try.prog 46 1 := ⟨by kernel_rfl⟩
instance : ES Try.prog 46 1 := ⟨by kernel_rfl⟩
instance : SL Try.prog 46 := ⟨by kernel_rfl⟩
instance : RT Try.prog 46 48 1 24 := ⟨by kernel_rfl⟩

theorem same15_self (xs : List (List Int)) (hx : xs.length ≤ 2097152) (hxs : ∀ l ∈ xs, l.length ≤ 2097152) : Fn Try.prog 31 [.bs tInt.slice xs, .bs tInt.slice xs] (.lit (.bool true)) := by
  have := same15_fn xs xs hx hxs
  rwa [decide_eq_true rfl] at this
theorem same_self (xs : List Int) (hx : xs.length ≤ 2097152) : Fn Try.prog 16 [.bs tInt xs, .bs tInt xs] (.lit (.bool true)) := by
  have := same_fn xs xs hx
  rwa [decide_eq_true rfl] at this
theorem inF_eq (f : Func) : inF f = (List.range f.blocks.length).map fun b => (blockL f b).getD 0 [] := by
  unfold inF
  refine List.map_congr_left fun b _ => ?_
  rw [List.getD_eq_getElem?_getD, blockL_first]
  rfl
theorem outF_eq (f : Func) : outF f = (List.range f.blocks.length).map fun b => (blockL f b).getD (insOf f b).length [] := by
  unfold outF
  refine List.map_congr_left fun b _ => ?_
  rw [List.getD_eq_getElem?_getD, blockL_last]
  rfl
theorem exIn : inF exF = [[], [0], [0]] := by rw [inF_eq]; decide +kernel
theorem exOut : outF exF = [[0], [0], []] := by rw [outF_eq]; decide +kernel
theorem exAt1 : atF exF 1 = [[0], [0, 1], [0]] := by decide +kernel
theorem exAt3 : atF exF 3 = [] := by decide +kernel
theorem exMost : mostF exF = 2 := by decide +kernel
theorem exReads : (allReads exF).length ≤ 2097152 := by decide +kernel

set_option maxRecDepth 100000 in
set_option maxHeartbeats 4000000 in
theorem head17_fn : Fn Try.prog 26 [] (.lit (.bool true)) := by
  have hIn := in_fn exF okF smF exReads
  have hOut := out_fn exF okF smF exReads
  have hAt1 := at_fn exF 1 okF smF exReads
  have hAt3 := at_fn exF 3 okF smF exReads
  have hMost := most_fn exF okF smF exReads
  rw [exIn] at hIn
  rw [exOut] at hOut
  rw [exAt1] at hAt1
  rw [exAt3] at hAt3
  rw [exMost] at hMost
  have hs1 := same15_self [[], [0], [0]] (by decide) (by decide)
  have hs2 := same15_self [[0], [0], []] (by decide) (by decide)
  have hs3 := same15_self [[0], [0, 1], [0]] (by decide) (by decide)
  have hw0 : wfI .i64 0 := (by decide : (Lit.int .i64 (0 : Int)).wf = true)
  have hw1 : wfI .i64 1 := (by decide : (Lit.int .i64 (1 : Int)).wf = true)
  refine Fn.of_awp Try.func26 rfl (by kernel_rfl) rfl Try.ntmps26 fun C hC => ?_
  simp only [List.length_nil, Nat.sub_zero, List.replicate_succ, List.replicate_zero, List.nil_append]
  refine Awp.seq fun K1 h1 => ?_
  (refine Awp.region ?_; (repeat (first | refine sQ (hk := ?_) | refine sSkip (hk := ?_) | refine sOwn (hk := ?_))); refine aSeq_nil ?_)
  refine h1 _ ?_
  refine nT (hk := ?_)
  refine Awp.seq fun K2 h2 => ?_
  (refine Awp.region ?_; (repeat (first | refine sQ (hq := Quiet.call rfl example17_fn rfl rfl rfl) (hk := ?_) | refine sQ (hk := ?_) | refine sSkip (hk := ?_) | refine sOwn (hk := ?_))); refine aSeq_nil ?_)
  refine h2 _ ?_
  refine nT (hk := ?_)
  refine Awp.seq fun K3 h3 => ?_
  (refine Awp.region ?_; (repeat (first | refine sQ (hq := Quiet.call rfl hIn rfl rfl rfl) (hk := ?_) | refine sQ (hq := Quiet.call rfl hOut rfl rfl rfl) (hk := ?_) | refine sQ (hq := Quiet.call rfl hAt1 rfl rfl rfl) (hk := ?_) | refine sQ (hq := Quiet.call rfl hAt3 rfl rfl rfl) (hk := ?_) | refine sQ (hq := Quiet.call rfl hMost rfl rfl rfl) (hk := ?_) | refine sQ (hq := Quiet.call rfl hs1 rfl rfl rfl) (hk := ?_) | refine sQ (hq := Quiet.call rfl hs2 rfl rfl rfl) (hk := ?_) | refine sQ (hq := Quiet.call rfl hs3 rfl rfl rfl) (hk := ?_) | refine sQ (hq := Quiet.lt (xs := [.const (.slice none 0 0), .tmp 5, .tmp 6]) (T := tInt.slice) (ds := [[], [0], [0]]) rfl rfl rfl (by rfl) (by decide) (.cons Fit.nil (.cons Fit.bs (.cons Fit.bs .nil)))) (hk := ?_) | refine sQ (hq := Quiet.lt (xs := [.tmp 12, .tmp 13, .const (.slice none 0 0)]) (T := tInt.slice) (ds := [[0], [0], []]) rfl rfl rfl (by rfl) (by decide) (.cons Fit.bs (.cons Fit.bs (.cons Fit.nil .nil)))) (hk := ?_) | refine sQ (hq := Quiet.lt (xs := [.tmp 20, .tmp 21, .tmp 22]) (T := tInt.slice) (ds := [[0], [0, 1], [0]]) rfl rfl rfl (by rfl) (by decide) (.cons Fit.bs (.cons Fit.bs (.cons Fit.bs .nil)))) (hk := ?_) | refine sQ (hq := Quiet.lt (xs := [.const (.int .i64 0), .const (.int .i64 1)]) (T := tInt) (ds := [0, 1]) rfl rfl rfl (by rfl) (by decide) (.cons (Fit.int hw0) (.cons (Fit.int hw1) .nil))) (hk := ?_) | refine sQ (hk := ?_) | refine sSkip (hk := ?_) | refine sOwn (hk := ?_))); refine aSeq_nil ?_)
  refine h3 _ ?_
  refine nT (hk := ?_)
  refine Awp.ret ?_
  exact ⟨.inr rfl, Fin.cl rfl⟩

set_option maxRecDepth 100000 in
set_option maxHeartbeats 4000000 in
theorem tells17_fn (f : Func) (ho : okFunc f) (hs : smallF f) (hT : (allReads f).length ≤ 2097152) (hi1 : ∀ b ∈ f.blocks, b.ins.length + 1 ≤ 2097152) : Fn Try.prog 7 [.agg (encFunc f)] (.lit (.bool true)) := by
  have hbl := hs.blocks
  have hLl : (regsL f).length ≤ 2097152 := Nat.le_trans (regsOf_le _) hT
  have hgr := great17_fn f hs
  have hatm : atF f (-1) = [] := by unfold atF; rw [if_neg (by omega)]
  have hAm := at_fn f (-1) ho hs hT
  rw [hatm] at hAm
  have hil : (inF f).length = f.blocks.length := by simp [inF]
  have hol : (outF f).length = f.blocks.length := by simp [outF]
  have hal := allL_len f
  have e1 : (((inF f).length : Int) != ((allL f).length : Int)) = false := by rw [hil, hal]; simp
  have e2 : (((outF f).length : Int) != ((allL f).length : Int)) = false := by rw [hol, hal]; simp
  refine Fn.of_awp Try.func7 rfl (by kernel_rfl) rfl Try.ntmps7 fun C hC => ?_
  simp only [List.length_cons, List.length_nil, Nat.reduceAdd, Nat.reduceSub, List.replicate_succ, List.replicate_zero, List.cons_append, List.nil_append]
  refine Awp.seq fun K1 h1 => ?_
  (refine Awp.region ?_; (repeat (first | refine sQ (hk := ?_) | refine sSkip (hk := ?_) | refine sOwn (hk := ?_))); refine aSeq_nil ?_)
  refine h1 _ ?_
  refine nT (hk := ?_)
  refine Awp.seq fun K2 h2 => ?_
  refine Awp.seq fun K3 h3 => ?_
  rcases hg : great17 f with _ | _
  · rw [hg] at hgr
    (refine Awp.region ?_; (repeat (first | refine sQ (hq := Quiet.call rfl hgr rfl rfl rfl) (hk := ?_) | refine sQ (hk := ?_) | refine sSkip (hk := ?_) | refine sOwn (hk := ?_))); refine aSeq_nil ?_)
    refine h3 _ ?_
    refine nT (hk := ?_)
    refine Awp.cond rfl (fun hb4 => by cases hb4) (fun hb4 => ?_)
    refine Awp.skip ?_
    refine h2 _ ?_
    refine nT (hk := ?_)
    refine Awp.seq fun K6 h6 => ?_
    (refine drawD 9 (hh := ?_); (repeat (first | refine qQ (hq := Quiet.call rfl (all17_fn f ho hs hT) rfl rfl rfl) (hk := ?_) | refine qQ (hq := Quiet.call rfl (in_fn f ho hs hT) rfl rfl rfl) (hk := ?_) | refine qQ (hq := Quiet.call rfl (out_fn f ho hs hT) rfl rfl rfl) (hk := ?_) | refine qQ (hk := ?_) | refine qSkip (hk := ?_))); refine aQ_nil ?_; (repeat (first | refine sQ (hq := Quiet.call rfl (all17_fn f ho hs hT) rfl rfl rfl) (hk := ?_) | refine sQ (hq := Quiet.call rfl (in_fn f ho hs hT) rfl rfl rfl) (hk := ?_) | refine sQ (hq := Quiet.call rfl (out_fn f ho hs hT) rfl rfl rfl) (hk := ?_) | refine sQ (hk := ?_) | refine sSkip (hk := ?_) | refine sOwn (hk := ?_))); refine aSeq_nil ?_)
    refine h6 _ ?_
    refine nT (hk := ?_)
    refine Awp.seq fun K7 h7 => ?_
    refine Awp.seq fun K8 h8 => ?_
    (refine Awp.region ?_; (repeat (first | refine sQ (hq := Quiet.call rfl hAm rfl rfl rfl) (hk := ?_) | refine sQ (hk := ?_) | refine sSkip (hk := ?_) | refine sOwn (hk := ?_))); refine aSeq_nil ?_)
    refine h8 _ ?_
    refine nT (hk := ?_)
    refine Awp.cond rfl (fun hb9 => by cases hb9) (fun hb9 => ?_)
    refine Awp.skip ?_
    refine h7 _ ?_
    refine nT (hk := ?_)
    refine Awp.seq fun K11 h11 => ?_
    (refine Awp.region ?_; (repeat (first | refine sQ (hk := ?_) | refine sSkip (hk := ?_) | refine sOwn (hk := ?_))); refine aSeq_nil ?_)
    refine h11 _ ?_
    refine nT (hk := ?_)
    refine Awp.seq fun K12 h12 => ?_
    refine Awp.seq fun K13 h13 => ?_
    (refine Awp.region ?_; (repeat (first | refine sQ (hk := ?_) | refine sSkip (hk := ?_) | refine sOwn (hk := ?_))); refine aSeq_nil ?_)
    refine h13 _ ?_
    refine nT (hk := ?_)
    refine Awp.block ?_
    refine Awp.loopF (fun p : Nat => ⟨[.any, .ptr 0 0, .any, .bs tInt.slice.slice (allL f), .bs tInt.slice (inF f), .bs tInt.slice (outF f), .lit (.int .i64 (((allL f).take p).foldl mxB 0)), .lit (.int .i64 (p : Int)), .any, .any, .any, .any, .any, .any, .any, .any, .any, .any, .any, .any, .any, .any, .any, .any, .any, .any, .any, .any, .any, .any, .any, .any, .any, .any, .any, .any, .any, .any, .any, .any, .any, .any, .any, .any, .any, .any, .any, .any, .any, .any, .any, .any, .any, .any, .any, .any, .any, .any, .any, .any, .any, .any, .any, .any, .any, .any, .any, .any, .any, .any, .any, .any, .any, .any, .any, .any, .any, .any, .any, .any, .any, .any, .any, .any, .any, .any, .any, .any, .any, .any, .any, .any, .any, .any, .any, .any, .any, .any], [.box (encFunc f)]⟩) (fun p => p ≤ f.blocks.length) (fun p => f.blocks.length - p) 0 (Nat.zero_le _) (le_T) ?_
    intro b hbn
    dsimp only at hbn ⊢
    refine Awp.seq fun K15 h15 => ?_
    refine Awp.seq fun K16 h16 => ?_
    (refine Awp.region ?_; (repeat (first | refine sQ (hk := ?_) | refine sSkip (hk := ?_) | refine sOwn (hk := ?_))); refine aSeq_nil ?_)
    refine h16 _ ?_
    refine nT (hk := ?_)
    refine Awp.cond rfl (fun hb17 => ?_) (fun hb17 => ?_)
    · have hlt : b < f.blocks.length := by rw [hal] at hb17; simpa using hb17
      obtain ⟨bl, hblk⟩ : ∃ bl, f.blocks[b]? = some bl := ⟨_, List.getElem?_eq_getElem hlt⟩
      have hmem := List.mem_of_getElem? hblk
      have hins : insOf f b = bl.ins := by unfold insOf; rw [hblk]
      have hall : (allL f)[b]? = some (blockL f b) := by unfold allL; rw [List.getElem?_map, List.getElem?_range hlt]; rfl
      have hbe := fold_take_succ mxB 0 hall
      have hb2 : (blockL f b).length = bl.ins.length + 1 := by rw [blockL_len, hins]
      have hb3 : (blockL f b).length ≤ 2097152 := by have := hi1 bl hmem; omega
      have hatb : atF f (b : Int) = blockL f b := by unfold atF; rw [if_pos ⟨by omega, by omega⟩, Int.toNat_natCast]
      have hA := at_fn f (b : Int) ho hs hT
      rw [hatb] at hA
      have hfl : ∀ p : Int → Bool, ((regsL f).filter p).length ≤ 2097152 := fun p => Nat.le_trans (List.length_filter_le _ _) hLl
      have hs1 := same15_self (blockL f b) hb3 (fun l hl => by
        unfold blockL placeL at hl
        obtain ⟨i, _, rfl⟩ := List.mem_map.1 hl
        exact hfl _)
      have hs2 := same_self (inL f b) (hfl _)
      have hs3 := same_self (outL f b) (hfl _)
      have hx1 : (inF f)[b]? = some (inL f b) := by unfold inF; rw [List.getElem?_map, List.getElem?_range hlt]; rfl
      have hx2 : (outF f)[b]? = some (outL f b) := by unfold outF; rw [List.getElem?_map, List.getElem?_range hlt]; rfl
      have hx3 : (blockL f b)[(0 : Int).toNat]? = some (inL f b) := blockL_first f b
      have hx4 : (blockL f b)[(((blockL f b).length : Int) - 1).toNat]? = some (outL f b) := by
        rw [show (((blockL f b).length : Int) - 1).toNat = (insOf f b).length by rw [blockL_len]; omega]
        exact blockL_last f b
      generalize hn0 : ((allL f).take b).foldl mxB 0 = n0 at hbe ⊢
      refine Awp.skip ?_
      refine h15 _ ?_
      refine nT (hk := ?_)
      refine Awp.seq fun K18 h18 => ?_
      refine Awp.block ?_
      refine Awp.seq fun K19 h19 => ?_
      (refine Awp.region ?_; (repeat (first | refine sQ (hk := ?_) | refine sSkip (hk := ?_) | refine sOwn (hk := ?_))); refine aSeq_nil ?_)
      refine h19 _ ?_
      refine nT (hk := ?_)
      refine Awp.seq fun K20 h20 => ?_
      refine Awp.seq fun K21 h21 => ?_
      (refine drawD 31 (hh := ?_); (repeat (first | refine qQ (hq := Quiet.call rfl hA rfl rfl rfl) (hk := ?_) | refine qQ (hq := Quiet.call rfl hs1 rfl rfl rfl) (hk := ?_) | refine qQ (hq := Quiet.call rfl hs2 rfl rfl rfl) (hk := ?_) | refine qQ (hq := Quiet.call rfl hs3 rfl rfl rfl) (hk := ?_) | refine qQ (hk := ?_) | refine qSkip (hk := ?_))); refine aQ_nil ?_; (repeat (first | refine sQ (hq := Quiet.call rfl hA rfl rfl rfl) (hk := ?_) | refine sQ (hq := Quiet.call rfl hs1 rfl rfl rfl) (hk := ?_) | refine sQ (hq := Quiet.call rfl hs2 rfl rfl rfl) (hk := ?_) | refine sQ (hq := Quiet.call rfl hs3 rfl rfl rfl) (hk := ?_) | refine sQ (hk := ?_) | refine sSkip (hk := ?_) | refine sOwn (hk := ?_))); refine aSeq_nil ?_)
      refine h21 _ ?_
      refine nT (hk := ?_)
      refine Awp.cond rfl (fun hb22 => by cases hb22) (fun hb22 => ?_)
      refine Awp.skip ?_
      refine h20 _ ?_
      refine nT (hk := ?_)
      refine Awp.seq fun K24 h24 => ?_
      (refine Awp.region ?_; (repeat (first | refine sQ (hk := ?_) | refine sSkip (hk := ?_) | refine sOwn (hk := ?_))); refine aSeq_nil ?_)
      refine h24 _ ?_
      refine nT (hk := ?_)
      refine Awp.block ?_
      refine Awp.loopF (fun p : Nat => ⟨[.any, .ptr 0 0, .any, .bs tInt.slice.slice (allL f), .bs tInt.slice (inF f), .bs tInt.slice (outF f), .lit (.int .i64 (mxB n0 ((blockL f b).take p))), .lit (.int .i64 (b : Int)), .bs tInt.slice (blockL f b), .lit (.int .i64 (p : Int)), .any, .any, .any, .any, .any, .any, .any, .any, .any, .any, .any, .any, .any, .any, .any, .any, .any, .any, .any, .any, .any, .any, .any, .any, .any, .any, .any, .any, .any, .any, .any, .any, .any, .any, .any, .any, .any, .any, .any, .any, .any, .any, .any, .any, .any, .any, .any, .any, .any, .any, .any, .any, .any, .any, .any, .any, .any, .any, .any, .any, .any, .any, .any, .any, .any, .any, .any, .any, .any, .any, .any, .any, .any, .any, .any, .any, .any, .any, .any, .any, .any, .any, .any, .any, .any, .any, .any, .any], [.box (encFunc f)]⟩) (fun p => p ≤ (blockL f b).length) (fun p => (blockL f b).length - p) 0 (Nat.zero_le _) (le_T) ?_
      intro i hil2
      dsimp only at hil2 ⊢
      refine Awp.seq fun K26 h26 => ?_
      refine Awp.seq fun K27 h27 => ?_
      (refine Awp.region ?_; (repeat (first | refine sQ (hk := ?_) | refine sSkip (hk := ?_) | refine sOwn (hk := ?_))); refine aSeq_nil ?_)
      refine h27 _ ?_
      refine nT (hk := ?_)
      refine Awp.cond rfl (fun hb28 => ?_) (fun hb28 => ?_)
      · have hlt2 : i < (blockL f b).length := by simpa using hb28
        obtain ⟨l, hl⟩ : ∃ l, (blockL f b)[i]? = some l := ⟨_, List.getElem?_eq_getElem hlt2⟩
        have hst : mxB n0 ((blockL f b).take (i + 1)) = mxI (mxB n0 ((blockL f b).take i)) l := fold_take_succ mxI n0 hl
        refine Awp.skip ?_
        refine h26 _ ?_
        refine nT (hk := ?_)
        refine Awp.seq fun K29 h29 => ?_
        refine Awp.block ?_
        (refine Awp.region ?_; (repeat (first | refine sQ (hk := ?_) | refine sSkip (hk := ?_) | refine sOwn (hk := ?_))); refine aSeq_nil ?_)
        refine h29 _ ?_
        refine nT (hk := ?_)
        (refine Awp.region ?_; (repeat (first | refine sQ (hk := ?_) | refine sSkip (hk := ?_) | refine sOwn (hk := ?_))); refine aSeq_nil ?_)
        refine athen_n ⟨i + 1, by omega, by omega, ?_⟩
        rw [hst]
        exact le_T
      · refine Awp.exit ?_
        have hie : i = (blockL f b).length := by have : ¬ i < (blockL f b).length := by simpa using hb28
                                                 omega
        subst hie
        refine h18 _ ?_
        refine nT (hk := ?_)
        (refine Awp.region ?_; (repeat (first | refine sQ (hk := ?_) | refine sSkip (hk := ?_) | refine sOwn (hk := ?_))); refine aSeq_nil ?_)
        refine athen_n ⟨b + 1, by omega, by omega, ?_⟩
        rw [hbe, List.take_length]
        exact le_T
    · refine Awp.exit ?_
      have hbe : b = f.blocks.length := by have : ¬ b < f.blocks.length := by rw [hal] at hb17; simpa using hb17
                                           omega
      subst hbe
      have htk : (allL f).take f.blocks.length = allL f := by rw [← allL_len f, List.take_length]
      have hme : (mostF f == ((allL f).take f.blocks.length).foldl mxB 0) = true := by rw [htk]; simp [mostF]
      refine h12 _ ?_
      refine nT (hk := ?_)
      refine Awp.seq fun K30 h30 => ?_
      (refine Awp.region ?_; (repeat (first | refine sQ (hq := Quiet.call rfl (most_fn f ho hs hT) rfl rfl rfl) (hk := ?_) | refine sQ (hq := Quiet.call rfl head17_fn rfl rfl rfl) (hk := ?_) | refine sQ (hk := ?_) | refine sSkip (hk := ?_) | refine sOwn (hk := ?_))); refine aSeq_nil ?_)
      refine h30 _ ?_
      refine nT (hk := ?_)
      refine Awp.ret ?_
      exact ⟨.inr rfl, Fin.cl rfl⟩
  · rw [hg] at hgr
    (refine Awp.region ?_; (repeat (first | refine sQ (hq := Quiet.call rfl hgr rfl rfl rfl) (hk := ?_) | refine sQ (hk := ?_) | refine sSkip (hk := ?_) | refine sOwn (hk := ?_))); refine aSeq_nil ?_)
    refine h3 _ ?_
    refine nT (hk := ?_)
    refine Awp.cond rfl (fun hb4 => ?_) (fun hb4 => by cases hb4)
    refine Awp.seq fun K5 h5 => ?_
    (refine Awp.region ?_; (repeat (first | refine sQ (hq := Quiet.call rfl head17_fn rfl rfl rfl) (hk := ?_) | refine sQ (hk := ?_) | refine sSkip (hk := ?_) | refine sOwn (hk := ?_))); refine aSeq_nil ?_)
    refine h5 _ ?_
    refine nT (hk := ?_)
    refine Awp.ret ?_
    exact ⟨.inr rfl, Fin.cl rfl⟩
end Mu
end
section
/-
  The arguments of a row, read; what a call that makes new blocks only leaves of them.
  Conditions: none.
-/
namespace Mu
open Go Go.RowKit Go.ChangeShapes Go.WideShapes Go.Proofs

theorem laid_out : laidOutB Try.prog = true := by kernel_rfl
mutual
theorem bulk_le {H : Type} : ∀ d : DataW H, bulkD d ≤ Yteeekjidkjdpjaa.Rows.uptoBulk d
  | .lit (.string _) => Nat.le_refl _
  | .lit (.bool _) => Nat.le_refl _
  | .lit (.int _ _) => Nat.le_refl _
  | .lit (.float _ _) => Nat.le_refl _
  | .lit .nil => Nat.le_refl _
  | .nil => Nat.le_refl _
  | .ptr d => by show 1 ≤ Yteeekjidkjdpjaa.Rows.uptoBulk d + 1; omega
  | .slice e s => by
    have h1 := bulks_le e
    have h2 := bulks_le s
    show bulkD.go e + bulkD.go s + 1 ≤ Yteeekjidkjdpjaa.Rows.uptoBulkAll e + Yteeekjidkjdpjaa.Rows.uptoBulkAll s + 1
    omega
  | .agg p => by
    have h1 := bulks_le p
    show bulkD.go p + 1 ≤ Yteeekjidkjdpjaa.Rows.uptoBulkAll p + 1
    omega
  | .iface _ d => by show 1 ≤ Yteeekjidkjdpjaa.Rows.uptoBulk d + 1; omega
  | .map m => by show 1 ≤ Yteeekjidkjdpjaa.Rows.uptoBulkEntries m + 1; omega
  | .held _ => Nat.le_refl _
theorem bulks_le {H : Type} : ∀ l : List (DataW H), bulkD.go l ≤ Yteeekjidkjdpjaa.Rows.uptoBulkAll l
  | [] => Nat.le_refl _
  | d :: r => by
    have h1 := bulk_le d
    have h2 := bulks_le r
    show bulkD d + bulkD.go r ≤ Yteeekjidkjdpjaa.Rows.uptoBulk d + Yteeekjidkjdpjaa.Rows.uptoBulkAll r
    omega
end

/-- an argument of a type that is read: a value of many cells -/
theorem open_many {α : Type} {t : TypeId} {T : Ty α} {H : Type} {enc : TypeId × Value → H} {W : World} {v : Value} {d : DataW H} {p : List MemPlace} (ho : Opens Try.prog t T) (hs : 1 < T.size)
    (h : DataW.Trod enc Try.prog W 0 (fun _ => true) true t v d p) (hp : ∀ x ∈ p, x.block < W.heap.size) :
    ∃ cs x, v = .agg cs.toArray ∧ T.R W W.heap.size cs x ∧ T.bulk x ≤ Yteeekjidkjdpjaa.Rows.uptoBulk d := by
  obtain ⟨fuel, hf⟩ := h
  obtain ⟨x, hR, hb⟩ := ho.go H enc W 0 _ true fuel _ (d, p) W.heap.size hf hp
  have hl := T.len hR
  refine ⟨v.cells.toList, x, ?_, hR, Nat.le_trans hb (bulk_le d)⟩
  cases v <;> first
    | (simp [Value.cells] at hl; omega)
    | simp [Value.cells]
/-- an argument of a type that is read: a value of one cell -/
theorem open_one {α : Type} {t : TypeId} {T : Ty α} {H : Type} {enc : TypeId × Value → H} {W : World} {v : Value} {d : DataW H} {p : List MemPlace} (ho : Opens Try.prog t T)
    (h : DataW.Trod enc Try.prog W 0 (fun _ => true) true t v d p) (hp : ∀ x ∈ p, x.block < W.heap.size) (hv : v.cells = #[v]) :
    ∃ x, T.R W W.heap.size [v] x ∧ T.bulk x ≤ Yteeekjidkjdpjaa.Rows.uptoBulk d := by
  obtain ⟨fuel, hf⟩ := h
  obtain ⟨x, hR, hb⟩ := ho.go H enc W 0 _ true fuel _ (d, p) W.heap.size hf hp
  rw [hv] at hR
  exact ⟨x, hR, Nat.le_trans hb (bulk_le d)⟩
/-- what an argument read as, it reads as behind a call that makes new blocks only -/
theorem stays {t : TypeId} {H : Type} {enc : TypeId × Value → H} {W W' : World} {v : Value} {d : DataW H} {p : List MemPlace} (hr : Try.prog.readableRec t = true) (ht : t < Try.prog.types.size)
    (h : DataW.Trod enc Try.prog W 0 (fun _ => true) true t v d p) (hb : Below W.heap.size W W') (hp : ∀ x ∈ p, x.block < W.heap.size) :
    DataW.Trod enc Try.prog W' 0 (fun b => decide (b < W.heap.size)) true t v d p := Below.trod laid_out hr ht h hb hp
end Mu
end
section
/-
  What a bulk of at most 2^21 gives; contracts over abstract values as rows use them.
  Conditions: none.
-/
namespace Mu
open Go Go.RowKit Go.Proofs

theorem small_block {b : Block} (h : tBlock.bulk b ≤ 2097152) : smallB b := ⟨Nat.le_trans (block_ins_le b) h, fun x hx => by
  have h1 := block_in_le hx
  have h2 := bulk_ins x
  have h3 := bulkL_length one_int x.args
  omega⟩
theorem small_func {f : Func} (h : tFunc.bulk f ≤ 2097152) : smallF f := ⟨Nat.le_trans (func_blocks_le f) h, fun _b hb => small_block (Nat.le_trans (func_block_le hb) h)⟩
theorem ins1_func {f : Func} (h : tFunc.bulk f ≤ 2097152) : ∀ b ∈ f.blocks, b.ins.length + 1 ≤ 2097152 := fun b hb => by
  have h1 := func_block_le hb
  have h2 := bulk_block b
  have h3 := bulkL_length one_ins b.ins
  omega
theorem reads_ins (l : List Ins) : (l.flatMap readsC).length ≤ bulkL tIns.bulk l := by
  induction l with
  | nil => simp [bulkL]
  | cons x l ih =>
    have h1 := readsC_len2 x
    have h2 := bulk_ins x
    have h3 := bulkL_length one_int x.args
    simp only [List.flatMap_cons, List.length_append, bulkL]
    omega
theorem reads_blocks (l : List Block) : (l.flatMap fun b => b.ins.flatMap readsC).length ≤ bulkL tBlock.bulk l := by
  induction l with
  | nil => simp [bulkL]
  | cons b l ih =>
    have h1 := reads_ins b.ins
    have h2 := bulk_block b
    simp only [List.flatMap_cons, List.length_append, bulkL]
    omega
theorem reads_func {f : Func} (h : tFunc.bulk f ≤ 2097152) : (allReads f).length ≤ 2097152 := by
  have h1 := reads_blocks f.blocks
  have h2 := bulk_func f
  unfold allReads
  omega
theorem u8_range {n : Int} (h : wfI .u8 n) : 0 ≤ n ∧ n ≤ 255 := by simpa [wfI, Lit.wf, IntKind.min, IntKind.max, IntKind.signed, IntKind.bits] using h
theorem fn_calls {P : Program} {f : FuncId} {args : List AV} {u : Value} {W : World} {vs : List Value} (h : Fn P f args (.lit u)) (hr : AV.relL W (fun k => k < W.heap.size) [] ψ0 args vs) : Calls P f vs.toArray W fun e W' => e = .returned u ∧ Below W.heap.size W W' :=
  (h.2 W _ vs (fun _ h => h) hr).mono fun e W' ⟨v, he, hb, _, _, _, _, hv⟩ => by
    unfold AV.rel at hv
    exact ⟨by rw [he, hv], hb⟩
theorem rel_func {W : World} {S : Nat → Prop} {h : List ABlk} {ψ : Nat → Value} {cs : List Value} {f : Func} (hR : tFunc.RS W S cs f) : AV.rel W S h ψ (.agg (encFunc f)) (.agg cs.toArray) := by
  unfold AV.rel
  exact ⟨cs, rfl, EncOf.ok (T := tFunc) W S h ψ cs f hR⟩
theorem rel_litv {W : World} {S : Nat → Prop} {h : List ABlk} {ψ : Nat → Value} (v : Value) : AV.rel W S h ψ (.lit v) v := by
  unfold AV.rel
  rfl
theorem relL_one {W : World} {S : Nat → Prop} {h : List ABlk} {ψ : Nat → Value} {x : AV} {v : Value} (hv : AV.rel W S h ψ x v) : AV.relL W S h ψ [x] [v] := by
  unfold AV.relL
  exact ⟨v, [], rfl, hv, by unfold AV.relL; rfl⟩
theorem relL_more {W : World} {S : Nat → Prop} {h : List ABlk} {ψ : Nat → Value} {x : AV} {v : Value} {l : List AV} {vs : List Value} (hv : AV.rel W S h ψ x v) (hl : AV.relL W S h ψ l vs) : AV.relL W S h ψ (x :: l) (v :: vs) := by
  unfold AV.relL
  exact ⟨v, vs, rfl, hv, hl⟩
end Mu
end
section
/-
  muntinlaw17: steps, LiveSteps, walked.
  Conditions: at most 2^21 of everything.
-/
namespace Mu
open Go Go.RowKit Go.Proofs

section
variable {P : Program} {C : Ctx} {t : List AV} {h : List ABlk} {o : Oper}
theorem Quiet.bneb {xt yt : TypeId} {x y : Operand} {a b q : Bool} (hu : P.underlying xt = some .bool) (ho : o.op = .binOp .neq xt x y yt) (hx : evA t x = .lit (.bool a)) (hy : evA t y = .lit (.bool b)) (hq : (a != b) = q) : Quiet P C t h o (.lit (.bool q)) :=
  Quiet.of_run fun S ψ w ρ _ hρ => by
    have h1 := hρ x (by simp [ho, Op.operands])
    have h2 := hρ y (by simp [ho, Op.operands])
    rw [hx] at h1
    rw [hy] at h2
    unfold AV.rel at h1 h2
    refine ⟨.bool (a != b), ?_, by rw [hq]; unfold AV.rel; rfl⟩
    simp [execOp, ho, h1, h2, eqGuard, binOp, run_equal_bool _ _ _ _ hu, bne]
end
theorem undBool : Try.prog.underlying 4 = some .bool := by kernel_rfl
theorem filter_contains {R : List Int} {S : Int → Bool} (h : Sub R S) (r : Int) : (R.filter S).contains r = S r := by
  rw [Bool.eq_iff_iff]
  rw [List.contains_iff_mem, List.mem_filter]
  exact ⟨fun h => h.2, fun hs => ⟨h r hs, hs⟩⟩
theorem has17_set {R : List Int} {S : Int → Bool} (h : Sub R S) (hl : R.length ≤ 2097152) (r : Int) {q : Bool} (hq : S r = q) : Fn Try.prog 34 [.bs tInt (R.filter S), .lit (.int .i64 r)] (.lit (.bool q)) := by
  have := has17_fn (R.filter S) r (Nat.le_trans (List.length_filter_le _ _) hl)
  rwa [filter_contains h, hq] at this

set_option maxRecDepth 100000 in
set_option maxHeartbeats 4000000 in
theorem steps17_fn (b : Block) (S : Int → Bool) (R : List Int) (r : Int) (ho : okBlock b) (hs : smallB b) (hR : R.length ≤ 2097152) (hsub : Sub R S) (hx : ∀ x ∈ b.ins, ∀ r ∈ readsC x, r ∈ R) :
    Fn Try.prog 36 [.agg (encBlock b), .bs tInt.slice (placesL R b.ins S), .lit (.int .i64 r)] (.lit (.bool true)) := by
  have hil := hs.ins
  refine Fn.of_awp Try.func36 rfl (by kernel_rfl) rfl Try.ntmps36 fun C hC => ?_
  simp only [List.length_cons, List.length_nil, Nat.reduceAdd, Nat.reduceSub, List.replicate_succ, List.replicate_zero, List.cons_append, List.nil_append]
  refine Awp.seq fun K1 h1 => ?_
  (refine Awp.region ?_; (repeat (first | refine sQ (hk := ?_) | refine sSkip (hk := ?_) | refine sOwn (hk := ?_))); refine aSeq_nil ?_)
  refine h1 _ ?_
  refine nT (hk := ?_)
  refine Awp.seq fun K2 h2 => ?_
  refine Awp.seq fun K3 h3 => ?_
  (refine Awp.region ?_; (repeat (first | refine sQ (hk := ?_) | refine sSkip (hk := ?_) | refine sOwn (hk := ?_))); refine aSeq_nil ?_)
  refine h3 _ ?_
  refine nT (hk := ?_)
  refine Awp.block ?_
  refine Awp.loopF (fun p : Nat => ⟨[.any, .bs tInt.slice (placesL R b.ins S), .lit (.int .i64 r), .ptr 0 0, .any, .any, .any, .lit (.int .i64 (p : Int)), .any, .any, .any, .any, .any, .any, .any, .any, .any, .any, .any, .any, .any, .any, .any, .any, .any, .any, .any, .any, .any, .any, .any, .any, .any, .any, .any, .any, .any, .any, .any, .any, .any, .any, .any, .any, .any, .any, .any, .any, .any, .any, .any, .any, .any, .any, .any, .any, .any, .any, .any, .any, .any], [.box (encBlock b)]⟩) (fun p => p ≤ b.ins.length) (fun p => b.ins.length - p) 0 (Nat.zero_le _) (le_T) ?_
  intro i hi
  dsimp only at hi ⊢
  refine Awp.seq fun K5 h5 => ?_
  refine Awp.seq fun K6 h6 => ?_
  (refine Awp.region ?_; (repeat (first | refine sQ (hk := ?_) | refine sSkip (hk := ?_) | refine sOwn (hk := ?_))); refine aSeq_nil ?_)
  refine h6 _ ?_
  refine nT (hk := ?_)
  refine Awp.cond rfl (fun hb7 => ?_) (fun hb7 => ?_)
  · have hlt : i < b.ins.length := by simpa using hb7
    obtain ⟨x, hxi⟩ : ∃ x, b.ins[i]? = some x := ⟨_, List.getElem?_eq_getElem hlt⟩
    have hmx := List.mem_of_getElem? hxi
    have hox := ho.ins x hmx
    have hax := hs.all x hmx
    have hT0 : Sub R (inS (b.ins.drop i) S) := hsub.inS fun y hy => hx y (List.mem_of_mem_drop hy)
    have hT1 : Sub R (inS (b.ins.drop (i + 1)) S) := hsub.inS fun y hy => hx y (List.mem_of_mem_drop hy)
    have hp0 : (placesL R b.ins S)[i]? = some (R.filter (inS (b.ins.drop i) S)) := by rw [placesL_eq, List.getElem?_map, List.getElem?_range (by omega)]; rfl
    have hp1 : (placesL R b.ins S)[i + 1]? = some (R.filter (inS (b.ins.drop (i + 1)) S)) := by rw [placesL_eq, List.getElem?_map, List.getElem?_range (by omega)]; rfl
    have hp2 : (placesL R b.ins S)[((i : Int) + 1).toNat]? = some (R.filter (inS (b.ins.drop (i + 1)) S)) := by rw [show ((i : Int) + 1).toNat = i + 1 by omega]; exact hp1
    have hbk : inS (b.ins.drop i) S r = ((readsC x).contains r || (!(writesB x && x.d == r) && inS (b.ins.drop (i + 1)) S r)) := by
      rw [List.drop_eq_getElem_cons hlt]
      have : b.ins[i] = x := by
        rw [List.getElem?_eq_getElem hlt] at hxi
        exact Option.some.inj hxi
      rw [this]
      exact backS_eq x _ r
    have hrl : (readsC x).length ≤ 2097152 := by have := readsC_len2 x; omega
    have hrd := ref_reads_fn x hox (by omega)
    have hwr := ref_writes_fn x hox
    have hhr := has17_fn (readsC x) r hrl
    refine Awp.skip ?_
    refine h5 _ ?_
    refine nT (hk := ?_)
    refine Awp.seq fun K8 h8 => ?_
    refine Awp.block ?_
    refine Awp.seq fun K9 h9 => ?_
    (refine Awp.region ?_; (repeat (first | refine sQ (hq := Quiet.call rfl hwr rfl rfl rfl) (hk := ?_) | refine sQ (hk := ?_) | refine sSkip (hk := ?_) | refine sOwn (hk := ?_))); refine aSeq_nil ?_)
    refine h9 _ ?_
    refine nT (hk := ?_)
    refine Awp.seq fun K10 h10 => ?_
    have key : ∀ q : Bool, inS (b.ins.drop i) S r = q → ∀ s' : St, St.le C s' ⟨[.any, .bs tInt.slice (placesL R b.ins S), .lit (.int .i64 r), .ptr 0 0, .any, .any, .any, .lit (.int .i64 (i : Int)), .any, .any, .lit (.bool q), .any, .any, .any, .any, .any, .any, .any, .any, .any, .any, .any, .any, .any, .any, .any, .any, .any, .any, .any, .any, .any, .any, .any, .any, .any, .any, .any, .any, .any, .any, .any, .any, .any, .any, .any, .any, .any, .any, .any, .any, .any, .any, .any, .any, .any, .any, .any, .any, .any, .any], [.box (encBlock b)]⟩ → K10 s' := fun q hq s' hle => by
      have hh0 := has17_set hT0 hR r hq
      have hqq : (q != q) = false := by simp
      refine h10 _ (Awp.via _ hle ?_)
      refine Awp.seq fun K11 h11 => ?_
      (refine Awp.region ?_; (repeat (first | refine sQ (hq := Quiet.call rfl hh0 rfl rfl rfl) (hk := ?_) | refine sQ (hq := Quiet.bneb undBool rfl rfl rfl hqq) (hk := ?_) | refine sQ (hk := ?_) | refine sSkip (hk := ?_) | refine sOwn (hk := ?_))); refine aSeq_nil ?_)
      refine h11 _ ?_
      refine nT (hk := ?_)
      refine Awp.cond rfl (fun hb12 => by cases hb12) (fun hb12 => ?_)
      refine Awp.skip ?_
      refine h8 _ ?_
      refine nT (hk := ?_)
      (refine Awp.region ?_; (repeat (first | refine sQ (hk := ?_) | refine sSkip (hk := ?_) | refine sOwn (hk := ?_))); refine aSeq_nil ?_)
      refine athen_n ⟨i + 1, by omega, by omega, ?_⟩
      exact le_T
    rcases hc1 : (readsC x).contains r with _ | _
    · rw [hc1] at hhr hbk
      rcases hc2 : inS (b.ins.drop (i + 1)) S r with _ | _
      · rw [hc2] at hbk
        have hh1 := has17_set hT1 hR r hc2
        (refine Awp.region ?_; (repeat (first | refine sQ (hq := Quiet.call rfl hrd rfl rfl rfl) (hk := ?_) | refine sQ (hq := Quiet.call rfl hhr rfl rfl rfl) (hk := ?_) | refine sQ (hq := Quiet.call rfl hh1 rfl rfl rfl) (hk := ?_) | refine sQ (hk := ?_) | refine sSkip (hk := ?_) | refine sOwn (hk := ?_))); refine aSeq_nil ?_)
        exact key false (by rw [hbk]; simp) _ (le_T)
      · rw [hc2] at hbk
        have hh1 := has17_set hT1 hR r hc2
        rcases hc3 : writesB x with _ | _
        · rw [hc3] at hbk
          (refine Awp.region ?_; (repeat (first | refine sQ (hq := Quiet.call rfl hrd rfl rfl rfl) (hk := ?_) | refine sQ (hq := Quiet.call rfl hhr rfl rfl rfl) (hk := ?_) | refine sQ (hq := Quiet.call rfl hh1 rfl rfl rfl) (hk := ?_) | refine sQ (hk := ?_) | refine sSkip (hk := ?_) | refine sOwn (hk := ?_))); refine aSeq_nil ?_)
          exact key true (by rw [hbk]; rfl) _ (le_T)
        · rw [hc3] at hbk
          (refine Awp.region ?_; (repeat (first | refine sQ (hq := Quiet.call rfl hrd rfl rfl rfl) (hk := ?_) | refine sQ (hq := Quiet.call rfl hhr rfl rfl rfl) (hk := ?_) | refine sQ (hq := Quiet.call rfl hh1 rfl rfl rfl) (hk := ?_) | refine sQ (hk := ?_) | refine sSkip (hk := ?_) | refine sOwn (hk := ?_))); refine aSeq_nil ?_)
          exact key (!(x.d == r)) (by rw [hbk]; simp) _ (le_T)
    · rw [hc1] at hhr hbk
      (refine Awp.region ?_; (repeat (first | refine sQ (hq := Quiet.call rfl hrd rfl rfl rfl) (hk := ?_) | refine sQ (hq := Quiet.call rfl hhr rfl rfl rfl) (hk := ?_) | refine sQ (hk := ?_) | refine sSkip (hk := ?_) | refine sOwn (hk := ?_))); refine aSeq_nil ?_)
      exact key true (by rw [hbk]; rfl) _ (le_T)
  · refine Awp.exit ?_
    refine h2 _ ?_
    refine nT (hk := ?_)
    refine Awp.seq fun K14 h14 => ?_
    (refine Awp.region ?_; (repeat (first | refine sQ (hk := ?_) | refine sSkip (hk := ?_) | refine sOwn (hk := ?_))); refine aSeq_nil ?_)
    refine h14 _ ?_
    refine nT (hk := ?_)
    refine Awp.ret ?_
    exact ⟨.inr rfl, Fin.cl rfl⟩

/-- what is live behind a block is live ahead of one behind it -/
theorem nextL_any (f : Func) (b : Nat) (r : Int) : ((nextL f (b : Int)).any fun c => (inL f c.toNat).contains r) = outS f b r := by
  have hs : ∀ b, Sub (regsL f) (outS f b) := fun b => outS_sub (fun b hb x hx r hr => regsL_mem.2 ⟨b, hb, x, hx, hr⟩) b
  have hin : ∀ c, (inL f c).contains r = inS (insOf f c) (outS f c) r := fun c => filter_contains ((hs c).inS (insOf_in (fun b hb x hx r hr => regsL_mem.2 ⟨b, hb, x, hx, hr⟩) c)) r
  rw [Bool.eq_iff_iff, List.any_eq_true, outS_iff, lout_iff]
  constructor
  · rintro ⟨c, hc, hr⟩
    unfold nextL at hc
    obtain ⟨y, hy, rfl⟩ := List.mem_map.1 hc
    refine ⟨y.1, ⟨y, hy, rfl⟩, ?_⟩
    rw [show (blkI y).toNat = y.1 from Int.toNat_natCast _, hin, inS_eq] at hr
    simp only [Bool.or_eq_true, Bool.and_eq_true] at hr
    rcases hr with hr | ⟨h1, h2⟩
    · exact .inl hr
    · exact .inr ⟨h1, outS_iff.1 h2⟩
  · rintro ⟨c, ⟨y, hy, rfl⟩, hr⟩
    refine ⟨blkI y, List.mem_map.2 ⟨y, hy, rfl⟩, ?_⟩
    rw [show (blkI y).toNat = y.1 from Int.toNat_natCast _, hin, inS_eq]
    simp only [Bool.or_eq_true, Bool.and_eq_true]
    rcases hr with hr | ⟨h1, h2⟩
    · exact .inl hr
    · exact .inr ⟨h1, outS_iff.2 h2⟩

set_option maxRecDepth 100000 in
set_option maxHeartbeats 4000000 in
theorem liveSteps17_fn (f : Func) (ho : okFunc f) (hs : smallF f) (hT : (allReads f).length ≤ 2097152) (hi1 : ∀ b ∈ f.blocks, b.ins.length + 1 ≤ 2097152) : Fn Try.prog 11 [.agg (encFunc f)] (.lit (.bool true)) := by
  have hbl := hs.blocks
  have hLl : (regsL f).length ≤ 2097152 := Nat.le_trans (regsOf_le _) hT
  have hLr : ∀ b ∈ f.blocks, ∀ x ∈ b.ins, ∀ r ∈ readsC x, r ∈ regsL f := fun b hb x hx r hr => regsL_mem.2 ⟨b, hb, x, hx, hr⟩
  have hgr := great17_fn f hs
  have hil : (inF f).length = f.blocks.length := by simp [inF]
  have hol : (outF f).length = f.blocks.length := by simp [outF]
  have e1 : (((inF f).length : Int) != (f.blocks.length : Int)) = false := by rw [hil]; simp
  have e2 : (((outF f).length : Int) != (f.blocks.length : Int)) = false := by rw [hol]; simp
  refine Fn.of_awp Try.func11 rfl (by kernel_rfl) rfl Try.ntmps11 fun C hC => ?_
  simp only [List.length_cons, List.length_nil, Nat.reduceAdd, Nat.reduceSub, List.replicate_succ, List.replicate_zero, List.cons_append, List.nil_append]
  refine Awp.seq fun K1 h1 => ?_
  (refine Awp.region ?_; (repeat (first | refine sQ (hk := ?_) | refine sSkip (hk := ?_) | refine sOwn (hk := ?_))); refine aSeq_nil ?_)
  refine h1 _ ?_
  refine nT (hk := ?_)
  refine Awp.seq fun K2 h2 => ?_
  refine Awp.seq fun K3 h3 => ?_
  rcases hg : great17 f with _ | _
  · rw [hg] at hgr
    (refine Awp.region ?_; (repeat (first | refine sQ (hq := Quiet.call rfl hgr rfl rfl rfl) (hk := ?_) | refine sQ (hk := ?_) | refine sSkip (hk := ?_) | refine sOwn (hk := ?_))); refine aSeq_nil ?_)
    refine h3 _ ?_
    refine nT (hk := ?_)
    refine Awp.cond rfl (fun hb4 => by cases hb4) (fun hb4 => ?_)
    refine Awp.skip ?_
    refine h2 _ ?_
    refine nT (hk := ?_)
    refine Awp.seq fun K6 h6 => ?_
    (refine drawD 6 (hh := ?_); (repeat (first | refine qQ (hq := Quiet.call rfl (in_fn f ho hs hT) rfl rfl rfl) (hk := ?_) | refine qQ (hq := Quiet.call rfl (out_fn f ho hs hT) rfl rfl rfl) (hk := ?_) | refine qQ (hk := ?_) | refine qSkip (hk := ?_))); refine aQ_nil ?_; (repeat (first | refine sQ (hq := Quiet.call rfl (in_fn f ho hs hT) rfl rfl rfl) (hk := ?_) | refine sQ (hq := Quiet.call rfl (out_fn f ho hs hT) rfl rfl rfl) (hk := ?_) | refine sQ (hk := ?_) | refine sSkip (hk := ?_) | refine sOwn (hk := ?_))); refine aSeq_nil ?_)
    refine h6 _ ?_
    refine nT (hk := ?_)
    refine Awp.seq fun K7 h7 => ?_
    refine Awp.seq fun K8 h8 => ?_
    (refine Awp.region ?_; (repeat (first | refine sQ (hk := ?_) | refine sSkip (hk := ?_) | refine sOwn (hk := ?_))); refine aSeq_nil ?_)
    refine h8 _ ?_
    refine nT (hk := ?_)
    refine Awp.cond rfl (fun hb9 => by cases hb9) (fun hb9 => ?_)
    refine Awp.skip ?_
    refine h7 _ ?_
    refine nT (hk := ?_)
    refine Awp.seq fun K11 h11 => ?_
    refine Awp.seq fun K12 h12 => ?_
    (refine Awp.region ?_; (repeat (first | refine sQ (hk := ?_) | refine sSkip (hk := ?_) | refine sOwn (hk := ?_))); refine aSeq_nil ?_)
    refine h12 _ ?_
    refine nT (hk := ?_)
    refine Awp.block ?_
    refine Awp.loopF (fun p : Nat => ⟨[.any, .ptr 0 0, .any, .bs tInt.slice (inF f), .bs tInt.slice (outF f), .lit (.int .i64 (p : Int)), .any, .any, .any, .any, .any, .any, .any, .any, .any, .any, .any, .any, .any, .any, .any, .any, .any, .any, .any, .any, .any, .any, .any, .any, .any, .any, .any, .any, .any, .any, .any, .any, .any, .any, .any, .any, .any, .any, .any, .any, .any, .any, .any, .any, .any, .any, .any, .any, .any, .any, .any, .any, .any, .any, .any, .any, .any, .any, .any, .any, .any, .any, .any, .any, .any, .any, .any, .any, .any, .any, .any, .any, .any, .any, .any, .any, .any, .any, .any, .any, .any, .any, .any, .any, .any, .any, .any, .any, .any, .any, .any, .any, .any, .any, .any, .any, .any, .any, .any, .any, .any, .any, .any, .any, .any, .any, .any, .any, .any, .any, .any, .any, .any, .any, .any, .any, .any], [.box (encFunc f)]⟩) (fun p => p ≤ f.blocks.length) (fun p => f.blocks.length - p) 0 (Nat.zero_le _) (le_T) ?_
    intro b hbn
    dsimp only at hbn ⊢
    refine Awp.seq fun K14 h14 => ?_
    refine Awp.seq fun K15 h15 => ?_
    (refine Awp.region ?_; (repeat (first | refine sQ (hk := ?_) | refine sSkip (hk := ?_) | refine sOwn (hk := ?_))); refine aSeq_nil ?_)
    refine h15 _ ?_
    refine nT (hk := ?_)
    refine Awp.cond rfl (fun hb16 => ?_) (fun hb16 => ?_)
    · have hlt : b < f.blocks.length := by simpa using hb16
      obtain ⟨bl, hblk⟩ : ∃ bl, f.blocks[b]? = some bl := ⟨_, List.getElem?_eq_getElem hlt⟩
      have hmem := List.mem_of_getElem? hblk
      have hins : insOf f b = bl.ins := by unfold insOf; rw [hblk]
      have hb2 : (blockL f b).length = bl.ins.length + 1 := by rw [blockL_len, hins]
      have hb3 : (blockL f b).length ≤ 2097152 := by have := hi1 bl hmem; omega
      have hatb : atF f (b : Int) = blockL f b := by unfold atF; rw [if_pos ⟨by omega, by omega⟩, Int.toNat_natCast]
      have hA := at_fn f (b : Int) ho hs hT
      rw [hatb] at hA
      have hfl : ∀ p : Int → Bool, ((regsL f).filter p).length ≤ 2097152 := fun p => Nat.le_trans (List.length_filter_le _ _) hLl
      have hs2 := same_self (inL f b) (hfl _)
      have hs3 := same_self (outL f b) (hfl _)
      have hx1 : (inF f)[b]? = some (inL f b) := by unfold inF; rw [List.getElem?_map, List.getElem?_range hlt]; rfl
      have hx2 : (outF f)[b]? = some (outL f b) := by unfold outF; rw [List.getElem?_map, List.getElem?_range hlt]; rfl
      have hx3 : (blockL f b)[(0 : Int).toNat]? = some (inL f b) := blockL_first f b
      have hx4 : (blockL f b)[(((blockL f b).length : Int) - 1).toNat]? = some (outL f b) := by
        rw [show (((blockL f b).length : Int) - 1).toNat = (insOf f b).length by rw [blockL_len]; omega]
        exact blockL_last f b
      have e3 : (((blockL f b).length : Int) != ((bl.ins.length : Int) + 1)) = false := by rw [hb2]; simp
      have hnl : (nextL f (b : Int)).length ≤ 2 := by unfold nextL; rw [List.length_map]; exact nextS_len f b
      have hpl : placesL (regsL f) bl.ins (outS f b) = blockL f b := by rw [← hins, atL_eq]
      have hst : ∀ r : Int, Fn Try.prog 36 [.agg (encBlock bl), .bs tInt.slice (blockL f b), .lit (.int .i64 r)] (.lit (.bool true)) := fun r => by
        have := steps17_fn bl (outS f b) (regsL f) r (ho.blocks bl hmem) (hs.all bl hmem) hLl (outS_sub hLr b) (hLr bl hmem)
        rwa [hpl] at this
      refine Awp.skip ?_
      refine h14 _ ?_
      refine nT (hk := ?_)
      refine Awp.seq fun K17 h17 => ?_
      refine Awp.block ?_
      refine Awp.seq fun K18 h18 => ?_
      (refine drawD 8 (hh := ?_); (repeat (first | refine qQ (hq := Quiet.call rfl hA rfl rfl rfl) (hk := ?_) | refine qQ (hq := Quiet.call rfl (flow_next_fn f (b : Int) ho hbl fun b hb => (hs.all b hb).ins) rfl rfl rfl) (hk := ?_) | refine qQ (hk := ?_) | refine qSkip (hk := ?_))); refine aQ_nil ?_; (repeat (first | refine sQ (hq := Quiet.call rfl hA rfl rfl rfl) (hk := ?_) | refine sQ (hq := Quiet.call rfl (flow_next_fn f (b : Int) ho hbl fun b hb => (hs.all b hb).ins) rfl rfl rfl) (hk := ?_) | refine sQ (hk := ?_) | refine sSkip (hk := ?_) | refine sOwn (hk := ?_))); refine aSeq_nil ?_)
      refine h18 _ ?_
      refine nT (hk := ?_)
      refine Awp.seq fun K19 h19 => ?_
      refine Awp.seq fun K20 h20 => ?_
      (refine drawD 36 (hh := ?_); (repeat (first | refine qQ (hq := Quiet.call rfl hs2 rfl rfl rfl) (hk := ?_) | refine qQ (hq := Quiet.call rfl hs3 rfl rfl rfl) (hk := ?_) | refine qQ (hk := ?_) | refine qSkip (hk := ?_))); refine aQ_nil ?_; (repeat (first | refine sQ (hq := Quiet.call rfl hs2 rfl rfl rfl) (hk := ?_) | refine sQ (hq := Quiet.call rfl hs3 rfl rfl rfl) (hk := ?_) | refine sQ (hk := ?_) | refine sSkip (hk := ?_) | refine sOwn (hk := ?_))); refine aSeq_nil ?_)
      refine h20 _ ?_
      refine nT (hk := ?_)
      refine Awp.cond rfl (fun hb21 => by cases hb21) (fun hb21 => ?_)
      refine Awp.skip ?_
      refine h19 _ ?_
      refine nT (hk := ?_)
      refine Awp.seq fun K23 h23 => ?_
      (refine Awp.region ?_; (repeat (first | refine sQ (hk := ?_) | refine sSkip (hk := ?_) | refine sOwn (hk := ?_))); refine aSeq_nil ?_)
      refine h23 _ ?_
      refine nT (hk := ?_)
      refine Awp.block ?_
      refine Awp.loopF (fun r : Nat => ⟨[.any, .ptr 0 0, .any, .bs tInt.slice (inF f), .bs tInt.slice (outF f), .lit (.int .i64 (b : Int)), .bs tInt.slice (blockL f b), .bs tInt (nextL f (b : Int)), .lit (.int .i64 (r : Int)), .any, .any, .any, .any, .any, .any, .any, .any, .any, .any, .any, .any, .any, .any, .any, .any, .any, .any, .any, .any, .any, .any, .any, .any, .any, .any, .any, .any, .any, .any, .any, .any, .any, .any, .any, .any, .any, .any, .any, .any, .any, .any, .any, .any, .any, .any, .any, .any, .any, .any, .any, .any, .any, .any, .any, .any, .any, .any, .any, .any, .any, .any, .any, .any, .any, .any, .any, .any, .any, .any, .any, .any, .any, .any, .any, .any, .any, .any, .any, .any, .any, .any, .any, .any, .any, .any, .any, .any, .any, .any, .any, .any, .any, .any, .any, .any, .any, .any, .any, .any, .any, .any, .any, .any, .any, .any, .any, .any, .any, .any, .any, .any, .any, .any], [.box (encFunc f)]⟩) (fun r => r ≤ 100) (fun r => 100 - r) 0 (Nat.zero_le _) (le_T) ?_
      intro r hr
      dsimp only at hr ⊢
      refine Awp.seq fun K25 h25 => ?_
      refine Awp.seq fun K26 h26 => ?_
      (refine Awp.region ?_; (repeat (first | refine sQ (hk := ?_) | refine sSkip (hk := ?_) | refine sOwn (hk := ?_))); refine aSeq_nil ?_)
      refine h26 _ ?_
      refine nT (hk := ?_)
      refine Awp.cond rfl (fun hb27 => ?_) (fun hb27 => ?_)
      · have hr1 : r < 100 := by have : (r : Int) < 100 := by simpa using hb27
                                 omega
        refine Awp.skip ?_
        refine h25 _ ?_
        refine nT (hk := ?_)
        refine Awp.seq fun K28 h28 => ?_
        refine Awp.block ?_
        refine Awp.seq fun K29 h29 => ?_
        (refine Awp.region ?_; (repeat (first | refine sQ (hk := ?_) | refine sSkip (hk := ?_) | refine sOwn (hk := ?_))); refine aSeq_nil ?_)
        refine h29 _ ?_
        refine nT (hk := ?_)
        refine Awp.seq fun K30 h30 => ?_
        refine Awp.seq fun K31 h31 => ?_
        (refine Awp.region ?_; (repeat (first | refine sQ (hk := ?_) | refine sSkip (hk := ?_) | refine sOwn (hk := ?_))); refine aSeq_nil ?_)
        refine h31 _ ?_
        refine nT (hk := ?_)
        refine Awp.block ?_
        refine Awp.loopF (fun k : Nat => ⟨[.any, .ptr 0 0, .any, .bs tInt.slice (inF f), .bs tInt.slice (outF f), .lit (.int .i64 (b : Int)), .bs tInt.slice (blockL f b), .bs tInt (nextL f (b : Int)), .lit (.int .i64 (r : Int)), .lit (.bool (((nextL f (b : Int)).take k).any fun c => (inL f c.toNat).contains (r : Int))), .lit (.int .i64 (k : Int)), .any, .any, .any, .any, .any, .any, .any, .any, .any, .any, .any, .any, .any, .any, .any, .any, .any, .any, .any, .any, .any, .any, .any, .any, .any, .any, .any, .any, .any, .any, .any, .any, .any, .any, .any, .any, .any, .any, .any, .any, .any, .any, .any, .any, .any, .any, .any, .any, .any, .any, .any, .any, .any, .any, .any, .any, .any, .any, .any, .any, .any, .any, .any, .any, .any, .any, .any, .any, .any, .any, .any, .any, .any, .any, .any, .any, .any, .any, .any, .any, .any, .any, .any, .any, .any, .any, .any, .any, .any, .any, .any, .any, .any, .any, .any, .any, .any, .any, .any, .any, .any, .any, .any, .any, .any, .any, .any, .any, .any, .any, .any, .any], [.box (encFunc f)]⟩) (fun k => k ≤ (nextL f (b : Int)).length) (fun k => (nextL f (b : Int)).length - k) 0 (Nat.zero_le _) (le_T) ?_
        intro k hk
        dsimp only at hk ⊢
        refine Awp.seq fun K33 h33 => ?_
        refine Awp.seq fun K34 h34 => ?_
        (refine Awp.region ?_; (repeat (first | refine sQ (hk := ?_) | refine sSkip (hk := ?_) | refine sOwn (hk := ?_))); refine aSeq_nil ?_)
        refine h34 _ ?_
        refine nT (hk := ?_)
        refine Awp.cond rfl (fun hb35 => ?_) (fun hb35 => ?_)
        · have hk1 : k < (nextL f (b : Int)).length := by simpa using hb35
          obtain ⟨c, hc⟩ : ∃ c, (nextL f (b : Int))[k]? = some c := ⟨_, List.getElem?_eq_getElem hk1⟩
          have hcin := nextL_in (List.mem_of_getElem? hc)
          have hc0 := hcin.1
          have hci : (inF f)[c.toNat]? = some (inL f c.toNat) := by unfold inF; rw [List.getElem?_map, List.getElem?_range hcin.2]; rfl
          have hstep : ((nextL f (b : Int)).take (k + 1)).any (fun c => (inL f c.toNat).contains (r : Int)) = (((nextL f (b : Int)).take k).any (fun c => (inL f c.toNat).contains (r : Int)) || (inL f c.toNat).contains (r : Int)) := by
            rw [List.take_add_one, hc, List.any_append]
            simp
          have hhc := has17_fn (inL f c.toNat) (r : Int) (hfl _)
          refine Awp.skip ?_
          refine h33 _ ?_
          refine nT (hk := ?_)
          refine Awp.seq fun K36 h36 => ?_
          refine Awp.block ?_
          rcases hac : ((nextL f (b : Int)).take k).any (fun c => (inL f c.toNat).contains (r : Int)) with _ | _
          · rw [hac] at hstep
            (refine Awp.region ?_; (repeat (first | refine sQ (hq := Quiet.call rfl hhc rfl rfl rfl) (hk := ?_) | refine sQ (hk := ?_) | refine sSkip (hk := ?_) | refine sOwn (hk := ?_))); refine aSeq_nil ?_)
            refine h36 _ ?_
            refine nT (hk := ?_)
            (refine Awp.region ?_; (repeat (first | refine sQ (hk := ?_) | refine sSkip (hk := ?_) | refine sOwn (hk := ?_))); refine aSeq_nil ?_)
            refine athen_n ⟨k + 1, by omega, by omega, ?_⟩
            rw [hstep, Bool.false_or]
            exact le_T
          · rw [hac] at hstep
            (refine Awp.region ?_; (repeat (first | refine sQ (hk := ?_) | refine sSkip (hk := ?_) | refine sOwn (hk := ?_))); refine aSeq_nil ?_)
            refine h36 _ ?_
            refine nT (hk := ?_)
            (refine Awp.region ?_; (repeat (first | refine sQ (hk := ?_) | refine sSkip (hk := ?_) | refine sOwn (hk := ?_))); refine aSeq_nil ?_)
            refine athen_n ⟨k + 1, by omega, by omega, ?_⟩
            rw [hstep, Bool.true_or]
            exact le_T
        · refine Awp.exit ?_
          have hke : k = (nextL f (b : Int)).length := by have : ¬ k < (nextL f (b : Int)).length := by simpa using hb35
                                                          omega
          subst hke
          have hq : (((nextL f (b : Int)).take (nextL f (b : Int)).length).any fun c => (inL f c.toNat).contains (r : Int)) = outS f b (r : Int) := by rw [List.take_length]; exact nextL_any f b r
          rw [hq]
          have hho : Fn Try.prog 34 [.bs tInt (outL f b), .lit (.int .i64 (r : Int))] (.lit (.bool (outS f b (r : Int)))) := has17_set (outS_sub hLr b) hLl (r : Int) rfl
          have hqq : (outS f b (r : Int) != outS f b (r : Int)) = false := by simp
          have hst' := hst (r : Int)
          refine h30 _ ?_
          refine nT (hk := ?_)
          refine Awp.seq fun K37 h37 => ?_
          (refine Awp.region ?_; (repeat (first | refine sQ (hq := Quiet.call rfl hho rfl rfl rfl) (hk := ?_) | refine sQ (hq := Quiet.bneb undBool rfl rfl rfl hqq) (hk := ?_) | refine sQ (hq := Quiet.call rfl hst' rfl rfl rfl) (hk := ?_) | refine sQ (hk := ?_) | refine sSkip (hk := ?_) | refine sOwn (hk := ?_))); refine aSeq_nil ?_)
          refine h37 _ ?_
          refine nT (hk := ?_)
          refine Awp.cond rfl (fun hb38 => by cases hb38) (fun hb38 => ?_)
          refine Awp.skip ?_
          refine h28 _ ?_
          refine nT (hk := ?_)
          (refine Awp.region ?_; (repeat (first | refine sQ (hk := ?_) | refine sSkip (hk := ?_) | refine sOwn (hk := ?_))); refine aSeq_nil ?_)
          refine athen_n ⟨r + 1, by omega, by omega, ?_⟩
          exact le_T
      · refine Awp.exit ?_
        refine h17 _ ?_
        refine nT (hk := ?_)
        (refine Awp.region ?_; (repeat (first | refine sQ (hk := ?_) | refine sSkip (hk := ?_) | refine sOwn (hk := ?_))); refine aSeq_nil ?_)
        refine athen_n ⟨b + 1, by omega, by omega, ?_⟩
        exact le_T
    · refine Awp.exit ?_
      refine h11 _ ?_
      refine nT (hk := ?_)
      refine Awp.seq fun K40 h40 => ?_
      (refine Awp.region ?_; (repeat (first | refine sQ (hq := Quiet.call rfl head17_fn rfl rfl rfl) (hk := ?_) | refine sQ (hk := ?_) | refine sSkip (hk := ?_) | refine sOwn (hk := ?_))); refine aSeq_nil ?_)
      refine h40 _ ?_
      refine nT (hk := ?_)
      refine Awp.ret ?_
      exact ⟨.inr rfl, Fin.cl rfl⟩
  · rw [hg] at hgr
    (refine Awp.region ?_; (repeat (first | refine sQ (hq := Quiet.call rfl hgr rfl rfl rfl) (hk := ?_) | refine sQ (hk := ?_) | refine sSkip (hk := ?_) | refine sOwn (hk := ?_))); refine aSeq_nil ?_)
    refine h3 _ ?_
    refine nT (hk := ?_)
    refine Awp.cond rfl (fun hb4 => ?_) (fun hb4 => by cases hb4)
    refine Awp.seq fun K5 h5 => ?_
    (refine Awp.region ?_; (repeat (first | refine sQ (hq := Quiet.call rfl head17_fn rfl rfl rfl) (hk := ?_) | refine sQ (hk := ?_) | refine sSkip (hk := ?_) | refine sOwn (hk := ?_))); refine aSeq_nil ?_)
    refine h5 _ ?_
    refine nT (hk := ?_)
    refine Awp.ret ?_
    exact ⟨.inr rfl, Fin.cl rfl⟩
end Mu
end
section
/-
  An instruction more at a block's beginning: what is live then. Plain.
  Conditions: none.
-/
namespace Mu
open Go

def putB (bl : Block) (x : Ins) : Block := ⟨bl.name, x :: bl.ins⟩
def putIns (f : Func) (b : Nat) (bl : Block) (x : Ins) : Func := ⟨f.name, f.args, f.regs, f.blocks.set b (putB bl x)⟩
theorem edge_iff {f : Func} {k c : Nat} : Edge f k c ↔ ∃ bl x, f.blocks[k]? = some bl ∧ bl.ins.getLast? = some x ∧ c < f.blocks.length ∧ (c : Int) ∈ rawWays x := by
  unfold Edge nextS
  rw [if_pos (by omega), Int.toNat_natCast]
  constructor
  · rintro ⟨y, hy, rfl⟩
    split at hy
    · cases hy
    · rename_i bl hbl
      unfold nextB at hy
      split at hy
      · cases hy
      · rename_i x hx
        unfold filtB at hy
        obtain ⟨w, hw, hty⟩ := List.mem_filterMap.1 hy
        unfold toBlk at hty
        split at hty
        · rename_i hr
          cases hty
          refine ⟨bl, x, hbl, hx, (show w.toNat < f.blocks.length by omega), ?_⟩
          rw [show ((w.toNat : Nat) : Int) = w by omega]
          exact hw
        · cases hty
  · rintro ⟨bl, x, hbl, hx, hc, hm⟩
    refine ⟨⟨c, hc⟩, ?_, rfl⟩
    rw [hbl]
    show (⟨c, hc⟩ : Blk f) ∈ nextB f bl
    unfold nextB
    rw [hx]
    exact List.mem_filterMap.2 ⟨(c : Int), hm, toBlk_yes hc⟩
section
variable {f : Func} {b : Nat} {bl : Block} {x : Ins} (hb : f.blocks[b]? = some bl)
include hb
theorem insOf_put (c : Nat) : insOf (putIns f b bl x) c = if c = b then x :: bl.ins else insOf f c := by
  unfold insOf putIns
  by_cases hc : c = b
  · subst hc
    rw [if_pos rfl]
    simp only
    rw [List.getElem?_set_self (List.getElem?_eq_some_iff.1 hb).1]
    rfl
  · rw [if_neg hc]
    simp only
    rw [List.getElem?_set_ne (Ne.symm hc)]
theorem edge_put (hne : bl.ins ≠ []) {k c : Nat} : Edge (putIns f b bl x) k c ↔ Edge f k c := by
  rw [edge_iff, edge_iff]
  have hl : (putIns f b bl x).blocks.length = f.blocks.length := by simp [putIns]
  rw [hl]
  have hlast : (putB bl x).ins.getLast? = bl.ins.getLast? := by
    unfold putB
    simp only
    rw [List.getLast?_cons]
    cases h : bl.ins.getLast? with
    | none => exact absurd (List.getLast?_eq_none_iff.1 h) hne
    | some y => rfl
  by_cases hk : k = b
  · subst hk
    have hs : (putIns f k bl x).blocks[k]? = some (putB bl x) := List.getElem?_set_self (List.getElem?_eq_some_iff.1 hb).1
    rw [hs, hb]
    constructor
    · rintro ⟨bl', y, e, h1, h2⟩
      cases e
      exact ⟨bl, y, rfl, by rw [← hlast]; exact h1, h2⟩
    · rintro ⟨bl', y, e, h1, h2⟩
      cases e
      exact ⟨_, y, rfl, by rw [hlast]; exact h1, h2⟩
  · have hs : (putIns f b bl x).blocks[k]? = f.blocks[k]? := List.getElem?_set_ne (Ne.symm hk)
    rw [hs]
theorem rdB_put {q : Int} (hq : (writesB x && x.d == q) = false) {c : Nat} (h : rdB q (insOf f c) = true) : rdB q (insOf (putIns f b bl x) c) = true := by
  rw [insOf_put hb]
  split
  · rename_i hc
    subst hc
    have : insOf f c = bl.ins := by unfold insOf; rw [hb]
    rw [this] at h
    unfold rdB
    rw [hq, h]
    simp
  · exact h
theorem thru_put {q : Int} (hq : (writesB x && x.d == q) = false) {c : Nat} (h : thru q (insOf f c) = true) : thru q (insOf (putIns f b bl x) c) = true := by
  rw [insOf_put hb]
  split
  · rename_i hc
    subst hc
    have : insOf f c = bl.ins := by unfold insOf; rw [hb]
    rw [this] at h
    unfold thru
    rw [hq, h]
    rfl
  · exact h
theorem rdB_back {q : Int} (hq : (readsC x).contains q = false) {c : Nat} (h : rdB q (insOf (putIns f b bl x) c) = true) : rdB q (insOf f c) = true := by
  rw [insOf_put hb] at h
  split at h
  · rename_i hc
    subst hc
    have : insOf f c = bl.ins := by unfold insOf; rw [hb]
    rw [this]
    unfold rdB at h
    rw [hq, Bool.false_or, Bool.and_eq_true] at h
    exact h.2
  · exact h
theorem thru_back {q : Int} {c : Nat} (h : thru q (insOf (putIns f b bl x) c) = true) : thru q (insOf f c) = true := by
  rw [insOf_put hb] at h
  split at h
  · rename_i hc
    subst hc
    have : insOf f c = bl.ins := by unfold insOf; rw [hb]
    rw [this]
    unfold thru at h
    rw [Bool.and_eq_true] at h
    exact h.2
  · exact h
theorem lout_put (hne : bl.ins ≠ []) {q : Int} (hq : (writesB x && x.d == q) = false) {k : Nat} (h : LOut f k q) : LOut (putIns f b bl x) k q := by
  induction h with
  | read he h1 => exact .read ((edge_put hb hne).2 he) (rdB_put hb hq h1)
  | pass he h1 _ ih => exact .pass ((edge_put hb hne).2 he) (thru_put hb hq h1) (ih hq)
theorem lout_back (hne : bl.ins ≠ []) {q : Int} (hq : (readsC x).contains q = false) {k : Nat} (h : LOut (putIns f b bl x) k q) : LOut f k q := by
  induction h with
  | read he h1 => exact .read ((edge_put hb hne).1 he) (rdB_back hb hq h1)
  | pass he h1 _ ih => exact .pass ((edge_put hb hne).1 he) (thru_back hb h1) (ih hq)
theorem lin_put (hne : bl.ins ≠ []) {q : Int} (hq : (writesB x && x.d == q) = false) {k : Nat} (h : LIn f k q) : LIn (putIns f b bl x) k q := by
  rcases h with h | ⟨h1, h2⟩
  · exact .inl (rdB_put hb hq h)
  · exact .inr ⟨thru_put hb hq h1, lout_put hb hne hq h2⟩
theorem lin_back (hne : bl.ins ≠ []) {q : Int} (hq : (readsC x).contains q = false) {k : Nat} (h : LIn (putIns f b bl x) k q) : LIn f k q := by
  rcases h with h | ⟨h1, h2⟩
  · exact .inl (rdB_back hb hq h)
  · exact .inr ⟨thru_back hb h1, lout_back hb hne hq h2⟩
end
theorem outS_subR (f : Func) (b : Nat) : Sub (regsL f) (outS f b) := outS_sub (fun _ hb x hx _ hr => regsL_mem.2 ⟨_, hb, x, hx, hr⟩) b
theorem inS_subR (f : Func) (b i : Nat) : Sub (regsL f) (inS ((insOf f b).drop i) (outS f b)) :=
  (outS_subR f b).inS fun x hx => insOf_in (fun _ hb x hx _ hr => regsL_mem.2 ⟨_, hb, x, hx, hr⟩) b x (List.mem_of_mem_drop hx)
theorem mem_outL {f : Func} {b : Nat} {q : Int} : q ∈ outL f b ↔ LOut f b q := by
  unfold outL
  rw [List.mem_filter, outS_iff]
  exact ⟨fun h => h.2, fun h => ⟨outS_subR f b q (outS_iff.2 h), h⟩⟩
theorem mem_inL {f : Func} {b : Nat} {q : Int} : q ∈ inL f b ↔ LIn f b q := by
  have e : inS (insOf f b) (outS f b) q = true ↔ LIn f b q := by
    rw [inS_eq]
    simp only [Bool.or_eq_true, Bool.and_eq_true]
    unfold LIn
    rw [outS_iff]
  unfold inL
  rw [List.mem_filter, e]
  exact ⟨fun h => h.2, fun h => ⟨inS_subR f b 0 q (by rw [List.drop_zero]; exact e.2 h), h⟩⟩
theorem nodup_le : ∀ {l m : List Int}, l.Nodup → (∀ x ∈ l, x ∈ m) → l.length ≤ m.length
  | [], _, _, _ => Nat.zero_le _
  | x :: l, m, hn, h => by
    rw [List.nodup_cons] at hn
    have hx := h x (by simp)
    have := nodup_le (m := m.erase x) hn.2 fun y hy => (List.mem_erase_of_ne (fun e => hn.1 (by subst e; exact hy))).2 (h y (by simp [hy]))
    rw [List.length_erase_of_mem hx] at this
    have : 0 < m.length := List.length_pos_of_mem hx
    simp only [List.length_cons]
    omega
theorem mxB_ge (n : Int) : ∀ (ls : List (List Int)) (m : Int), m ≤ n → (∀ l ∈ ls, (l.length : Int) ≤ n) → mxB m ls ≤ n
  | [], m, h, _ => h
  | l :: ls, m, h, hl => mxB_ge n ls (mxI m l) (by unfold mxI; split <;> first | exact hl l (by simp) | exact h) fun l' h' => hl l' (by simp [h'])
theorem mxB_le : ∀ (ls : List (List Int)) (m : Int), m ≤ mxB m ls ∧ ∀ l ∈ ls, (l.length : Int) ≤ mxB m ls
  | [], m => ⟨Int.le_refl _, fun l hl => by cases hl⟩
  | l :: ls, m => by
    have h1 : m ≤ mxI m l := by unfold mxI; split <;> omega
    have h2 : (l.length : Int) ≤ mxI m l := by unfold mxI; split <;> omega
    obtain ⟨h3, h4⟩ := mxB_le ls (mxI m l)
    have e : mxB m (l :: ls) = mxB (mxI m l) ls := rfl
    rw [e]
    refine ⟨by omega, fun l' hl' => ?_⟩
    rcases List.mem_cons.1 hl' with rfl | hl'
    · omega
    · exact h4 l' hl'
theorem most_ge (n : Int) : ∀ (bs : List (List (List Int))) (m : Int), m ≤ n → (∀ ls ∈ bs, ∀ l ∈ ls, (l.length : Int) ≤ n) → bs.foldl mxB m ≤ n
  | [], m, h, _ => h
  | ls :: bs, m, h, hl => most_ge n bs (mxB m ls) (mxB_ge n ls m h (hl ls (by simp))) fun l' h' => hl l' (by simp [h'])
theorem most_le : ∀ (bs : List (List (List Int))) (m : Int), m ≤ bs.foldl mxB m ∧ ∀ ls ∈ bs, ∀ l ∈ ls, (l.length : Int) ≤ bs.foldl mxB m
  | [], m => ⟨Int.le_refl _, fun l hl => by cases hl⟩
  | ls :: bs, m => by
    obtain ⟨h1, h2⟩ := mxB_le ls m
    obtain ⟨h3, h4⟩ := most_le bs (mxB m ls)
    have e : (ls :: bs).foldl mxB m = bs.foldl mxB (mxB m ls) := rfl
    rw [e]
    refine ⟨by omega, fun l' hl' l hl => ?_⟩
    rcases List.mem_cons.1 hl' with rfl | hl'
    · have := h2 l hl; omega
    · exact h4 l' hl' l hl
theorem most_put {f : Func} {b : Nat} {bl : Block} {x : Ins} (hb : f.blocks[b]? = some bl) (hne : bl.ins ≠ []) (hw : writesB x = false) : mostF f ≤ mostF (putIns f b bl x) := by
  unfold mostF
  obtain ⟨h0, h1⟩ := most_le (allL (putIns f b bl x)) 0
  refine most_ge _ _ _ h0 fun ls hls l hl => ?_
  unfold allL at hls
  obtain ⟨c, hc, rfl⟩ := List.mem_map.1 hls
  have hc := List.mem_range.1 hc
  unfold blockL at hl
  obtain ⟨i, hi, rfl⟩ := List.mem_map.1 hl
  have hi := List.mem_range.1 hi
  have hbl : (putIns f b bl x).blocks.length = f.blocks.length := by simp [putIns]
  obtain ⟨j, hj, hd⟩ : ∃ j, j < (insOf (putIns f b bl x) c).length + 1 ∧ (insOf (putIns f b bl x) c).drop j = (insOf f c).drop i := by
    rw [insOf_put hb]
    split
    · rename_i hcb
      subst hcb
      have : insOf f c = bl.ins := by unfold insOf; rw [hb]
      rw [this] at hi ⊢
      exact ⟨i + 1, by simp; omega, rfl⟩
    · exact ⟨i, hi, rfl⟩
  have hm : placeL (putIns f b bl x) (regsL (putIns f b bl x)) c j ∈ blockL (putIns f b bl x) c := List.mem_map.2 ⟨j, List.mem_range.2 hj, rfl⟩
  have hm2 := h1 (blockL (putIns f b bl x) c) (by unfold allL; exact List.mem_map.2 ⟨c, List.mem_range.2 (by rw [hbl]; exact hc), rfl⟩) _ hm
  refine Int.le_trans ?_ hm2
  have hle : (placeL f (regsL f) c i).length ≤ (placeL (putIns f b bl x) (regsL (putIns f b bl x)) c j).length := by
    refine nodup_le ((regsL_asc f).filter _).nodup fun q hq => ?_
    unfold placeL at hq ⊢
    rw [List.mem_filter] at hq ⊢
    have hq2 := hq.2
    rw [liveAt_eq f (outS f c) c i (fun r => outS_iff) q] at hq2
    have hq3 : inS ((insOf (putIns f b bl x) c).drop j) (outS (putIns f b bl x) c) q = true := by
      rw [hd]
      exact inS_mono (fun r hr => outS_iff.2 (lout_put hb hne (by rw [hw]; rfl) (outS_iff.1 hr))) q hq2
    refine ⟨inS_subR _ c j q hq3, ?_⟩
    rw [liveAt_eq _ (outS (putIns f b bl x) c) c j (fun r => outS_iff) q]
    exact hq3
  omega
theorem bulkL_set {α : Type} {g : α → Nat} : ∀ {l : List α} {k : Nat} {y z : α}, l[k]? = some y → bulkL g (l.set k z) + g y = bulkL g l + g z
  | [], k, y, z, h => by simp at h
  | a :: l, 0, y, z, h => by
    have h : a = y := by simpa using h
    subst h
    simp only [List.set_cons_zero, bulkL]
    omega
  | a :: l, k + 1, y, z, h => by
    have := bulkL_set (g := g) (l := l) (k := k) (z := z) (by simpa using h)
    simp only [List.set_cons_succ, bulkL]
    omega
theorem bulk_put {f : Func} {b : Nat} {bl : Block} {x : Ins} (hb : f.blocks[b]? = some bl) : tFunc.bulk (putIns f b bl x) = tFunc.bulk f + tIns.bulk x := by
  have h1 := bulkL_set (g := tBlock.bulk) (z := putB bl x) hb
  have h2 : tBlock.bulk (putB bl x) = tBlock.bulk bl + tIns.bulk x := by
    rw [bulk_block, bulk_block]
    simp only [putB, bulkL]
    omega
  rw [bulk_func, bulk_func]
  simp only [putIns]
  omega
theorem ok_put {f : Func} {b : Nat} {bl : Block} {x : Ins} (ho : okFunc f) (hb : f.blocks[b]? = some bl) (hx : okIns x) : okFunc (putIns f b bl x) := ⟨ho.name, ho.args, ho.regs, fun y hy => by
  rcases List.mem_or_eq_of_mem_set hy with h | h
  · exact ho.blocks y h
  · rw [h]
    have hbl := ho.blocks bl (List.mem_of_getElem? hb)
    exact ⟨hbl.name, fun z hz => by
      rcases List.mem_cons.1 hz with h | h
      · rw [h]; exact hx
      · exact hbl.ins z h⟩⟩
end Mu
end
section
/-
  Rows written out that have no room behind them: what is appended to them makes a new row.
  Conditions: none; generic.
-/
namespace Mu
open Go Go.RowKit Go.ChangeShapes Go.WideShapes

/-- a row that is only read, of its own block, with no room behind it -/
def Ty.full {α : Type} (e : TypeId) (T : Ty α) : Ty (List α) where
  size := 1
  bulk := fun _ => 1
  RS := fun w S cs ds => ∃ g cells, cs = [.slice (some ⟨g, 0, none⟩) ds.length ds.length] ∧ S g ∧ w.ownsRow 0 e T.size (.slice (some ⟨g, 0, none⟩) ds.length ds.length) ds.length cells ∧ ∀ i d, ds[i]? = some d → T.RS w S ((cells.drop (i * T.size)).take T.size) d
  len := by rintro _ _ _ _ ⟨g, cells, rfl, _⟩; rfl
  keepS := by
    rintro w w' S S' cs ds ⟨g, cells, rfl, h1, h2, h3⟩ hb hS
    refine ⟨g, cells, rfl, hS g h1, ownsRow_same h2 fun k hk => ?_, fun i d hd => T.keepS (h3 i d hd) hb hS⟩
    have : g = k := by simpa [blkOf] using hk
    subst this
    exact hb g h1
section
variable {P : Program} {C : Ctx} {t : List AV} {h : List ABlk} {o : Oper}
theorem Quiet.litF {ty e : TypeId} {bytes n m : Nat} {parts : Array (Nat × Operand)} {xs : List Operand} {α : Type} {T : Ty α} {ds : List α} {enc : α → List AV} [RT P ty e m bytes] [EncOf T enc] (ho : o.op = .buildSlice ty n parts) (hp : parts = numbered xs) (hn : n = xs.length)
    (hs : T.size = m) (hsz : n * T.size ≤ 16777216) (hf : Fits h T (xs.map (evA t)) ds) : Quiet P C t h o (.tv (Ty.full e T) ds) := by
  have h0 := EncOf.pos (T := T) (enc := enc)
  have hT : rowTy P ty = some (e, T.size, bytes) := by rw [hs]; exact RT.eq
  subst hp hn
  intro S ψ w ρ H hρ
  have hrel : AV.relL w S h ψ (xs.map (evA t)) (xs.map ρ) := relL_map fun x hx => hρ x (by
    rw [ho]
    simp only [Op.operands, numbered, List.map_map]
    refine List.mem_toArray.2 (List.mem_map.2 ?_)
    obtain ⟨j, hj⟩ := List.mem_iff_getElem?.1 hx
    exact ⟨(x, j), by rw [List.mem_zipIdx_iff_getElem?]; exact hj, rfl⟩)
  obtain ⟨k1, k2, k3, k4⟩ := fits_cells H hf hrel
  have hds : ds.length = xs.length := by rw [← k1]; simp
  rw [run_buildOp ho, run_lit hT (by rw [List.length_map]; exact hsz) k2]
  have hb : Below w.heap.size w (w.alloc (.cells ((xs.map ρ).flatMap fun v => v.cells.toList).toArray e)) := (Below.refl _ _).alloc (Nat.le_refl _) _
  refine ⟨hb, fun k => S k ∨ k = w.heap.size, fun k hk => .inl hk, fun k hk => hk.imp id fun e => by omega, fun k hk => ?_, ?_⟩
  · rcases hk with hk | hk
    · have := H.lt k hk; simp; omega
    · simp; omega
  · unfold AV.rel
    have hmx : xs.length ≤ maxLen := by
      have : xs.length * 1 ≤ xs.length * T.size := Nat.mul_le_mul_left _ h0
      unfold maxLen
      omega
    refine ⟨w.heap.size, (xs.map ρ).flatMap fun v => v.cells.toList, by rw [hds, List.length_map], .inr rfl, ?_, fun i d hd => T.keepS (k4 i d hd) (fun k hk => hb.block k (H.lt k hk)) fun _ h => .inl h⟩
    rw [hds]
    exact row_lit (heap_alloc_new w _) (Nat.zero_le _) (by rw [k3, hds]) hmx |> fun h => by simpa using h
theorem Quiet.appF {ty : TypeId} {x y : Operand} {e : TypeId} {bytes m : Nat} {α : Type} {T : Ty α} {l l2 : List α} {enc : α → List AV} [RT P ty e m bytes] [EncOf T enc] (ho : o.op = .call { callee := .builtin .append, args := #[x, y], argTypes := #[ty, ty] })
    (hx : evA t x = .tv (Ty.full e T) l) (hy : evA t y = .bs T l2) (hs : T.size = m) (hlen : l.length + l2.length ≤ maxLen) (hbytes : (l.length + l2.length) * bytes ≤ 140737488355328) : Quiet P C t h o (.bs T (l ++ l2)) := by
  have hT : rowTy P ty = some (e, T.size, bytes) := by rw [hs]; exact RT.eq
  have h1T := EncOf.one (T := T) (enc := enc)
  intro S ψ w ρ H hρ
  have hx' := hρ x (by simp [ho, Op.operands, Call.operands])
  have hy' := hρ y (by simp [ho, Op.operands, Call.operands])
  rw [hx] at hx'
  rw [hy] at hy'
  unfold AV.rel at hx' hy'
  obtain ⟨g, cells, e1, hg, hown, hR⟩ := hx'
  have e1 : ρ x = .slice (some ⟨g, 0, none⟩) l.length l.length := by simpa using e1
  obtain ⟨h1, ti, z, h2, h3, h4, h5, h6⟩ := rowTy_spec hT
  obtain ⟨A, c, hyv⟩ := slice_form hy'
  rw [hyv] at hy'
  obtain ⟨news, hnl, hsrc, hnR, hn1⟩ := slice_src hy' fun cs d hcs => h1T _ _ _ _ hcs
  have h0 := EncOf.pos (T := T) (enc := enc)
  obtain ⟨v', w', hrun, hown', hgr, hob⟩ := run_more (P := P) (ty := o.type) (c := c) h1 h2 h3 h4 h5 h6 h0 hown (hsrc w fun _ _ => rfl) hn1 hlen hbytes (Nat.zero_le _)
  have hB : Below w.heap.size w w' := by
    rcases Nat.eq_zero_or_pos l2.length with hz | hz
    · have hnews : news = [] := List.eq_nil_of_length_eq_zero (by rw [hnl, hz, Nat.zero_mul])
      subst hnews
      have hsr : Go.Src P T.size ty (.slice A 0 c) 0 [] w := by
        cases A with
        | none => exact Go.Src.ofNil w h1 c
        | some a => exact Go.Src.ofSlice w h1 a 0 c [] (by simp) (fun j u hu => by simp at hu) fun u hu => by cases hu
      have hr0 := run_append_nothing (P := P) w ty ty o.type e ti h1 h2 (some ⟨g, 0, none⟩) l.length l.length (Nat.le_refl _) (.slice A 0 c) (by rw [h4]; exact hsr)
      rw [hz, hr0] at hrun
      cases hrun
      exact Below.refl _ _
    · obtain ⟨a, rfl⟩ : ∃ a, A = some a := by
        have hp : 0 < news.length := by rw [hnl]; exact Nat.mul_pos hz h0
        obtain ⟨ad, e2, _⟩ := (hsrc w fun _ _ => rfl).cells 0 _ (List.getElem?_eq_getElem hp)
        exact ⟨ad, e2⟩
      have hcl : cells.length = l.length * T.size := hown.1
      have hr0 := run_append_grow (P := P) w ty o.type e ti z h1 h2 h3 ⟨g, 0, none⟩ l.length l.length cells (by rw [h4]; exact hcl) (fun j u hu => World.ownsRow.cells hown (g := g) rfl _ _ hu) a l2.length c news (by rw [h4]; exact hnl)
        (fun j u hu => by obtain ⟨ad, e2, hc⟩ := (hsrc w fun _ _ => rfl).cells j u hu; cases e2; exact hc) (by omega) (by unfold maxLen at hlen; omega) (by
          have := nextslicecap_le (need := l.length + l2.length) (old := l.length) (by omega)
          have h7 : Builtin.nextslicecap (l.length + l2.length) l.length * ti.bytes ≤ 2 * (l.length + l2.length) * ti.bytes := Nat.mul_le_mul_right _ this
          rw [Nat.mul_assoc, h5] at h7
          rw [h5]
          omega)
      rw [hr0] at hrun
      cases hrun
      exact ⟨rfl, rfl, rfl, by simp, fun k hk => heap_alloc_old w.drew _ hk⟩
  have hres : (execOp ρ o).run P w = .ok (.value v') w' := by
    simp [execOp, ho, resolve, invoke, builtin, e1, hyv, hrun]
  rw [hres]
  refine ⟨hB, fun k => S k ∨ v'.ownBlock = some k, fun k hk => .inl hk, fun k hk => ?_, fun k hk => ?_, ?_⟩
  · rcases hk with hk | hk
    · exact .inl hk
    · rcases hob with h8 | h8
      · rw [h8] at hk
        have : g = k := by simpa [Value.ownBlock] using hk
        subst this
        exact .inl hg
      · rw [h8] at hk
        cases hk
        exact .inr (Nat.le_refl _)
  · rcases hk with hk | hk
    · exact Nat.lt_of_lt_of_le (H.lt k hk) hB.size
    · exact (World.ownsRow.lt hown' k hk).2
  · unfold AV.rel
    have hkeep : ∀ k, S k → w'.heap[k]? = w.heap[k]? := fun k hk => hB.block k (H.lt k hk)
    refine own_slice (base := 0) (e := e) (cells := cells ++ news) (by rw [List.length_append]; exact hown') (fun j d hj => ?_) fun k hk => .inr hk
    by_cases hjl : j < l.length
    · rw [List.getElem?_append_left hjl] at hj
      rw [join_left hown.1 hjl]
      exact T.keepS (hR j d hj) hkeep fun _ h => .inl h
    · rw [List.getElem?_append_right (by omega)] at hj
      obtain ⟨q, rfl⟩ : ∃ q, j = l.length + q := ⟨j - l.length, by omega⟩
      rw [join_right hown.1]
      exact T.keepS (hnR q d (by simpa using hj)) hkeep fun _ h => .inl h
end
end Mu
end
section
/-
  muntinlaw17: LiveMore, LiveCuts, walked.
  Conditions: at most 1500000 of everything.
-/
namespace Mu
open Go Go.RowKit Go.Proofs
instance : AG Try.prog 5 false 1 := ⟨by kernel_rfl⟩
instance : SZ Try.prog 5 1 := ⟨by kernel_rfl⟩

section
variable {P : Program} {C : Ctx} {t : List AV} {h : List ABlk} {o : Oper}
theorem Quiet.cvt {src dst : TypeId} {x : Operand} {k q : IntKind} {n m : Int} (hs : (P.underlying src).isSome = true) (hd : P.underlying dst = some (.int k)) (ho : o.op = .convert src dst x) (hx : evA t x = .lit (.int q n)) (hm : k.wrap n = m) : Quiet P C t h o (.lit (.int k m)) :=
  Quiet.of_run fun S ψ w ρ _ hρ => by
    have h1 := hρ x (by simp [ho, Op.operands])
    rw [hx] at h1
    unfold AV.rel at h1
    have hk : P.intKind dst = k := by simp [Program.intKind, hd]
    have hr := run_convert_int w src dst q n hs (by rw [hk]; exact hd)
    rw [hk] at hr
    refine ⟨.int k (k.wrap n), ?_, by rw [hm]; unfold AV.rel; rfl⟩
    simp [execOp, ho, h1, hr]
theorem Quiet.remN {xt yt : TypeId} {x y : Operand} {k : IntKind} {a b c : Nat} (hb : 0 < b) (hc : a % b = c) (ho : o.op = .binOp .rem xt x y yt) (hx : evA t x = .lit (.int k (a : Int))) (hy : evA t y = .lit (.int k (b : Int))) : Quiet P C t h o (.lit (.int k (c : Int))) := by
  refine Quiet.bin ho hx hy ?_
  unfold intBin
  have : ¬ (b : Int) = 0 := by omega
  simp only [if_neg this]
  rw [← hc, Int.tmod_eq_emod_of_nonneg (by omega)]
  rfl
end
/-- another row of instructions is put into a block -/
theorem upd_ins {h : List ABlk} {bl : Block} {l : List Ins} : RowUpd h tBlock bl 1 (.bs tIns l) 1 ⟨bl.name, l⟩ := fun C S ψ w v cs H hv hcs => by
  unfold AV.rel at hv
  obtain ⟨A, c, rfl⟩ := slice_form hv
  obtain ⟨A', c', rfl, h1, h2⟩ := tBlock_R.1 hcs
  refine ⟨rfl, by decide, fun u hu => ?_, tBlock_R.2 ⟨A, c, rfl, h1, hv⟩⟩
  simp [Value.cells] at hu
  subst hu
  rfl
theorem One.own' {h : List ABlk} {i ver : Nat} {e : TypeId} {α : Type} {T : Ty α} {l : List α} (hi : h[i]? = some (.row ver e T l)) : Parts h (.own i ver) [.own i ver] := Parts.one (One.own hi)
def insM (r : Int) : Ins := ⟨6, 0, r, 0, 0, 0, [], 0, 0⟩
def insC (r : Int) : Ins := ⟨0, r, 0, 0, 0, 0, [], 0, 0⟩
theorem ok_insM {r : Int} (h : wfI .i64 r) : okIns (insM r) := ⟨(by decide : (Lit.int .u8 (6 : Int)).wf = true), (by decide : (Lit.int .i64 (0 : Int)).wf = true), h, (by decide : (Lit.int .i64 (0 : Int)).wf = true), (by decide : (Lit.int .u32 (0 : Int)).wf = true), (by decide : (Lit.int .i64 (0 : Int)).wf = true), (by decide : (Lit.int .i64 (0 : Int)).wf = true), (by decide : (Lit.int .i64 (0 : Int)).wf = true), fun x hx => by cases hx⟩
theorem ok_insC {r : Int} (h : wfI .i64 r) : okIns (insC r) := ⟨(by decide : (Lit.int .u8 (0 : Int)).wf = true), h, (by decide : (Lit.int .i64 (0 : Int)).wf = true), (by decide : (Lit.int .i64 (0 : Int)).wf = true), (by decide : (Lit.int .u32 (0 : Int)).wf = true), (by decide : (Lit.int .i64 (0 : Int)).wf = true), (by decide : (Lit.int .i64 (0 : Int)).wf = true), (by decide : (Lit.int .i64 (0 : Int)).wf = true), fun x hx => by cases hx⟩
theorem has17_mem {xs : List Int} {q : Int} (hl : xs.length ≤ 2097152) (h : q ∈ xs) : Fn Try.prog 34 [.bs tInt xs, .lit (.int .i64 q)] (.lit (.bool true)) := by
  have := has17_fn xs q hl
  rwa [List.contains_iff_mem.2 h] at this
theorem inL_le (f : Func) (h : (regsL f).length ≤ 2097152) (k : Nat) : (inL f k).length ≤ 2097152 := Nat.le_trans (List.length_filter_le _ _) h
theorem outL_le (f : Func) (h : (regsL f).length ≤ 2097152) (k : Nat) : (outL f k).length ≤ 2097152 := Nat.le_trans (List.length_filter_le _ _) h
theorem inF_at {f : Func} {k : Nat} (h : k < f.blocks.length) : (inF f)[k]? = some (inL f k) := by unfold inF; rw [List.getElem?_map, List.getElem?_range h]; rfl
theorem outF_at {f : Func} {k : Nat} (h : k < f.blocks.length) : (outF f)[k]? = some (outL f k) := by unfold outF; rw [List.getElem?_map, List.getElem?_range h]; rfl
theorem inF_len (f : Func) : (inF f).length = f.blocks.length := by simp [inF]
theorem outF_len (f : Func) : (outF f).length = f.blocks.length := by simp [outF]
theorem readsM (r : Int) : readsC (insM r) = [r] := rfl
theorem writesM (r : Int) : writesB (insM r) = false := rfl
theorem readsK (r : Int) : readsC (insC r) = [] := rfl
theorem writesK (r : Int) : writesB (insC r) = true := rfl

set_option maxRecDepth 100000 in
set_option maxHeartbeats 4000000 in
theorem liveMore17_fn (f : Func) (a : Nat) (r : Int) (ho : okFunc f) (hbk : tFunc.bulk f ≤ 1500000) (ha : a ≤ 255) (hr : wfI .i64 r) : Fn Try.prog 9 [.agg (encFunc f), .lit (.int .u8 (a : Int)), .lit (.int .i64 r)] (.lit (.bool true)) := by
  have hs : smallF f := small_func (by omega)
  have hT : (allReads f).length ≤ 2097152 := reads_func (by omega)
  have hbl := hs.blocks
  have hLl : (regsL f).length ≤ 2097152 := Nat.le_trans (regsOf_le _) hT
  have hgr := great17_fn f hs
  refine Fn.of_awp Try.func9 rfl (by kernel_rfl) rfl Try.ntmps9 fun C hC => ?_
  simp only [List.length_cons, List.length_nil, Nat.reduceAdd, Nat.reduceSub, List.replicate_succ, List.replicate_zero, List.cons_append, List.nil_append]
  refine Awp.seq fun K1 h1 => ?_
  (refine Awp.region ?_; (repeat (first | refine sQ (hk := ?_) | refine sSkip (hk := ?_) | refine sOwn (hk := ?_))); refine aSeq_nil ?_)
  refine h1 _ ?_
  refine nT (hk := ?_)
  refine Awp.seq fun K2 h2 => ?_
  refine Awp.seq fun K3 h3 => ?_
  rcases hg : great17 f with _ | _
  · rw [hg] at hgr
    rcases hz : ((f.blocks.length : Int) == 0) with _ | _
    · have hn0 : 0 < f.blocks.length := by
        have : ¬ (f.blocks.length : Int) = 0 := by simpa using hz
        omega
      obtain ⟨b, hbe⟩ : ∃ b, a % f.blocks.length = b := ⟨_, rfl⟩
      have hlt : b < f.blocks.length := by rw [← hbe]; exact Nat.mod_lt _ hn0
      obtain ⟨bl, hblk⟩ : ∃ bl, f.blocks[b]? = some bl := ⟨_, List.getElem?_eq_getElem hlt⟩
      have hmem := List.mem_of_getElem? hblk
      have hsb := hs.all bl hmem
      have hb2 : (List.set f.blocks b ⟨bl.name, insM r :: bl.ins⟩)[b]? = some ⟨bl.name, insM r :: bl.ins⟩ := List.getElem?_set_self hlt
      have hcv : IntKind.i64.wrap (a : Int) = (a : Int) := IntWalk.i64_in _ ⟨by omega, by omega⟩
      have hu8 : (Try.prog.underlying 5).isSome = true := by kernel_rfl
      have hi64 : Try.prog.underlying 3 = some (.int .i64) := by kernel_rfl
      (refine Awp.region ?_; (repeat (first | refine sQ (hq := Quiet.call rfl hgr rfl rfl rfl) (hk := ?_) | refine sQ (hk := ?_) | refine sSkip (hk := ?_) | refine sOwn (hk := ?_))); refine aSeq_nil ?_)
      refine h3 _ ?_
      refine nT (hk := ?_)
      refine Awp.cond rfl (fun hb4 => by cases hb4) (fun hb4 => ?_)
      refine Awp.skip ?_
      refine h2 _ ?_
      refine nT (hk := ?_)
      refine Awp.seq fun K6 h6 => ?_
      (refine Awp.region ?_; (repeat (first | refine sQ (hq := Quiet.cvt hu8 hi64 rfl rfl hcv) (hk := ?_) | refine sQ (hq := Quiet.remN hn0 hbe rfl rfl rfl) (hk := ?_) | refine sQ (hk := ?_) | refine sSkip (hk := ?_) | refine sOwn (hk := ?_))); refine aSeq_nil ?_)
      refine h6 _ ?_
      refine nT (hk := ?_)
      refine Awp.seq fun K7 h7 => ?_
      (refine Awp.region ?_; (repeat (first | refine sQ (hk := ?_) | refine sSkip (hk := ?_) | refine sOwn (hk := ?_))); refine aSeq_nil ?_)
      refine h7 _ ?_
      refine nT (hk := ?_)
      refine Awp.seq fun K8 h8 => ?_
      have hn1 : ([] : List Block).length + f.blocks.length ≤ maxLen := by simp [maxLen]; omega
      have hn2 : (([] : List Block).length + f.blocks.length) * 40 ≤ 140737488355328 := by simp; omega
      have hn3 : [insM r].length + bl.ins.length ≤ maxLen := by have := hsb.ins; simp [maxLen]; omega
      have hn4 : ([insM r].length + bl.ins.length) * 88 ≤ 140737488355328 := by have := hsb.ins; simp; omega
      have hszI : sizeT Try.prog 40 = some 1 := by kernel_rfl
      have hk6 : (([] : List Block) ++ f.blocks)[b]? = some bl := hblk
      have hl6 : b < (([] : List Block) ++ f.blocks).length := hlt
      (refine Awp.region ?_; (repeat (first | refine sQ (hk := ?_) | refine sSkip (hk := ?_) | refine sOwn (hk := ?_))))
      refine aSeq_t rfl (AOp.lit (s := ⟨_, _⟩) (T := tBlock) (xs := []) (ds := []) (e := 42) (bytes := 40) rfl rfl rfl (by kernel_rfl) (by decide) (by decide) .nil ?_)
      refine sNt (hk := ?_)
      (repeat (first | (refine aSeq_t rfl (AOp.stBox (new := [_]) rfl rfl rfl (One.own' rfl) rfl (Nat.le_of_ble_eq_true rfl) ?_); refine sNt (hk := ?_)) | refine sQ (hk := ?_) | refine sSkip (hk := ?_) | refine sOwn (hk := ?_)))
      refine aSeq_nil ?_
      refine h8 _ ?_
      refine nT (hk := ?_)
      refine Awp.seq fun K9 h9 => ?_
      (refine drawD 15 (hh := ?_); (repeat (first | refine qQ (hq := Quiet.bld (rs := encIns0 (insM r)) rfl plIns rfl rfl) (hk := ?_) | refine qQ (hq := Quiet.litF (xs := [.tmp 41]) (T := tIns) (ds := [insM r]) rfl rfl rfl rfl (by decide) (.cons (Fit.agg fun _ _ _ _ h => put_ins0 (ok_insM hr) rfl h) .nil)) (hk := ?_) | refine qQ (hq := Quiet.appF rfl rfl rfl rfl hn3 hn4) (hk := ?_) | refine qQ (hk := ?_) | refine qSkip (hk := ?_))); refine aQ_nil ?_; (repeat (first | refine sQ (hq := Quiet.bld (rs := encIns0 (insM r)) rfl plIns rfl rfl) (hk := ?_) | refine sQ (hq := Quiet.litF (xs := [.tmp 41]) (T := tIns) (ds := [insM r]) rfl rfl rfl rfl (by decide) (.cons (Fit.agg fun _ _ _ _ h => put_ins0 (ok_insM hr) rfl h) .nil)) (hk := ?_) | refine sQ (hq := Quiet.appF rfl rfl rfl rfl hn3 hn4) (hk := ?_) | (refine aSeq_t rfl (AOp.storeRow (i := 2) (k := b) rfl rfl rfl hk6 upd_ins hszI ?_); refine sNt (hk := ?_)) | refine sQ (hk := ?_) | refine sSkip (hk := ?_) | refine sOwn (hk := ?_))); refine aSeq_nil ?_)
      refine h9 _ ?_
      refine nT (hk := ?_)
      refine Awp.seq fun K10 h10 => ?_
      refine Awp.seq fun K11 h11 => ?_
      rcases hz2 : ((bl.ins.length : Int) == 0) with _ | _
      · have hne : bl.ins ≠ [] := fun e => by rw [e] at hz2; cases hz2
        obtain ⟨f', hf'⟩ : ∃ f', f' = putIns f b bl (insM r) := ⟨_, rfl⟩
        have hbk' : tFunc.bulk f' ≤ 2000000 := by
          rw [hf', bulk_put hblk]
          have : tIns.bulk (insM r) = 10 := rfl
          omega
        have ho' : okFunc f' := by rw [hf']; exact ok_put ho hblk (ok_insM hr)
        have hs' : smallF f' := small_func (by omega)
        have hT' : (allReads f').length ≤ 2097152 := reads_func (by omega)
        have hLl' : (regsL f').length ≤ 2097152 := Nat.le_trans (regsOf_le _) hT'
        have hfl : f'.blocks.length = f.blocks.length := by rw [hf']; simp [putIns]
        have hpw : ∀ q : Int, (writesB (insM r) && (insM r).d == q) = false := fun q => by rw [writesM]; rfl
        have hin : ∀ k q, q ∈ inL f k → q ∈ inL f' k := fun k q h => by rw [hf']; exact mem_inL.2 (lin_put hblk hne (hpw q) (mem_inL.1 h))
        have hout : ∀ k q, q ∈ outL f k → q ∈ outL f' k := fun k q h => by rw [hf']; exact mem_outL.2 (lout_put hblk hne (hpw q) (mem_outL.1 h))
        have hmost : decide (mostF f' ≥ mostF f) = true := by rw [hf']; exact decide_eq_true (most_put hblk hne (writesM r))
        have hrb : r ∈ inL f' b := by
          rw [hf']
          refine mem_inL.2 (.inl ?_)
          rw [insOf_put hblk, if_pos rfl]
          unfold rdB
          rw [readsM]
          simp
        have e1 : (((inF f).length : Int) != (f.blocks.length : Int)) = false := by rw [inF_len]; simp
        have e2 : (((inF f').length : Int) != ((inF f).length : Int)) = false := by rw [inF_len, inF_len, hfl]; simp
        have e3 : (((outF f).length : Int) != ((inF f).length : Int)) = false := by rw [inF_len, outF_len]; simp
        have e4 : (((outF f').length : Int) != ((inF f).length : Int)) = false := by rw [inF_len, outF_len, hfl]; simp
        (refine Awp.region ?_; (repeat (first | refine sQ (hk := ?_) | refine sSkip (hk := ?_) | refine sOwn (hk := ?_))); refine aSeq_nil ?_)
        refine h11 _ ?_
        refine nT (hk := ?_)
        refine Awp.cond rfl (fun hb12 => by cases hb12) (fun hb12 => ?_)
        refine Awp.skip ?_
        refine h10 _ ?_
        refine nT (hk := ?_)
        refine Awp.via _ (St.le_fz hC 2 rfl) ?_
        refine Awp.via ⟨[.any, .any, .lit (.int .i64 r), .ptr 0 0, .any, .any, .any, .lit (.int .i64 (b : Int)), .ptr 1 0, .any, .any, .any, .any, .any, .any, .any, .any, .any, .any, .any, .any, .any, .any, .any, .any, .any, .any, .any, .any, .any, .any, .any, .any, .any, .any, .any, .any, .any, .any, .any, .any, .any, .any, .any, .any, .any, .any, .any, .any, .any, .any, .any, .any, .any, .any, .any, .any, .any, .any, .any, .any, .any, .any, .any, .any, .any, .any, .any, .any, .any, .any, .any, .any, .any, .any, .any, .any, .any, .any, .any, .any, .any, .any, .any, .any, .any, .any, .any, .any, .any, .any, .any, .any, .any, .any, .any, .any, .any, .any, .any, .any, .any, .any, .any, .any, .any, .any, .any, .any, .any, .any, .any, .any, .any, .any, .any, .any, .any, .any, .any, .any, .any, .any, .any, .any, .any, .any, .any, .any, .any, .any, .any, .any, .any, .any, .any, .any, .any, .any, .any, .any, .any, .any, .any, .any, .any, .any, .any, .any, .any, .any, .any, .any, .any, .any, .any, .any, .any, .any, .any, .any, .any], [.box (encFunc f), .box (encFunc (putIns f b bl (insM r))), .dead]⟩ (le_T) ?_
        rw [← hf']
        refine Awp.seq fun K14 h14 => ?_
        (refine drawD 12 (hh := ?_); (repeat (first | refine qQ (hq := Quiet.call rfl (in_fn f ho hs hT) rfl rfl rfl) (hk := ?_) | refine qQ (hq := Quiet.call rfl (in_fn f' ho' hs' hT') rfl rfl rfl) (hk := ?_) | refine qQ (hq := Quiet.call rfl (out_fn f ho hs hT) rfl rfl rfl) (hk := ?_) | refine qQ (hq := Quiet.call rfl (out_fn f' ho' hs' hT') rfl rfl rfl) (hk := ?_) | refine qQ (hk := ?_) | refine qSkip (hk := ?_))); refine aQ_nil ?_; (repeat (first | refine sQ (hq := Quiet.call rfl (in_fn f ho hs hT) rfl rfl rfl) (hk := ?_) | refine sQ (hq := Quiet.call rfl (in_fn f' ho' hs' hT') rfl rfl rfl) (hk := ?_) | refine sQ (hq := Quiet.call rfl (out_fn f ho hs hT) rfl rfl rfl) (hk := ?_) | refine sQ (hq := Quiet.call rfl (out_fn f' ho' hs' hT') rfl rfl rfl) (hk := ?_) | refine sQ (hk := ?_) | refine sSkip (hk := ?_) | refine sOwn (hk := ?_))); refine aSeq_nil ?_)
        refine h14 _ ?_
        refine nT (hk := ?_)
        refine Awp.seq fun K15 h15 => ?_
        refine Awp.seq fun K16 h16 => ?_
        (refine Awp.region ?_; (repeat (first | refine sQ (hk := ?_) | refine sSkip (hk := ?_) | refine sOwn (hk := ?_))); refine aSeq_nil ?_)
        refine h16 _ ?_
        refine nT (hk := ?_)
        refine Awp.cond rfl (fun hb17 => by cases hb17) (fun hb17 => ?_)
        refine Awp.skip ?_
        refine h15 _ ?_
        refine nT (hk := ?_)
        refine Awp.seq fun K19 h19 => ?_
        refine Awp.seq fun K20 h20 => ?_
        (refine Awp.region ?_; (repeat (first | refine sQ (hk := ?_) | refine sSkip (hk := ?_) | refine sOwn (hk := ?_))); refine aSeq_nil ?_)
        refine h20 _ ?_
        refine nT (hk := ?_)
        refine Awp.block ?_
        refine Awp.loopF (fun k : Nat => ⟨[.any, .any, .lit (.int .i64 r), .ptr 0 0, .any, .any, .any, .lit (.int .i64 (b : Int)), .ptr 1 0, .bs tInt.slice (inF f), .bs tInt.slice (inF f'), .bs tInt.slice (outF f), .bs tInt.slice (outF f'), .lit (.int .i64 (k : Int)), .any, .any, .any, .any, .any, .any, .any, .any, .any, .any, .any, .any, .any, .any, .any, .any, .any, .any, .any, .any, .any, .any, .any, .any, .any, .any, .any, .any, .any, .any, .any, .any, .any, .any, .any, .any, .any, .any, .any, .any, .any, .any, .any, .any, .any, .any, .any, .any, .any, .any, .any, .any, .any, .any, .any, .any, .any, .any, .any, .any, .any, .any, .any, .any, .any, .any, .any, .any, .any, .any, .any, .any, .any, .any, .any, .any, .any, .any, .any, .any, .any, .any, .any, .any, .any, .any, .any, .any, .any, .any, .any, .any, .any, .any, .any, .any, .any, .any, .any, .any, .any, .any, .any, .any, .any, .any, .any, .any, .any, .any, .any, .any, .any, .any, .any, .any, .any, .any, .any, .any, .any, .any, .any, .any, .any, .any, .any, .any, .any, .any, .any, .any, .any, .any, .any, .any, .any, .any, .any, .any, .any, .any, .any, .any, .any, .any, .any, .any], [.box (encFunc f), .box (encFunc f'), .dead]⟩) (fun k => k ≤ f.blocks.length) (fun k => f.blocks.length - k) 0 (Nat.zero_le _) (le_T) ?_
        intro k hk
        dsimp only at hk ⊢
        refine Awp.seq fun K22 h22 => ?_
        refine Awp.seq fun K23 h23 => ?_
        (refine Awp.region ?_; (repeat (first | refine sQ (hk := ?_) | refine sSkip (hk := ?_) | refine sOwn (hk := ?_))); refine aSeq_nil ?_)
        refine h23 _ ?_
        refine nT (hk := ?_)
        refine Awp.cond rfl (fun hb24 => ?_) (fun hb24 => ?_)
        · have hkl : k < f.blocks.length := by rw [inF_len] at hb24; simpa using hb24
          have hx1 := inF_at hkl
          have hx2 := outF_at hkl
          have hx3 : (inF f')[k]? = some (inL f' k) := inF_at (by omega)
          have hx4 : (outF f')[k]? = some (outL f' k) := outF_at (by omega)
          have hil := inL_le f hLl k
          have hol := outL_le f hLl k
          refine Awp.skip ?_
          refine h22 _ ?_
          refine nT (hk := ?_)
          refine Awp.seq fun K25 h25 => ?_
          refine Awp.block ?_
          refine Awp.seq fun K26 h26 => ?_
          refine Awp.seq fun K27 h27 => ?_
          (refine Awp.region ?_; (repeat (first | refine sQ (hk := ?_) | refine sSkip (hk := ?_) | refine sOwn (hk := ?_))); refine aSeq_nil ?_)
          refine h27 _ ?_
          refine nT (hk := ?_)
          refine Awp.block ?_
          refine Awp.loopF (fun i : Nat => ⟨[.any, .any, .lit (.int .i64 r), .ptr 0 0, .any, .any, .any, .lit (.int .i64 (b : Int)), .ptr 1 0, .bs tInt.slice (inF f), .bs tInt.slice (inF f'), .bs tInt.slice (outF f), .bs tInt.slice (outF f'), .lit (.int .i64 (k : Int)), .lit (.int .i64 (i : Int)), .any, .any, .any, .any, .any, .any, .any, .any, .any, .any, .any, .any, .any, .any, .any, .any, .any, .any, .any, .any, .any, .any, .any, .any, .any, .any, .any, .any, .any, .any, .any, .any, .any, .any, .any, .any, .any, .any, .any, .any, .any, .any, .any, .any, .any, .any, .any, .any, .any, .any, .any, .any, .any, .any, .any, .any, .any, .any, .any, .any, .any, .any, .any, .any, .any, .any, .any, .any, .any, .any, .any, .any, .any, .any, .any, .any, .any, .any, .any, .any, .any, .any, .any, .any, .any, .any, .any, .any, .any, .any, .any, .any, .any, .any, .any, .any, .any, .any, .any, .any, .any, .any, .any, .any, .any, .any, .any, .any, .any, .any, .any, .any, .any, .any, .any, .any, .any, .any, .any, .any, .any, .any, .any, .any, .any, .any, .any, .any, .any, .any, .any, .any, .any, .any, .any, .any, .any, .any, .any, .any, .any, .any, .any, .any, .any, .any, .any], [.box (encFunc f), .box (encFunc f'), .dead]⟩) (fun i => i ≤ (inL f k).length) (fun i => (inL f k).length - i) 0 (Nat.zero_le _) (le_T) ?_
          intro i hi
          dsimp only at hi ⊢
          refine Awp.seq fun K29 h29 => ?_
          refine Awp.seq fun K30 h30 => ?_
          (refine Awp.region ?_; (repeat (first | refine sQ (hk := ?_) | refine sSkip (hk := ?_) | refine sOwn (hk := ?_))); refine aSeq_nil ?_)
          refine h30 _ ?_
          refine nT (hk := ?_)
          refine Awp.cond rfl (fun hb31 => ?_) (fun hb31 => ?_)
          · have hil2 : i < (inL f k).length := by simpa using hb31
            obtain ⟨q, hq⟩ : ∃ q, (inL f k)[i]? = some q := ⟨_, List.getElem?_eq_getElem hil2⟩
            have hh := has17_mem (inL_le f' hLl' k) (hin k q (List.mem_of_getElem? hq))
            refine Awp.skip ?_
            refine h29 _ ?_
            refine nT (hk := ?_)
            refine Awp.seq fun K32 h32 => ?_
            refine Awp.block ?_
            refine Awp.seq fun K33 h33 => ?_
            (refine drawD 13 (hh := ?_); (repeat (first | refine qQ (hq := Quiet.call rfl hh rfl rfl rfl) (hk := ?_) | refine qQ (hk := ?_) | refine qSkip (hk := ?_))); refine aQ_nil ?_; (repeat (first | refine sQ (hq := Quiet.call rfl hh rfl rfl rfl) (hk := ?_) | refine sQ (hk := ?_) | refine sSkip (hk := ?_) | refine sOwn (hk := ?_))); refine aSeq_nil ?_)
            refine h33 _ ?_
            refine nT (hk := ?_)
            refine Awp.cond rfl (fun hb34 => by cases hb34) (fun hb34 => ?_)
            refine Awp.skip ?_
            refine h32 _ ?_
            refine nT (hk := ?_)
            (refine Awp.region ?_; (repeat (first | refine sQ (hk := ?_) | refine sSkip (hk := ?_) | refine sOwn (hk := ?_))); refine aSeq_nil ?_)
            refine athen_n ⟨i + 1, by omega, by omega, ?_⟩
            exact le_T
          · refine Awp.exit ?_
            refine h26 _ ?_
            refine nT (hk := ?_)
            refine Awp.seq fun K36 h36 => ?_
            (refine Awp.region ?_; (repeat (first | refine sQ (hk := ?_) | refine sSkip (hk := ?_) | refine sOwn (hk := ?_))); refine aSeq_nil ?_)
            refine h36 _ ?_
            refine nT (hk := ?_)
            refine Awp.block ?_
            refine Awp.loopF (fun i : Nat => ⟨[.any, .any, .lit (.int .i64 r), .ptr 0 0, .any, .any, .any, .lit (.int .i64 (b : Int)), .ptr 1 0, .bs tInt.slice (inF f), .bs tInt.slice (inF f'), .bs tInt.slice (outF f), .bs tInt.slice (outF f'), .lit (.int .i64 (k : Int)), .any, .lit (.int .i64 (i : Int)), .any, .any, .any, .any, .any, .any, .any, .any, .any, .any, .any, .any, .any, .any, .any, .any, .any, .any, .any, .any, .any, .any, .any, .any, .any, .any, .any, .any, .any, .any, .any, .any, .any, .any, .any, .any, .any, .any, .any, .any, .any, .any, .any, .any, .any, .any, .any, .any, .any, .any, .any, .any, .any, .any, .any, .any, .any, .any, .any, .any, .any, .any, .any, .any, .any, .any, .any, .any, .any, .any, .any, .any, .any, .any, .any, .any, .any, .any, .any, .any, .any, .any, .any, .any, .any, .any, .any, .any, .any, .any, .any, .any, .any, .any, .any, .any, .any, .any, .any, .any, .any, .any, .any, .any, .any, .any, .any, .any, .any, .any, .any, .any, .any, .any, .any, .any, .any, .any, .any, .any, .any, .any, .any, .any, .any, .any, .any, .any, .any, .any, .any, .any, .any, .any, .any, .any, .any, .any, .any, .any, .any, .any, .any, .any, .any, .any], [.box (encFunc f), .box (encFunc f'), .dead]⟩) (fun i => i ≤ (outL f k).length) (fun i => (outL f k).length - i) 0 (Nat.zero_le _) (le_T) ?_
            intro i hi
            dsimp only at hi ⊢
            refine Awp.seq fun K38 h38 => ?_
            refine Awp.seq fun K39 h39 => ?_
            (refine Awp.region ?_; (repeat (first | refine sQ (hk := ?_) | refine sSkip (hk := ?_) | refine sOwn (hk := ?_))); refine aSeq_nil ?_)
            refine h39 _ ?_
            refine nT (hk := ?_)
            refine Awp.cond rfl (fun hb40 => ?_) (fun hb40 => ?_)
            · have hil2 : i < (outL f k).length := by simpa using hb40
              obtain ⟨q, hq⟩ : ∃ q, (outL f k)[i]? = some q := ⟨_, List.getElem?_eq_getElem hil2⟩
              have hh := has17_mem (outL_le f' hLl' k) (hout k q (List.mem_of_getElem? hq))
              refine Awp.skip ?_
              refine h38 _ ?_
              refine nT (hk := ?_)
              refine Awp.seq fun K41 h41 => ?_
              refine Awp.block ?_
              refine Awp.seq fun K42 h42 => ?_
              (refine drawD 13 (hh := ?_); (repeat (first | refine qQ (hq := Quiet.call rfl hh rfl rfl rfl) (hk := ?_) | refine qQ (hk := ?_) | refine qSkip (hk := ?_))); refine aQ_nil ?_; (repeat (first | refine sQ (hq := Quiet.call rfl hh rfl rfl rfl) (hk := ?_) | refine sQ (hk := ?_) | refine sSkip (hk := ?_) | refine sOwn (hk := ?_))); refine aSeq_nil ?_)
              refine h42 _ ?_
              refine nT (hk := ?_)
              refine Awp.cond rfl (fun hb43 => by cases hb43) (fun hb43 => ?_)
              refine Awp.skip ?_
              refine h41 _ ?_
              refine nT (hk := ?_)
              (refine Awp.region ?_; (repeat (first | refine sQ (hk := ?_) | refine sSkip (hk := ?_) | refine sOwn (hk := ?_))); refine aSeq_nil ?_)
              refine athen_n ⟨i + 1, by omega, by omega, ?_⟩
              exact le_T
            · refine Awp.exit ?_
              refine h25 _ ?_
              refine nT (hk := ?_)
              (refine Awp.region ?_; (repeat (first | refine sQ (hk := ?_) | refine sSkip (hk := ?_) | refine sOwn (hk := ?_))); refine aSeq_nil ?_)
              refine athen_n ⟨k + 1, by omega, by omega, ?_⟩
              exact le_T
        · refine Awp.exit ?_
          have hx3 : (inF f')[b]? = some (inL f' b) := inF_at (by omega)
          have hh := has17_mem (inL_le f' hLl' b) hrb
          refine h19 _ ?_
          refine nT (hk := ?_)
          refine Awp.seq fun K45 h45 => ?_
          (refine drawD 17 (hh := ?_); (repeat (first | refine qQ (hq := Quiet.call rfl hh rfl rfl rfl) (hk := ?_) | refine qQ (hq := Quiet.call rfl (most_fn f ho hs hT) rfl rfl rfl) (hk := ?_) | refine qQ (hq := Quiet.call rfl (most_fn f' ho' hs' hT') rfl rfl rfl) (hk := ?_) | refine qQ (hq := Quiet.call rfl head17_fn rfl rfl rfl) (hk := ?_) | refine qQ (hk := ?_) | refine qSkip (hk := ?_))); refine aQ_nil ?_; (repeat (first | refine sQ (hq := Quiet.call rfl hh rfl rfl rfl) (hk := ?_) | refine sQ (hq := Quiet.call rfl (most_fn f ho hs hT) rfl rfl rfl) (hk := ?_) | refine sQ (hq := Quiet.call rfl (most_fn f' ho' hs' hT') rfl rfl rfl) (hk := ?_) | refine sQ (hq := Quiet.call rfl head17_fn rfl rfl rfl) (hk := ?_) | refine sQ (hk := ?_) | refine sSkip (hk := ?_) | refine sOwn (hk := ?_))); refine aSeq_nil ?_)
          refine h45 _ ?_
          refine nT (hk := ?_)
          refine Awp.ret ?_
          exact ⟨.inr rfl, Fin.cl rfl⟩
      · (refine Awp.region ?_; (repeat (first | refine sQ (hk := ?_) | refine sSkip (hk := ?_) | refine sOwn (hk := ?_))); refine aSeq_nil ?_)
        refine h11 _ ?_
        refine nT (hk := ?_)
        refine Awp.cond rfl (fun hb12 => ?_) (fun hb12 => by cases hb12)
        refine Awp.seq fun K13 h13 => ?_
        (refine Awp.region ?_; (repeat (first | refine sQ (hq := Quiet.call rfl head17_fn rfl rfl rfl) (hk := ?_) | refine sQ (hk := ?_) | refine sSkip (hk := ?_) | refine sOwn (hk := ?_))); refine aSeq_nil ?_)
        refine h13 _ ?_
        refine nT (hk := ?_)
        refine Awp.ret ?_
        exact ⟨.inr rfl, Fin.cl rfl⟩
    · (refine Awp.region ?_; (repeat (first | refine sQ (hq := Quiet.call rfl hgr rfl rfl rfl) (hk := ?_) | refine sQ (hk := ?_) | refine sSkip (hk := ?_) | refine sOwn (hk := ?_))); refine aSeq_nil ?_)
      refine h3 _ ?_
      refine nT (hk := ?_)
      refine Awp.cond rfl (fun hb4 => ?_) (fun hb4 => by cases hb4)
      refine Awp.seq fun K5 h5 => ?_
      (refine Awp.region ?_; (repeat (first | refine sQ (hq := Quiet.call rfl head17_fn rfl rfl rfl) (hk := ?_) | refine sQ (hk := ?_) | refine sSkip (hk := ?_) | refine sOwn (hk := ?_))); refine aSeq_nil ?_)
      refine h5 _ ?_
      refine nT (hk := ?_)
      refine Awp.ret ?_
      exact ⟨.inr rfl, Fin.cl rfl⟩
  · rw [hg] at hgr
    (refine Awp.region ?_; (repeat (first | refine sQ (hq := Quiet.call rfl hgr rfl rfl rfl) (hk := ?_) | refine sQ (hk := ?_) | refine sSkip (hk := ?_) | refine sOwn (hk := ?_))); refine aSeq_nil ?_)
    refine h3 _ ?_
    refine nT (hk := ?_)
    refine Awp.cond rfl (fun hb4 => ?_) (fun hb4 => by cases hb4)
    refine Awp.seq fun K5 h5 => ?_
    (refine Awp.region ?_; (repeat (first | refine sQ (hq := Quiet.call rfl head17_fn rfl rfl rfl) (hk := ?_) | refine sQ (hk := ?_) | refine sSkip (hk := ?_) | refine sOwn (hk := ?_))); refine aSeq_nil ?_)
    refine h5 _ ?_
    refine nT (hk := ?_)
    refine Awp.ret ?_
    exact ⟨.inr rfl, Fin.cl rfl⟩
end Mu
end
section
/-
  muntinlaw17: LiveCuts, walked.
  Conditions: at most 1500000 of everything.
-/
namespace Mu
open Go Go.RowKit Go.Proofs

set_option maxRecDepth 100000 in
set_option maxHeartbeats 4000000 in
theorem liveCuts17_fn (f : Func) (a r : Nat) (ho : okFunc f) (hbk : tFunc.bulk f ≤ 1500000) (ha : a ≤ 255) (hr : r ≤ 255) : Fn Try.prog 10 [.agg (encFunc f), .lit (.int .u8 (a : Int)), .lit (.int .u8 (r : Int))] (.lit (.bool true)) := by
  have hs : smallF f := small_func (by omega)
  have hT : (allReads f).length ≤ 2097152 := reads_func (by omega)
  have hbl := hs.blocks
  have hLl : (regsL f).length ≤ 2097152 := Nat.le_trans (regsOf_le _) hT
  have hgr := great17_fn f hs
  have hrw : wfI .i64 (r : Int) := nat_wf (by omega)
  refine Fn.of_awp Try.func10 rfl (by kernel_rfl) rfl Try.ntmps10 fun C hC => ?_
  simp only [List.length_cons, List.length_nil, Nat.reduceAdd, Nat.reduceSub, List.replicate_succ, List.replicate_zero, List.cons_append, List.nil_append]
  refine Awp.seq fun K1 h1 => ?_
  (refine Awp.region ?_; (repeat (first | refine sQ (hk := ?_) | refine sSkip (hk := ?_) | refine sOwn (hk := ?_))); refine aSeq_nil ?_)
  refine h1 _ ?_
  refine nT (hk := ?_)
  refine Awp.seq fun K2 h2 => ?_
  refine Awp.seq fun K3 h3 => ?_
  rcases hg : great17 f with _ | _
  · rw [hg] at hgr
    rcases hz : ((f.blocks.length : Int) == 0) with _ | _
    · have hn0 : 0 < f.blocks.length := by
        have : ¬ (f.blocks.length : Int) = 0 := by simpa using hz
        omega
      obtain ⟨b, hbe⟩ : ∃ b, a % f.blocks.length = b := ⟨_, rfl⟩
      have hlt : b < f.blocks.length := by rw [← hbe]; exact Nat.mod_lt _ hn0
      obtain ⟨bl, hblk⟩ : ∃ bl, f.blocks[b]? = some bl := ⟨_, List.getElem?_eq_getElem hlt⟩
      have hmem := List.mem_of_getElem? hblk
      have hsb := hs.all bl hmem
      have hcv : IntKind.i64.wrap (a : Int) = (a : Int) := IntWalk.i64_in _ ⟨by omega, by omega⟩
      have hcr : IntKind.i64.wrap (r : Int) = (r : Int) := IntWalk.i64_in _ ⟨by omega, by omega⟩
      have hu8 : (Try.prog.underlying 5).isSome = true := by kernel_rfl
      have hi64 : Try.prog.underlying 3 = some (.int .i64) := by kernel_rfl
      (refine Awp.region ?_; (repeat (first | refine sQ (hq := Quiet.call rfl hgr rfl rfl rfl) (hk := ?_) | refine sQ (hk := ?_) | refine sSkip (hk := ?_) | refine sOwn (hk := ?_))); refine aSeq_nil ?_)
      refine h3 _ ?_
      refine nT (hk := ?_)
      refine Awp.cond rfl (fun hb4 => by cases hb4) (fun hb4 => ?_)
      refine Awp.skip ?_
      refine h2 _ ?_
      refine nT (hk := ?_)
      refine Awp.seq fun K6 h6 => ?_
      (refine Awp.region ?_; (repeat (first | refine sQ (hq := Quiet.cvt hu8 hi64 rfl rfl hcv) (hk := ?_) | refine sQ (hq := Quiet.remN hn0 hbe rfl rfl rfl) (hk := ?_) | refine sQ (hk := ?_) | refine sSkip (hk := ?_) | refine sOwn (hk := ?_))); refine aSeq_nil ?_)
      refine h6 _ ?_
      refine nT (hk := ?_)
      refine Awp.seq fun K7 h7 => ?_
      refine Awp.seq fun K8 h8 => ?_
      rcases hz2 : ((bl.ins.length : Int) == 0) with _ | _
      · have hne : bl.ins ≠ [] := fun e => by rw [e] at hz2; cases hz2
        (refine Awp.region ?_; (repeat (first | refine sQ (hk := ?_) | refine sSkip (hk := ?_) | refine sOwn (hk := ?_))); refine aSeq_nil ?_)
        refine h8 _ ?_
        refine nT (hk := ?_)
        refine Awp.cond rfl (fun hb9 => by cases hb9) (fun hb9 => ?_)
        refine Awp.skip ?_
        refine h7 _ ?_
        refine nT (hk := ?_)
        refine Awp.seq fun K11 h11 => ?_
        (refine Awp.region ?_; (repeat (first | refine sQ (hk := ?_) | refine sSkip (hk := ?_) | refine sOwn (hk := ?_))); refine aSeq_nil ?_)
        refine h11 _ ?_
        refine nT (hk := ?_)
        refine Awp.seq fun K12 h12 => ?_
        have hn1 : ([] : List Block).length + f.blocks.length ≤ maxLen := by simp [maxLen]; omega
        have hn2 : (([] : List Block).length + f.blocks.length) * 40 ≤ 140737488355328 := by simp; omega
        have hn3 : [insC (r : Int)].length + bl.ins.length ≤ maxLen := by have := hsb.ins; simp [maxLen]; omega
        have hn4 : ([insC (r : Int)].length + bl.ins.length) * 88 ≤ 140737488355328 := by have := hsb.ins; simp; omega
        have hszI : sizeT Try.prog 40 = some 1 := by kernel_rfl
        have hk6 : (([] : List Block) ++ f.blocks)[b]? = some bl := hblk
        have hl6 : b < (([] : List Block) ++ f.blocks).length := hlt
        (refine Awp.region ?_; (repeat (first | refine sQ (hk := ?_) | refine sSkip (hk := ?_) | refine sOwn (hk := ?_))))
        refine aSeq_t rfl (AOp.lit (s := ⟨_, _⟩) (T := tBlock) (xs := []) (ds := []) (e := 42) (bytes := 40) rfl rfl rfl (by kernel_rfl) (by decide) (by decide) .nil ?_)
        refine sNt (hk := ?_)
        (repeat (first | (refine aSeq_t rfl (AOp.stBox (new := [_]) rfl rfl rfl (One.own' rfl) rfl (Nat.le_of_ble_eq_true rfl) ?_); refine sNt (hk := ?_)) | refine sQ (hk := ?_) | refine sSkip (hk := ?_) | refine sOwn (hk := ?_)))
        refine aSeq_nil ?_
        refine h12 _ ?_
        refine nT (hk := ?_)
        refine Awp.seq fun K13 h13 => ?_
        (refine drawD 16 (hh := ?_); (repeat (first | refine qQ (hq := Quiet.cvt hu8 hi64 rfl rfl hcr) (hk := ?_) | refine qQ (hq := Quiet.bld (rs := encIns0 (insC (r : Int))) rfl plIns rfl rfl) (hk := ?_) | refine qQ (hq := Quiet.litF (xs := [.tmp 52]) (T := tIns) (ds := [insC (r : Int)]) rfl rfl rfl rfl (by decide) (.cons (Fit.agg fun _ _ _ _ h => put_ins0 (ok_insC hrw) rfl h) .nil)) (hk := ?_) | refine qQ (hq := Quiet.appF rfl rfl rfl rfl hn3 hn4) (hk := ?_) | refine qQ (hk := ?_) | refine qSkip (hk := ?_))); refine aQ_nil ?_; (repeat (first | refine sQ (hq := Quiet.cvt hu8 hi64 rfl rfl hcr) (hk := ?_) | refine sQ (hq := Quiet.bld (rs := encIns0 (insC (r : Int))) rfl plIns rfl rfl) (hk := ?_) | refine sQ (hq := Quiet.litF (xs := [.tmp 52]) (T := tIns) (ds := [insC (r : Int)]) rfl rfl rfl rfl (by decide) (.cons (Fit.agg fun _ _ _ _ h => put_ins0 (ok_insC hrw) rfl h) .nil)) (hk := ?_) | refine sQ (hq := Quiet.appF rfl rfl rfl rfl hn3 hn4) (hk := ?_) | (refine aSeq_t rfl (AOp.storeRow (i := 2) (k := b) rfl rfl rfl hk6 upd_ins hszI ?_); refine sNt (hk := ?_)) | refine sQ (hk := ?_) | refine sSkip (hk := ?_) | refine sOwn (hk := ?_))); refine aSeq_nil ?_)
        refine h13 _ ?_
        refine nT (hk := ?_)
        obtain ⟨f', hf'⟩ : ∃ f', f' = putIns f b bl (insC (r : Int)) := ⟨_, rfl⟩
        have hbk' : tFunc.bulk f' ≤ 2000000 := by
          rw [hf', bulk_put hblk]
          have : tIns.bulk (insC (r : Int)) = 10 := rfl
          omega
        have ho' : okFunc f' := by rw [hf']; exact ok_put ho hblk (ok_insC hrw)
        have hs' : smallF f' := small_func (by omega)
        have hT' : (allReads f').length ≤ 2097152 := reads_func (by omega)
        have hLl' : (regsL f').length ≤ 2097152 := Nat.le_trans (regsOf_le _) hT'
        have hfl : f'.blocks.length = f.blocks.length := by rw [hf']; simp [putIns]
        have hrd : ∀ q : Int, (readsC (insC (r : Int))).contains q = false := fun q => by rw [readsK]; rfl
        have hin : ∀ k q, q ∈ inL f' k → q ∈ inL f k := fun k q h => by rw [hf'] at h; exact mem_inL.2 (lin_back hblk hne (hrd q) (mem_inL.1 h))
        have hout : ∀ k q, q ∈ outL f' k → q ∈ outL f k := fun k q h => by rw [hf'] at h; exact mem_outL.2 (lout_back hblk hne (hrd q) (mem_outL.1 h))
        have hkeep : ∀ k q, q ∈ inL f k → q ≠ (r : Int) → q ∈ inL f' k := fun k q h hqr => by
          rw [hf']
          refine mem_inL.2 (lin_put hblk hne ?_ (mem_inL.1 h))
          show (true && (r : Int) == q) = false
          simp [Ne.symm hqr]
        have hrb : (inL f' b).contains (r : Int) = false := by
          rw [← Bool.not_eq_true, List.contains_iff_mem]
          intro h
          rw [hf'] at h
          have h1 := mem_inL.1 h
          unfold LIn at h1
          rw [insOf_put hblk, if_pos rfl] at h1
          have e1 : rdB (r : Int) (insC (r : Int) :: bl.ins) = false := by
            unfold rdB
            rw [readsK, writesK]
            simp [insC]
          have e2 : thru (r : Int) (insC (r : Int) :: bl.ins) = false := by
            unfold thru
            rw [writesK]
            simp [insC]
          rw [e1, e2] at h1
          rcases h1 with h1 | ⟨h1, _⟩ <;> cases h1
        have e1 : (((inF f).length : Int) != (f.blocks.length : Int)) = false := by rw [inF_len]; simp
        have e2 : (((inF f').length : Int) != ((inF f).length : Int)) = false := by rw [inF_len, inF_len, hfl]; simp
        have e3 : (((outF f).length : Int) != ((inF f).length : Int)) = false := by rw [inF_len, outF_len]; simp
        have e4 : (((outF f').length : Int) != ((inF f).length : Int)) = false := by rw [inF_len, outF_len, hfl]; simp
        have hxb : (inF f')[b]? = some (inL f' b) := inF_at (by omega)
        have hhb := has17_fn (inL f' b) (r : Int) (inL_le f' hLl' b)
        rw [hrb] at hhb
        refine Awp.via _ (St.le_fz hC 2 rfl) ?_
        refine Awp.via ⟨[.any, .any, .lit (.int .u8 (r : Int)), .ptr 0 0, .any, .any, .any, .lit (.int .i64 (b : Int)), .ptr 1 0, .any, .any, .any, .any, .any, .any, .any, .any, .any, .any, .any, .any, .any, .any, .any, .any, .any, .any, .any, .any, .any, .any, .any, .any, .any, .any, .any, .any, .any, .any, .any, .any, .any, .any, .any, .any, .any, .any, .any, .any, .any, .any, .any, .any, .any, .any, .any, .any, .any, .any, .any, .any, .any, .any, .any, .any, .any, .any, .any, .any, .any, .any, .any, .any, .any, .any, .any, .any, .any, .any, .any, .any, .any, .any, .any, .any, .any, .any, .any, .any, .any, .any, .any, .any, .any, .any, .any, .any, .any, .any, .any, .any, .any, .any, .any, .any, .any, .any, .any, .any, .any, .any, .any, .any, .any, .any, .any, .any, .any, .any, .any, .any, .any, .any, .any, .any, .any, .any, .any, .any, .any, .any, .any, .any, .any, .any, .any, .any, .any, .any, .any, .any, .any, .any, .any, .any, .any, .any, .any, .any, .any, .any, .any, .any, .any, .any, .any, .any, .any, .any, .any, .any, .any, .any, .any, .any, .any, .any, .any, .any, .any, .any, .any, .any, .any, .any, .any, .any, .any, .any, .any, .any, .any, .any, .any, .any, .any, .any, .any, .any, .any, .any, .any], [.box (encFunc f), .box (encFunc (putIns f b bl (insC (r : Int)))), .dead]⟩ (le_T) ?_
        rw [← hf']
        refine Awp.seq fun K14 h14 => ?_
        (refine drawD 12 (hh := ?_); (repeat (first | refine qQ (hq := Quiet.call rfl (in_fn f ho hs hT) rfl rfl rfl) (hk := ?_) | refine qQ (hq := Quiet.call rfl (in_fn f' ho' hs' hT') rfl rfl rfl) (hk := ?_) | refine qQ (hq := Quiet.call rfl (out_fn f ho hs hT) rfl rfl rfl) (hk := ?_) | refine qQ (hq := Quiet.call rfl (out_fn f' ho' hs' hT') rfl rfl rfl) (hk := ?_) | refine qQ (hk := ?_) | refine qSkip (hk := ?_))); refine aQ_nil ?_; (repeat (first | refine sQ (hq := Quiet.call rfl (in_fn f ho hs hT) rfl rfl rfl) (hk := ?_) | refine sQ (hq := Quiet.call rfl (in_fn f' ho' hs' hT') rfl rfl rfl) (hk := ?_) | refine sQ (hq := Quiet.call rfl (out_fn f ho hs hT) rfl rfl rfl) (hk := ?_) | refine sQ (hq := Quiet.call rfl (out_fn f' ho' hs' hT') rfl rfl rfl) (hk := ?_) | refine sQ (hk := ?_) | refine sSkip (hk := ?_) | refine sOwn (hk := ?_))); refine aSeq_nil ?_)
        refine h14 _ ?_
        refine nT (hk := ?_)
        refine Awp.seq fun K15 h15 => ?_
        refine Awp.seq fun K16 h16 => ?_
        (refine Awp.region ?_; (repeat (first | refine sQ (hq := Quiet.cvt hu8 hi64 rfl rfl hcr) (hk := ?_) | refine sQ (hq := Quiet.call rfl hhb rfl rfl rfl) (hk := ?_) | refine sQ (hk := ?_) | refine sSkip (hk := ?_) | refine sOwn (hk := ?_))); refine aSeq_nil ?_)
        refine h16 _ ?_
        refine nT (hk := ?_)
        refine Awp.cond rfl (fun hb17 => by cases hb17) (fun hb17 => ?_)
        refine Awp.skip ?_
        refine h15 _ ?_
        refine nT (hk := ?_)
        refine Awp.seq fun K19 h19 => ?_
        refine Awp.seq fun K20 h20 => ?_
        (refine Awp.region ?_; (repeat (first | refine sQ (hk := ?_) | refine sSkip (hk := ?_) | refine sOwn (hk := ?_))); refine aSeq_nil ?_)
        refine h20 _ ?_
        refine nT (hk := ?_)
        refine Awp.block ?_
        refine Awp.loopF (fun k : Nat => ⟨[.any, .any, .lit (.int .u8 (r : Int)), .ptr 0 0, .any, .any, .any, .lit (.int .i64 (b : Int)), .ptr 1 0, .bs tInt.slice (inF f), .bs tInt.slice (inF f'), .bs tInt.slice (outF f), .bs tInt.slice (outF f'), .lit (.int .i64 (k : Int)), .any, .any, .any, .any, .any, .any, .any, .any, .any, .any, .any, .any, .any, .any, .any, .any, .any, .any, .any, .any, .any, .any, .any, .any, .any, .any, .any, .any, .any, .any, .any, .any, .any, .any, .any, .any, .any, .any, .any, .any, .any, .any, .any, .any, .any, .any, .any, .any, .any, .any, .any, .any, .any, .any, .any, .any, .any, .any, .any, .any, .any, .any, .any, .any, .any, .any, .any, .any, .any, .any, .any, .any, .any, .any, .any, .any, .any, .any, .any, .any, .any, .any, .any, .any, .any, .any, .any, .any, .any, .any, .any, .any, .any, .any, .any, .any, .any, .any, .any, .any, .any, .any, .any, .any, .any, .any, .any, .any, .any, .any, .any, .any, .any, .any, .any, .any, .any, .any, .any, .any, .any, .any, .any, .any, .any, .any, .any, .any, .any, .any, .any, .any, .any, .any, .any, .any, .any, .any, .any, .any, .any, .any, .any, .any, .any, .any, .any, .any, .any, .any, .any, .any, .any, .any, .any, .any, .any, .any, .any, .any, .any, .any, .any, .any, .any, .any, .any, .any, .any, .any, .any, .any, .any, .any, .any, .any, .any, .any], [.box (encFunc f), .box (encFunc f'), .dead]⟩) (fun k => k ≤ f.blocks.length) (fun k => f.blocks.length - k) 0 (Nat.zero_le _) (le_T) ?_
        intro k hk
        dsimp only at hk ⊢
        refine Awp.seq fun K22 h22 => ?_
        refine Awp.seq fun K23 h23 => ?_
        (refine Awp.region ?_; (repeat (first | refine sQ (hk := ?_) | refine sSkip (hk := ?_) | refine sOwn (hk := ?_))); refine aSeq_nil ?_)
        refine h23 _ ?_
        refine nT (hk := ?_)
        refine Awp.cond rfl (fun hb24 => ?_) (fun hb24 => ?_)
        · have hkl : k < f.blocks.length := by rw [inF_len] at hb24; simpa using hb24
          have hx1 := inF_at hkl
          have hx2 := outF_at hkl
          have hx3 : (inF f')[k]? = some (inL f' k) := inF_at (by omega)
          have hx4 : (outF f')[k]? = some (outL f' k) := outF_at (by omega)
          have hil := inL_le f hLl k
          have hil' := inL_le f' hLl' k
          have hol' := outL_le f' hLl' k
          refine Awp.skip ?_
          refine h22 _ ?_
          refine nT (hk := ?_)
          refine Awp.seq fun K25 h25 => ?_
          refine Awp.block ?_
          refine Awp.seq fun K26 h26 => ?_
          refine Awp.seq fun K27 h27 => ?_
          (refine Awp.region ?_; (repeat (first | refine sQ (hk := ?_) | refine sSkip (hk := ?_) | refine sOwn (hk := ?_))); refine aSeq_nil ?_)
          refine h27 _ ?_
          refine nT (hk := ?_)
          refine Awp.block ?_
          refine Awp.loopF (fun i : Nat => ⟨[.any, .any, .lit (.int .u8 (r : Int)), .ptr 0 0, .any, .any, .any, .lit (.int .i64 (b : Int)), .ptr 1 0, .bs tInt.slice (inF f), .bs tInt.slice (inF f'), .bs tInt.slice (outF f), .bs tInt.slice (outF f'), .lit (.int .i64 (k : Int)), .lit (.int .i64 (i : Int)), .any, .any, .any, .any, .any, .any, .any, .any, .any, .any, .any, .any, .any, .any, .any, .any, .any, .any, .any, .any, .any, .any, .any, .any, .any, .any, .any, .any, .any, .any, .any, .any, .any, .any, .any, .any, .any, .any, .any, .any, .any, .any, .any, .any, .any, .any, .any, .any, .any, .any, .any, .any, .any, .any, .any, .any, .any, .any, .any, .any, .any, .any, .any, .any, .any, .any, .any, .any, .any, .any, .any, .any, .any, .any, .any, .any, .any, .any, .any, .any, .any, .any, .any, .any, .any, .any, .any, .any, .any, .any, .any, .any, .any, .any, .any, .any, .any, .any, .any, .any, .any, .any, .any, .any, .any, .any, .any, .any, .any, .any, .any, .any, .any, .any, .any, .any, .any, .any, .any, .any, .any, .any, .any, .any, .any, .any, .any, .any, .any, .any, .any, .any, .any, .any, .any, .any, .any, .any, .any, .any, .any, .any, .any, .any, .any, .any, .any, .any, .any, .any, .any, .any, .any, .any, .any, .any, .any, .any, .any, .any, .any, .any, .any, .any, .any, .any, .any, .any, .any, .any, .any, .any, .any, .any, .any, .any, .any], [.box (encFunc f), .box (encFunc f'), .dead]⟩) (fun i => i ≤ (inL f' k).length) (fun i => (inL f' k).length - i) 0 (Nat.zero_le _) (le_T) ?_
          intro i hi
          dsimp only at hi ⊢
          refine Awp.seq fun K29 h29 => ?_
          refine Awp.seq fun K30 h30 => ?_
          (refine Awp.region ?_; (repeat (first | refine sQ (hk := ?_) | refine sSkip (hk := ?_) | refine sOwn (hk := ?_))); refine aSeq_nil ?_)
          refine h30 _ ?_
          refine nT (hk := ?_)
          refine Awp.cond rfl (fun hbx => ?_) (fun hbx => ?_)
          · have hil2 : i < (inL f' k).length := by simpa using hbx
            obtain ⟨q, hq⟩ : ∃ q, (inL f' k)[i]? = some q := ⟨_, List.getElem?_eq_getElem hil2⟩
            have hh := has17_mem hil (hin k q (List.mem_of_getElem? hq))
            refine Awp.skip ?_
            refine h29 _ ?_
            refine nT (hk := ?_)
            refine Awp.seq fun K32 h32 => ?_
            refine Awp.block ?_
            refine Awp.seq fun K33 h33 => ?_
            (refine drawD 13 (hh := ?_); (repeat (first | refine qQ (hq := Quiet.call rfl hh rfl rfl rfl) (hk := ?_) | refine qQ (hk := ?_) | refine qSkip (hk := ?_))); refine aQ_nil ?_; (repeat (first | refine sQ (hq := Quiet.call rfl hh rfl rfl rfl) (hk := ?_) | refine sQ (hk := ?_) | refine sSkip (hk := ?_) | refine sOwn (hk := ?_))); refine aSeq_nil ?_)
            refine h33 _ ?_
            refine nT (hk := ?_)
            refine Awp.cond rfl (fun hbc => by cases hbc) (fun hbc => ?_)
            refine Awp.skip ?_
            refine h32 _ ?_
            refine nT (hk := ?_)
            (refine Awp.region ?_; (repeat (first | refine sQ (hk := ?_) | refine sSkip (hk := ?_) | refine sOwn (hk := ?_))); refine aSeq_nil ?_)
            refine athen_n ⟨i + 1, by omega, by omega, ?_⟩
            exact le_T
          · refine Awp.exit ?_
            refine h26 _ ?_
            refine nT (hk := ?_)
            refine Awp.seq fun K36 h36 => ?_
            refine Awp.seq fun K37 h37 => ?_
            (refine Awp.region ?_; (repeat (first | refine sQ (hk := ?_) | refine sSkip (hk := ?_) | refine sOwn (hk := ?_))); refine aSeq_nil ?_)
            refine h37 _ ?_
            refine nT (hk := ?_)
            refine Awp.block ?_
            refine Awp.loopF (fun i : Nat => ⟨[.any, .any, .lit (.int .u8 (r : Int)), .ptr 0 0, .any, .any, .any, .lit (.int .i64 (b : Int)), .ptr 1 0, .bs tInt.slice (inF f), .bs tInt.slice (inF f'), .bs tInt.slice (outF f), .bs tInt.slice (outF f'), .lit (.int .i64 (k : Int)), .any, .lit (.int .i64 (i : Int)), .any, .any, .any, .any, .any, .any, .any, .any, .any, .any, .any, .any, .any, .any, .any, .any, .any, .any, .any, .any, .any, .any, .any, .any, .any, .any, .any, .any, .any, .any, .any, .any, .any, .any, .any, .any, .any, .any, .any, .any, .any, .any, .any, .any, .any, .any, .any, .any, .any, .any, .any, .any, .any, .any, .any, .any, .any, .any, .any, .any, .any, .any, .any, .any, .any, .any, .any, .any, .any, .any, .any, .any, .any, .any, .any, .any, .any, .any, .any, .any, .any, .any, .any, .any, .any, .any, .any, .any, .any, .any, .any, .any, .any, .any, .any, .any, .any, .any, .any, .any, .any, .any, .any, .any, .any, .any, .any, .any, .any, .any, .any, .any, .any, .any, .any, .any, .any, .any, .any, .any, .any, .any, .any, .any, .any, .any, .any, .any, .any, .any, .any, .any, .any, .any, .any, .any, .any, .any, .any, .any, .any, .any, .any, .any, .any, .any, .any, .any, .any, .any, .any, .any, .any, .any, .any, .any, .any, .any, .any, .any, .any, .any, .any, .any, .any, .any, .any, .any, .any, .any, .any, .any, .any, .any, .any, .any], [.box (encFunc f), .box (encFunc f'), .dead]⟩) (fun i => i ≤ (outL f' k).length) (fun i => (outL f' k).length - i) 0 (Nat.zero_le _) (le_T) ?_
            intro i hi
            dsimp only at hi ⊢
            refine Awp.seq fun K39 h39 => ?_
            refine Awp.seq fun K40 h40 => ?_
            (refine Awp.region ?_; (repeat (first | refine sQ (hk := ?_) | refine sSkip (hk := ?_) | refine sOwn (hk := ?_))); refine aSeq_nil ?_)
            refine h40 _ ?_
            refine nT (hk := ?_)
            refine Awp.cond rfl (fun hbx => ?_) (fun hbx => ?_)
            · have hil2 : i < (outL f' k).length := by simpa using hbx
              obtain ⟨q, hq⟩ : ∃ q, (outL f' k)[i]? = some q := ⟨_, List.getElem?_eq_getElem hil2⟩
              have hh := has17_mem (outL_le f hLl k) (hout k q (List.mem_of_getElem? hq))
              refine Awp.skip ?_
              refine h39 _ ?_
              refine nT (hk := ?_)
              refine Awp.seq fun K42 h42 => ?_
              refine Awp.block ?_
              refine Awp.seq fun K43 h43 => ?_
              (refine drawD 13 (hh := ?_); (repeat (first | refine qQ (hq := Quiet.call rfl hh rfl rfl rfl) (hk := ?_) | refine qQ (hk := ?_) | refine qSkip (hk := ?_))); refine aQ_nil ?_; (repeat (first | refine sQ (hq := Quiet.call rfl hh rfl rfl rfl) (hk := ?_) | refine sQ (hk := ?_) | refine sSkip (hk := ?_) | refine sOwn (hk := ?_))); refine aSeq_nil ?_)
              refine h43 _ ?_
              refine nT (hk := ?_)
              refine Awp.cond rfl (fun hbc => by cases hbc) (fun hbc => ?_)
              refine Awp.skip ?_
              refine h42 _ ?_
              refine nT (hk := ?_)
              (refine Awp.region ?_; (repeat (first | refine sQ (hk := ?_) | refine sSkip (hk := ?_) | refine sOwn (hk := ?_))); refine aSeq_nil ?_)
              refine athen_n ⟨i + 1, by omega, by omega, ?_⟩
              exact le_T
            · refine Awp.exit ?_
              refine h36 _ ?_
              refine nT (hk := ?_)
              refine Awp.seq fun K46 h46 => ?_
              (refine Awp.region ?_; (repeat (first | refine sQ (hk := ?_) | refine sSkip (hk := ?_) | refine sOwn (hk := ?_))); refine aSeq_nil ?_)
              refine h46 _ ?_
              refine nT (hk := ?_)
              refine Awp.block ?_
              refine Awp.loopF (fun i : Nat => ⟨[.any, .any, .lit (.int .u8 (r : Int)), .ptr 0 0, .any, .any, .any, .lit (.int .i64 (b : Int)), .ptr 1 0, .bs tInt.slice (inF f), .bs tInt.slice (inF f'), .bs tInt.slice (outF f), .bs tInt.slice (outF f'), .lit (.int .i64 (k : Int)), .any, .any, .lit (.int .i64 (i : Int)), .any, .any, .any, .any, .any, .any, .any, .any, .any, .any, .any, .any, .any, .any, .any, .any, .any, .any, .any, .any, .any, .any, .any, .any, .any, .any, .any, .any, .any, .any, .any, .any, .any, .any, .any, .any, .any, .any, .any, .any, .any, .any, .any, .any, .any, .any, .any, .any, .any, .any, .any, .any, .any, .any, .any, .any, .any, .any, .any, .any, .any, .any, .any, .any, .any, .any, .any, .any, .any, .any, .any, .any, .any, .any, .any, .any, .any, .any, .any, .any, .any, .any, .any, .any, .any, .any, .any, .any, .any, .any, .any, .any, .any, .any, .any, .any, .any, .any, .any, .any, .any, .any, .any, .any, .any, .any, .any, .any, .any, .any, .any, .any, .any, .any, .any, .any, .any, .any, .any, .any, .any, .any, .any, .any, .any, .any, .any, .any, .any, .any, .any, .any, .any, .any, .any, .any, .any, .any, .any, .any, .any, .any, .any, .any, .any, .any, .any, .any, .any, .any, .any, .any, .any, .any, .any, .any, .any, .any, .any, .any, .any, .any, .any, .any, .any, .any, .any, .any, .any, .any, .any, .any, .any, .any, .any], [.box (encFunc f), .box (encFunc f'), .dead]⟩) (fun i => i ≤ (inL f k).length) (fun i => (inL f k).length - i) 0 (Nat.zero_le _) (le_T) ?_
              intro i hi
              dsimp only at hi ⊢
              refine Awp.seq fun K48 h48 => ?_
              refine Awp.seq fun K49 h49 => ?_
              (refine Awp.region ?_; (repeat (first | refine sQ (hk := ?_) | refine sSkip (hk := ?_) | refine sOwn (hk := ?_))); refine aSeq_nil ?_)
              refine h49 _ ?_
              refine nT (hk := ?_)
              refine Awp.cond rfl (fun hbx => ?_) (fun hbx => ?_)
              · have hil2 : i < (inL f k).length := by simpa using hbx
                obtain ⟨q, hq⟩ : ∃ q, (inL f k)[i]? = some q := ⟨_, List.getElem?_eq_getElem hil2⟩
                refine Awp.skip ?_
                refine h48 _ ?_
                refine nT (hk := ?_)
                refine Awp.seq fun K51 h51 => ?_
                refine Awp.block ?_
                refine Awp.seq fun K52 h52 => ?_
                rcases hqr : (q != (r : Int)) with _ | _
                · (refine drawD 25 (hh := ?_); (repeat (first | refine qQ (hq := Quiet.cvt hu8 hi64 rfl rfl hcr) (hk := ?_) | refine qQ (hk := ?_) | refine qSkip (hk := ?_))); refine aQ_nil ?_; (repeat (first | refine sQ (hq := Quiet.cvt hu8 hi64 rfl rfl hcr) (hk := ?_) | refine sQ (hk := ?_) | refine sSkip (hk := ?_) | refine sOwn (hk := ?_))); refine aSeq_nil ?_)
                  refine h52 _ ?_
                  refine nT (hk := ?_)
                  refine Awp.cond rfl (fun hbc => by cases hbc) (fun hbc => ?_)
                  refine Awp.skip ?_
                  refine h51 _ ?_
                  refine nT (hk := ?_)
                  (refine Awp.region ?_; (repeat (first | refine sQ (hk := ?_) | refine sSkip (hk := ?_) | refine sOwn (hk := ?_))); refine aSeq_nil ?_)
                  refine athen_n ⟨i + 1, by omega, by omega, ?_⟩
                  exact le_T
                · have hh := has17_mem hil' (hkeep k q (List.mem_of_getElem? hq) (by simpa using hqr))
                  (refine drawD 25 (hh := ?_); (repeat (first | refine qQ (hq := Quiet.cvt hu8 hi64 rfl rfl hcr) (hk := ?_) | refine qQ (hq := Quiet.call rfl hh rfl rfl rfl) (hk := ?_) | refine qQ (hk := ?_) | refine qSkip (hk := ?_))); refine aQ_nil ?_; (repeat (first | refine sQ (hq := Quiet.cvt hu8 hi64 rfl rfl hcr) (hk := ?_) | refine sQ (hq := Quiet.call rfl hh rfl rfl rfl) (hk := ?_) | refine sQ (hk := ?_) | refine sSkip (hk := ?_) | refine sOwn (hk := ?_))); refine aSeq_nil ?_)
                  refine h52 _ ?_
                  refine nT (hk := ?_)
                  refine Awp.cond rfl (fun hbc => by cases hbc) (fun hbc => ?_)
                  refine Awp.skip ?_
                  refine h51 _ ?_
                  refine nT (hk := ?_)
                  (refine Awp.region ?_; (repeat (first | refine sQ (hk := ?_) | refine sSkip (hk := ?_) | refine sOwn (hk := ?_))); refine aSeq_nil ?_)
                  refine athen_n ⟨i + 1, by omega, by omega, ?_⟩
                  exact le_T
              · refine Awp.exit ?_
                refine h25 _ ?_
                refine nT (hk := ?_)
                (refine Awp.region ?_; (repeat (first | refine sQ (hk := ?_) | refine sSkip (hk := ?_) | refine sOwn (hk := ?_))); refine aSeq_nil ?_)
                refine athen_n ⟨k + 1, by omega, by omega, ?_⟩
                exact le_T
        · refine Awp.exit ?_
          refine h19 _ ?_
          refine nT (hk := ?_)
          refine Awp.seq fun K55 h55 => ?_
          (refine Awp.region ?_; (repeat (first | refine sQ (hq := Quiet.call rfl head17_fn rfl rfl rfl) (hk := ?_) | refine sQ (hk := ?_) | refine sSkip (hk := ?_) | refine sOwn (hk := ?_))); refine aSeq_nil ?_)
          refine h55 _ ?_
          refine nT (hk := ?_)
          refine Awp.ret ?_
          exact ⟨.inr rfl, Fin.cl rfl⟩
      · (refine Awp.region ?_; (repeat (first | refine sQ (hk := ?_) | refine sSkip (hk := ?_) | refine sOwn (hk := ?_))); refine aSeq_nil ?_)
        refine h8 _ ?_
        refine nT (hk := ?_)
        refine Awp.cond rfl (fun hb9 => ?_) (fun hb9 => by cases hb9)
        refine Awp.seq fun K10 h10 => ?_
        (refine Awp.region ?_; (repeat (first | refine sQ (hq := Quiet.call rfl head17_fn rfl rfl rfl) (hk := ?_) | refine sQ (hk := ?_) | refine sSkip (hk := ?_) | refine sOwn (hk := ?_))); refine aSeq_nil ?_)
        refine h10 _ ?_
        refine nT (hk := ?_)
        refine Awp.ret ?_
        exact ⟨.inr rfl, Fin.cl rfl⟩
    · (refine Awp.region ?_; (repeat (first | refine sQ (hq := Quiet.call rfl hgr rfl rfl rfl) (hk := ?_) | refine sQ (hk := ?_) | refine sSkip (hk := ?_) | refine sOwn (hk := ?_))); refine aSeq_nil ?_)
      refine h3 _ ?_
      refine nT (hk := ?_)
      refine Awp.cond rfl (fun hb4 => ?_) (fun hb4 => by cases hb4)
      refine Awp.seq fun K5 h5 => ?_
      (refine Awp.region ?_; (repeat (first | refine sQ (hq := Quiet.call rfl head17_fn rfl rfl rfl) (hk := ?_) | refine sQ (hk := ?_) | refine sSkip (hk := ?_) | refine sOwn (hk := ?_))); refine aSeq_nil ?_)
      refine h5 _ ?_
      refine nT (hk := ?_)
      refine Awp.ret ?_
      exact ⟨.inr rfl, Fin.cl rfl⟩
  · rw [hg] at hgr
    (refine Awp.region ?_; (repeat (first | refine sQ (hq := Quiet.call rfl hgr rfl rfl rfl) (hk := ?_) | refine sQ (hk := ?_) | refine sSkip (hk := ?_) | refine sOwn (hk := ?_))); refine aSeq_nil ?_)
    refine h3 _ ?_
    refine nT (hk := ?_)
    refine Awp.cond rfl (fun hb4 => ?_) (fun hb4 => by cases hb4)
    refine Awp.seq fun K5 h5 => ?_
    (refine Awp.region ?_; (repeat (first | refine sQ (hq := Quiet.call rfl head17_fn rfl rfl rfl) (hk := ?_) | refine sQ (hk := ?_) | refine sSkip (hk := ?_) | refine sOwn (hk := ?_))); refine aSeq_nil ?_)
    refine h5 _ ?_
    refine nT (hk := ?_)
    refine Awp.ret ?_
    exact ⟨.inr rfl, Fin.cl rfl⟩
end Mu
end
