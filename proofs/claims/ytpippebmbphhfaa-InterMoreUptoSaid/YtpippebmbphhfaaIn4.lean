/-
  Own texts laid together, part 4: MuRef17C, MuRef17D, MuRef17E, MuRef17F, MuLiveQ, MuLiveR, MuAll, MuLiveF, MuSteps, ShelfK, MuKeys, MuPairM, MuPairS, MuPairG, MuCross, ShelfB, MuLaw17A, MuHint, MuRef14A, MuRef14B, MuOwnC, MuRef14C, MuRef12, MuLaw17B, MuLaw17C, MuRef14D, MuRef14E, MuRef14P, MuChkP, MuRowP, MuLaw17P, MuChkQ, MuRef14F, MuRef14G, MuBound, MuBound2, MuRef18A, MuRef18B, MuRef21P, MuCross18P, MuRef18C, MuEdgeP.
  Conditions: as each part says.
-/
import Derived.Test.YtpippebmbphhfaaIn3
import Derived.DeepKeys4
import Derived.Maps.Range
import Derived.Shelf.Small.Bits
import Derived.Shelf.Small.Wraps
import Derived.Shelf.Strconv.Itoa0
import Derived.Shelf.Strconv.Itoa1
import Derived.Shelf.LaysM
import Derived.Shelf.Strconv.Itoa2
import Derived.Shelf.Strconv.Itoa3
import Derived.Ground.Names2Prog
import Derived.Shelf.Slices.SearchI
import Derived.Shelf.Slices.Empties
import Derived.Test.YtpippebmbphhfaaProg
section
/-
  muntinref17: sorted, Regs, walked.
  Conditions: at most 2^21 of everything.
-/
namespace Mu
open Go Go.RowKit Go.Proofs

def swapL (l : List Int) (q : Nat) : List Int := (l.set q (l.getD (q + 1) 0)).set (q + 1) (l.getD q 0)
def siftL : Nat → List Int → List Int
  | 0, l => l
  | q + 1, l => if l.getD q 0 > l.getD (q + 1) 0 then siftL q (swapL l q) else l
def sortedL (l : List Int) : List Int := siftL (l.length - 1) l
theorem swapL_len (l : List Int) (q : Nat) : (swapL l q).length = l.length := by simp [swapL]
theorem siftL_len : ∀ (k : Nat) (l : List Int), (siftL k l).length = l.length
  | 0, l => rfl
  | q + 1, l => by
    unfold siftL
    split
    · rw [siftL_len q, swapL_len]
    · rfl
theorem swapL_ok {l : List Int} (h : okInts l) {q : Nat} (hq : q + 1 < l.length) : okInts (swapL l q) := by
  intro x hx
  unfold swapL at hx
  have hq' : q < l.length := by omega
  have h1 : l.getD q 0 ∈ l := by rw [List.getD_eq_getElem?_getD, List.getElem?_eq_getElem hq']; exact List.getElem_mem _
  have h2 : l.getD (q + 1) 0 ∈ l := by rw [List.getD_eq_getElem?_getD, List.getElem?_eq_getElem hq]; exact List.getElem_mem _
  rcases List.mem_or_eq_of_mem_set hx with h3 | h3
  · rcases List.mem_or_eq_of_mem_set h3 with h4 | h4
    · exact h x h4
    · rw [h4]; exact h _ h2
  · rw [h3]; exact h _ h1

set_option maxRecDepth 100000 in
set_option maxHeartbeats 1000000 in
theorem sorted17_fn (l : List Int) (ho : okInts l) (h0 : 0 < l.length) (hl : l.length ≤ 4194304) : FnRow Try.prog 85 3 tInt l (sortedL l) := by
  refine FnRow.of_awp Try.func85 rfl (by kernel_rfl) rfl Try.ntmps85 (fun _ _ _ _ _ h => h) fun C => ?_
  simp only [Nat.reduceSub, List.replicate_succ, List.replicate_zero, List.cons_append, List.nil_append]
  refine Awp.seq fun K1 h1 => ?_
  (refine Awp.region ?_; (repeat (first | refine sQ (hk := ?_) | refine sSkip (hk := ?_) | refine sOwn (hk := ?_))); refine aSeq_nil ?_)
  refine h1 _ ?_
  refine nT (hk := ?_)
  refine Awp.seq fun K2 h2 => ?_
  refine Awp.seq fun K3 h3 => ?_
  (refine Awp.region ?_; (repeat (first | refine sQ (hk := ?_) | refine sSkip (hk := ?_) | refine sOwn (hk := ?_))); refine aSeq_nil ?_)
  refine h3 _ ?_
  refine nT (hk := ?_)
  refine Awp.block ?_
  have he0 : ((l.length : Int) - 1) = ((l.length - 1 : Nat) : Int) := by omega
  rw [he0]
  refine Awp.loopF (fun p : Nat × List Int => ⟨[.own 0 0, .any, .any, .lit (.int .i64 (p.1 : Int)), .any, .any, .any, .any, .any, .any, .any, .any, .any, .any, .any, .any, .any, .any, .any, .any, .any, .any, .any, .any, .any, .any, .any, .any, .any, .any, .any, .any, .any, .any, .any, .any, .any, .any, .any, .any], [.row 0 3 tInt p.2]⟩) (fun p => p.2.length = l.length ∧ p.1 < l.length ∧ okInts p.2 ∧ siftL p.1 p.2 = sortedL l) (fun p => p.1) (l.length - 1, l) ⟨rfl, by omega, ho, rfl⟩ (le_T) ?_
  rintro ⟨k, m⟩ ⟨hml, hkl, hmo, hsf⟩
  dsimp only at hml hkl hmo hsf ⊢
  refine Awp.seq fun K5 h5 => ?_
  refine Awp.seq fun K6 h6 => ?_
  cases k with
  | zero =>
    have hb : decide (((0 : Nat) : Int) > 0) = false := by decide
    (refine drawD 14 (hh := ?_); (repeat (first | refine qQ (hk := ?_) | refine qSkip (hk := ?_))); refine aQ_nil ?_; (repeat (first | refine sQ (hk := ?_) | refine sSkip (hk := ?_) | refine sOwn (hk := ?_))); refine aSeq_nil ?_)
    refine h6 _ ?_
    refine nT (hk := ?_)
    refine Awp.cond rfl (fun hb7 => by cases hb7) (fun hb7 => ?_)
    refine Awp.exit ?_
    refine h2 _ ?_
    refine nT (hk := ?_)
    refine Awp.seq fun K9 h9 => ?_
    (refine Awp.region ?_; (repeat (first | refine sQ (hk := ?_) | refine sSkip (hk := ?_) | refine sOwn (hk := ?_))); refine aSeq_nil ?_)
    refine h9 _ ?_
    refine nT (hk := ?_)
    refine Awp.ret ?_
    exact ⟨.inr rfl, 0, 0, rfl, by rw [← hsf]; rfl, rfl⟩
  | succ q =>
    have hb : decide (((q + 1 : Nat) : Int) > 0) = true := by simp
    have hx0 : m[(((q + 1 : Nat) : Int) - 1).toNat]? = some (m.getD q 0) := by
      have : (((q + 1 : Nat) : Int) - 1).toNat = q := by omega
      rw [this, List.getD_eq_getElem?_getD, List.getElem?_eq_getElem (by omega)]; rfl
    have hx1 : m[q + 1]? = some (m.getD (q + 1) 0) := by
      rw [List.getD_eq_getElem?_getD, List.getElem?_eq_getElem (by omega)]; rfl
    have hw0 := hmo _ (List.mem_of_getElem? hx0)
    have hw1 := hmo _ (List.mem_of_getElem? hx1)
    have hql : q + 1 < m.length := by omega
    have hx2 : (m.set (((q + 1 : Nat) : Int) - 1).toNat (m.getD (q + 1) 0))[q + 1]? = some (m.getD (q + 1) 0) := by
      rw [List.getElem?_set_ne (by omega)]; exact hx1
    have hql2 : q + 1 < (m.set (((q + 1 : Nat) : Int) - 1).toNat (m.getD (q + 1) 0)).length := by simpa using hql
    rw [siftL] at hsf
    rcases hc : decide (m.getD q 0 > m.getD (q + 1) 0) with _ | _
    · rw [if_neg (by simpa using hc)] at hsf
      (refine drawD 14 (hh := ?_); (repeat (first | refine qQ (hk := ?_) | refine qSkip (hk := ?_))); refine aQ_nil ?_; (repeat (first | refine sQ (hk := ?_) | refine sSkip (hk := ?_) | refine sOwn (hk := ?_))); refine aSeq_nil ?_)
      refine h6 _ ?_
      refine nT (hk := ?_)
      refine Awp.cond rfl (fun hb7 => by cases hb7) (fun hb7 => ?_)
      refine Awp.exit ?_
      refine h2 _ ?_
      refine nT (hk := ?_)
      refine Awp.seq fun K9 h9 => ?_
      (refine Awp.region ?_; (repeat (first | refine sQ (hk := ?_) | refine sSkip (hk := ?_) | refine sOwn (hk := ?_))); refine aSeq_nil ?_)
      refine h9 _ ?_
      refine nT (hk := ?_)
      refine Awp.ret ?_
      exact ⟨.inr rfl, 0, 0, rfl, by rw [← hsf]; rfl, rfl⟩
    · rw [if_pos (by simpa using hc)] at hsf
      (refine drawD 14 (hh := ?_); (repeat (first | refine qQ (hk := ?_) | refine qSkip (hk := ?_))); refine aQ_nil ?_; (repeat (first | refine sQ (hk := ?_) | refine sSkip (hk := ?_) | refine sOwn (hk := ?_))); refine aSeq_nil ?_)
      refine h6 _ ?_
      refine nT (hk := ?_)
      refine Awp.cond rfl (fun hb7 => ?_) (fun hb7 => by cases hb7)
      refine Awp.skip ?_
      refine h5 _ ?_
      refine nT (hk := ?_)
      refine Awp.seq fun K8 h8 => ?_
      refine Awp.block ?_
      (refine Awp.drawF 15 [3, 4] [0, 1, 2, 5, 6, 7, 8, 9, 10, 11, 12, 13, 14] (by kernel_rfl) (by kernel_rfl) (by decide) rfl ?_; refine aQo_nt (by (try simp only [putA, evA, List.getElem?_cons_zero, List.getElem?_cons_succ, Option.getD_some, List.set_cons_zero, List.set_cons_succ]); exact rfl) ?_; (repeat (refine aQo_t (by simp only [List.getElem?_toArray, List.getElem?_cons_succ, List.getElem?_cons_zero]; exact rfl) rfl ?_; (first | refine QOp.q (Quiet.move rfl (by (conv => lhs; whnf); try rfl)) ?_ | refine QOp.q (Quiet.assign rfl (by (conv => lhs; whnf); try rfl)) ?_ | refine QOp.q (Quiet.fa_ptr rfl rfl rfl) ?_ | refine QOp.q (Quiet.fa_bp rfl rfl) ?_ | refine QOp.q (Quiet.fa_rp rfl rfl rfl) ?_ | refine QOp.q (Quiet.load_ptr rfl rfl rfl rfl) ?_ | refine QOp.q (Quiet.load_bp rfl rfl rfl) ?_ | refine QOp.q (Quiet.load_rp rfl rfl rfl (by assumption) rfl) ?_ | refine QOp.q (Quiet.loadA_ptr rfl rfl rfl rfl) ?_ | refine QOp.q (Quiet.loadA_bp rfl rfl rfl) ?_ | refine QOp.q (Quiet.ix rfl rfl rfl rfl (by assumption)) ?_ | refine QOp.q (Quiet.ixi rfl rfl rfl rfl (by first | decide | omega) (by assumption)) ?_ | refine QOp.q (Quiet.ixo rfl rfl rfl rfl rfl (by first | assumption | omega)) ?_ | refine QOp.q (Quiet.ixoi rfl rfl rfl rfl rfl (by first | decide | omega) (by first | assumption | omega)) ?_ | refine QOp.q (Quiet.ln rfl rfl) ?_ | refine QOp.q (Quiet.lno rfl rfl rfl) ?_ | refine QOp.q (Quiet.lnl rfl rfl) ?_ | refine QOp.q (Quiet.add64 rfl rfl rfl (by omega)) ?_ | refine QOp.q (Quiet.sub64 rfl rfl rfl (by omega)) ?_ | refine QOp.q (Quiet.binb rfl rfl rfl rfl (by assumption)) ?_ | refine QOp.q (Quiet.bin rfl rfl rfl rfl) ?_ | refine QOp.q (Quiet.bnot rfl rfl) ?_ | refine QOp.q (Quiet.pick rfl rfl (by (conv => lhs; whnf); try rfl)) ?_ | refine QOp.q (Quiet.extract rfl rfl rfl) ?_ | refine QOp.q (Quiet.lt1 rfl rfl rfl (by rfl) (by decide) (by first | exact Fit.bool | exact Fit.bs | exact Fit.int (by assumption))) ?_ | refine QOp.q (Quiet.max2 rfl rfl rfl) ?_ | refine QOp.q (Quiet.min2 rfl rfl rfl) ?_); refine aQo_nt (by (try simp only [putA, List.set_cons_zero, List.set_cons_succ]); exact rfl) ?_)); refine aQo_nil ?_)
      have hfin : ∀ s' : St, St.le C s' ⟨[.own 0 0, .any, .any, .lit (.int .i64 ((q + 1 : Nat) : Int)), .any, .any, .any, .any, .any, .any, .any, .any, .any, .any, .any, .any, .any, .any, .any, .any, .any, .any, .any, .any, .any, .any, .any, .any, .any, .any, .any, .any, .any, .any, .any, .any, .any, .any, .any, .any], [.row 0 3 tInt (swapL m q)]⟩ → K8 s' := fun s' hle => by
        refine h8 _ (Awp.via _ hle ?_)
        (refine Awp.region ?_; (repeat (first | refine sQ (hk := ?_) | refine sSkip (hk := ?_) | refine sOwn (hk := ?_))); refine aSeq_nil ?_)
        refine athen_n ⟨(q, swapL m q), ⟨by rw [swapL_len]; exact hml, by omega, swapL_ok hmo hql, hsf⟩, by simp, ?_⟩
        have e2 : (((q + 1 : Nat) : Int) - 1) = (q : Int) := by omega
        rw [e2]
        exact le_T
      have hgo : ∀ t : List AV, Fgt 1 t [.own 0 0, .any, .any, .lit (.int .i64 ((q + 1 : Nat) : Int)), .any, .any, .any, .any, .any, .any, .any, .any, .any, .any, .any, .any, .any, .any, .any, .any, .any, .any, .any, .any, .any, .any, .any, .any, .any, .any, .any, .any, .any, .any, .any, .any, .any, .any, .any, .any] → K8 ⟨t, [.row 0 3 tInt ((m.set (((q + 1 : Nat) : Int) - 1).toNat (m.getD (q + 1) 0)).set (q + 1) (m.getD q 0))]⟩ := fun t ht => by
        have e1 : (((q + 1 : Nat) : Int) - 1).toNat = q := by omega
        rw [e1]
        exact hfin _ (St.le_t rfl ht)
      refine tAny_step [15] (by kernel_rfl) (by simp) (tAll_cons (by simp only [List.getElem?_toArray, List.getElem?_cons_succ, List.getElem?_cons_zero]; exact rfl) rfl ?_ tAll_nil)
      (first | refine oQ (hk := ?_) | refine oOwn (hk := ?_))
      refine tAny_step [16] (by kernel_rfl) (by simp) (tAll_cons (by simp only [List.getElem?_toArray, List.getElem?_cons_succ, List.getElem?_cons_zero]; exact rfl) rfl ?_ tAll_nil)
      (first | refine oQ (hk := ?_) | refine oOwn (hk := ?_))
      refine tAny_step [17] (by kernel_rfl) (by simp) (tAll_cons (by simp only [List.getElem?_toArray, List.getElem?_cons_succ, List.getElem?_cons_zero]; exact rfl) rfl ?_ tAll_nil)
      (first | refine oQ (hk := ?_) | refine oOwn (hk := ?_))
      exact tAny_done (by kernel_rfl) (hgo _ (by (try simp only []); repeat (first | exact Fgt.nil | refine Fgt.keep rfl ?_ | refine Fgt.any ?_)))
end Mu
end
section
/-
  muntinref17.Regs, walked.
  Conditions: at most 2^21 of everything.
-/
namespace Mu
open Go Go.RowKit Go.Proofs

def allReads (f : Func) : List Int := f.blocks.flatMap fun b => b.ins.flatMap readsC
def insR (out : List Int) (x : Int) : List Int := if out.contains x then out else sortedL (out ++ [x])
def regsOf (l : List Int) : List Int := l.foldl insR []
def regsL (f : Func) : List Int := regsOf (allReads f)
theorem regsOf_snoc (l : List Int) (x : Int) : regsOf (l ++ [x]) = insR (regsOf l) x := by simp [regsOf]
theorem sortedL_len (l : List Int) : (sortedL l).length = l.length := siftL_len _ _
theorem siftL_ok : ∀ (k : Nat) (l : List Int), k < l.length → okInts l → okInts (siftL k l)
  | 0, l, _, h => h
  | q + 1, l, hq, h => by
    unfold siftL
    split
    · exact siftL_ok q _ (by rw [swapL_len]; omega) (swapL_ok h hq)
    · exact h
theorem insR_len (out : List Int) (x : Int) : (insR out x).length ≤ out.length + 1 := by
  unfold insR
  split
  · omega
  · rw [sortedL_len]; simp
theorem insR_ok {out : List Int} {x : Int} (h : okInts out) (hx : wfI .i64 x) : okInts (insR out x) := by
  unfold insR
  split
  · exact h
  · unfold sortedL
    refine siftL_ok _ _ (by simp) fun y hy => ?_
    rcases List.mem_append.1 hy with h1 | h1
    · exact h y h1
    · simp at h1; rw [h1]; exact hx
theorem regsOf_rev (l : List Int) : (regsOf l).length ≤ l.length ∧ (okInts l → okInts (regsOf l)) := by
  have key : ∀ (l out : List Int), (l.foldl insR out).length ≤ out.length + l.length ∧ (okInts l → okInts out → okInts (l.foldl insR out)) := by
    intro l
    induction l with
    | nil => intro out; exact ⟨by simp, fun _ h => h⟩
    | cons x l ih =>
      intro out
      obtain ⟨h1, h2⟩ := ih (insR out x)
      have := insR_len out x
      refine ⟨by simp only [List.foldl_cons, List.length_cons]; omega, fun hl ho => h2 (fun y hy => hl y (by simp [hy])) (insR_ok ho (hl x (by simp)))⟩
  obtain ⟨h1, h2⟩ := key l []
  unfold regsOf
  exact ⟨by simpa using h1, fun h => h2 h fun y hy => by cases hy⟩
theorem flat_ok {l : List Ins} (h : ∀ x ∈ l, okIns x) : okInts (l.flatMap readsC) := fun r hr => by
  obtain ⟨x, hx, h1⟩ := List.mem_flatMap.1 hr
  exact readsC_ok (h x hx) r h1
theorem allReads_ok {f : Func} (h : okFunc f) : okInts (allReads f) := fun r hr => by
  obtain ⟨b, hb, h1⟩ := List.mem_flatMap.1 hr
  exact flat_ok (h.blocks b hb).ins r h1
theorem flat_take_len {α : Type} (g : α → List Int) (l : List α) (k : Nat) : ((l.take k).flatMap g).length ≤ (l.flatMap g).length := by
  have : l.flatMap g = (l.take k).flatMap g ++ (l.drop k).flatMap g := by rw [← List.flatMap_append, List.take_append_drop]
  rw [this, List.length_append]
  omega
theorem flat_take_succ {α : Type} (g : α → List Int) {l : List α} {k : Nat} {x : α} (hx : l[k]? = some x) : (l.take (k + 1)).flatMap g = (l.take k).flatMap g ++ g x := by
  rw [List.take_add_one, hx, List.flatMap_append]
  simp

set_option maxRecDepth 100000 in
set_option maxHeartbeats 4000000 in
theorem regs17_fn (f : Func) (ho : okFunc f) (hs : smallF f) (hT : (allReads f).length ≤ 2097152) : Fn Try.prog 43 [.agg (encFunc f)] (.bs tInt (regsL f)) := by
  have hbl := hs.blocks
  refine Fn.of_awp Try.func43 rfl (by kernel_rfl) rfl Try.ntmps43 fun C hC => ?_
  simp only [List.length_cons, List.length_nil, Nat.reduceAdd, Nat.reduceSub, List.replicate_succ, List.replicate_zero, List.cons_append, List.nil_append]
  refine Awp.seq fun K1 h1 => ?_
  (refine Awp.region ?_; (repeat (first | refine sQ (hk := ?_) | refine sSkip (hk := ?_) | refine sOwn (hk := ?_))); refine aSeq_nil ?_)
  refine h1 _ ?_
  refine nT (hk := ?_)
  refine Awp.seq fun K2 h2 => ?_
  (refine Awp.region ?_; (repeat (first | refine sQ (hk := ?_) | refine sSkip (hk := ?_) | refine sOwn (hk := ?_))); refine aSeq_nil ?_)
  refine h2 _ ?_
  refine nT (hk := ?_)
  refine Awp.seq fun K3 h3 => ?_
  refine Awp.seq fun K4 h4 => ?_
  (refine Awp.region ?_; (repeat (first | refine sQ (hk := ?_) | refine sSkip (hk := ?_) | refine sOwn (hk := ?_))); refine aSeq_nil ?_)
  refine h4 _ ?_
  refine nT (hk := ?_)
  refine Awp.block ?_
  refine Awp.loopF (fun p : Nat × Nat => ⟨[.any, .ptr 0 0, .any, .own 1 p.2, .lit (.int .i64 (p.1 : Int)), .any, .any, .any, .any, .any, .any, .any, .any, .any, .any, .any, .any, .any, .any, .any, .any, .any, .any, .any, .any, .any, .any, .any, .any, .any, .any, .any, .any, .any, .any, .any, .any, .any, .any, .any, .any, .any, .any, .any, .any, .any, .any, .any, .any, .any, .any, .any, .any, .any, .any, .any, .any, .any], [.box (encFunc f), .row p.2 3 tInt (regsOf ((f.blocks.take p.1).flatMap fun b => b.ins.flatMap readsC))]⟩) (fun p => p.1 ≤ f.blocks.length) (fun p => f.blocks.length - p.1) (0, 0) (Nat.zero_le _) ((St.le_nil 3 3 tInt rfl Nat.zero_lt_one).trans (le_T)) ?_
  rintro ⟨b, ver⟩ hb
  dsimp only at hb ⊢
  refine Awp.seq fun K6 h6 => ?_
  refine Awp.seq fun K7 h7 => ?_
  (refine Awp.region ?_; (repeat (first | refine sQ (hk := ?_) | refine sSkip (hk := ?_) | refine sOwn (hk := ?_))); refine aSeq_nil ?_)
  refine h7 _ ?_
  refine nT (hk := ?_)
  refine Awp.cond rfl (fun hb8 => ?_) (fun hb8 => ?_)
  · have hlt : b < f.blocks.length := by simpa using hb8
    obtain ⟨bl, hbk⟩ : ∃ bl, f.blocks[b]? = some bl := ⟨_, List.getElem?_eq_getElem hlt⟩
    have hmem := List.mem_of_getElem? hbk
    have hsb := (hs.all bl hmem).ins
    have hsuc := flat_take_succ (fun b : Block => b.ins.flatMap readsC) hbk
    have hcnt := flat_take_len (fun b : Block => b.ins.flatMap readsC) f.blocks (b + 1)
    have hokA : okInts ((f.blocks.take b).flatMap fun b => b.ins.flatMap readsC) := fun r hr => allReads_ok ho r (by
      obtain ⟨c, hc, h1⟩ := List.mem_flatMap.1 hr
      exact List.mem_flatMap.2 ⟨c, List.mem_of_mem_take hc, h1⟩)
    generalize ((f.blocks.take b).flatMap fun b => b.ins.flatMap readsC) = A at hsuc hokA ⊢
    rw [hsuc] at hcnt
    have hcnt2 : (A ++ bl.ins.flatMap readsC).length ≤ 2097152 := Nat.le_trans hcnt hT
    refine Awp.skip ?_
    refine h6 _ ?_
    refine nT (hk := ?_)
    refine Awp.seq fun K9 h9 => ?_
    refine Awp.block ?_
    refine Awp.seq fun K10 h10 => ?_
    (refine Awp.region ?_; (repeat (first | refine sQ (hk := ?_) | refine sSkip (hk := ?_) | refine sOwn (hk := ?_))); refine aSeq_nil ?_)
    refine h10 _ ?_
    refine nT (hk := ?_)
    refine Awp.block ?_
    refine Awp.loopF (fun p : Nat × Nat => ⟨[.any, .ptr 0 0, .any, .own 1 p.2, .lit (.int .i64 (b : Int)), .lit (.int .i64 (p.1 : Int)), .any, .any, .any, .any, .any, .any, .any, .any, .any, .any, .any, .any, .any, .any, .any, .any, .any, .any, .any, .any, .any, .any, .any, .any, .any, .any, .any, .any, .any, .any, .any, .any, .any, .any, .any, .any, .any, .any, .any, .any, .any, .any, .any, .any, .any, .any, .any, .any, .any, .any, .any, .any], [.box (encFunc f), .row p.2 3 tInt (regsOf (A ++ (bl.ins.take p.1).flatMap readsC))]⟩) (fun p => p.1 ≤ bl.ins.length) (fun p => bl.ins.length - p.1) (0, ver) (Nat.zero_le _) (by simp only [List.take_zero, List.flatMap_nil, List.append_nil]; exact le_T) ?_
    rintro ⟨i, ver1⟩ hi
    dsimp only at hi ⊢
    refine Awp.seq fun K12 h12 => ?_
    refine Awp.seq fun K13 h13 => ?_
    (refine Awp.region ?_; (repeat (first | refine sQ (hk := ?_) | refine sSkip (hk := ?_) | refine sOwn (hk := ?_))); refine aSeq_nil ?_)
    refine h13 _ ?_
    refine nT (hk := ?_)
    refine Awp.cond rfl (fun hb14 => ?_) (fun hb14 => ?_)
    · have hlti : i < bl.ins.length := by simpa using hb14
      obtain ⟨x, hx⟩ : ∃ x, bl.ins[i]? = some x := ⟨_, List.getElem?_eq_getElem hlti⟩
      have hxm := List.mem_of_getElem? hx
      have hxo := (ho.blocks bl hmem).ins x hxm
      have hxa := (hs.all bl hmem).all x hxm
      have hsuc2 := flat_take_succ readsC hx
      have hcnt3 := flat_take_len readsC bl.ins (i + 1)
      have hokB : okInts (A ++ (bl.ins.take i).flatMap readsC) := fun r hr => by
        rcases List.mem_append.1 hr with h1 | h1
        · exact hokA r h1
        · exact flat_ok (fun y hy => (ho.blocks bl hmem).ins y (List.mem_of_mem_take hy)) r h1
      rw [hsuc2] at hcnt3
      have hcnt4 : (A ++ (bl.ins.take i).flatMap readsC).length + (readsC x).length ≤ 2097152 := by
        simp only [List.length_append] at hcnt2 hcnt3 ⊢
        omega
      generalize hB : A ++ (bl.ins.take i).flatMap readsC = B at hokB hcnt4 ⊢
      have hrx := readsC_ok hxo
      have hrl : (readsC x).length ≤ 2097152 := by omega
      refine Awp.skip ?_
      refine h12 _ ?_
      refine nT (hk := ?_)
      refine Awp.seq fun K15 h15 => ?_
      refine Awp.block ?_
      refine Awp.seq fun K16 h16 => ?_
      (refine Awp.region ?_; (repeat (first | refine sQ (hq := Quiet.call rfl (ref_reads_fn x hxo (by omega)) rfl rfl rfl) (hk := ?_) | refine sQ (hk := ?_) | refine sSkip (hk := ?_) | refine sOwn (hk := ?_))); refine aSeq_nil ?_)
      refine h16 _ ?_
      refine nT (hk := ?_)
      refine Awp.seq fun K17 h17 => ?_
      (refine Awp.region ?_; (repeat (first | refine sQ (hk := ?_) | refine sSkip (hk := ?_) | refine sOwn (hk := ?_))); refine aSeq_nil ?_)
      refine h17 _ ?_
      refine nT (hk := ?_)
      refine Awp.block ?_
      refine Awp.loopF (fun p : Nat × Nat => ⟨[.any, .ptr 0 0, .any, .own 1 p.2, .lit (.int .i64 (b : Int)), .lit (.int .i64 (i : Int)), .bs tInt (readsC x), .lit (.int .i64 (p.1 : Int)), .any, .any, .any, .any, .any, .any, .any, .any, .any, .any, .any, .any, .any, .any, .any, .any, .any, .any, .any, .any, .any, .any, .any, .any, .any, .any, .any, .any, .any, .any, .any, .any, .any, .any, .any, .any, .any, .any, .any, .any, .any, .any, .any, .any, .any, .any, .any, .any, .any, .any], [.box (encFunc f), .row p.2 3 tInt (regsOf (B ++ (readsC x).take p.1))]⟩) (fun p => p.1 ≤ (readsC x).length) (fun p => (readsC x).length - p.1) (0, ver1) (Nat.zero_le _) (by simp only [List.take_zero, List.append_nil]; exact le_T) ?_
      rintro ⟨k, ver2⟩ hk
      dsimp only at hk ⊢
      refine Awp.seq fun K18 h18 => ?_
      refine Awp.seq fun K19 h19 => ?_
      (refine Awp.region ?_; (repeat (first | refine sQ (hk := ?_) | refine sSkip (hk := ?_) | refine sOwn (hk := ?_))); refine aSeq_nil ?_)
      refine h19 _ ?_
      refine nT (hk := ?_)
      refine Awp.cond rfl (fun hb20 => ?_) (fun hb20 => ?_)
      · have hltk : k < (readsC x).length := by simpa using hb20
        obtain ⟨r, hr⟩ : ∃ r, (readsC x)[k]? = some r := ⟨_, List.getElem?_eq_getElem hltk⟩
        have hrw := hrx r (List.mem_of_getElem? hr)
        have hst : regsOf (B ++ (readsC x).take (k + 1)) = insR (regsOf (B ++ (readsC x).take k)) r := by
          rw [List.take_add_one, hr, ← List.append_assoc]
          exact regsOf_snoc _ _
        obtain ⟨hol, hoo⟩ := regsOf_rev (B ++ (readsC x).take k)
        have hoo' := hoo fun y hy => by
          rcases List.mem_append.1 hy with h1 | h1
          · exact hokB y h1
          · exact hrx y (List.mem_of_mem_take h1)
        have hol' : (regsOf (B ++ (readsC x).take k)).length ≤ 2097152 := by
          simp only [List.length_append, List.length_take] at hol hcnt4
          omega
        generalize regsOf (B ++ (readsC x).take k) = out at hst hol' hoo' ⊢
        refine Awp.skip ?_
        refine h18 _ ?_
        refine nT (hk := ?_)
        refine Awp.seq fun K21 h21 => ?_
        refine Awp.block ?_
        refine Awp.seq fun K22 h22 => ?_
        rcases hc : out.contains r with _ | _
        · have hins : insR out r = sortedL (out ++ [r]) := by unfold insR; rw [if_neg (by rw [hc]; simp)]
          have hn1 : out.length + [r].length ≤ maxLen := by simp [maxLen]; omega
          have hn2 : (out.length + [r].length) * 8 ≤ 140737488355328 := by simp; omega
          (refine Awp.region ?_; (repeat (first | refine sQ (hq := Quiet.lend rfl (by have := in17_fn out r hol'; rw [hc] at this; exact this) (.own rfl (.cl rfl .nil))) (hk := ?_) | refine sQ (hk := ?_) | refine sSkip (hk := ?_) | refine sOwn (hk := ?_))); refine aSeq_nil ?_)
          refine h22 _ ?_
          refine nT (hk := ?_)
          refine Awp.cond rfl (fun hb23 => ?_) (fun hb => by cases hb)
          (refine Awp.region ?_; (repeat (first | (refine aSeq_t rfl (AOp.callRow rfl (sorted17_fn (out ++ [r]) (fun y hy => (List.mem_append.1 hy).elim (hoo' y) fun h => by simp at h; rw [h]; exact hrw) (by simp) (by simp; omega)) rfl rfl ?_); refine sNt (hk := ?_)) | refine sQ (hk := ?_) | refine sSkip (hk := ?_) | refine sOwn (hk := ?_))); refine aSeq_nil ?_)
          refine h21 _ ?_
          refine nT (hk := ?_)
          (refine Awp.region ?_; (repeat (first | refine sQ (hk := ?_) | refine sSkip (hk := ?_) | refine sOwn (hk := ?_))); refine aSeq_nil ?_)
          refine athen_n ⟨(k + 1, ver2 + 1 + 1), by omega, by dsimp only; omega, ?_⟩
          dsimp only
          rw [hst, hins]
          exact le_T
        · have hins : insR out r = out := by unfold insR; rw [if_pos hc]
          (refine Awp.region ?_; (repeat (first | refine sQ (hq := Quiet.lend rfl (by have := in17_fn out r hol'; rw [hc] at this; exact this) (.own rfl (.cl rfl .nil))) (hk := ?_) | refine sQ (hk := ?_) | refine sSkip (hk := ?_) | refine sOwn (hk := ?_))); refine aSeq_nil ?_)
          refine h22 _ ?_
          refine nT (hk := ?_)
          refine Awp.cond rfl (fun hb => by cases hb) (fun hb23 => ?_)
          refine Awp.skip ?_
          refine h21 _ ?_
          refine nT (hk := ?_)
          (refine Awp.region ?_; (repeat (first | refine sQ (hk := ?_) | refine sSkip (hk := ?_) | refine sOwn (hk := ?_))); refine aSeq_nil ?_)
          refine athen_n ⟨(k + 1, ver2), by omega, by dsimp only; omega, ?_⟩
          dsimp only
          rw [hst, hins]
          exact le_T
      · refine Awp.exit ?_
        refine h15 _ ?_
        refine nT (hk := ?_)
        have hkk : k = (readsC x).length := by have : ¬ k < (readsC x).length := by simpa using hb20
                                               omega
        (refine Awp.region ?_; (repeat (first | refine sQ (hk := ?_) | refine sSkip (hk := ?_) | refine sOwn (hk := ?_))); refine aSeq_nil ?_)
        refine athen_n ⟨(i + 1, ver2), by omega, by dsimp only; omega, ?_⟩
        dsimp only
        rw [hsuc2, hkk, List.take_length, ← List.append_assoc, hB]
        exact le_T
    · refine Awp.exit ?_
      refine h9 _ ?_
      refine nT (hk := ?_)
      have hii : i = bl.ins.length := by have : ¬ i < bl.ins.length := by simpa using hb14
                                         omega
      (refine Awp.region ?_; (repeat (first | refine sQ (hk := ?_) | refine sSkip (hk := ?_) | refine sOwn (hk := ?_))); refine aSeq_nil ?_)
      refine athen_n ⟨(b + 1, ver1), by omega, by dsimp only; omega, ?_⟩
      dsimp only
      rw [hsuc, hii, List.take_length]
      exact le_T
  · refine Awp.exit ?_
    refine h3 _ ?_
    refine nT (hk := ?_)
    have hbb : b = f.blocks.length := by have : ¬ b < f.blocks.length := by simpa using hb8
                                         omega
    refine Awp.seq fun K24 h24 => ?_
    (refine Awp.region ?_; (repeat (first | refine sQ (hk := ?_) | refine sSkip (hk := ?_) | refine sOwn (hk := ?_))); refine aSeq_nil ?_)
    refine h24 _ ?_
    refine nT (hk := ?_)
    refine Awp.ret ?_
    rw [hbb, List.take_length]
    exact ⟨.inr rfl, Fin.own rfl⟩
end Mu
end
section
/-
  muntinref17: Place, All, walked.
  Conditions: at most 2^21 of everything.
-/
namespace Mu
open Go Go.RowKit Go.Proofs

def liveAt (f : Func) (b i : Nat) (r : Int) : Bool := (readsP r ((insOf f b).drop i)).1 || (!(readsP r ((insOf f b).drop i)).2 && behindB f (insI f r) b)
def placeL (f : Func) (regs : List Int) (b i : Nat) : List Int := regs.filter (liveAt f b i)
def blockL (f : Func) (b : Nat) : List (List Int) := (List.range ((insOf f b).length + 1)).map (placeL f (regsL f) b)
def allL (f : Func) : List (List (List Int)) := (List.range f.blocks.length).map (blockL f)
theorem filter_take_succ {p : Int → Bool} {l : List Int} {k : Nat} {x : Int} (hx : l[k]? = some x) : (l.take (k + 1)).filter p = (l.take k).filter p ++ if p x then [x] else [] := by
  rw [List.take_add_one, hx, List.filter_append]
  cases h : p x <;> simp [h]
theorem insI_len (f : Func) (r : Int) : (insI f r).length = f.blocks.length := roundsI_len f r _

set_option maxRecDepth 100000 in
set_option maxHeartbeats 4000000 in
theorem place17_fn (f : Func) (regs : List Int) (b i : Nat) (bl : Block) (ho : okFunc f) (hs : smallF f) (hr : okInts regs) (hrl : regs.length ≤ 2097152) (hb : f.blocks[b]? = some bl) (hi : i ≤ bl.ins.length) :
    Fn Try.prog 45 [.agg (encFunc f), .bs tInt regs, .bs Ty.bool.slice (regs.map (insI f)), .lit (.int .i64 (b : Int)), .lit (.int .i64 (i : Int))] (.bs tInt (placeL f regs b i)) := by
  have hbl := hs.blocks
  have hmem := List.mem_of_getElem? hb
  have hins : insOf f b = bl.ins := by unfold insOf; rw [hb]
  refine Fn.of_awp Try.func45 rfl (by kernel_rfl) rfl Try.ntmps45 fun C hC => ?_
  simp only [List.length_cons, List.length_nil, Nat.reduceAdd, Nat.reduceSub, List.replicate_succ, List.replicate_zero, List.cons_append, List.nil_append]
  refine Awp.seq fun K1 h1 => ?_
  (refine Awp.region ?_; (repeat (first | refine sQ (hk := ?_) | refine sSkip (hk := ?_) | refine sOwn (hk := ?_))); refine aSeq_nil ?_)
  refine h1 _ ?_
  refine nT (hk := ?_)
  refine Awp.seq fun K2 h2 => ?_
  (refine Awp.region ?_; (repeat (first | refine sQ (hk := ?_) | refine sSkip (hk := ?_) | refine sOwn (hk := ?_))); refine aSeq_nil ?_)
  refine h2 _ ?_
  refine nT (hk := ?_)
  refine Awp.seq fun K3 h3 => ?_
  refine Awp.seq fun K4 h4 => ?_
  (refine Awp.region ?_; (repeat (first | refine sQ (hk := ?_) | refine sSkip (hk := ?_) | refine sOwn (hk := ?_))); refine aSeq_nil ?_)
  refine h4 _ ?_
  refine nT (hk := ?_)
  refine Awp.block ?_
  refine Awp.loopF (fun p : Nat × Nat => ⟨[.any, .bs tInt regs, .bs Ty.bool.slice (regs.map (insI f)), .lit (.int .i64 (b : Int)), .lit (.int .i64 (i : Int)), .ptr 0 0, .any, .any, .any, .any, .any, .own 1 p.2, .lit (.int .i64 (p.1 : Int)), .any, .any, .any, .any, .any, .any, .any, .any, .any, .any, .any, .any, .any, .any, .any, .any, .any, .any, .any, .any, .any, .any, .any, .any, .any, .any, .any, .any, .any, .any, .any, .any, .any, .any, .any, .any, .any, .any, .any, .any, .any, .any, .any, .any], [.box (encFunc f), .row p.2 3 tInt ((regs.take p.1).filter (liveAt f b i))]⟩) (fun p => p.1 ≤ regs.length) (fun p => regs.length - p.1) (0, 0) (Nat.zero_le _) ((St.le_nil 11 3 tInt rfl Nat.zero_lt_one).trans (le_T)) ?_
  rintro ⟨k, ver⟩ hk
  dsimp only at hk ⊢
  refine Awp.seq fun K6 h6 => ?_
  refine Awp.seq fun K7 h7 => ?_
  (refine Awp.region ?_; (repeat (first | refine sQ (hk := ?_) | refine sSkip (hk := ?_) | refine sOwn (hk := ?_))); refine aSeq_nil ?_)
  refine h7 _ ?_
  refine nT (hk := ?_)
  refine Awp.cond rfl (fun hb8 => ?_) (fun hb8 => ?_)
  · have hlt : k < regs.length := by simpa using hb8
    obtain ⟨r, hrk⟩ : ∃ r, regs[k]? = some r := ⟨_, List.getElem?_eq_getElem hlt⟩
    have hrw := hr r (List.mem_of_getElem? hrk)
    have hik : (regs.map (insI f))[k]? = some (insI f r) := by rw [List.getElem?_map, hrk]; rfl
    have hst := filter_take_succ (p := liveAt f b i) hrk
    have hol := List.length_filter_le (liveAt f b i) (regs.take k)
    have hol2 : ((regs.take k).filter (liveAt f b i)).length ≤ 2097152 := by simp only [List.length_take] at hol; omega
    have hlv : liveAt f b i r = ((readsP r (bl.ins.drop i)).1 || (!(readsP r (bl.ins.drop i)).2 && behindB f (insI f r) b)) := by unfold liveAt; rw [hins]
    have hyes : liveAt f b i r = true → (regs.take (k + 1)).filter (liveAt f b i) = (regs.take k).filter (liveAt f b i) ++ [r] := fun h => by rw [hst, if_pos h]
    have hno : liveAt f b i r = false → (regs.take (k + 1)).filter (liveAt f b i) = (regs.take k).filter (liveAt f b i) := fun h => by rw [hst, if_neg (by simp [h]), List.append_nil]
    generalize hout : (regs.take k).filter (liveAt f b i) = out at hyes hno hol2 ⊢
    have hn1 : out.length + [r].length ≤ maxLen := by simp [maxLen]; omega
    have hn2 : (out.length + [r].length) * 8 ≤ 140737488355328 := by simp; omega
    refine Awp.skip ?_
    refine h6 _ ?_
    refine nT (hk := ?_)
    refine Awp.seq fun K9 h9 => ?_
    refine Awp.block ?_
    refine Awp.seq fun K10 h10 => ?_
    (refine drawD 16 (hh := ?_); (repeat (first | refine qQ (hq := Quiet.call rfl (reads17_fn bl i r (ho.blocks bl hmem) (hs.all bl hmem) hi) rfl rfl rfl) (hk := ?_) | refine qQ (hk := ?_) | refine qSkip (hk := ?_))); refine aQ_nil ?_; (repeat (first | refine sQ (hq := Quiet.call rfl (reads17_fn bl i r (ho.blocks bl hmem) (hs.all bl hmem) hi) rfl rfl rfl) (hk := ?_) | refine sQ (hk := ?_) | refine sSkip (hk := ?_) | refine sOwn (hk := ?_))); refine aSeq_nil ?_)
    refine h10 _ ?_
    refine nT (hk := ?_)
    rcases hr1 : (readsP r (bl.ins.drop i)).1 with _ | _
    · rcases hr2 : (readsP r (bl.ins.drop i)).2 with _ | _
      · rw [hr1, hr2] at hlv
        refine Awp.seq fun K11 h11 => ?_
        rcases hbb : behindB f (insI f r) b with _ | _
        · rw [hbb] at hlv
          (refine drawD 14 (hh := ?_); (repeat (first | refine qQ (hq := Quiet.call rfl (by have := behind17_fn f (insI f r) b ho hs (insI_len f r); rw [hbb] at this; exact this) rfl rfl rfl) (hk := ?_) | refine qQ (hk := ?_) | refine qSkip (hk := ?_))); refine aQ_nil ?_; (repeat (first | refine sQ (hq := Quiet.call rfl (by have := behind17_fn f (insI f r) b ho hs (insI_len f r); rw [hbb] at this; exact this) rfl rfl rfl) (hk := ?_) | refine sQ (hk := ?_) | refine sSkip (hk := ?_) | refine sOwn (hk := ?_))); refine aSeq_nil ?_)
          refine h11 _ ?_
          refine nT (hk := ?_)
          refine Awp.cond rfl (fun hb => by cases hb) (fun hb12 => ?_)
          refine Awp.skip ?_
          refine h9 _ ?_
          refine nT (hk := ?_)
          (refine Awp.region ?_; (repeat (first | refine sQ (hk := ?_) | refine sSkip (hk := ?_) | refine sOwn (hk := ?_))); refine aSeq_nil ?_)
          refine athen_n ⟨(k + 1, ver), by omega, by dsimp only; omega, ?_⟩
          dsimp only
          rw [hno hlv]
          exact le_T
        · rw [hbb] at hlv
          (refine drawD 14 (hh := ?_); (repeat (first | refine qQ (hq := Quiet.call rfl (by have := behind17_fn f (insI f r) b ho hs (insI_len f r); rw [hbb] at this; exact this) rfl rfl rfl) (hk := ?_) | refine qQ (hk := ?_) | refine qSkip (hk := ?_))); refine aQ_nil ?_; (repeat (first | refine sQ (hq := Quiet.call rfl (by have := behind17_fn f (insI f r) b ho hs (insI_len f r); rw [hbb] at this; exact this) rfl rfl rfl) (hk := ?_) | refine sQ (hk := ?_) | refine sSkip (hk := ?_) | refine sOwn (hk := ?_))); refine aSeq_nil ?_)
          refine h11 _ ?_
          refine nT (hk := ?_)
          refine Awp.cond rfl (fun hb12 => ?_) (fun hb => by cases hb)
          (refine Awp.region ?_; (repeat (first | refine sQ (hk := ?_) | refine sSkip (hk := ?_) | refine sOwn (hk := ?_))); refine aSeq_nil ?_)
          refine h9 _ ?_
          refine nT (hk := ?_)
          (refine Awp.region ?_; (repeat (first | refine sQ (hk := ?_) | refine sSkip (hk := ?_) | refine sOwn (hk := ?_))); refine aSeq_nil ?_)
          refine athen_n ⟨(k + 1, ver + 1), by omega, by dsimp only; omega, ?_⟩
          dsimp only
          rw [hyes hlv]
          exact le_T
      · rw [hr1, hr2] at hlv
        refine Awp.seq fun K11 h11 => ?_
        (refine drawD 14 (hh := ?_); (repeat (first | refine qQ (hk := ?_) | refine qSkip (hk := ?_))); refine aQ_nil ?_; (repeat (first | refine sQ (hk := ?_) | refine sSkip (hk := ?_) | refine sOwn (hk := ?_))); refine aSeq_nil ?_)
        refine h11 _ ?_
        refine nT (hk := ?_)
        refine Awp.cond rfl (fun hb => by cases hb) (fun hb12 => ?_)
        refine Awp.skip ?_
        refine h9 _ ?_
        refine nT (hk := ?_)
        (refine Awp.region ?_; (repeat (first | refine sQ (hk := ?_) | refine sSkip (hk := ?_) | refine sOwn (hk := ?_))); refine aSeq_nil ?_)
        refine athen_n ⟨(k + 1, ver), by omega, by dsimp only; omega, ?_⟩
        dsimp only
        rw [hno hlv]
        exact le_T
    · rw [hr1] at hlv
      refine Awp.seq fun K11 h11 => ?_
      (refine drawD 14 (hh := ?_); (repeat (first | refine qQ (hk := ?_) | refine qSkip (hk := ?_))); refine aQ_nil ?_; (repeat (first | refine sQ (hk := ?_) | refine sSkip (hk := ?_) | refine sOwn (hk := ?_))); refine aSeq_nil ?_)
      refine h11 _ ?_
      refine nT (hk := ?_)
      refine Awp.cond rfl (fun hb12 => ?_) (fun hb => by cases hb)
      (refine Awp.region ?_; (repeat (first | refine sQ (hk := ?_) | refine sSkip (hk := ?_) | refine sOwn (hk := ?_))); refine aSeq_nil ?_)
      refine h9 _ ?_
      refine nT (hk := ?_)
      (refine Awp.region ?_; (repeat (first | refine sQ (hk := ?_) | refine sSkip (hk := ?_) | refine sOwn (hk := ?_))); refine aSeq_nil ?_)
      refine athen_n ⟨(k + 1, ver + 1), by omega, by dsimp only; omega, ?_⟩
      dsimp only
      rw [hyes hlv]
      exact le_T
  · refine Awp.exit ?_
    refine h3 _ ?_
    refine nT (hk := ?_)
    have hkk : k = regs.length := by have : ¬ k < regs.length := by simpa using hb8
                                     omega
    refine Awp.seq fun K13 h13 => ?_
    (refine Awp.region ?_; (repeat (first | refine sQ (hk := ?_) | refine sSkip (hk := ?_) | refine sOwn (hk := ?_))); refine aSeq_nil ?_)
    refine h13 _ ?_
    refine nT (hk := ?_)
    refine Awp.ret ?_
    rw [hkk, List.take_length]
    exact ⟨.inr rfl, Fin.own rfl⟩
end Mu
end
section
/-
  muntinref17.All, walked.
  Conditions: at most 2^21 of everything.
-/
namespace Mu
open Go Go.RowKit Go.Proofs

theorem map_take_succ {α β : Type} (g : α → β) {l : List α} {k : Nat} {x : α} (hx : l[k]? = some x) : (l.take (k + 1)).map g = (l.take k).map g ++ [g x] := by
  rw [List.take_add_one, hx, List.map_append]
  simp
theorem range_map_succ {β : Type} (g : Nat → β) (k : Nat) : (List.range (k + 1)).map g = (List.range k).map g ++ [g k] := by rw [List.range_succ, List.map_append]; rfl

set_option maxRecDepth 100000 in
set_option maxHeartbeats 4000000 in
theorem all17_fn (f : Func) (ho : okFunc f) (hs : smallF f) (hT : (allReads f).length ≤ 2097152) : Fn Try.prog 12 [.agg (encFunc f)] (.bs tInt.slice.slice (allL f)) := by
  have hbl := hs.blocks
  obtain ⟨hrl0, hrk0⟩ := regsOf_rev (allReads f)
  have hrl : (regsL f).length ≤ 2097152 := Nat.le_trans hrl0 hT
  have hro : okInts (regsL f) := hrk0 (allReads_ok ho)
  refine Fn.of_awp Try.func12 rfl (by kernel_rfl) rfl Try.ntmps12 fun C hC => ?_
  simp only [List.length_cons, List.length_nil, Nat.reduceAdd, Nat.reduceSub, List.replicate_succ, List.replicate_zero, List.cons_append, List.nil_append]
  refine Awp.seq fun K1 h1 => ?_
  (refine Awp.region ?_; (repeat (first | refine sQ (hk := ?_) | refine sSkip (hk := ?_) | refine sOwn (hk := ?_))); refine aSeq_nil ?_)
  refine h1 _ ?_
  refine nT (hk := ?_)
  refine Awp.seq fun K2 h2 => ?_
  (refine Awp.region ?_; (repeat (first | refine sQ (hq := Quiet.call rfl (regs17_fn f ho hs hT) rfl rfl rfl) (hk := ?_) | refine sQ (hk := ?_) | refine sSkip (hk := ?_) | refine sOwn (hk := ?_))); refine aSeq_nil ?_)
  refine h2 _ ?_
  refine nT (hk := ?_)
  refine Awp.seq fun K3 h3 => ?_
  (refine Awp.region ?_; (repeat (first | refine sQ (hk := ?_) | refine sSkip (hk := ?_) | refine sOwn (hk := ?_))); refine aSeq_nil ?_)
  refine h3 _ ?_
  refine nT (hk := ?_)
  refine Awp.seq fun K4 h4 => ?_
  refine Awp.seq fun K5 h5 => ?_
  (refine Awp.region ?_; (repeat (first | refine sQ (hk := ?_) | refine sSkip (hk := ?_) | refine sOwn (hk := ?_))); refine aSeq_nil ?_)
  refine h5 _ ?_
  refine nT (hk := ?_)
  refine Awp.block ?_
  refine Awp.loopF (fun p : Nat × Nat => ⟨[.any, .ptr 0 0, .any, .bs tInt (regsL f), .own 1 p.2, .lit (.int .i64 (p.1 : Int)), .any, .any, .any, .any, .any, .any, .any, .any, .any, .any, .any, .any, .any, .any, .any, .any, .any, .any, .any, .any, .any, .any, .any, .any, .any, .any, .any, .any, .any, .any, .any, .any, .any, .any, .any, .any, .any, .any, .any, .any, .any, .any, .any, .any, .any, .any, .any, .any, .any, .any, .any, .any, .any], [.box (encFunc f), .row p.2 66 Ty.bool.slice (((regsL f).take p.1).map (insI f))]⟩) (fun p => p.1 ≤ (regsL f).length) (fun p => (regsL f).length - p.1) (0, 0) (Nat.zero_le _) ((St.le_nil 4 66 Ty.bool.slice rfl Nat.zero_lt_one).trans (le_T)) ?_
  rintro ⟨k, ver⟩ hk
  dsimp only at hk ⊢
  refine Awp.seq fun K7 h7 => ?_
  refine Awp.seq fun K8 h8 => ?_
  (refine Awp.region ?_; (repeat (first | refine sQ (hk := ?_) | refine sSkip (hk := ?_) | refine sOwn (hk := ?_))); refine aSeq_nil ?_)
  refine h8 _ ?_
  refine nT (hk := ?_)
  refine Awp.cond rfl (fun hb9 => ?_) (fun hb9 => ?_)
  · have hlt : k < (regsL f).length := by simpa using hb9
    obtain ⟨r, hrk⟩ : ∃ r, (regsL f)[k]? = some r := ⟨_, List.getElem?_eq_getElem hlt⟩
    have hst := map_take_succ (insI f) hrk
    have hol : (((regsL f).take k).map (insI f)).length ≤ 2097152 := by simp only [List.length_map, List.length_take]; omega
    generalize ((regsL f).take k).map (insI f) = out at hst hol ⊢
    have hn1 : out.length + [insI f r].length ≤ maxLen := by simp [maxLen]; omega
    have hn2 : (out.length + [insI f r].length) * 24 ≤ 140737488355328 := by simp; omega
    refine Awp.skip ?_
    refine h7 _ ?_
    refine nT (hk := ?_)
    refine Awp.seq fun K10 h10 => ?_
    refine Awp.block ?_
    (refine drawD 8 (hh := ?_); (repeat (first | refine qQ (hq := Quiet.call rfl (ins17_fn f r ho hs) rfl rfl rfl) (hk := ?_) | refine qQ (hk := ?_) | refine qSkip (hk := ?_))); refine aQ_nil ?_; (repeat (first | refine sQ (hq := Quiet.call rfl (ins17_fn f r ho hs) rfl rfl rfl) (hk := ?_) | refine sQ (hk := ?_) | refine sSkip (hk := ?_) | refine sOwn (hk := ?_))); refine aSeq_nil ?_)
    refine h10 _ ?_
    refine nT (hk := ?_)
    (refine Awp.region ?_; (repeat (first | refine sQ (hk := ?_) | refine sSkip (hk := ?_) | refine sOwn (hk := ?_))); refine aSeq_nil ?_)
    refine athen_n ⟨(k + 1, ver + 1), by omega, by dsimp only; omega, ?_⟩
    dsimp only
    rw [hst]
    exact le_T
  · refine Awp.exit ?_
    refine h4 _ ?_
    refine nT (hk := ?_)
    have hkk : k = (regsL f).length := by have : ¬ k < (regsL f).length := by simpa using hb9
                                          omega
    rw [hkk, List.take_length]
    refine Awp.via ⟨[.any, .ptr 0 0, .any, .bs tInt (regsL f), .bs Ty.bool.slice ((regsL f).map (insI f)), .any, .any, .any, .any, .any, .any, .any, .any, .any, .any, .any, .any, .any, .any, .any, .any, .any, .any, .any, .any, .any, .any, .any, .any, .any, .any, .any, .any, .any, .any, .any, .any, .any, .any, .any, .any, .any, .any, .any, .any, .any, .any, .any, .any, .any, .any, .any, .any, .any, .any, .any, .any, .any, .any], [.box (encFunc f), .dead]⟩ ((St.le_fz hC 1 rfl).trans (by simp only [fzH, AV.fzL, AV.fz, ABlk.fz, List.map_cons, List.map_nil, List.set_cons_zero, List.set_cons_succ, and_self, if_true, encFunc]; exact le_T)) ?_
    refine Awp.seq fun K11 h11 => ?_
    (refine Awp.region ?_; (repeat (first | refine sQ (hk := ?_) | refine sSkip (hk := ?_) | refine sOwn (hk := ?_))); refine aSeq_nil ?_)
    refine h11 _ ?_
    refine nT (hk := ?_)
    refine Awp.seq fun K12 h12 => ?_
    refine Awp.seq fun K13 h13 => ?_
    (refine Awp.region ?_; (repeat (first | refine sQ (hk := ?_) | refine sSkip (hk := ?_) | refine sOwn (hk := ?_))); refine aSeq_nil ?_)
    refine h13 _ ?_
    refine nT (hk := ?_)
    refine Awp.block ?_
    refine Awp.loopF (fun p : Nat × Nat => ⟨[.any, .ptr 0 0, .any, .bs tInt (regsL f), .bs Ty.bool.slice ((regsL f).map (insI f)), .any, .own 2 p.2, .lit (.int .i64 (p.1 : Int)), .any, .any, .any, .any, .any, .any, .any, .any, .any, .any, .any, .any, .any, .any, .any, .any, .any, .any, .any, .any, .any, .any, .any, .any, .any, .any, .any, .any, .any, .any, .any, .any, .any, .any, .any, .any, .any, .any, .any, .any, .any, .any, .any, .any, .any, .any, .any, .any, .any, .any, .any], [.box (encFunc f), .dead, .row p.2 43 tInt.slice.slice ((List.range p.1).map (blockL f))]⟩) (fun p => p.1 ≤ f.blocks.length) (fun p => f.blocks.length - p.1) (0, 0) (Nat.zero_le _) ((St.le_nil 6 43 tInt.slice.slice rfl Nat.zero_lt_one).trans (le_T)) ?_
    rintro ⟨b, ver⟩ hb
    dsimp only at hb ⊢
    refine Awp.seq fun K15 h15 => ?_
    refine Awp.seq fun K16 h16 => ?_
    (refine Awp.region ?_; (repeat (first | refine sQ (hk := ?_) | refine sSkip (hk := ?_) | refine sOwn (hk := ?_))); refine aSeq_nil ?_)
    refine h16 _ ?_
    refine nT (hk := ?_)
    refine Awp.cond rfl (fun hb17 => ?_) (fun hb17 => ?_)
    · have hltb : b < f.blocks.length := by simpa using hb17
      obtain ⟨bl, hbk⟩ : ∃ bl, f.blocks[b]? = some bl := ⟨_, List.getElem?_eq_getElem hltb⟩
      have hmem := List.mem_of_getElem? hbk
      have hsi := (hs.all bl hmem).ins
      have hins : insOf f b = bl.ins := by unfold insOf; rw [hbk]
      have hstb := range_map_succ (blockL f) b
      have hblk : blockL f b = (List.range (bl.ins.length + 1)).map (placeL f (regsL f) b) := by unfold blockL; rw [hins]
      have holb : ((List.range b).map (blockL f)).length ≤ 2097152 := by simp; omega
      generalize (List.range b).map (blockL f) = out at hstb holb ⊢
      have hn1 : out.length + [blockL f b].length ≤ maxLen := by simp [maxLen]; omega
      have hn2 : (out.length + [blockL f b].length) * 24 ≤ 140737488355328 := by simp; omega
      refine Awp.skip ?_
      refine h15 _ ?_
      refine nT (hk := ?_)
      refine Awp.seq fun K18 h18 => ?_
      refine Awp.block ?_
      refine Awp.seq fun K19 h19 => ?_
      (refine Awp.region ?_; (repeat (first | refine sQ (hk := ?_) | refine sSkip (hk := ?_) | refine sOwn (hk := ?_))); refine aSeq_nil ?_)
      refine h19 _ ?_
      refine nT (hk := ?_)
      refine Awp.seq fun K20 h20 => ?_
      refine Awp.seq fun K21 h21 => ?_
      (refine Awp.region ?_; (repeat (first | refine sQ (hk := ?_) | refine sSkip (hk := ?_) | refine sOwn (hk := ?_))); refine aSeq_nil ?_)
      refine h21 _ ?_
      refine nT (hk := ?_)
      refine Awp.block ?_
      refine Awp.loopF (fun p : Nat × Nat => ⟨[.any, .ptr 0 0, .any, .bs tInt (regsL f), .bs Ty.bool.slice ((regsL f).map (insI f)), .any, .own 2 ver, .lit (.int .i64 (b : Int)), .own 3 p.2, .lit (.int .i64 (p.1 : Int)), .any, .any, .any, .any, .any, .any, .any, .any, .any, .any, .any, .any, .any, .any, .any, .any, .any, .any, .any, .any, .any, .any, .any, .any, .any, .any, .any, .any, .any, .any, .any, .any, .any, .any, .any, .any, .any, .any, .any, .any, .any, .any, .any, .any, .any, .any, .any, .any, .any], [.box (encFunc f), .dead, .row ver 43 tInt.slice.slice out, .row p.2 29 tInt.slice ((List.range p.1).map (placeL f (regsL f) b))]⟩) (fun p => p.1 ≤ bl.ins.length + 1) (fun p => bl.ins.length + 1 - p.1) (0, 0) (Nat.zero_le _) ((St.le_nil 8 29 tInt.slice rfl Nat.zero_lt_one).trans (le_T)) ?_
      rintro ⟨i, ver2⟩ hi
      dsimp only at hi ⊢
      refine Awp.seq fun K22 h22 => ?_
      refine Awp.seq fun K23 h23 => ?_
      (refine Awp.region ?_; (repeat (first | refine sQ (hk := ?_) | refine sSkip (hk := ?_) | refine sOwn (hk := ?_))); refine aSeq_nil ?_)
      refine h23 _ ?_
      refine nT (hk := ?_)
      refine Awp.cond rfl (fun hb24 => ?_) (fun hb24 => ?_)
      · have hlti : i ≤ bl.ins.length := by simpa using hb24
        have hsti := range_map_succ (placeL f (regsL f) b) i
        have holi : ((List.range i).map (placeL f (regsL f) b)).length ≤ 2097152 := by simp; omega
        generalize (List.range i).map (placeL f (regsL f) b) = l at hsti holi ⊢
        have hn3 : l.length + [placeL f (regsL f) b i].length ≤ maxLen := by simp [maxLen]; omega
        have hn4 : (l.length + [placeL f (regsL f) b i].length) * 24 ≤ 140737488355328 := by simp; omega
        refine Awp.skip ?_
        refine h22 _ ?_
        refine nT (hk := ?_)
        refine Awp.seq fun K25 h25 => ?_
        refine Awp.block ?_
        (refine Awp.region ?_; (repeat (first | refine sQ (hq := Quiet.call rfl (place17_fn f (regsL f) b i bl ho hs hro hrl hbk hlti) rfl rfl rfl) (hk := ?_) | refine sQ (hk := ?_) | refine sSkip (hk := ?_) | refine sOwn (hk := ?_))); refine aSeq_nil ?_)
        refine h25 _ ?_
        refine nT (hk := ?_)
        (refine Awp.region ?_; (repeat (first | refine sQ (hk := ?_) | refine sSkip (hk := ?_) | refine sOwn (hk := ?_))); refine aSeq_nil ?_)
        refine athen_n ⟨(i + 1, ver2 + 1), by omega, by dsimp only; omega, ?_⟩
        dsimp only
        rw [hsti]
        exact le_T
      · refine Awp.exit ?_
        refine h20 _ ?_
        refine nT (hk := ?_)
        have hii : i = bl.ins.length + 1 := by have : ¬ i ≤ bl.ins.length := by simpa using hb24
                                               omega
        rw [hii, ← hblk]
        refine Awp.via ⟨[.any, .ptr 0 0, .any, .bs tInt (regsL f), .bs Ty.bool.slice ((regsL f).map (insI f)), .any, .own 2 ver, .lit (.int .i64 (b : Int)), .bs tInt.slice (blockL f b), .any, .any, .any, .any, .any, .any, .any, .any, .any, .any, .any, .any, .any, .any, .any, .any, .any, .any, .any, .any, .any, .any, .any, .any, .any, .any, .any, .any, .any, .any, .any, .any, .any, .any, .any, .any, .any, .any, .any, .any, .any, .any, .any, .any, .any, .any, .any, .any, .any, .any], [.box (encFunc f), .dead, .row ver 43 tInt.slice.slice out, .dead]⟩ ((St.le_fz hC 3 rfl).trans (by simp only [fzH, AV.fzL, AV.fz, ABlk.fz, List.map_cons, List.map_nil, List.set_cons_zero, List.set_cons_succ, and_self, if_true, encFunc, Nat.reduceEqDiff, false_and, if_false]; exact le_T)) ?_
        (refine Awp.region ?_; (repeat (first | refine sQ (hk := ?_) | refine sSkip (hk := ?_) | refine sOwn (hk := ?_))); refine aSeq_nil ?_)
        refine h18 _ ?_
        refine nT (hk := ?_)
        (refine Awp.region ?_; (repeat (first | refine sQ (hk := ?_) | refine sSkip (hk := ?_) | refine sOwn (hk := ?_))); refine aSeq_nil ?_)
        refine athen_n ⟨(b + 1, ver + 1), by omega, by dsimp only; omega, ?_⟩
        dsimp only
        rw [hstb]
        exact le_C (Cut.cons (Cut.cons (Cut.cons (Cut.nil _))))
    · refine Awp.exit ?_
      refine h12 _ ?_
      refine nT (hk := ?_)
      have hbb : b = f.blocks.length := by have : ¬ b < f.blocks.length := by simpa using hb17
                                           omega
      refine Awp.seq fun K26 h26 => ?_
      (refine Awp.region ?_; (repeat (first | refine sQ (hk := ?_) | refine sSkip (hk := ?_) | refine sOwn (hk := ?_))); refine aSeq_nil ?_)
      refine h26 _ ?_
      refine nT (hk := ?_)
      refine Awp.ret ?_
      rw [hbb]
      exact ⟨.inr rfl, Fin.own rfl⟩
end Mu
end
section
/-
  The document's answer on what is live, plain: it is the least one; its registers rise.
  Conditions: none.
-/
namespace Mu
open Go

/-- live at a block's beginning -/
def LIn (f : Func) (b : Nat) (r : Int) : Prop := rdB r (insOf f b) = true ∨ (thru r (insOf f b) = true ∧ LOut f b r)
theorem lout_iff {f : Func} {k : Nat} {r : Int} : LOut f k r ↔ ∃ b, Edge f k b ∧ LIn f b r := by
  constructor
  · intro h
    cases h with
    | read he h => exact ⟨_, he, .inl h⟩
    | pass he h hl => exact ⟨_, he, .inr ⟨h, hl⟩⟩
  · rintro ⟨b, he, h | ⟨h, hl⟩⟩
    · exact .read he h
    · exact .pass he h hl
theorem behind_iff {f : Func} {out : List Bool} {k : Nat} : behindB f out (k : Int) = true ↔ ∃ b, Edge f k b ∧ out.getD b false = true := by
  unfold behindB nextL Edge
  rw [List.any_eq_true]
  constructor
  · rintro ⟨x, hx, h⟩
    obtain ⟨y, hy, rfl⟩ := List.mem_map.1 hx
    exact ⟨y.1, ⟨y, hy, rfl⟩, by simpa [blkI] using h⟩
  · rintro ⟨b, ⟨y, hy, rfl⟩, h⟩
    exact ⟨blkI y, List.mem_map.2 ⟨y, hy, rfl⟩, by simpa [blkI] using h⟩
theorem go_eq (f : Func) (r : Int) (out : List Bool) (b : Nat) : goB f r out b = (rdB r (insOf f b) || (thru r (insOf f b) && behindB f out b)) := by
  have h := readsP_in r (insOf f b) (fun _ => behindB f out b)
  rw [inS_eq] at h
  exact h
theorem edge_lt {f : Func} {k b : Nat} (h : Edge f k b) : b < f.blocks.length := by
  obtain ⟨x, _, rfl⟩ := h
  exact x.2

/-! ### nothing but what is live -/
def SoundO (f : Func) (r : Int) (out : List Bool) : Prop := ∀ b, out.getD b false = true → LIn f b r
theorem sound_behind {f : Func} {r : Int} {out : List Bool} (h : SoundO f r out) {k : Nat} (hb : behindB f out (k : Int) = true) : LOut f k r := by
  obtain ⟨b, he, ho⟩ := behind_iff.1 hb
  exact lout_iff.2 ⟨b, he, h b ho⟩
theorem sound_step {f : Func} {r : Int} {out : List Bool} (h : SoundO f r out) (b : Nat) : SoundO f r (stepI f r out b) := by
  unfold stepI
  split
  · rename_i hg
    intro c hc
    by_cases hbc : b = c
    · subst hbc
      rw [go_eq] at hg
      simp only [Bool.or_eq_true, Bool.and_eq_true] at hg
      rcases hg with hg | ⟨h1, h2⟩
      · exact .inl hg
      · exact .inr ⟨h1, sound_behind h h2⟩
    · rw [List.getD_eq_getElem?_getD, List.getElem?_set_ne hbc, ← List.getD_eq_getElem?_getD] at hc
      exact h c hc
  · exact h
theorem sound_fold {f : Func} {r : Int} {out : List Bool} (h : SoundO f r out) (m : Nat) : SoundO f r (foldI f r out m) := by
  induction m with
  | zero => exact h
  | succ m ih => rw [foldI_succ]; exact sound_step ih m
theorem sound_rounds (f : Func) (r : Int) (m : Nat) : SoundO f r (roundsI f r m) := by
  induction m with
  | zero =>
    intro b hb
    unfold roundsI at hb
    rw [List.getD_eq_getElem?_getD, List.getElem?_replicate] at hb
    split at hb <;> simp at hb
  | succ m ih => exact sound_fold ih _

/-! ### all that is live -/
theorem step_count (f : Func) (r : Int) (out : List Bool) (b : Nat) : out.count true ≤ (stepI f r out b).count true ∧ (stepI f r out b ≠ out → out.count true < (stepI f r out b).count true) := by
  unfold stepI
  split
  · by_cases hb : b < out.length
    · have hs : out.set b true = out.take b ++ true :: out.drop (b + 1) := List.set_eq_take_append_cons_drop .. |>.trans (by rw [if_pos hb])
      have ho : out = out.take b ++ out[b] :: out.drop (b + 1) := by rw [← List.drop_eq_getElem_cons hb, List.take_append_drop]
      have h1 : (out.set b true).count true = (out.take b).count true + 1 + (out.drop (b + 1)).count true := by rw [hs, List.count_append, List.count_cons_self]; omega
      cases hv : out[b] with
      | true =>
        have h2 : out.count true = (out.take b).count true + 1 + (out.drop (b + 1)).count true := by
          conv => lhs; rw [ho, hv]
          rw [List.count_append, List.count_cons_self]; omega
        refine ⟨by omega, fun hne => absurd ?_ hne⟩
        rw [hs]
        conv => rhs; rw [ho, hv]
      | false =>
        have h2 : out.count true = (out.take b).count true + (out.drop (b + 1)).count true := by
          conv => lhs; rw [ho, hv]
          rw [List.count_append, List.count_cons_of_ne (by simp)]
        exact ⟨by omega, fun _ => by omega⟩
    · rw [List.set_eq_of_length_le (by omega)]
      exact ⟨Nat.le_refl _, fun h => absurd rfl h⟩
  · exact ⟨Nat.le_refl _, fun h => absurd rfl h⟩
theorem fold_count (f : Func) (r : Int) (out : List Bool) (m : Nat) : out.count true ≤ (foldI f r out m).count true ∧ (foldI f r out m ≠ out → out.count true < (foldI f r out m).count true) := by
  induction m with
  | zero => exact ⟨Nat.le_refl _, fun h => absurd rfl h⟩
  | succ m ih =>
    rw [foldI_succ]
    obtain ⟨h1, h2⟩ := step_count f r (foldI f r out m) m
    refine ⟨by omega, fun hne => ?_⟩
    by_cases he : foldI f r out m = out
    · rw [he] at h1 h2 hne ⊢
      exact h2 hne
    · have := ih.2 he
      omega
theorem fold_fixed {f : Func} {r : Int} {out : List Bool} {n : Nat} (h : foldI f r out n = out) : ∀ m, m ≤ n → foldI f r out m = out := by
  intro m hm
  by_cases he : foldI f r out m = out
  · exact he
  · exfalso
    have h1 := (fold_count f r out m).2 he
    have key : ∀ k, (foldI f r out m).count true ≤ (foldI f r out (m + k)).count true := by
      intro k
      induction k with
      | zero => exact Nat.le_refl _
      | succ k ih => rw [← Nat.add_assoc, foldI_succ]; exact Nat.le_trans ih (step_count f r _ _).1
    have h2 := key (n - m)
    rw [show m + (n - m) = n by omega, h] at h2
    omega
theorem fixed_go {f : Func} {r : Int} {out : List Bool} (hl : out.length = f.blocks.length) (h : foldI f r out f.blocks.length = out) {b : Nat} (hb : b < f.blocks.length) (hg : goB f r out b = true) : out.getD b false = true := by
  have h1 := fold_fixed h (b + 1) (by omega)
  rw [foldI_succ, fold_fixed h b (by omega), stepI, if_pos hg] at h1
  rw [← h1, List.getD_eq_getElem?_getD, List.getElem?_set_self (by omega)]
  rfl
theorem fixed_all {f : Func} {r : Int} {out : List Bool} (hl : out.length = f.blocks.length) (h : foldI f r out f.blocks.length = out) {k : Nat} (hlo : LOut f k r) : behindB f out (k : Int) = true := by
  induction hlo with
  | read he h1 => exact behind_iff.2 ⟨_, he, fixed_go hl h (edge_lt he) (by rw [go_eq, h1]; rfl)⟩
  | pass he h1 _ ih => exact behind_iff.2 ⟨_, he, fixed_go hl h (edge_lt he) (by rw [go_eq, h1, ih h]; simp)⟩
theorem rounds_fixed (f : Func) (r : Int) : foldI f r (insI f r) f.blocks.length = insI f r := by
  have key : ∀ m, (∃ j, j < m ∧ roundsI f r (j + 1) = roundsI f r j) ∨ m ≤ (roundsI f r m).count true := by
    intro m
    induction m with
    | zero => exact .inr (Nat.zero_le _)
    | succ m ih =>
      rcases ih with ⟨j, hj, he⟩ | h
      · exact .inl ⟨j, by omega, he⟩
      · by_cases he : roundsI f r (m + 1) = roundsI f r m
        · exact .inl ⟨m, by omega, he⟩
        · have := (fold_count f r (roundsI f r m) f.blocks.length).2 he
          exact .inr (Nat.lt_of_le_of_lt h this)
  rcases key (f.blocks.length + 1) with ⟨j, hj, he⟩ | h
  · have hst : ∀ k, roundsI f r (j + k) = roundsI f r j := by
      intro k
      induction k with
      | zero => rfl
      | succ k ih =>
        show foldI f r (roundsI f r (j + k)) f.blocks.length = _
        rw [ih]
        exact he
    have h1 : insI f r = roundsI f r j := by
      unfold insI
      rw [show f.blocks.length + 1 = j + (f.blocks.length + 1 - j) by omega]
      exact hst _
    rw [h1]
    exact he
  · have := List.count_le_length (a := true) (l := roundsI f r (f.blocks.length + 1))
    rw [roundsI_len] at this
    omega
theorem behind_live (f : Func) (r : Int) (k : Nat) : behindB f (insI f r) (k : Int) = true ↔ LOut f k r :=
  ⟨fun h => sound_behind (sound_rounds f r _) h, fun h => fixed_all (insI_len f r) (rounds_fixed f r) h⟩
/-- what is live at a place, by the least answer -/
theorem liveAt_eq (f : Func) (S : Int → Bool) (b i : Nat) (hS : ∀ r, S r = true ↔ LOut f b r) (r : Int) : liveAt f b i r = inS ((insOf f b).drop i) S r := by
  unfold liveAt
  have e : behindB f (insI f r) (b : Int) = S r := by
    cases h1 : behindB f (insI f r) (b : Int) <;> cases h2 : S r
    · rfl
    · have := (behind_live f r b).2 ((hS r).1 h2); rw [h1] at this; cases this
    · have := (hS r).2 ((behind_live f r b).1 h1); rw [h2] at this; cases this
    · rfl
  rw [e]
  exact readsP_in r _ S
end Mu
end
section
/-
  The registers that are read, plain: they rise, each once.
  Conditions: none.
-/
namespace Mu
open Go

/-- put in from behind; the row lies the other way round -/
def insRev (x : Int) : List Int → List Int
  | [] => [x]
  | a :: l => if a > x then a :: insRev x l else x :: a :: l
theorem getD_at {A B : List Int} {x : Int} {q : Nat} (h : A.length = q) : (A ++ x :: B).getD q 0 = x := by
  rw [List.getD_eq_getElem?_getD, List.getElem?_append_right (by omega)]
  simp [h]
theorem swapL_at {A B : List Int} {a x : Int} {q : Nat} (h : A.length = q) : swapL (A ++ a :: x :: B) q = A ++ x :: a :: B := by
  unfold swapL
  have h1 : (A ++ a :: x :: B).getD q 0 = a := getD_at h
  have h2 : (A ++ a :: x :: B).getD (q + 1) 0 = x := by
    rw [show A ++ a :: x :: B = (A ++ [a]) ++ x :: B by simp]
    exact getD_at (by simp [h])
  rw [h1, h2]
  subst h
  simp []
theorem sift_at (x : Int) : ∀ (R B : List Int), siftL R.length (R.reverse ++ x :: B) = (insRev x R).reverse ++ B
  | [], B => by simp [siftL, insRev]
  | a :: R, B => by
    have hl : R.reverse.length = R.length := List.length_reverse
    have e : (a :: R).reverse ++ x :: B = R.reverse ++ a :: x :: B := by simp
    rw [e, List.length_cons, siftL]
    have h1 : (R.reverse ++ a :: x :: B).getD R.length 0 = a := getD_at hl
    have h2 : (R.reverse ++ a :: x :: B).getD (R.length + 1) 0 = x := by
      rw [show R.reverse ++ a :: x :: B = (R.reverse ++ [a]) ++ x :: B by simp]
      exact getD_at (by simp)
    rw [h1, h2, swapL_at hl]
    unfold insRev
    by_cases hax : a > x
    · rw [if_pos hax, if_pos hax, sift_at x R (a :: B)]
      simp
    · rw [if_neg hax, if_neg hax]
      simp
theorem sortedL_snoc (l : List Int) (x : Int) : sortedL (l ++ [x]) = (insRev x l.reverse).reverse := by
  have h := sift_at x l.reverse []
  rw [List.reverse_reverse, List.length_reverse, List.append_nil] at h
  unfold sortedL
  simpa using h
theorem insRev_mem {x y : Int} : ∀ {l : List Int}, y ∈ insRev x l ↔ y = x ∨ y ∈ l
  | [] => by simp [insRev]
  | a :: l => by
    unfold insRev
    split
    · rw [List.mem_cons, insRev_mem (l := l), List.mem_cons]
      constructor
      · rintro (h | h | h) <;> simp [h]
      · rintro (h | h | h) <;> simp [h]
    · rw [List.mem_cons]
theorem insRev_desc {x : Int} : ∀ {l : List Int}, l.Pairwise (fun a b => b < a) → x ∉ l → (insRev x l).Pairwise fun a b => b < a
  | [], _, _ => by simp [insRev]
  | a :: l, h, hx => by
    rw [List.pairwise_cons] at h
    simp only [List.mem_cons, not_or] at hx
    unfold insRev
    split
    · rename_i hax
      refine List.pairwise_cons.2 ⟨fun y hy => ?_, insRev_desc h.2 hx.2⟩
      rcases insRev_mem.1 hy with rfl | hy
      · exact hax
      · exact h.1 y hy
    · rename_i hax
      refine List.pairwise_cons.2 ⟨fun y hy => ?_, List.pairwise_cons.2 h⟩
      rcases List.mem_cons.1 hy with rfl | hy
      · omega
      · have := h.1 y hy
        omega
theorem insR_asc {l : List Int} {x : Int} (h : Asc l) : Asc (insR l x) ∧ ∀ y, y ∈ insR l x ↔ y = x ∨ y ∈ l := by
  unfold insR
  split
  · rename_i hc
    have hm : x ∈ l := by simpa using hc
    refine ⟨h, fun y => ⟨fun hy => .inr hy, ?_⟩⟩
    rintro (rfl | hy)
    · exact hm
    · exact hy
  · rename_i hc
    have hm : x ∉ l := by simpa using hc
    rw [sortedL_snoc]
    refine ⟨?_, fun y => by rw [List.mem_reverse, insRev_mem, List.mem_reverse]⟩
    unfold Asc at *
    rw [List.pairwise_reverse]
    exact insRev_desc (by rw [List.pairwise_reverse]; exact h) (by rw [List.mem_reverse]; exact hm)
theorem regsOf_asc (l : List Int) : Asc (regsOf l) ∧ ∀ y, y ∈ regsOf l ↔ y ∈ l := by
  have key : ∀ (l out : List Int), Asc out → Asc (l.foldl insR out) ∧ ∀ y, y ∈ l.foldl insR out ↔ y ∈ out ∨ y ∈ l := by
    intro l
    induction l with
    | nil => intro out h; exact ⟨h, fun y => by simp⟩
    | cons x l ih =>
      intro out h
      obtain ⟨h1, h2⟩ := insR_asc (x := x) h
      obtain ⟨h3, h4⟩ := ih _ h1
      refine ⟨h3, fun y => ?_⟩
      rw [List.foldl_cons, h4 y, h2 y, List.mem_cons]
      constructor
      · rintro ((h | h) | h) <;> simp [h]
      · rintro (h | h | h) <;> simp [h]
  obtain ⟨h1, h2⟩ := key l [] List.Pairwise.nil
  exact ⟨h1, fun y => by unfold regsOf; rw [h2 y]; simp⟩
theorem regsL_asc (f : Func) : Asc (regsL f) := (regsOf_asc _).1
theorem regsL_mem {f : Func} {r : Int} : r ∈ regsL f ↔ ∃ b ∈ f.blocks, ∃ x ∈ b.ins, r ∈ readsC x := by
  unfold regsL
  rw [(regsOf_asc _).2 r]
  unfold allReads
  simp only [List.mem_flatMap]
end Mu
end
section
/-
  live.all, walked: the row of sets of what is live behind blocks.
  Conditions: at most 2^21 of everything.
-/
namespace Mu
open Go Go.RowKit Go.Proofs Go.Maps
instance : AG Try.prog 111 false 1 := ⟨by kernel_rfl⟩
instance : SZ Try.prog 111 1 := ⟨by kernel_rfl⟩
instance : ES Try.prog 111 1 := ⟨by kernel_rfl⟩
instance : SL Try.prog 111 := ⟨by kernel_rfl⟩
instance : RT Try.prog 111 110 1 8 := ⟨by kernel_rfl⟩
instance : AG Try.prog 110 false 1 := ⟨by kernel_rfl⟩
instance : SZ Try.prog 110 1 := ⟨by kernel_rfl⟩
instance : ZC Try.prog 110 [.map none] := ⟨by kernel_rfl⟩

theorem athen_x {i : Nat} {K : St → Prop} {Q : Exit → St → Prop} {s : St} (h : Q (.exit i) s) : athen K Q (.exit i) s := h
theorem ablock_hit {id : Nat} {Q : Exit → St → Prop} {s : St} (h : Q .normal s) : ablock id Q (.exit id) s := by simp [ablock, h]
theorem ablock_n {id : Nat} {Q : Exit → St → Prop} {s : St} (h : Q .normal s) : ablock id Q .normal s := h
theorem z1set : zeroOne Try.prog 111 = some (110, .map none, 8) := by kernel_rfl
theorem undSet : Try.prog.underlying 110 = some (.map 3 3) := by kernel_rfl
theorem regsOf_le (l : List Int) : (regsOf l).length ≤ l.length := by
  have key : ∀ (l acc : List Int), (l.foldl insR acc).length ≤ acc.length + l.length := by
    intro l
    induction l with
    | nil => intro acc; simp
    | cons x l ih =>
      intro acc
      have := ih (insR acc x)
      have h2 : (insR acc x).length ≤ acc.length + 1 := by
        unfold insR
        split
        · omega
        · rw [sortedL_len]; simp
      simp only [List.foldl_cons, List.length_cons]
      omega
  simpa [regsOf] using key l []
theorem regsR_of (f : Func) (ho : okFunc f) (hT : (allReads f).length ≤ 2097152) : RegsR (regsL f) := by
  refine ⟨regsL_asc f, fun x hx => ?_, ?_⟩
  · obtain ⟨b, h1, y, h2, h3⟩ := regsL_mem.1 hx
    exact readsC_ok ((ho.blocks b h1).ins y h2) x h3
  · have := regsOf_le (allReads f)
    unfold regsL
    omega

/-- the cells of the row: sets that are there, and none behind -/
def cellsM (ms : List Nat) (n : Nat) : List AV := ms.map cellM ++ List.replicate (n - ms.length) (.lit (.map none))
theorem cellsM_put {ms : List Nat} {n b m : Nat} (hb : ms.length = b) (_hn : b < n) : (cellsM ms n).take b ++ [cellM m] ++ (cellsM ms n).drop (b + 1) = cellsM (ms ++ [m]) n := by
  unfold cellsM
  have h1 : (ms.map cellM).length = b := by simp [hb]
  rw [List.take_append_of_le_length (by omega), List.take_of_length_le (by omega), List.drop_append, List.drop_eq_nil_of_le (by simp; omega), List.nil_append, h1, List.drop_replicate, List.map_append, List.length_append, List.append_assoc, List.append_assoc]
  congr 3
  simp
  omega
theorem cellsM_len {ms : List Nat} {n : Nat} (h : ms.length ≤ n) : (cellsM ms n).length = n := by
  unfold cellsM
  simp
  omega
theorem cellsM_full {ms : List Nat} {n : Nat} (h : ms.length = n) : cellsM ms n = ms.map cellM := by
  unfold cellsM
  rw [h]
  simp
def i64s (l : List Nat) : List Int := l.map fun k : Nat => (k : Int)
theorem i64s_len (l : List Nat) : (i64s l).length = l.length := by simp [i64s]
theorem i64s_snoc (l : List Nat) (b : Nat) : i64s (l ++ [b]) = i64s l ++ [(b : Int)] := by simp [i64s]
/-- what is live behind the first of so many instructions at a block's end -/
def bkS (ds : List Ins) (S : Int → Bool) (k : Nat) : Int → Bool := inS (ds.drop (ds.length - k)) S
theorem bkS_zero (ds : List Ins) (S : Int → Bool) : bkS ds S 0 = S := by
  unfold bkS
  rw [Nat.sub_zero, List.drop_eq_nil_of_le (Nat.le_refl _)]
  rfl
theorem bkS_all (ds : List Ins) (S : Int → Bool) : bkS ds S ds.length = inS ds S := by
  unfold bkS
  rw [Nat.sub_self]
  rfl
theorem bkS_succ {ds : List Ins} {S : Int → Bool} {k : Nat} {d : Ins} (hd : ds[ds.length - 1 - k]? = some d) (hk : k < ds.length) : bkS ds S (k + 1) = backS d (bkS ds S k) := by
  unfold bkS
  have h1 : ds.length - (k + 1) = ds.length - 1 - k := by omega
  have h2 : ds.length - k = ds.length - 1 - k + 1 := by omega
  rw [h1, h2, List.drop_eq_getElem_cons (by omega)]
  have : ds[ds.length - 1 - k] = d := by
    rw [List.getElem?_eq_getElem (by omega)] at hd
    exact Option.some.inj hd
  rw [this]
  rfl
theorem bkS_sub {ds : List Ins} {L : List Int} {S : Int → Bool} (h : Sub L S) (hx : ∀ x ∈ ds, ∀ r ∈ readsC x, r ∈ L) (k : Nat) : Sub L (bkS ds S k) :=
  h.inS fun x hm => hx x (List.mem_of_mem_drop hm)
theorem lackBd {a b c : Nat} (hb : b ≤ 2097152) (hc : c ≤ 2097152) (h : a ≤ b * c) : a ≤ 4398046511104 := Nat.le_trans h (Nat.le_trans (Nat.mul_le_mul hb hc) (by decide))

set_option maxRecDepth 100000 in
set_option maxHeartbeats 4000000 in
theorem all_fn (f : Func) (ho : okFunc f) (hs : smallF f) (hT : (allReads f).length ≤ 2097152) : Fn Try.prog 108 [.agg (encFunc f)] (.bs tSet ((List.range f.blocks.length).map (outS f))) := by
  have hbl := hs.blocks
  have hRR := regsR_of f ho hT
  have hLl : (regsL f).length ≤ 2097152 := Nat.le_trans (regsOf_le _) hT
  have hLr : ∀ b ∈ f.blocks, ∀ x ∈ b.ins, ∀ r ∈ readsC x, r ∈ regsL f := fun b hb x hx r hr => regsL_mem.2 ⟨b, hb, x, hx, hr⟩
  have hmk : 8 * f.blocks.length ≤ 281474976710656 := by omega
  have hmx : f.blocks.length ≤ maxLen := by unfold maxLen; omega
  refine Fn.of_awpM Try.func108 rfl (by kernel_rfl) rfl Try.ntmps108 fun C hC hrd => ?_
  simp only [List.length_cons, List.length_nil, Nat.reduceAdd, Nat.reduceSub, List.replicate_succ, List.replicate_zero, List.cons_append, List.nil_append]
  refine Awp.seq fun K1 h1 => ?_
  (refine Awp.region ?_; (repeat (first | refine sQ (hk := ?_) | refine sSkip (hk := ?_) | refine sOwn (hk := ?_))); refine aSeq_nil ?_)
  refine h1 _ ?_
  refine nT (hk := ?_)
  refine Awp.open_box 1 rfl rfl rfl (fun g => [.any, .lit (.pointer (some ⟨g, 0, none⟩)), .any, .any, .any, .any, .any, .any, .any, .any, .any, .any, .any, .any, .any, .any, .any, .any, .any, .any, .any, .any, .any, .any, .any, .any, .any, .any, .any, .any, .any, .any, .any, .any, .any, .any, .any, .any, .any, .any, .any, .any, .any, .any, .any, .any, .any, .any, .any, .any, .any, .any, .any, .any, .any, .any, .any, .any, .any, .any, .any, .any, .any, .any, .any, .any, .any, .any, .any, .any, .any, .any, .any, .any, .any, .any, .any, .any, .any, .any, .any, .any, .any, .any, .any, .any, .any, .any, .any, .any, .any, .any, .any, .any, .any, .any, .any, .any, .any, .any, .any, .any, .any]) (fun g => (by (repeat (first | exact OpnB.nil | refine OpnB.ptr ?_ | refine OpnB.any ?_ | refine OpnB.keep rfl ?_)))) fun g1 => ?_
  refine Awp.seq fun K2 h2 => ?_
  (refine Awp.region ?_; (repeat (first | refine sQ (hk := ?_) | refine sSkip (hk := ?_) | refine sOwn (hk := ?_))))
  refine aSeq_t rfl (AOp.mkL rfl z1set rfl rfl hmk hmx fun O => ?_)
  refine sNt (hk := ?_)
  (repeat (first | refine sQ (hk := ?_) | refine sSkip (hk := ?_) | refine sOwn (hk := ?_)))
  refine aSeq_nil ?_
  refine h2 _ ?_
  refine nT (hk := ?_)
  refine Awp.via ⟨[.any, .lit (.pointer (some ⟨g1, 0, none⟩)), .any, .lit (.slice (some ⟨O, 0, none⟩) f.blocks.length f.blocks.length), .any, .any, .any, .any, .any, .any, .any, .any, .any, .any, .any, .any, .any, .any, .any, .any, .any, .any, .any, .any, .any, .any, .any, .any, .any, .any, .any, .any, .any, .any, .any, .any, .any, .any, .any, .any, .any, .any, .any, .any, .any, .any, .any, .any, .any, .any, .any, .any, .any, .any, .any, .any, .any, .any, .any, .any, .any, .any, .any, .any, .any, .any, .any, .any, .any, .any, .any, .any, .any, .any, .any, .any, .any, .any, .any, .any, .any, .any, .any, .any, .any, .any, .any, .any, .any, .any, .any, .any, .any, .any, .any, .any, .any, .any, .any, .any, .any, .any, .any], [.res (marksR []), .res (boxR g1 (encFunc f)), .res (boxR O (List.replicate f.blocks.length (.lit (.map none))))]⟩ (le_T) ?_
  refine Awp.seq fun K3 h3 => ?_
  suffices hM3 : ∀ s' : St, St.le C s' ⟨[.any, .lit (.pointer (some ⟨g1, 0, none⟩)), .any, .lit (.slice (some ⟨O, 0, none⟩) f.blocks.length f.blocks.length), .own 3 0, .bs tInt.slice (befN f f.blocks.length), .any, .any, .any, .any, .any, .any, .any, .any, .any, .any, .any, .any, .any, .any, .any, .any, .any, .any, .any, .any, .any, .any, .any, .any, .any, .any, .any, .any, .any, .any, .any, .any, .any, .any, .any, .any, .any, .any, .any, .any, .any, .any, .any, .any, .any, .any, .any, .any, .any, .any, .any, .any, .any, .any, .any, .any, .any, .any, .any, .any, .any, .any, .any, .any, .any, .any, .any, .any, .any, .any, .any, .any, .any, .any, .any, .any, .any, .any, .any, .any, .any, .any, .any, .any, .any, .any, .any, .any, .any, .any, .any, .any, .any, .any, .any, .any, .any], [.res (marksR []), .res (boxR g1 (encFunc f)), .res (boxR O (List.replicate f.blocks.length (.lit (.map none)))), .row 0 3 tInt []]⟩ → K3 s' by
    (refine Awp.drawT 0 (by kernel_rfl) (by kernel_rfl) ?_; refine aQ_nil ?_; (refine tStep [0, 4] (tC ?_ (tC ?_ tAll_nil)); ((first | refine oQ (hq := Quiet.call rfl (before_fn f ho hs) rfl rfl rfl) (hk := ?_) | refine oQ (hk := ?_)); (refine tStep [1, 4] (tC ?_ (tC ?_ tAll_nil)); ((first | refine oQ (hq := Quiet.call rfl (before_fn f ho hs) rfl rfl rfl) (hk := ?_) | refine oQ (hk := ?_)); (refine tStep [2, 4] (tC ?_ (tC ?_ tAll_nil)); ((first | refine oQ (hq := Quiet.call rfl (before_fn f ho hs) rfl rfl rfl) (hk := ?_) | refine oQ (hk := ?_)); (refine tStep [3, 4] (tC ?_ (tC ?_ tAll_nil)); ((refine AOp.mk0 (T := tInt) (m := 1) (e := 3) rfl rfl (by decide) rfl rfl hmk hmx ?_; refine tNt (hk := ?_)); (refine tStep [4] (tC ?_ tAll_nil); ((first | refine oQ (hq := Quiet.call rfl (before_fn f ho hs) rfl rfl rfl) (hk := ?_) | refine oQ (hk := ?_)); (refine tStep [5] (tC ?_ tAll_nil); ((first | refine oQ (hq := Quiet.call rfl (before_fn f ho hs) rfl rfl rfl) (hk := ?_) | refine oQ (hk := ?_)); (refine tStep [6] (tC ?_ tAll_nil); ((first | refine oQ (hq := Quiet.call rfl (before_fn f ho hs) rfl rfl rfl) (hk := ?_) | refine oQ (hk := ?_)); (refine tStep [7] (tC ?_ tAll_nil); ((first | refine oQ (hq := Quiet.call rfl (before_fn f ho hs) rfl rfl rfl) (hk := ?_) | refine oQ (hk := ?_)); (exact tDone (hM3 _ (le_T)))))))))))); ((first | refine oQ (hq := Quiet.call rfl (before_fn f ho hs) rfl rfl rfl) (hk := ?_) | refine oQ (hk := ?_)); (refine tStep [3, 5] (tC ?_ (tC ?_ tAll_nil)); ((refine AOp.mk0 (T := tInt) (m := 1) (e := 3) rfl rfl (by decide) rfl rfl hmk hmx ?_; refine tNt (hk := ?_)); (refine tStep [5] (tC ?_ tAll_nil); ((first | refine oQ (hq := Quiet.call rfl (before_fn f ho hs) rfl rfl rfl) (hk := ?_) | refine oQ (hk := ?_)); (refine tStep [6] (tC ?_ tAll_nil); ((first | refine oQ (hq := Quiet.call rfl (before_fn f ho hs) rfl rfl rfl) (hk := ?_) | refine oQ (hk := ?_)); (refine tStep [7] (tC ?_ tAll_nil); ((first | refine oQ (hq := Quiet.call rfl (before_fn f ho hs) rfl rfl rfl) (hk := ?_) | refine oQ (hk := ?_)); (exact tDone (hM3 _ (le_T)))))))))); ((first | refine oQ (hq := Quiet.call rfl (before_fn f ho hs) rfl rfl rfl) (hk := ?_) | refine oQ (hk := ?_)); (refine tStep [3] (tC ?_ tAll_nil); ((refine AOp.mk0 (T := tInt) (m := 1) (e := 3) rfl rfl (by decide) rfl rfl hmk hmx ?_; refine tNt (hk := ?_)); (refine tStep [6] (tC ?_ tAll_nil); ((first | refine oQ (hq := Quiet.call rfl (before_fn f ho hs) rfl rfl rfl) (hk := ?_) | refine oQ (hk := ?_)); (refine tStep [7] (tC ?_ tAll_nil); ((first | refine oQ (hq := Quiet.call rfl (before_fn f ho hs) rfl rfl rfl) (hk := ?_) | refine oQ (hk := ?_)); (exact tDone (hM3 _ (le_T)))))))))))))); ((first | refine oQ (hq := Quiet.call rfl (before_fn f ho hs) rfl rfl rfl) (hk := ?_) | refine oQ (hk := ?_)); (refine tStep [2, 5] (tC ?_ (tC ?_ tAll_nil)); ((first | refine oQ (hq := Quiet.call rfl (before_fn f ho hs) rfl rfl rfl) (hk := ?_) | refine oQ (hk := ?_)); (refine tStep [3, 5] (tC ?_ (tC ?_ tAll_nil)); ((refine AOp.mk0 (T := tInt) (m := 1) (e := 3) rfl rfl (by decide) rfl rfl hmk hmx ?_; refine tNt (hk := ?_)); (refine tStep [5] (tC ?_ tAll_nil); ((first | refine oQ (hq := Quiet.call rfl (before_fn f ho hs) rfl rfl rfl) (hk := ?_) | refine oQ (hk := ?_)); (refine tStep [6] (tC ?_ tAll_nil); ((first | refine oQ (hq := Quiet.call rfl (before_fn f ho hs) rfl rfl rfl) (hk := ?_) | refine oQ (hk := ?_)); (refine tStep [7] (tC ?_ tAll_nil); ((first | refine oQ (hq := Quiet.call rfl (before_fn f ho hs) rfl rfl rfl) (hk := ?_) | refine oQ (hk := ?_)); (exact tDone (hM3 _ (le_T)))))))))); ((first | refine oQ (hq := Quiet.call rfl (before_fn f ho hs) rfl rfl rfl) (hk := ?_) | refine oQ (hk := ?_)); (refine tStep [3] (tC ?_ tAll_nil); ((refine AOp.mk0 (T := tInt) (m := 1) (e := 3) rfl rfl (by decide) rfl rfl hmk hmx ?_; refine tNt (hk := ?_)); (refine tStep [6] (tC ?_ tAll_nil); ((first | refine oQ (hq := Quiet.call rfl (before_fn f ho hs) rfl rfl rfl) (hk := ?_) | refine oQ (hk := ?_)); (refine tStep [7] (tC ?_ tAll_nil); ((first | refine oQ (hq := Quiet.call rfl (before_fn f ho hs) rfl rfl rfl) (hk := ?_) | refine oQ (hk := ?_)); (exact tDone (hM3 _ (le_T)))))))))))); ((first | refine oQ (hq := Quiet.call rfl (before_fn f ho hs) rfl rfl rfl) (hk := ?_) | refine oQ (hk := ?_)); (refine tStep [2] (tC ?_ tAll_nil); ((first | refine oQ (hq := Quiet.call rfl (before_fn f ho hs) rfl rfl rfl) (hk := ?_) | refine oQ (hk := ?_)); (refine tStep [3] (tC ?_ tAll_nil); ((refine AOp.mk0 (T := tInt) (m := 1) (e := 3) rfl rfl (by decide) rfl rfl hmk hmx ?_; refine tNt (hk := ?_)); (refine tStep [6] (tC ?_ tAll_nil); ((first | refine oQ (hq := Quiet.call rfl (before_fn f ho hs) rfl rfl rfl) (hk := ?_) | refine oQ (hk := ?_)); (refine tStep [7] (tC ?_ tAll_nil); ((first | refine oQ (hq := Quiet.call rfl (before_fn f ho hs) rfl rfl rfl) (hk := ?_) | refine oQ (hk := ?_)); (exact tDone (hM3 _ (le_T)))))))))))))))); ((first | refine oQ (hq := Quiet.call rfl (before_fn f ho hs) rfl rfl rfl) (hk := ?_) | refine oQ (hk := ?_)); (refine tStep [1, 5] (tC ?_ (tC ?_ tAll_nil)); ((first | refine oQ (hq := Quiet.call rfl (before_fn f ho hs) rfl rfl rfl) (hk := ?_) | refine oQ (hk := ?_)); (refine tStep [2, 5] (tC ?_ (tC ?_ tAll_nil)); ((first | refine oQ (hq := Quiet.call rfl (before_fn f ho hs) rfl rfl rfl) (hk := ?_) | refine oQ (hk := ?_)); (refine tStep [3, 5] (tC ?_ (tC ?_ tAll_nil)); ((refine AOp.mk0 (T := tInt) (m := 1) (e := 3) rfl rfl (by decide) rfl rfl hmk hmx ?_; refine tNt (hk := ?_)); (refine tStep [5] (tC ?_ tAll_nil); ((first | refine oQ (hq := Quiet.call rfl (before_fn f ho hs) rfl rfl rfl) (hk := ?_) | refine oQ (hk := ?_)); (refine tStep [6] (tC ?_ tAll_nil); ((first | refine oQ (hq := Quiet.call rfl (before_fn f ho hs) rfl rfl rfl) (hk := ?_) | refine oQ (hk := ?_)); (refine tStep [7] (tC ?_ tAll_nil); ((first | refine oQ (hq := Quiet.call rfl (before_fn f ho hs) rfl rfl rfl) (hk := ?_) | refine oQ (hk := ?_)); (exact tDone (hM3 _ (le_T)))))))))); ((first | refine oQ (hq := Quiet.call rfl (before_fn f ho hs) rfl rfl rfl) (hk := ?_) | refine oQ (hk := ?_)); (refine tStep [3] (tC ?_ tAll_nil); ((refine AOp.mk0 (T := tInt) (m := 1) (e := 3) rfl rfl (by decide) rfl rfl hmk hmx ?_; refine tNt (hk := ?_)); (refine tStep [6] (tC ?_ tAll_nil); ((first | refine oQ (hq := Quiet.call rfl (before_fn f ho hs) rfl rfl rfl) (hk := ?_) | refine oQ (hk := ?_)); (refine tStep [7] (tC ?_ tAll_nil); ((first | refine oQ (hq := Quiet.call rfl (before_fn f ho hs) rfl rfl rfl) (hk := ?_) | refine oQ (hk := ?_)); (exact tDone (hM3 _ (le_T)))))))))))); ((first | refine oQ (hq := Quiet.call rfl (before_fn f ho hs) rfl rfl rfl) (hk := ?_) | refine oQ (hk := ?_)); (refine tStep [2] (tC ?_ tAll_nil); ((first | refine oQ (hq := Quiet.call rfl (before_fn f ho hs) rfl rfl rfl) (hk := ?_) | refine oQ (hk := ?_)); (refine tStep [3] (tC ?_ tAll_nil); ((refine AOp.mk0 (T := tInt) (m := 1) (e := 3) rfl rfl (by decide) rfl rfl hmk hmx ?_; refine tNt (hk := ?_)); (refine tStep [6] (tC ?_ tAll_nil); ((first | refine oQ (hq := Quiet.call rfl (before_fn f ho hs) rfl rfl rfl) (hk := ?_) | refine oQ (hk := ?_)); (refine tStep [7] (tC ?_ tAll_nil); ((first | refine oQ (hq := Quiet.call rfl (before_fn f ho hs) rfl rfl rfl) (hk := ?_) | refine oQ (hk := ?_)); (exact tDone (hM3 _ (le_T)))))))))))))); ((first | refine oQ (hq := Quiet.call rfl (before_fn f ho hs) rfl rfl rfl) (hk := ?_) | refine oQ (hk := ?_)); (refine tStep [1] (tC ?_ tAll_nil); ((first | refine oQ (hq := Quiet.call rfl (before_fn f ho hs) rfl rfl rfl) (hk := ?_) | refine oQ (hk := ?_)); (refine tStep [2] (tC ?_ tAll_nil); ((first | refine oQ (hq := Quiet.call rfl (before_fn f ho hs) rfl rfl rfl) (hk := ?_) | refine oQ (hk := ?_)); (refine tStep [3] (tC ?_ tAll_nil); ((refine AOp.mk0 (T := tInt) (m := 1) (e := 3) rfl rfl (by decide) rfl rfl hmk hmx ?_; refine tNt (hk := ?_)); (refine tStep [6] (tC ?_ tAll_nil); ((first | refine oQ (hq := Quiet.call rfl (before_fn f ho hs) rfl rfl rfl) (hk := ?_) | refine oQ (hk := ?_)); (refine tStep [7] (tC ?_ tAll_nil); ((first | refine oQ (hq := Quiet.call rfl (before_fn f ho hs) rfl rfl rfl) (hk := ?_) | refine oQ (hk := ?_)); (exact tDone (hM3 _ (le_T)))))))))))))))))); ((first | refine oQ (hq := Quiet.call rfl (before_fn f ho hs) rfl rfl rfl) (hk := ?_) | refine oQ (hk := ?_)); (refine tStep [0, 5] (tC ?_ (tC ?_ tAll_nil)); ((first | refine oQ (hq := Quiet.call rfl (before_fn f ho hs) rfl rfl rfl) (hk := ?_) | refine oQ (hk := ?_)); (refine tStep [1, 5] (tC ?_ (tC ?_ tAll_nil)); ((first | refine oQ (hq := Quiet.call rfl (before_fn f ho hs) rfl rfl rfl) (hk := ?_) | refine oQ (hk := ?_)); (refine tStep [2, 5] (tC ?_ (tC ?_ tAll_nil)); ((first | refine oQ (hq := Quiet.call rfl (before_fn f ho hs) rfl rfl rfl) (hk := ?_) | refine oQ (hk := ?_)); (refine tStep [3, 5] (tC ?_ (tC ?_ tAll_nil)); ((refine AOp.mk0 (T := tInt) (m := 1) (e := 3) rfl rfl (by decide) rfl rfl hmk hmx ?_; refine tNt (hk := ?_)); (refine tStep [5] (tC ?_ tAll_nil); ((first | refine oQ (hq := Quiet.call rfl (before_fn f ho hs) rfl rfl rfl) (hk := ?_) | refine oQ (hk := ?_)); (refine tStep [6] (tC ?_ tAll_nil); ((first | refine oQ (hq := Quiet.call rfl (before_fn f ho hs) rfl rfl rfl) (hk := ?_) | refine oQ (hk := ?_)); (refine tStep [7] (tC ?_ tAll_nil); ((first | refine oQ (hq := Quiet.call rfl (before_fn f ho hs) rfl rfl rfl) (hk := ?_) | refine oQ (hk := ?_)); (exact tDone (hM3 _ (le_T)))))))))); ((first | refine oQ (hq := Quiet.call rfl (before_fn f ho hs) rfl rfl rfl) (hk := ?_) | refine oQ (hk := ?_)); (refine tStep [3] (tC ?_ tAll_nil); ((refine AOp.mk0 (T := tInt) (m := 1) (e := 3) rfl rfl (by decide) rfl rfl hmk hmx ?_; refine tNt (hk := ?_)); (refine tStep [6] (tC ?_ tAll_nil); ((first | refine oQ (hq := Quiet.call rfl (before_fn f ho hs) rfl rfl rfl) (hk := ?_) | refine oQ (hk := ?_)); (refine tStep [7] (tC ?_ tAll_nil); ((first | refine oQ (hq := Quiet.call rfl (before_fn f ho hs) rfl rfl rfl) (hk := ?_) | refine oQ (hk := ?_)); (exact tDone (hM3 _ (le_T)))))))))))); ((first | refine oQ (hq := Quiet.call rfl (before_fn f ho hs) rfl rfl rfl) (hk := ?_) | refine oQ (hk := ?_)); (refine tStep [2] (tC ?_ tAll_nil); ((first | refine oQ (hq := Quiet.call rfl (before_fn f ho hs) rfl rfl rfl) (hk := ?_) | refine oQ (hk := ?_)); (refine tStep [3] (tC ?_ tAll_nil); ((refine AOp.mk0 (T := tInt) (m := 1) (e := 3) rfl rfl (by decide) rfl rfl hmk hmx ?_; refine tNt (hk := ?_)); (refine tStep [6] (tC ?_ tAll_nil); ((first | refine oQ (hq := Quiet.call rfl (before_fn f ho hs) rfl rfl rfl) (hk := ?_) | refine oQ (hk := ?_)); (refine tStep [7] (tC ?_ tAll_nil); ((first | refine oQ (hq := Quiet.call rfl (before_fn f ho hs) rfl rfl rfl) (hk := ?_) | refine oQ (hk := ?_)); (exact tDone (hM3 _ (le_T)))))))))))))); ((first | refine oQ (hq := Quiet.call rfl (before_fn f ho hs) rfl rfl rfl) (hk := ?_) | refine oQ (hk := ?_)); (refine tStep [1] (tC ?_ tAll_nil); ((first | refine oQ (hq := Quiet.call rfl (before_fn f ho hs) rfl rfl rfl) (hk := ?_) | refine oQ (hk := ?_)); (refine tStep [2] (tC ?_ tAll_nil); ((first | refine oQ (hq := Quiet.call rfl (before_fn f ho hs) rfl rfl rfl) (hk := ?_) | refine oQ (hk := ?_)); (refine tStep [3] (tC ?_ tAll_nil); ((refine AOp.mk0 (T := tInt) (m := 1) (e := 3) rfl rfl (by decide) rfl rfl hmk hmx ?_; refine tNt (hk := ?_)); (refine tStep [6] (tC ?_ tAll_nil); ((first | refine oQ (hq := Quiet.call rfl (before_fn f ho hs) rfl rfl rfl) (hk := ?_) | refine oQ (hk := ?_)); (refine tStep [7] (tC ?_ tAll_nil); ((first | refine oQ (hq := Quiet.call rfl (before_fn f ho hs) rfl rfl rfl) (hk := ?_) | refine oQ (hk := ?_)); (exact tDone (hM3 _ (le_T)))))))))))))))); ((first | refine oQ (hq := Quiet.call rfl (before_fn f ho hs) rfl rfl rfl) (hk := ?_) | refine oQ (hk := ?_)); (refine tStep [0] (tC ?_ tAll_nil); ((first | refine oQ (hq := Quiet.call rfl (before_fn f ho hs) rfl rfl rfl) (hk := ?_) | refine oQ (hk := ?_)); (refine tStep [1] (tC ?_ tAll_nil); ((first | refine oQ (hq := Quiet.call rfl (before_fn f ho hs) rfl rfl rfl) (hk := ?_) | refine oQ (hk := ?_)); (refine tStep [2] (tC ?_ tAll_nil); ((first | refine oQ (hq := Quiet.call rfl (before_fn f ho hs) rfl rfl rfl) (hk := ?_) | refine oQ (hk := ?_)); (refine tStep [3] (tC ?_ tAll_nil); ((refine AOp.mk0 (T := tInt) (m := 1) (e := 3) rfl rfl (by decide) rfl rfl hmk hmx ?_; refine tNt (hk := ?_)); (refine tStep [6] (tC ?_ tAll_nil); ((first | refine oQ (hq := Quiet.call rfl (before_fn f ho hs) rfl rfl rfl) (hk := ?_) | refine oQ (hk := ?_)); (refine tStep [7] (tC ?_ tAll_nil); ((first | refine oQ (hq := Quiet.call rfl (before_fn f ho hs) rfl rfl rfl) (hk := ?_) | refine oQ (hk := ?_)); (exact tDone (hM3 _ (le_T))))))))))))))))))))
  intro s' hle
  · refine h3 _ (Awp.via _ hle ?_)
    refine Awp.via _ (St.le_res0 (R := mapsR [] []) (fun _ _ => ⟨rfl, List.nodup_nil, fun i m S hm => by simp at hm⟩) (fun g hg => by cases hg) rfl) ?_
    refine Awp.seq fun K4 h4 => ?_
    refine Awp.seq fun K5 h5 => ?_
    (refine Awp.region ?_; (repeat (first | refine sQ (hk := ?_) | refine sSkip (hk := ?_) | refine sOwn (hk := ?_))); refine aSeq_nil ?_)
    refine h5 _ ?_
    refine nT (hk := ?_)
    refine Awp.block ?_
    refine Awp.loopF (fun p : Nat × Nat × List Nat => ⟨[.any, .lit (.pointer (some ⟨g1, 0, none⟩)), .any, .lit (.slice (some ⟨O, 0, none⟩) f.blocks.length f.blocks.length), .own 3 p.2.1, .bs tInt.slice (befN f f.blocks.length), .any, .any, .any, .any, .any, .any, .any, .any, .any, .any, .any, .any, .any, .any, .any, .any, .any, .any, .any, .any, .lit (.int .i64 (f.blocks.length : Int)), .lit (.int .i64 (p.1 : Int)), .any, .any, .any, .any, .any, .any, .any, .any, .any, .any, .any, .any, .any, .any, .any, .any, .any, .any, .any, .any, .any, .any, .any, .any, .any, .any, .any, .any, .any, .any, .any, .any, .any, .any, .any, .any, .any, .any, .any, .any, .any, .any, .any, .any, .any, .any, .any, .any, .any, .any, .any, .any, .any, .any, .any, .any, .any, .any, .any, .any, .any, .any, .any, .any, .any, .any, .any, .any, .any, .any, .any, .any, .any, .any, .any], [.res (marksR []), .res (boxR g1 (encFunc f)), .res (boxR O (cellsM p.2.2 f.blocks.length)), .row p.2.1 3 tInt (i64s (List.range p.1)), .res (mapsR p.2.2 (List.replicate p.1 fun _ => false))]⟩) (fun p => p.1 ≤ f.blocks.length ∧ p.2.2.length = p.1) (fun p => f.blocks.length - p.1) (0, 0, []) ⟨Nat.zero_le _, rfl⟩ (le_T) ?_
    rintro ⟨b, ver, ms⟩ ⟨hbn, hms⟩
    dsimp only at hbn hms ⊢
    refine Awp.seq fun K7 h7 => ?_
    (refine Awp.region ?_; (repeat (first | refine sQ (hk := ?_) | refine sSkip (hk := ?_) | refine sOwn (hk := ?_))); refine aSeq_nil ?_)
    refine h7 _ ?_
    refine nT (hk := ?_)
    refine Awp.seq fun K8 h8 => ?_
    refine Awp.cond rfl (fun hb9 => ?_) (fun hb9 => ?_)
    · have hlt : b < f.blocks.length := by simpa using hb9
      have hclen : b + [cellM 0].length ≤ (cellsM ms f.blocks.length).length := by rw [cellsM_len (by omega)]; exact hlt
      have hw := nat_wf (k := b) (by omega)
      have hn1 : (i64s (List.range b)).length + [(b : Int)].length ≤ maxLen := by rw [i64s_len]; simp [maxLen]; omega
      have hn2 : ((i64s (List.range b)).length + [(b : Int)].length) * 8 ≤ 140737488355328 := by rw [i64s_len]; simp; omega
      refine Awp.skip ?_
      refine h8 _ ?_
      refine nT (hk := ?_)
      refine Awp.seq fun K10 h10 => ?_
      refine Awp.block ?_
      refine Awp.seq fun K11 h11 => ?_
      (refine Awp.region ?_; (repeat (first | refine sQ (hk := ?_) | refine sSkip (hk := ?_) | refine sOwn (hk := ?_))); refine aSeq_nil ?_)
      refine h11 _ ?_
      refine nT (hk := ?_)
      refine Awp.seq fun K12 h12 => ?_
      (refine Awp.region ?_; (repeat (first | refine sQ (hk := ?_) | refine sSkip (hk := ?_) | refine sOwn (hk := ?_))))
      refine aSeq_t rfl (AOp.mkMap rfl fun m => ?_)
      refine sNt (hk := ?_)
      (repeat (first | refine sQ (hk := ?_) | refine sSkip (hk := ?_) | refine sOwn (hk := ?_)))
      refine aSeq_t rfl (AOp.stL (i := 2) (new := [cellM m]) rfl rfl rfl (Parts.one (One.lit rfl)) rfl rfl hclen ?_)
      refine sNt (hk := ?_)
      refine aSeq_nil ?_
      rw [cellsM_put hms hlt]
      refine h12 _ ?_
      refine nT (hk := ?_)
      refine Awp.via _ (St.le_maps (i := 4) (j := 5) (by decide) rfl rfl) ?_
      (refine Awp.region ?_; (repeat (first | refine sQ (hk := ?_) | refine sSkip (hk := ?_) | refine sOwn (hk := ?_))); refine aSeq_nil ?_)
      refine h10 _ ?_
      refine nT (hk := ?_)
      (refine Awp.region ?_; (repeat (first | refine sQ (hk := ?_) | refine sSkip (hk := ?_) | refine sOwn (hk := ?_))); refine aSeq_nil ?_)
      refine athen_n ⟨(b + 1, ver + 1, ms ++ [m]), ⟨by omega, by simp [hms]⟩, by dsimp only; omega, ?_⟩
      dsimp only
      rw [List.range_succ, i64s_snoc, List.replicate_succ']
      exact le_C (Cut.cons (Cut.cons (Cut.cons (Cut.cons (Cut.cons (Cut.nil _))))))
    · refine Awp.exit ?_
      have hbe : b = f.blocks.length := by have : ¬ b < f.blocks.length := by simpa using hb9
                                           omega
      subst hbe
      refine h4 _ ?_
      refine nT (hk := ?_)
      rw [cellsM_full hms]
      refine Awp.seq fun K13 h13 => ?_
      refine Awp.block ?_
      have hI0 : AllI f (regsL f) (List.range f.blocks.length) (List.replicate f.blocks.length fun _ => false) := AllI.start fun b => List.mem_range
      have hlk := lack_le (regsL f) (List.replicate f.blocks.length fun _ => false)
      rw [List.length_replicate] at hlk
      have hlk2 := lackBd hbl hLl hlk
      refine Awp.loopF (fun p : List Nat × Nat × List Nat × List (Int → Bool) => ⟨[.any, .lit (.pointer (some ⟨g1, 0, none⟩)), .any, .lit (.slice (some ⟨O, 0, none⟩) f.blocks.length f.blocks.length), .own 3 p.2.1, .bs tInt.slice (befN f f.blocks.length), .any, .any, .any, .any, .any, .any, .any, .any, .any, .any, .any, .any, .any, .any, .any, .any, .any, .any, .any, .any, .any, .any, .any, .any, .any, .any, .any, .any, .any, .any, .any, .any, .any, .any, .any, .any, .any, .any, .any, .any, .any, .any, .any, .any, .any, .any, .any, .any, .any, .any, .any, .any, .any, .any, .any, .any, .any, .any, .any, .any, .any, .any, .any, .any, .any, .any, .any, .any, .any, .any, .any, .any, .any, .any, .any, .any, .any, .any, .any, .any, .any, .any, .any, .any, .any, .any, .any, .any, .any, .any, .any, .any, .any, .any, .any, .any, .any], [.res (marksR p.1), .res (boxR g1 (encFunc f)), .res (boxR O (ms.map cellM)), .row p.2.1 3 tInt (i64s p.2.2.1), .res (mapsR ms p.2.2.2)]⟩) (fun p => AllI f (regsL f) p.2.2.1 p.2.2.2 ∧ 2 * lackS (regsL f) p.2.2.2 + p.2.2.1.length ≤ 10000000000000) (fun p => 2 * lackS (regsL f) p.2.2.2 + p.2.2.1.length) ([], ver, List.range f.blocks.length, List.replicate f.blocks.length fun _ => false) ⟨hI0, by dsimp only; rw [List.length_range]; omega⟩ (le_T) ?_
      rintro ⟨ds, ver, wait, Ss⟩ ⟨hI, hmu⟩
      dsimp only at hI hmu ⊢
      refine Awp.seq fun K15 h15 => ?_
      refine Awp.seq fun K16 h16 => ?_
      (refine Awp.region ?_; (repeat (first | refine sQ (hk := ?_) | refine sSkip (hk := ?_) | refine sOwn (hk := ?_))); refine aSeq_nil ?_)
      refine h16 _ ?_
      refine nT (hk := ?_)
      refine Awp.cond rfl (fun hb17 => ?_) (fun hb17 => ?_)
      · have hne : wait ≠ [] := fun e => by subst e; simp [i64s] at hb17
        obtain ⟨w0, b, rfl⟩ : ∃ w0 b, wait = w0 ++ [b] := ⟨_, _, (List.dropLast_concat_getLast hne).symm⟩
        have hl : (i64s (w0 ++ [b])).length = w0.length + 1 := by rw [i64s_len]; simp
        have hwl : w0.length ≤ 10000000000000 := by simp at hmu; omega
        have hx0 : (i64s (w0 ++ [b]))[(((i64s (w0 ++ [b])).length : Int) - 1).toNat]? = some (b : Int) := by
          rw [hl, i64s_snoc, show (((w0.length + 1 : Nat) : Int) - 1).toNat = (i64s w0).length by rw [i64s_len]; omega]
          simp
        have hcut : AV.lit (.int .i64 (((i64s (w0 ++ [b])).length : Int) - 1)) = .lit (.int .i64 (w0.length : Int)) := by
          rw [hl, show (((w0.length + 1 : Nat) : Int) - 1) = (w0.length : Int) by omega]
        have hcl : w0.length ≤ (i64s (w0 ++ [b])).length := by omega
        have htk : (i64s (w0 ++ [b])).take w0.length = i64s w0 := by rw [i64s_snoc, ← i64s_len w0]; simp
        have hbn : b < f.blocks.length := hI.lt b (by simp)
        obtain ⟨m, hm⟩ : ∃ m, ms[b]? = some m := ⟨_, List.getElem?_eq_getElem (by omega)⟩
        obtain ⟨S, hS⟩ : ∃ S, Ss[b]? = some S := ⟨_, List.getElem?_eq_getElem (by rw [hI.len]; exact hbn)⟩
        obtain ⟨bl, hblk⟩ : ∃ bl, f.blocks[b]? = some bl := ⟨_, List.getElem?_eq_getElem hbn⟩
        have hat : at_ Ss b = S := by unfold at_; rw [List.getD_eq_getElem?_getD, hS]; rfl
        have hins : insOf f b = bl.ins := by unfold insOf; rw [hblk]
        have hmem := List.mem_of_getElem? hblk
        have hsb := hs.all bl hmem
        have hob := ho.blocks bl hmem
        have hSs : Sub (regsL f) S := by have := hI.sub b; rwa [hat] at this
        have hmc : (ms.map cellM)[b]? = some (cellM m) := by rw [List.getElem?_map, hm]; rfl
        refine Awp.skip ?_
        refine h15 _ ?_
        refine nT (hk := ?_)
        refine Awp.block ?_
        refine Awp.seq fun K18 h18 => ?_
        (refine Awp.region ?_; (repeat (first | refine sQ (hk := ?_) | refine sSkip (hk := ?_) | refine sOwn (hk := ?_))); refine aSeq_nil ?_)
        refine h18 _ ?_
        refine nT (hk := ?_)
        refine Awp.seq fun K19 h19 => ?_
        (refine Awp.region ?_; (repeat (first | refine sQ (hk := ?_) | refine sSkip (hk := ?_) | refine sOwn (hk := ?_))))
        refine aSeq_t rfl (AOp.cutRow (i := 3) (m := w0.length) rfl rfl rfl rfl ⟨.i64, hcut⟩ hcl ?_)
        refine sNt (hk := ?_)
        (repeat (first | refine sQ (hk := ?_) | refine sSkip (hk := ?_) | refine sOwn (hk := ?_)))
        refine aSeq_nil ?_
        rw [htk]
        refine h19 _ ?_
        refine nT (hk := ?_)
        refine Awp.seq fun K20 h20 => ?_
        (refine Awp.region ?_; (repeat (first | refine sQ (hk := ?_) | refine sSkip (hk := ?_) | refine sOwn (hk := ?_))))
        refine aSeq_t rfl (AOp.callRNew (i := 4) rfl rfl (clone_maps hm hS) (fun _ => rfl) rfl rfl fun mn => ?_)
        refine sNt (hk := ?_)
        (repeat (first | (refine aSeq_t rfl (AOp.stBox (new := [_]) rfl rfl rfl (Parts.one (One.lit rfl)) rfl (Nat.le_of_ble_eq_true rfl) ?_); refine sNt (hk := ?_)) | refine sQ (hk := ?_) | refine sSkip (hk := ?_) | refine sOwn (hk := ?_)))
        refine aSeq_nil ?_
        refine h20 _ ?_
        refine nT (hk := ?_)
        refine Awp.open_box 6 rfl rfl rfl (fun g => [.any, .lit (.pointer (some ⟨g1, 0, none⟩)), .any, .lit (.slice (some ⟨O, 0, none⟩) f.blocks.length f.blocks.length), .own 3 (ver + 1), .bs tInt.slice (befN f f.blocks.length), .any, .lit (.int .i64 (b : Int)), .lit (.pointer (some ⟨g, 0, none⟩)), .any, .any, .any, .any, .any, .any, .any, .any, .any, .any, .any, .any, .any, .any, .any, .any, .any, .any, .any, .any, .any, .any, .any, .any, .any, .any, .any, .any, .any, .any, .any, .any, .any, .any, .any, .any, .any, .any, .any, .any, .any, .any, .any, .any, .any, .any, .any, .any, .any, .any, .any, .any, .any, .any, .any, .any, .any, .any, .any, .any, .any, .any, .any, .any, .any, .any, .any, .any, .any, .any, .any, .any, .any, .any, .any, .any, .any, .any, .any, .any, .any, .any, .any, .any, .any, .any, .any, .any, .any, .any, .any, .any, .any, .any]) (fun g => (by (repeat (first | exact OpnB.nil | refine OpnB.ptr ?_ | refine OpnB.any ?_ | refine OpnB.keep rfl ?_)))) fun gn => ?_
        refine Awp.open_row 3 rfl rfl (fun v => [.any, .lit (.pointer (some ⟨g1, 0, none⟩)), .any, .lit (.slice (some ⟨O, 0, none⟩) f.blocks.length f.blocks.length), .lit v, .bs tInt.slice (befN f f.blocks.length), .any, .lit (.int .i64 (b : Int)), .lit (.pointer (some ⟨gn, 0, none⟩)), .any, .any, .any, .any, .any, .any, .any, .any, .any, .any, .any, .any, .any, .any, .any, .any, .any, .any, .any, .any, .any, .any, .any, .any, .any, .any, .any, .any, .any, .any, .any, .any, .any, .any, .any, .any, .any, .any, .any, .any, .any, .any, .any, .any, .any, .any, .any, .any, .any, .any, .any, .any, .any, .any, .any, .any, .any, .any, .any, .any, .any, .any, .any, .any, .any, .any, .any, .any, .any, .any, .any, .any, .any, .any, .any, .any, .any, .any, .any, .any, .any, .any, .any, .any, .any, .any, .any, .any, .any, .any, .any, .any, .any, .any]) (fun v => (by (repeat (first | exact Opn.nil | refine Opn.own ?_ | refine Opn.any ?_ | refine Opn.keep rfl ?_)))) fun vw => ?_
        refine Awp.seq fun K21 h21 => ?_
        refine Awp.seq fun K22 h22 => ?_
        (refine Awp.region ?_; (repeat (first | refine sQ (hk := ?_) | refine sSkip (hk := ?_) | refine sOwn (hk := ?_))))
        refine aSeq_t rfl (AOp.callNew rfl (backward_new bl.ins) (fun _ => rfl) rfl rfl fun p => ?_)
        refine sNt (hk := ?_)
        (repeat (first | refine sQ (hk := ?_) | refine sSkip (hk := ?_) | refine sOwn (hk := ?_)))
        refine aSeq_nil ?_
        refine h22 _ ?_
        refine nT (hk := ?_)
        refine Awp.via ⟨[.any, .lit (.pointer (some ⟨g1, 0, none⟩)), .any, .lit (.slice (some ⟨O, 0, none⟩) f.blocks.length f.blocks.length), .lit vw, .bs tInt.slice (befN f f.blocks.length), .any, .lit (.int .i64 (b : Int)), .lit (.pointer (some ⟨gn, 0, none⟩)), .any, .any, .any, .any, .any, .any, .any, .any, .any, .any, .any, .any, .any, .any, .any, .any, .any, .any, .any, .any, .any, .any, .any, .any, .any, .any, .any, .any, .any, .any, .any, .any, .any, .any, .any, .any, .any, .any, .any, .any, .any, .any, .any, .any, .any, .any, .any, .any, .any, .any, .any, .any, .any, .any, .any, .lit (bkF p), .any, .any, .any, .any, .any, .any, .any, .any, .any, .any, .any, .any, .any, .any, .any, .any, .any, .any, .any, .any, .any, .any, .any, .any, .any, .any, .any, .any, .any, .any, .any, .any, .any, .any, .any, .any, .any, .any], [.res (marksR ds), .res (boxR g1 (encFunc f)), .res (boxR O (ms.map cellM)), .res (rowR vw 3 tInt (i64s w0)), .res (mapsR ms Ss), .res (mapR S mn), .res (boxR gn [cellM mn]), .res (bkR bl.ins p)]⟩ (le_T) ?_
        refine Awp.block ?_
        obtain ⟨sg, hsg⟩ : ∃ sg : (Int → Bool) → List ABlk, sg = fun T => [.dead, .res (boxR g1 (encFunc f)), .res (boxR O (ms.map cellM)), .res (rowR vw 3 tInt (i64s w0)), .res (mapsR ms Ss), .res (mapR T mn), .res (boxR gn [cellM mn]), .dead] := ⟨_, rfl⟩
        refine Awp.rangeK 7 0 (fun k => sg (bkS bl.ins S k)) hrd (by kernel_rfl) rfl rfl rfl rfl ?hdrop ?hd1 ?hd2 ?hd3 rfl (bkE_cl _) (bkE_len _) (fun w T h1 h2 h3 => backward_iter bl.ins hsb.ins p w T h1 h2 h3) ?hround ?hdone
        case hdrop =>
          rw [bkS_zero, hsg]
          exact ⟨Cut.dead (Cut.cons (Cut.cons (Cut.cons (Cut.cons (Cut.cons (Cut.cons (Cut.dead (Cut.nil _)))))))), fun b hb => List.all_eq_true.1 (show bdH [.dead, .res (boxR g1 (encFunc f)), .res (boxR O (ms.map cellM)), .res (rowR vw 3 tInt (i64s w0)), .res (mapsR ms Ss), .res (mapR S mn), .res (boxR gn [cellM mn]), .dead] = true from rfl) b hb⟩
        case hd1 => rw [hsg]; rfl
        case hd2 => intro k; rw [hsg]; rfl
        case hd3 => intro k; rw [hsg]; rfl
        case hround =>
          intro k hk C' hr'
          obtain ⟨d, hd⟩ : ∃ d, bl.ins[bl.ins.length - 1 - k]? = some d := ⟨_, List.getElem?_eq_getElem (by omega)⟩
          have hmd := List.mem_of_getElem? hd
          have hbk : bkE bl.ins k = [.lit (.int .i64 ((bl.ins.length - 1 - k : Nat) : Int)), .agg (encIns d)] := by unfold bkE; rw [hd]
          have hsub := bkS_sub hSs (hLr bl hmem) k
          have hal : d.args.length ≤ 2097152 := by have := hsb.all d hmd; omega
          rw [hbk, hsg]
          refine Awp.nt2 (t' := [.any, .lit (.pointer (some ⟨g1, 0, none⟩)), .any, .lit (.slice (some ⟨O, 0, none⟩) f.blocks.length f.blocks.length), .lit vw, .bs tInt.slice (befN f f.blocks.length), .any, .lit (.int .i64 (b : Int)), .lit (.pointer (some ⟨gn, 0, none⟩)), .any, .any, .any, .any, .any, .any, .any, .any, .any, .any, .any, .any, .any, .any, .any, .any, .any, .any, .any, .any, .any, .any, .any, .any, .any, .any, .any, .any, .any, .any, .any, .any, .any, .any, .any, .any, .any, .any, .any, .any, .any, .any, .any, .any, .any, .any, .any, .any, .any, .any, .any, .any, .any, .any, .any, .lit (bkF p), .lit (.int .i64 ((bl.ins.length - 1 - k : Nat) : Int)), .agg (encIns d), .any, .any, .any, .any, .any, .any, .any, .any, .any, .any, .any, .any, .any, .any, .any, .any, .any, .any, .any, .any, .any, .any, .any, .any, .any, .any, .any, .any, .any, .any, .any, .any, .any, .any, .any, .any]) rfl rfl ?_
          (refine Awp.region ?_; (repeat (first | refine sQ (hk := ?_) | refine sSkip (hk := ?_) | refine sOwn (hk := ?_))); refine aSeq_nil ?_)
          refine athen_n ?_
          intro C'' hr''
          refine nT (hk := ?_)
          refine Awp.block ?_
          (refine Awp.region ?_; (repeat (first | refine sQ (hk := ?_) | refine sSkip (hk := ?_) | refine sOwn (hk := ?_))))
          refine aSeq_t rfl (AOp.callTurn (i := 5) rfl rfl (back_turn d _ (regsL f) mn (hob.ins d hmd) hal hRR hsub.inR (hLr bl hmem d hmd)) (fun _ => rfl) rfl rfl fun _ => ?_)
          refine sNt (hk := ?_)
          refine aSeq_nil ?_
          refine ⟨rfl, ?_⟩
          rw [bkS_succ hd hk]
          exact ⟨Cut.cons (Cut.cons (Cut.cons (Cut.cons (Cut.cons (Cut.cons (Cut.cons (Cut.cons (Cut.nil _)))))))), fun b hb => List.all_eq_true.1 (show bdH [.dead, .res (boxR g1 (encFunc f)), .res (boxR O (ms.map cellM)), .res (rowR vw 3 tInt (i64s w0)), .res (mapsR ms Ss), .res (mapR (backS d (bkS bl.ins S k)) mn), .res (boxR gn [cellM mn]), .dead] = true from rfl) b hb⟩
        case hdone =>
          intro D
          have hbf : (befN f f.blocks.length)[b]? = some (befL f b) := by
            unfold befL
            rw [List.getD_eq_getElem?_getD, List.getElem?_eq_getElem (by rw [befN_length]; exact hbn)]
            rfl
          have hbe := befN_le f f.blocks.length _ (List.mem_of_getElem? hbf)
          have hNs : Sub (regsL f) (inS bl.ins S) := hSs.inS (hLr bl hmem)
          rw [bkS_all, hsg]
          refine h21 _ ?_
          refine Awp.nt2 (t' := [.any, .lit (.pointer (some ⟨g1, 0, none⟩)), .any, .lit (.slice (some ⟨O, 0, none⟩) f.blocks.length f.blocks.length), .lit vw, .bs tInt.slice (befN f f.blocks.length), .any, .lit (.int .i64 (b : Int)), .lit (.pointer (some ⟨gn, 0, none⟩)), .any, .any, .any, .any, .any, .any, .any, .any, .any, .any, .any, .any, .any, .any, .any, .any, .any, .any, .any, .any, .any, .any, .any, .any, .any, .any, .any, .any, .any, .any, .any, .any, .any, .any, .any, .any, .any, .any, .any, .any, .any, .any, .any, .any, .any, .any, .any, .any, .any, .any, .any, .any, .any, .any, .any, .lit (bkF p), .any, .any, .any, .any, .any, .any, .any, .any, .any, .any, .any, .any, .any, .any, .any, .any, .any, .any, .any, .any, .any, .any, .any, .any, .any, .any, .any, .any, .any, .any, .any, .any, .any, .any, .any, .any, .any, .any]) (h' := [.res (marksR (D :: ds)), .res (boxR g1 (encFunc f)), .res (boxR O (ms.map cellM)), .res (rowR vw 3 tInt (i64s w0)), .res (mapsR ms Ss), .res (mapR (inS bl.ins S) mn), .res (boxR gn [cellM mn]), .dead]) rfl rfl ?_
          refine Awp.via _ (St.le_close 3 (ver := ver + 1) (t' := [.any, .lit (.pointer (some ⟨g1, 0, none⟩)), .any, .lit (.slice (some ⟨O, 0, none⟩) f.blocks.length f.blocks.length), .own 3 (ver + 1), .bs tInt.slice (befN f f.blocks.length), .any, .lit (.int .i64 (b : Int)), .lit (.pointer (some ⟨gn, 0, none⟩)), .any, .any, .any, .any, .any, .any, .any, .any, .any, .any, .any, .any, .any, .any, .any, .any, .any, .any, .any, .any, .any, .any, .any, .any, .any, .any, .any, .any, .any, .any, .any, .any, .any, .any, .any, .any, .any, .any, .any, .any, .any, .any, .any, .any, .any, .any, .any, .any, .any, .any, .any, .any, .any, .any, .any, .any, .any, .any, .any, .any, .any, .any, .any, .any, .any, .any, .any, .any, .any, .any, .any, .any, .any, .any, .any, .any, .any, .any, .any, .any, .any, .any, .any, .any, .any, .any, .any, .any, .any, .any, .any, .any, .any, .any]) rfl rfl (by (try simp only []); (repeat (first | exact Cls.nil | refine Cls.own ?_ | refine Cls.any ?_ | refine Cls.keep rfl ?_)))) ?_
          refine Awp.seq fun K30 h30 => ?_
          (refine Awp.region ?_; (repeat (first | refine sQ (hk := ?_) | refine sSkip (hk := ?_) | refine sOwn (hk := ?_))); refine aSeq_nil ?_)
          refine h30 _ ?_
          refine nT (hk := ?_)
          refine Awp.block ?_
          refine Awp.loopF (fun p : Nat × Nat × List Nat × List (Int → Bool) => ⟨[.any, .lit (.pointer (some ⟨g1, 0, none⟩)), .any, .lit (.slice (some ⟨O, 0, none⟩) f.blocks.length f.blocks.length), .own 3 p.2.1, .bs tInt.slice (befN f f.blocks.length), .any, .any, .lit (.pointer (some ⟨gn, 0, none⟩)), .any, .any, .any, .any, .any, .any, .any, .any, .any, .any, .any, .any, .any, .any, .any, .any, .any, .any, .any, .any, .any, .any, .any, .any, .any, .any, .any, .any, .any, .any, .any, .any, .any, .any, .any, .any, .any, .any, .any, .any, .any, .any, .any, .any, .any, .any, .any, .any, .any, .any, .any, .any, .any, .any, .any, .any, .any, .any, .any, .any, .any, .any, .any, .any, .bs tInt (befL f b), .lit (.int .i64 ((befL f b).length : Int)), .lit (.int .i64 (p.1 : Int)), .any, .any, .any, .any, .any, .any, .any, .any, .any, .any, .any, .any, .any, .any, .any, .any, .any, .any, .any, .any, .any, .any, .any, .any, .any, .any, .any], [.res (marksR (D :: ds)), .res (boxR g1 (encFunc f)), .res (boxR O (ms.map cellM)), .row p.2.1 3 tInt (i64s p.2.2.1), .res (mapsR ms p.2.2.2), .res (mapR (inS bl.ins S) mn), .res (boxR gn [cellM mn]), .dead]⟩) (fun p => p.1 ≤ (befL f b).length ∧ AllJ f (regsL f) b w0 Ss ((befL f b).take p.1) p.2.2.1 p.2.2.2) (fun p => (befL f b).length - p.1) (0, ver + 1, w0, Ss) ⟨Nat.zero_le _, hI.split⟩ (le_T) ?_
          rintro ⟨i, v2, wt, Ts⟩ ⟨hil, hJ⟩
          dsimp only at hil hJ ⊢
          have hless := hJ.less
          have hwt : wt.length ≤ 10000000000000 := by simp at hmu; omega
          refine Awp.seq fun K31 h31 => ?_
          (refine Awp.region ?_; (repeat (first | refine sQ (hk := ?_) | refine sSkip (hk := ?_) | refine sOwn (hk := ?_))); refine aSeq_nil ?_)
          refine h31 _ ?_
          refine nT (hk := ?_)
          refine Awp.seq fun K32 h32 => ?_
          refine Awp.cond rfl (fun hb33 => ?_) (fun hb33 => ?_)
          · have hlt : i < (befL f b).length := by simpa using hb33
            obtain ⟨x, hxb⟩ : ∃ x, (befL f b)[i]? = some x := ⟨_, List.getElem?_eq_getElem hlt⟩
            obtain ⟨k, hek, rfl⟩ := (befL_mem hbn x).1 (List.mem_of_getElem? hxb)
            have hkn := (edge_src hek).1
            obtain ⟨mk, hmk2⟩ : ∃ mk, ms[k]? = some mk := ⟨_, List.getElem?_eq_getElem (by omega)⟩
            obtain ⟨T, hTk⟩ : ∃ T, Ts[k]? = some T := ⟨_, List.getElem?_eq_getElem (by rw [hJ.len]; exact hkn)⟩
            have hmck : (ms.map cellM)[k]? = some (cellM mk) := by rw [List.getElem?_map, hmk2]; rfl
            have hatT : at_ Ts k = T := by unfold at_; rw [List.getD_eq_getElem?_getD, hTk]; rfl
            have hTs : Sub (regsL f) T := by have := hJ.sub k; rwa [hatT] at this
            have hUs : Sub (regsL f) (uni T (inS bl.ins S)) := fun r hr => by
              unfold uni at hr
              rw [Bool.or_eq_true] at hr
              rcases hr with hr | hr
              · exact hTs r hr
              · exact hNs r hr
            have hTk2 : (Ts.set k (uni T (inS bl.ins S)))[k]? = some (uni T (inS bl.ins S)) := List.getElem?_set_self (by rw [hJ.len]; exact hkn)
            have hstep := hJ.step hI hek hTk (by rw [hins]; exact hLr bl hmem)
            dsimp only at hstep
            rw [hins, hat] at hstep
            have htk2 : (befL f b).take (i + 1) = (befL f b).take i ++ [(k : Int)] := by rw [List.take_add_one, hxb]; rfl
            rw [← htk2] at hstep
            have hw := nat_wf (k := k) (by omega)
            have hn1 : (i64s wt).length + [(k : Int)].length ≤ maxLen := by rw [i64s_len]; simp [maxLen]; omega
            have hn2 : ((i64s wt).length + [(k : Int)].length) * 8 ≤ 140737488355328 := by rw [i64s_len]; simp; omega
            refine Awp.skip ?_
            refine h32 _ ?_
            refine nT (hk := ?_)
            refine Awp.seq fun K34 h34 => ?_
            refine Awp.block ?_
            refine Awp.seq fun K35 h35 => ?_
            (refine Awp.region ?_; (repeat (first | refine sQ (hk := ?_) | refine sSkip (hk := ?_) | refine sOwn (hk := ?_))); refine aSeq_nil ?_)
            refine h35 _ ?_
            refine nT (hk := ?_)
            refine Awp.seq fun K36 h36 => ?_
            (refine Awp.region ?_; (repeat (first | refine sQ (hq := Quiet.lenM (i := 4) rfl undSet rfl rfl (mapsR_set hmk2 hTk) hRR hTs.inR) (hk := ?_) | refine sQ (hk := ?_) | refine sSkip (hk := ?_) | refine sOwn (hk := ?_))); refine aSeq_nil ?_)
            refine h36 _ ?_
            refine nT (hk := ?_)
            refine Awp.seq fun K37 h37 => ?_
            (refine drawD 5 (hh := ?_); (repeat (first | refine qQ (hk := ?_) | refine qSkip (hk := ?_))); refine aQ_nil ?_; (repeat (first | (refine aSeq_t rfl (AOp.callTurn2 (i := 4) (j := 5) (by decide) rfl rfl rfl (copy_turn2 hmk2 hTk hRR hTs.inR hNs.inR) (fun _ => rfl) rfl rfl fun _ => ?_); refine sNt (hk := ?_)) | refine sQ (hk := ?_) | refine sSkip (hk := ?_) | refine sOwn (hk := ?_))); refine aSeq_nil ?_)
            refine h37 _ ?_
            refine nT (hk := ?_)
            refine Awp.seq fun K38 h38 => ?_
            rcases hc : decide ((((regsL f).filter (uni T (inS bl.ins S))).length : Int) > (((regsL f).filter T).length : Int)) with _ | _
            · rw [if_neg (by simpa using hc)] at hstep
              (refine Awp.region ?_; (repeat (first | refine sQ (hq := Quiet.lenM (i := 4) rfl undSet rfl rfl (mapsR_set hmk2 hTk2) hRR hUs.inR) (hk := ?_) | refine sQ (hk := ?_) | refine sSkip (hk := ?_) | refine sOwn (hk := ?_))); refine aSeq_nil ?_)
              refine h38 _ ?_
              refine nT (hk := ?_)
              refine Awp.cond rfl (fun hb39 => by cases hb39) (fun hb39 => ?_)
              refine Awp.skip ?_
              refine h34 _ ?_
              refine nT (hk := ?_)
              (refine Awp.region ?_; (repeat (first | refine sQ (hk := ?_) | refine sSkip (hk := ?_) | refine sOwn (hk := ?_))); refine aSeq_nil ?_)
              refine athen_n ⟨(i + 1, v2, wt, Ts.set k (uni T (inS bl.ins S))), ⟨by omega, hstep⟩, by dsimp only; omega, ?_⟩
              exact le_T
            · rw [if_pos (by simpa using hc)] at hstep
              (refine Awp.region ?_; (repeat (first | refine sQ (hq := Quiet.lenM (i := 4) rfl undSet rfl rfl (mapsR_set hmk2 hTk2) hRR hUs.inR) (hk := ?_) | refine sQ (hk := ?_) | refine sSkip (hk := ?_) | refine sOwn (hk := ?_))); refine aSeq_nil ?_)
              refine h38 _ ?_
              refine nT (hk := ?_)
              refine Awp.cond rfl (fun hb39 => ?_) (fun hb39 => by cases hb39)
              (refine Awp.region ?_; (repeat (first | refine sQ (hk := ?_) | refine sSkip (hk := ?_) | refine sOwn (hk := ?_))); refine aSeq_nil ?_)
              refine h34 _ ?_
              refine nT (hk := ?_)
              (refine Awp.region ?_; (repeat (first | refine sQ (hk := ?_) | refine sSkip (hk := ?_) | refine sOwn (hk := ?_))); refine aSeq_nil ?_)
              refine athen_n ⟨(i + 1, v2 + 1, wt ++ [k], Ts.set k (uni T (inS bl.ins S))), ⟨by omega, hstep⟩, by dsimp only; omega, ?_⟩
              dsimp only
              rw [i64s_snoc]
              exact le_T
          · refine Awp.exit ?_
            have hie : i = (befL f b).length := by have : ¬ i < (befL f b).length := by simpa using hb33
                                                   omega
            subst hie
            rw [List.take_length] at hJ
            refine athen_x (athen_x ?_)
            refine ablock_hit ?_
            refine ablock_n ?_
            refine athen_n ⟨(D :: ds, v2, wt, Ts), ⟨hJ.done_all hI, by dsimp only; simp at hmu; omega⟩, by dsimp only; simp; omega, ?_⟩
            dsimp only
            exact le_C (Cut.cons (Cut.cons (Cut.cons (Cut.cons (Cut.cons (Cut.nil _))))))
      · refine Awp.exit ?_
        have hw0 : wait = [] := List.eq_nil_of_length_eq_zero (by
          have : ¬ (0 : Int) < ((i64s wait).length : Int) := by simpa using hb17
          rw [i64s_len] at this
          omega)
        subst hw0
        refine h13 _ ?_
        refine nT (hk := ?_)
        have hend := hI.end_
        have hln := hI.len
        subst hend
        refine Awp.via _ (St.le_setsA (i := 2) (j := 4) (by decide) rfl rfl) ?_
        refine Awp.seq fun K23 h23 => ?_
        (refine Awp.region ?_; (repeat (first | refine sQ (hk := ?_) | refine sSkip (hk := ?_) | refine sOwn (hk := ?_))); refine aSeq_nil ?_)
        refine h23 _ ?_
        refine nT (hk := ?_)
        refine Awp.ret ?_
        exact ⟨.inr rfl, ds, rfl, rfl, Fin.sets (i := 2) (p := (O, ms)) rfl hln hmx⟩
end Mu
end
section
/-
  live.In, Out, At, Most, walked.
  Conditions: at most 2^21 of everything.
-/
namespace Mu
open Go Go.RowKit Go.Proofs Go.Maps
instance : AG Try.prog 43 false 1 := ⟨by kernel_rfl⟩
instance : SZ Try.prog 43 1 := ⟨by kernel_rfl⟩
instance : ES Try.prog 43 1 := ⟨by kernel_rfl⟩
instance : SL Try.prog 43 := ⟨by kernel_rfl⟩
instance : RT Try.prog 43 29 1 24 := ⟨by kernel_rfl⟩
instance : AG Try.prog 29 false 1 := ⟨by kernel_rfl⟩
instance : SZ Try.prog 29 1 := ⟨by kernel_rfl⟩
instance : ES Try.prog 29 1 := ⟨by kernel_rfl⟩
instance : SL Try.prog 29 := ⟨by kernel_rfl⟩
instance : RT Try.prog 29 3 1 8 := ⟨by kernel_rfl⟩
instance : AG Try.prog 22 false 1 := ⟨by kernel_rfl⟩
instance : SZ Try.prog 22 1 := ⟨by kernel_rfl⟩
instance : ES Try.prog 22 2 := ⟨by kernel_rfl⟩
instance : SL Try.prog 22 := ⟨by kernel_rfl⟩
instance : RT Try.prog 22 39 2 40 := ⟨by kernel_rfl⟩
instance : AG Try.prog 39 true 2 := ⟨by kernel_rfl⟩
instance : SZ Try.prog 39 2 := ⟨by kernel_rfl⟩

theorem places_fold {R : List Int} {ds : List Ins} {S : Int → Bool} : ∀ (k : Nat), k ≤ ds.length → ∀ p : (Int → Bool) × List (List Int), p.1 = inS (ds.drop k) S → p.2.length = ds.length + 1 →
    ((List.range k).reverse.foldl (stepP R ds) p).2 = (List.range k).map (fun j => R.filter (inS (ds.drop j) S)) ++ p.2.drop k
  | 0, _, p, _, _ => by simp
  | k + 1, hk, p, h1, h2 => by
    have hd : ds[k]? = some (ds[k]'(by omega)) := List.getElem?_eq_getElem (by omega)
    have hb : stepB ds p.1 k = inS (ds.drop k) S := by
      unfold stepB
      rw [hd, h1, List.drop_eq_getElem_cons (i := k) (by omega)]
      rfl
    rw [List.range_succ, List.reverse_append, List.reverse_singleton, List.singleton_append, List.foldl_cons, places_fold k (by omega) (stepP R ds p k) hb (by simp [stepP, h2])]
    simp only [stepP, hb, List.map_append, List.map_cons, List.map_nil, List.append_assoc, List.singleton_append]
    congr 1
    rw [List.drop_eq_getElem_cons (i := k) (by simp; omega), List.getElem_set_self, List.drop_set_of_lt (by omega)]
theorem placesL_eq (R : List Int) (ds : List Ins) (S : Int → Bool) : placesL R ds S = (List.range (ds.length + 1)).map fun i => R.filter (inS (ds.drop i) S) := by
  unfold placesL placesN
  rw [places_fold ds.length (Nat.le_refl _) _ (by rw [List.drop_eq_nil_of_le (Nat.le_refl _)]; rfl) (by simp), List.range_succ, List.map_append]
  congr 1
  rw [List.drop_set]
  simp [List.drop_replicate, inS]
/-- what is live at the places of a block -/
theorem atL_eq (f : Func) (b : Nat) : placesL (regsL f) (insOf f b) (outS f b) = blockL f b := by
  rw [placesL_eq]
  unfold blockL placeL
  refine List.map_congr_left fun i _ => ?_
  congr 1
  funext r
  exact (liveAt_eq f (outS f b) b i (fun r => outS_iff) r).symm
theorem blockL_len (f : Func) (b : Nat) : (blockL f b).length = (insOf f b).length + 1 := by simp [blockL]
noncomputable def inL (f : Func) (b : Nat) : List Int := (regsL f).filter (inS (insOf f b) (outS f b))
def atF (f : Func) (b : Int) : List (List Int) := if 0 ≤ b ∧ b < f.blocks.length then blockL f b.toNat else []
theorem blockL_first (f : Func) (b : Nat) : (blockL f b)[0]? = some (inL f b) := by
  rw [← atL_eq, placesL_eq, List.getElem?_map, List.getElem?_range (by omega)]
  rfl
theorem Fin.nilRow {h : List ABlk} {α : Type} {T : Ty α} (hm : mkD h = [] := by rfl) : Fin h (.lit (.slice none 0 0)) (.bs T []) := ⟨hm, fun C S ψ w v hC H hv => ⟨S, fun _ h => h, fun _ h => .inl h, H.lt, by
  unfold AV.rel at hv ⊢
  rw [hv]
  exact T.slice_nilS _ _⟩⟩

set_option maxRecDepth 100000 in
set_option maxHeartbeats 1000000 in
theorem at_fn (f : Func) (b : Int) (ho : okFunc f) (hs : smallF f) (hT : (allReads f).length ≤ 2097152) : Fn Try.prog 77 [.agg (encFunc f), .lit (.int .i64 b)] (.bs tInt.slice (atF f b)) := by
  have hbl := hs.blocks
  have hRR := regsR_of f ho hT
  have hLr : ∀ b ∈ f.blocks, ∀ x ∈ b.ins, ∀ r ∈ readsC x, r ∈ regsL f := fun b hb x hx r hr => regsL_mem.2 ⟨b, hb, x, hx, hr⟩
  refine Fn.of_awp Try.func77 rfl (by kernel_rfl) rfl Try.ntmps77 fun C hC => ?_
  simp only [List.length_cons, List.length_nil, Nat.reduceAdd, Nat.reduceSub, List.replicate_succ, List.replicate_zero, List.cons_append, List.nil_append]
  refine Awp.seq fun K1 h1 => ?_
  (refine Awp.region ?_; (repeat (first | refine sQ (hk := ?_) | refine sSkip (hk := ?_) | refine sOwn (hk := ?_))); refine aSeq_nil ?_)
  refine h1 _ ?_
  refine nT (hk := ?_)
  refine Awp.seq fun K2 h2 => ?_
  refine Awp.seq fun K3 h3 => ?_
  rcases hd1 : decide (b < 0) with _ | _
  · rcases hd2 : decide (b ≥ (f.blocks.length : Int)) with _ | _
    · have h0 : 0 ≤ b := by simpa using hd1
      have hlt : b.toNat < f.blocks.length := by have : b < (f.blocks.length : Int) := by simpa using hd2
                                                 omega
      obtain ⟨bl, hblk⟩ : ∃ bl, f.blocks[b.toNat]? = some bl := ⟨_, List.getElem?_eq_getElem hlt⟩
      have hmem := List.mem_of_getElem? hblk
      have hins : insOf f b.toNat = bl.ins := by unfold insOf; rw [hblk]
      have hset : ((List.range f.blocks.length).map (outS f))[b.toNat]? = some (outS f b.toNat) := by rw [List.getElem?_map, List.getElem?_range hlt]; rfl
      have hres : atF f b = placesL (regsL f) bl.ins (outS f b.toNat) := by
        unfold atF
        rw [if_pos ⟨h0, by omega⟩, ← hins, atL_eq]
      (refine Awp.region ?_; (repeat (first | refine sQ (hk := ?_) | refine sSkip (hk := ?_) | refine sOwn (hk := ?_))); refine aSeq_nil ?_)
      refine h3 _ ?_
      refine nT (hk := ?_)
      refine Awp.cond rfl (fun hb4 => by cases hb4) (fun hb4 => ?_)
      refine Awp.skip ?_
      refine h2 _ ?_
      refine nT (hk := ?_)
      refine Awp.seq fun K6 h6 => ?_
      (refine drawD 12 (hh := ?_); (repeat (first | refine qQ (hq := Quiet.call rfl (all_fn f ho hs hT) rfl rfl rfl) (hk := ?_) | refine qQ (hq := Quiet.call rfl (places_fn bl (outS f b.toNat) (regsL f) (ho.blocks bl hmem) (hs.all bl hmem) hRR (outS_sub hLr _) (hLr bl hmem)) rfl rfl rfl) (hk := ?_) | refine qQ (hk := ?_) | refine qSkip (hk := ?_))); refine aQ_nil ?_; (repeat (first | refine sQ (hq := Quiet.call rfl (all_fn f ho hs hT) rfl rfl rfl) (hk := ?_) | refine sQ (hq := Quiet.call rfl (places_fn bl (outS f b.toNat) (regsL f) (ho.blocks bl hmem) (hs.all bl hmem) hRR (outS_sub hLr _) (hLr bl hmem)) rfl rfl rfl) (hk := ?_) | refine sQ (hk := ?_) | refine sSkip (hk := ?_) | refine sOwn (hk := ?_))); refine aSeq_nil ?_)
      refine h6 _ ?_
      refine nT (hk := ?_)
      refine Awp.ret ?_
      rw [hres]
      exact ⟨.inr rfl, Fin.cl rfl⟩
    · have hres : atF f b = [] := by
        have : (f.blocks.length : Int) ≤ b := by simpa using hd2
        unfold atF
        rw [if_neg (by omega)]
      (refine Awp.region ?_; (repeat (first | refine sQ (hk := ?_) | refine sSkip (hk := ?_) | refine sOwn (hk := ?_))); refine aSeq_nil ?_)
      refine h3 _ ?_
      refine nT (hk := ?_)
      refine Awp.cond rfl (fun hb4 => ?_) (fun hb4 => by cases hb4)
      refine Awp.seq fun K5 h5 => ?_
      (refine Awp.region ?_; (repeat (first | refine sQ (hk := ?_) | refine sSkip (hk := ?_) | refine sOwn (hk := ?_))); refine aSeq_nil ?_)
      refine h5 _ ?_
      refine nT (hk := ?_)
      refine Awp.ret ?_
      rw [hres]
      exact ⟨.inr rfl, Fin.nilRow⟩
  · have hres : atF f b = [] := by
      have : b < 0 := by simpa using hd1
      unfold atF
      rw [if_neg (by omega)]
    (refine Awp.region ?_; (repeat (first | refine sQ (hk := ?_) | refine sSkip (hk := ?_) | refine sOwn (hk := ?_))); refine aSeq_nil ?_)
    refine h3 _ ?_
    refine nT (hk := ?_)
    refine Awp.cond rfl (fun hb4 => ?_) (fun hb4 => by cases hb4)
    refine Awp.seq fun K5 h5 => ?_
    (refine Awp.region ?_; (repeat (first | refine sQ (hk := ?_) | refine sSkip (hk := ?_) | refine sOwn (hk := ?_))); refine aSeq_nil ?_)
    refine h5 _ ?_
    refine nT (hk := ?_)
    refine Awp.ret ?_
    rw [hres]
    exact ⟨.inr rfl, Fin.nilRow⟩

end Mu
end
section
/-
  inter.steps, the iterator over a function's instructions and what is live behind each: its contract.
  Conditions: at most 2^21 of everything.
-/
namespace Mu
open Go Go.RowKit Go.Proofs Go.Shelf
attribute [local go_sem] Oper.semAt_some

/-! ### rows laid one behind the other -/
def offL {α : Type} (g : Nat → List α) (b : Nat) : Nat := ((List.range b).flatMap g).length
theorem offL_succ {α : Type} (g : Nat → List α) (b : Nat) : offL g (b + 1) = offL g b + (g b).length := by
  unfold offL
  rw [List.range_succ, List.flatMap_append, List.length_append]
  simp
theorem offL_mono {α : Type} (g : Nat → List α) (b k : Nat) : offL g b ≤ offL g (b + k) := by
  induction k with
  | zero => exact Nat.le_refl _
  | succ k ih => rw [← Nat.add_assoc, offL_succ]; omega
theorem offL_at {α : Type} (g : Nat → List α) : ∀ (n b i : Nat), b < n → i < (g b).length → ((List.range n).flatMap g)[offL g b + i]? = (g b)[i]?
  | 0, b, i, h, _ => by omega
  | n + 1, b, i, h, hi => by
    rw [List.range_succ, List.flatMap_append]
    by_cases hb : b = n
    · subst hb
      rw [List.getElem?_append_right (by unfold offL; omega)]
      unfold offL
      simp
    · have h1 : offL g b + i < ((List.range n).flatMap g).length := by
        have h2 := offL_mono g (b + 1) (n - (b + 1))
        rw [show b + 1 + (n - (b + 1)) = n by omega, offL_succ] at h2
        unfold offL at h2 ⊢
        omega
      rw [List.getElem?_append_left h1]
      exact offL_at g n b i (by omega) hi

/-- the instructions of a block, each with what is live behind it -/
def stepsB (f : Func) (b : Nat) : List (Ins × List Int) := (insOf f b).zip ((blockL f b).drop 1)
def stepsL (f : Func) : List (Ins × List Int) := (List.range f.blocks.length).flatMap (stepsB f)
theorem stepsB_len (f : Func) (b : Nat) : (stepsB f b).length = (insOf f b).length := by
  unfold stepsB
  rw [List.length_zip, List.length_drop, blockL_len]
  omega
theorem stepsB_at {f : Func} {b i : Nat} {x : Ins} {l : List Int} (hx : (insOf f b)[i]? = some x) (hl : (blockL f b)[i + 1]? = some l) : (stepsB f b)[i]? = some (x, l) := by
  unfold stepsB
  rw [List.getElem?_zip_eq_some]
  refine ⟨hx, ?_⟩
  rw [List.getElem?_drop, Nat.add_comm]
  exact hl
theorem stepsL_at {f : Func} {b i : Nat} {x : Ins} {l : List Int} (hb : b < f.blocks.length) (hx : (insOf f b)[i]? = some x) (hl : (blockL f b)[i + 1]? = some l) : (stepsL f)[offL (stepsB f) b + i]? = some (x, l) := by
  have h := stepsB_at hx hl
  unfold stepsL
  rw [offL_at (stepsB f) _ b i hb (List.getElem?_eq_some_iff.1 h).1, h]
/-- what the k-th round is given -/
def stE (f : Func) (k : Nat) : List AV := match (stepsL f)[k]? with
  | some q => [.agg (encIns q.1), .bs tInt q.2]
  | none => [.any, .any]
theorem stE_eq {f : Func} {k : Nat} {q : Ins × List Int} (h : (stepsL f)[k]? = some q) : stE f k = [.agg (encIns q.1), .bs tInt q.2] := by unfold stE; rw [h]
theorem stE_cl (f : Func) (k : Nat) : AV.clL (stE f k) = true := by
  unfold stE
  split <;> rfl
theorem stE_len (f : Func) (k : Nat) : (stE f k).length = 2 := by
  unfold stE
  split <;> rfl

theorem steps_in (F : Fence) (n : Nat) (hF : F.fn 40) (hro : F.round = none) (cs : List Value) (w : World) (hcs : cs.length = 4) :
    CallsIn F n Try.prog 40 #[.agg cs.toArray] w fun e w' => e = .returned (.func (.func 81) #[] #[.pointer (some ⟨w.heap.size, 0, none⟩)]) ∧ w' = w.alloc (.cells cs.toArray 24) := by
  match cs, hcs with
  | [a, b, c, d], _ =>
    refine callsIn_of_wp Try.func40 rfl hF ?_ hro
    simp only [Try.ntmps40, List.size_toArray, List.length_cons, List.length_nil, Nat.reduceAdd, Nat.reduceSub, Array.replicate_succ, Array.replicate_zero, List.push_toArray, List.append_toArray, List.nil_append, List.cons_append]
    gi_wp2
    go_ret
    exact ⟨rfl, rfl⟩
def stF (p : Nat) : Value := .func (.func 81) #[] #[.pointer (some ⟨p, 0, none⟩)]
theorem steps_new (f : Func) : FnNew Try.prog 40 [.agg (encFunc f)] (fun p => boxR p (encFunc f)) stF := by
  refine ⟨by kernel_rfl, fun w S vs hS hr => ?_⟩
  obtain ⟨v, rfl, hv⟩ := arg1 hr
  obtain ⟨cs, rfl, hc⟩ := rel_agg hv
  have hl : cs.length = 4 := by rw [relL_len hc]; rfl
  refine ((callsIn_wide (n := 4)).1 (steps_in Fence.wide 4 trivial rfl cs w hl)).mono ?_
  rintro e w' ⟨rfl, rfl⟩
  have hb : Below w.heap.size w (w.alloc (.cells cs.toArray 24)) := (Below.refl _ _).alloc (Nat.le_refl _) _
  exact ⟨_, rfl, ⟨hb.os, hb.tape, hb.output, hb.size, fun k hk _ => hb.block k hk⟩, w.heap.size, rfl, ⟨cs, 24, heap_alloc_new w _, AV.relL_ext (Ext.grow [] ψ0 (fun k hk => hb.block k (hS k hk)) fun _ h => h) _ _ hc⟩, fun k hk => by
    have hk : k = w.heap.size := hk
    subst hk
    exact ⟨.inr (Nat.le_refl _), by simp⟩⟩

set_option maxRecDepth 100000 in
set_option maxHeartbeats 4000000 in
theorem steps_iter (f : Func) (ho : okFunc f) (hs : smallF f) (hT : (allReads f).length ≤ 2097152) (hi1 : ∀ b ∈ f.blocks, b.ins.length + 1 ≤ 2097152) (pb : Nat) :
    IterY Try.prog 81 [.pointer (some ⟨pb, 0, none⟩)] (boxR pb (encFunc f)) (stE f) (stepsL f).length := by
  have hbl := hs.blocks
  refine IterY.of_awp Try.func81 rfl (by kernel_rfl) rfl Try.ntmps81 rfl fun C hrd ι l Jr hm hY q0 => ?_
  simp only [List.map_cons, List.map_nil, List.length_cons, List.length_nil, Nat.reduceAdd, Nat.reduceSub, List.replicate_succ, List.replicate_zero, List.cons_append, List.nil_append]
  refine Awp.seq fun K1 h1 => ?_
  (refine Awp.region ?_; (repeat (first | refine sQ (hk := ?_) | refine sSkip (hk := ?_) | refine sOwn (hk := ?_))); refine aSeq_nil ?_)
  refine h1 _ ?_
  refine nT (hk := ?_)
  refine Awp.block ?_
  refine Awp.loopF (fun p : Nat × ι => ⟨[.lit (.func (.yield l) #[] #[]), .lit (.pointer (some ⟨pb, 0, none⟩)), .any, .any, .any, .any, .any, .any, .any, .lit (.int .i64 (f.blocks.length : Int)), .lit (.int .i64 (p.1 : Int)), .any, .any, .any, .any, .any, .any, .any, .any, .any, .any, .any, .any, .any, .any, .any, .any, .any, .any, .any, .any, .any, .any, .any, .any, .any, .any, .any, .any], [.res (Jr (offL (stepsB f) p.1) p.2), .res (boxR pb (encFunc f))]⟩) (fun p => p.1 ≤ f.blocks.length) (fun p => f.blocks.length - p.1) (0, q0) (Nat.zero_le _) (le_T) ?_
  rintro ⟨b, q⟩ hbn
  dsimp only at hbn ⊢
  refine Awp.seq fun K3 h3 => ?_
  (refine Awp.region ?_; (repeat (first | refine sQ (hk := ?_) | refine sSkip (hk := ?_) | refine sOwn (hk := ?_))); refine aSeq_nil ?_)
  refine h3 _ ?_
  refine nT (hk := ?_)
  refine Awp.seq fun K4 h4 => ?_
  refine Awp.cond rfl (fun hb5 => ?_) (fun hb5 => ?_)
  · have hlt : b < f.blocks.length := by simpa using hb5
    obtain ⟨bl, hblk⟩ : ∃ bl, f.blocks[b]? = some bl := ⟨_, List.getElem?_eq_getElem hlt⟩
    have hmem := List.mem_of_getElem? hblk
    have hins : insOf f b = bl.ins := by unfold insOf; rw [hblk]
    have hil := hi1 bl hmem
    have hat : atF f (b : Int) = blockL f b := by
      unfold atF
      rw [if_pos ⟨by omega, by omega⟩, Int.toNat_natCast]
    have hA := at_fn f (b : Int) ho hs hT
    rw [hat] at hA
    have hsl : (stepsB f b).length = bl.ins.length := by rw [stepsB_len, hins]
    have hoff := offL_succ (stepsB f) b
    rw [hsl] at hoff
    generalize hk0 : offL (stepsB f) b = k0 at hoff ⊢
    refine Awp.skip ?_
    refine h4 _ ?_
    refine nT (hk := ?_)
    refine Awp.seq fun K6 h6 => ?_
    refine Awp.block ?_
    refine Awp.seq fun K7 h7 => ?_
    (refine Awp.region ?_; (repeat (first | refine sQ (hk := ?_) | refine sSkip (hk := ?_) | refine sOwn (hk := ?_))); refine aSeq_nil ?_)
    refine h7 _ ?_
    refine nT (hk := ?_)
    refine Awp.seq fun K8 h8 => ?_
    (refine Awp.region ?_; (repeat (first | refine sQ (hq := Quiet.call rfl hA rfl rfl rfl) (hk := ?_) | refine sQ (hk := ?_) | refine sSkip (hk := ?_) | refine sOwn (hk := ?_))); refine aSeq_nil ?_)
    refine h8 _ ?_
    refine nT (hk := ?_)
    refine Awp.seq fun K9 h9 => ?_
    (refine Awp.region ?_; (repeat (first | refine sQ (hk := ?_) | refine sSkip (hk := ?_) | refine sOwn (hk := ?_))); refine aSeq_nil ?_)
    refine h9 _ ?_
    refine nT (hk := ?_)
    refine Awp.block ?_
    refine Awp.loopF (fun p : Nat × ι => ⟨[.lit (.func (.yield l) #[] #[]), .lit (.pointer (some ⟨pb, 0, none⟩)), .any, .lit (.int .i64 (b : Int)), .bs tInt.slice (blockL f b), .any, .any, .any, .any, .lit (.int .i64 (f.blocks.length : Int)), .lit (.int .i64 (b : Int)), .any, .any, .any, .any, .any, .any, .any, .any, .any, .any, .bs tIns bl.ins, .lit (.int .i64 (bl.ins.length : Int)), .lit (.int .i64 (p.1 : Int)), .any, .any, .any, .any, .any, .any, .any, .any, .any, .any, .any, .any, .any, .any, .any], [.res (Jr (k0 + p.1) p.2), .res (boxR pb (encFunc f))]⟩) (fun p => p.1 ≤ bl.ins.length) (fun p => bl.ins.length - p.1) (0, q) (Nat.zero_le _) (le_T) ?_
    rintro ⟨i, q⟩ hi
    dsimp only at hi ⊢
    refine Awp.seq fun K11 h11 => ?_
    (refine Awp.region ?_; (repeat (first | refine sQ (hk := ?_) | refine sSkip (hk := ?_) | refine sOwn (hk := ?_))); refine aSeq_nil ?_)
    refine h11 _ ?_
    refine nT (hk := ?_)
    refine Awp.seq fun K12 h12 => ?_
    refine Awp.cond rfl (fun hb13 => ?_) (fun hb13 => ?_)
    · have hil2 : i < bl.ins.length := by simpa using hb13
      obtain ⟨x, hx⟩ : ∃ x, bl.ins[i]? = some x := ⟨_, List.getElem?_eq_getElem hil2⟩
      obtain ⟨bh, hbh⟩ : ∃ bh, (blockL f b)[i + 1]? = some bh := ⟨_, List.getElem?_eq_getElem (by rw [blockL_len, hins]; omega)⟩
      have hbh2 : (blockL f b)[((i : Int) + 1).toNat]? = some bh := by rw [show ((i : Int) + 1).toNat = i + 1 by omega]; exact hbh
      have hst : (stepsL f)[k0 + i]? = some (x, bh) := by rw [← hk0]; exact stepsL_at hlt (by rw [hins]; exact hx) hbh
      have hYk : ∀ q, YTurn Try.prog l C.S0 C.w0.heap.size (Jr (k0 + i) q) [.agg (encIns x), .bs tInt bh] (Jr (k0 + i + 1)) := fun q => by
        have := hY (k0 + i) q (List.getElem?_eq_some_iff.1 hst).1
        rwa [stE_eq hst] at this
      refine Awp.skip ?_
      refine h12 _ ?_
      refine nT (hk := ?_)
      refine Awp.seq fun K14 h14 => ?_
      refine Awp.block ?_
      refine Awp.seq fun K15 h15 => ?_
      (refine Awp.region ?_; (repeat (first | refine sQ (hk := ?_) | refine sSkip (hk := ?_) | refine sOwn (hk := ?_))); refine aSeq_nil ?_)
      refine h15 _ ?_
      refine nT (hk := ?_)
      refine Awp.seq fun K16 h16 => ?_
      refine Awp.drawY 7 (by kernel_rfl) (by kernel_rfl) ?_
      simp only [List.take_succ_cons, List.take_zero, List.drop_succ_cons, List.drop_zero]
      (repeat (first | refine qQ (hk := ?_) | refine qSkip (hk := ?_)))
      refine aQ_nil ?_
      refine aSeqY_y rfl (AOpY.yield (i := 0) hrd rfl (fun p => by rw [hm, hm]) rfl rfl rfl rfl (hYk q) fun q' => ?_)
      refine aSeqY_nt (by (try simp only [putA, List.set_cons_zero, List.set_cons_succ]); exact rfl) (by (try simp only [List.nil_append, List.set_cons_zero]); exact rfl) ?_
      refine aSeqY_o rfl (AOp.q (Quiet.bnot rfl rfl) ?_)
      refine aSeqY_nil ?_
      refine h16 _ ?_
      refine nT (hk := ?_)
      refine Awp.cond rfl (fun hb17 => by cases hb17) (fun hb17 => ?_)
      refine Awp.skip ?_
      refine h14 _ ?_
      refine nT (hk := ?_)
      (refine Awp.region ?_; (repeat (first | refine sQ (hk := ?_) | refine sSkip (hk := ?_) | refine sOwn (hk := ?_))); refine aSeq_nil ?_)
      refine athen_n ⟨(i + 1, q'), by dsimp only; omega, by dsimp only; omega, ?_⟩
      exact le_C (.cons (.cons (Cut.nil _)))
    · have hie : i = bl.ins.length := by have : ¬ i < bl.ins.length := by simpa using hb13
                                         omega
      subst hie
      rw [← hoff]
      refine Awp.exit ?_
      refine h6 _ ?_
      refine nT (hk := ?_)
      (refine Awp.region ?_; (repeat (first | refine sQ (hk := ?_) | refine sSkip (hk := ?_) | refine sOwn (hk := ?_))); refine aSeq_nil ?_)
      refine athen_n ⟨(b + 1, q), by dsimp only; omega, by dsimp only; omega, ?_⟩
      exact le_T
  · have hbe : b = f.blocks.length := by have : ¬ b < f.blocks.length := by simpa using hb5
                                         omega
    subst hbe
    refine Awp.exit ?_
    exact ⟨.inl rfl, q, rfl, by simp [mkD, ABlk.mrk, hm]; rfl⟩
end Mu
end
section
/-
  The shelf's contracts at this dump, in plain words: the keys of a map of integers.
  Conditions: none.
-/
namespace Go.Proofs
open Go.Shelf
def Try.keysK_ren : Go.Shelf.Ren := ⟨fun | 7 => 42 | 10 => 83 | n => n, fun | 23 => 57 | 26 => 3 | 3 => 3 | 28 => 63 | 0 => 0 | 27 => 62 | 33 => 94 | 4 => 4 | n => n, fun | n => n⟩
theorem Try.keysK : Go.Proofs.SlLaysZI.n7 Try.prog Try.keysK_ren := {
  mixed := by kernel_rfl
  f7 := ⟨Try.f42.name, by decide, Try.func42.trans (congrArg some (by kernel_rfl))⟩
  f10 := ⟨Try.f83.name, by decide, Try.func83.trans (congrArg some (by kernel_rfl))⟩
  t0 := Try.underlying0
  a0 := Try.isAgg0
  z0 := Try.sizeOf0
  v0 := Try.zeroValue0
  t4 := Try.underlying4
  a4 := Try.isAgg4
  z4 := Try.sizeOf4
  v4 := Try.zeroValue4
  t23 := Try.underlying57
  a23 := Try.isAgg57
  z23 := Try.sizeOf57
  v23 := Try.zeroValue57
  t26 := Try.underlying3
  a26 := Try.isAgg3
  z26 := Try.sizeOf3
  v26 := Try.zeroValue3
  t27 := Try.underlying62
  a27 := Try.isAgg62
  z27 := Try.sizeOf62
  v27 := Try.zeroValue62
  t28 := Try.underlying63
  a28 := Try.isAgg63
  z28 := Try.sizeOf63
  v28 := Try.zeroValue63
  t33 := Try.underlying94
  a33 := Try.isAgg94
  z33 := Try.sizeOf94
  v33 := Try.zeroValue94 }
end Go.Proofs
end
section
/-
  A set of integers that the call makes: put in; its keys, sorted.
  Conditions: its numbers lie in a rising row of at most 2^31.
-/
namespace Mu
open Go Go.RowKit Go.Proofs Go.Maps Go.Shelf

section
variable {P : Program} {C : Ctx} {t : List AV} {h : List ABlk} {o : Oper}
/-- a contract that reads two such memories -/
def FnR2 (P : Program) (f : FuncId) (R1 R2 : Res) (args : List AV) (r : AV) : Prop :=
  Enters P f = true ∧ ∀ (w : World) (S : Nat → Prop) (vs : List Value), (∀ k, S k → k < w.heap.size) → (∀ g, R1.F g → g < w.heap.size) → (∀ g, R2.F g → g < w.heap.size) → R1.R w S → R2.R w S → AV.relL w S [] ψ0 args vs →
    Calls P f vs.toArray w fun e w' => ∃ v, e = .returned v ∧ Good w S [] ψ0 r v w'
theorem Quiet.callR2 {f : FuncId} {args : Array Operand} {tys : Array TypeId} {xs : List AV} {r : AV} {R1 R2 : Res} (i j : Nat) (hi : h[i]? = some (.res R1)) (hj : h[j]? = some (.res R2))
    (ho : o.op = .call { callee := .value (.func f), args := args, argTypes := tys }) (hF : FnR2 P f R1 R2 xs r) (hx : args.toList.map (evA t) = xs) (hc : AV.clL xs = true) (hr : AV.cl r = true) : Quiet P C t h o r := by
  intro S ψ w ρ H hρ
  have h1 : ρ (.func f) = .func (.func f) #[] #[] := by
    have := hρ (.func f) (by rw [ho]; exact Array.mem_append.2 (.inl (by simp)))
    simpa [evA, AV.rel] using this
  rw [run_call ho hF.1 ρ w h1]
  refine ⟨rfl, ?_⟩
  have h2 : AV.relL w S h ψ xs (args.toList.map ρ) := by
    rw [← hx]
    exact relL_map fun x hx' => hρ x (by rw [ho]; exact Array.mem_append.2 (.inr (Array.mem_toList_iff.1 hx')))
  have hB1 := H.blk i _ hi
  have hB2 := H.blk j _ hj
  have h3 := hF.2 w S (args.toList.map ρ) H.lt (fun g hg => (hB1.1 g hg).2.2) (fun g hg => (hB2.1 g hg).2.2) hB1.2 hB2.2 (AV.relL_cl _ _ hc h2)
  rw [show (args.map ρ) = (args.toList.map ρ).toArray from (by rw [← Array.toList_map])]
  refine h3.mono ?_
  rintro e w' ⟨v, he, hb, S', k1, k2, k3, k4⟩
  exact ⟨v, he, hb, S', k1, k2, k3, AV.rel_cl _ _ hr k4⟩
end
section
variable {C : Ctx} {t : List AV} {h : List ABlk} {o : Oper}
theorem AOp.putM {ty : TypeId} {x y z : Operand} (i : Nat) {m : Nat} {S : Int → Bool} {R : List Int} {r : Int} {K : St → Prop} (ho : o.op = .mapUpdate ty x y z) (hty : Try.prog.underlying ty = some (.map 3 3)) (hi : h[i]? = some (.res (mapR S m)))
    (hx : evA t x = .lit (.map (some m))) (hy : evA t y = .lit (.int .i64 r)) (hz : evA t z = .lit (.int .i64 1)) (hR : RegsR R) (hin : InR R S) (hr : wf64 r) (hK : K ⟨putA t o.dst (.lit undef), h.set i (.res (mapR (addS S r) m))⟩) : AOp Try.prog C o ⟨t, h⟩ K := by
  refine AOp.turn (ι := Unit) (Rs := fun _ => mapR (addS S r) m) (val := fun _ => undef) hi (fun _ => rfl) (fun T ψ w ρ H hRw hlt hρ => ?_) (fun _ => hK)
  have h1 := hρ x (by simp [ho, Op.operands])
  have h2 := hρ y (by simp [ho, Op.operands])
  have h3 := hρ z (by simp [ho, Op.operands])
  rw [hx] at h1
  rw [hy] at h2
  rw [hz] at h3
  unfold AV.rel at h1 h2 h3
  obtain ⟨D, hown, hD⟩ := (show SetM w m S from hRw)
  have hsz := setM_size hown hD hR hin
  obtain ⟨w', hrun, hown', hg⟩ := hown.update keyI hty (by have := hsz.2; unfold maxLen; omega) (keyL hr) (plainElem_int Try.underlying3 one_wf)
  have hs' := SetM.put hown hD hown'
  have e : (execOp ρ o).run Try.prog w = .ok .skip w' ∨ (execOp ρ o).run Try.prog w = .ok (.value undef) w' := by
    simp [execOp, ho, h1, h2, h3, hrun, Result.andThen]
  have hT : Turns w T (mapR S m).F (fun _ : Unit => mapR (addS S r) m) (fun _ => undef) undef w' :=
    ⟨Gr.of_grownBy hg |> fun G => ⟨G.os, G.tape, G.output, G.size, fun k hk hn => G.block k hk fun e => hn (by cases e; rfl)⟩, (), rfl, hs', fun k hk => ⟨.inl hk, by
      have hk : k = m := hk
      subst hk
      exact hs'.lt⟩⟩
  rcases e with e | e
  · rw [e]; exact hT
  · rw [e]; exact hT
end

theorem keysI_new (m : Nat) : FnNew Try.prog 42 [.lit (.map (some m))] (fun p => boxR p [.lit (.map (some m))]) (fun p => .func (.func 83) #[] #[.pointer (some ⟨p, 0, none⟩)]) := by
  refine ⟨by kernel_rfl, fun w S vs hS hr => ?_⟩
  obtain ⟨us, rfl, h0⟩ := rel_lit1 hr
  unfold AV.relL at h0
  subst h0
  have cK : CallsIn Fence.wide 5 Try.prog 42 #[.map (some m)] w fun e w' => e = .returned (.func (.func 83) #[] #[.pointer (some ⟨w.heap.size, 0, none⟩)]) ∧ w' = w.alloc (.cells #[.map (some m)] 57) := AnyZI.keys_in Try.keysK Fence.wide 5 trivial rfl (some m) w
  refine ((callsIn_wide (n := 5)).1 cK).mono ?_
  rintro e w' ⟨rfl, rfl⟩
  have hb : Below w.heap.size w (w.alloc (.cells #[.map (some m)] 57)) := (Below.refl _ _).alloc (Nat.le_refl _) _
  exact ⟨_, rfl, ⟨hb.os, hb.tape, hb.output, hb.size, fun k hk _ => hb.block k hk⟩, w.heap.size, rfl, ⟨[.map (some m)], 57, heap_alloc_new w _, relL_litL [.map (some m)]⟩, fun k hk => by
    have hk : k = w.heap.size := hk
    subst hk
    exact ⟨.inr (Nat.le_refl _), by simp⟩⟩

theorem sortedI_fn (p m : Nat) (S : Int → Bool) (R : List Int) (hR : RegsR R) (hi : InR R S) :
    FnR2 Try.prog 41 (boxR p [.lit (.map (some m))]) (mapR S m) [.lit (.func (.func 83) #[] #[.pointer (some ⟨p, 0, none⟩)])] (.bs tInt (R.filter S)) := by
  refine ⟨by kernel_rfl, fun w T vs hT hF1 hF2 hbox hs hr => ?_⟩
  obtain ⟨us, rfl, h0⟩ := rel_lit1 hr
  unfold AV.relL at h0
  subst h0
  obtain ⟨cs, e, hp, hcs⟩ := hbox
  obtain ⟨us, rfl, h1⟩ := rel_lit1 hcs
  unfold AV.relL at h1
  subst h1
  have hpl := hF1 p rfl
  have hcell : w.cell? ⟨p, 0, none⟩ = some (.map (some m)) := by simp [World.cell?, hp]
  obtain ⟨D, hown, hS⟩ := (show SetM w m S from hs)
  obtain ⟨hperm, hsz⟩ := size_of hown hS hR.asc hR.wf hi.mem
  have hfl := List.length_filter_le S R
  have hRl := hR.len
  have hmax : Maps.size D ≤ maxLen := by rw [hsz]; unfold maxLen; omega
  have hbytes : Maps.size D * 8 ≤ 140737488355328 := by rw [hsz]; omega
  have hseq : SeqGives Fence.wide 2 Try.prog 83 #[.pointer (some ⟨p, 0, none⟩)] encZ (fun ss => ss.Perm (intKeys D)) (Maps.size D) w :=
    AnyZI.keys_gives (ρ := Try.keysK_ren) { Try.keysK with } Fence.wide _ trivial rfl (by omega) p m (Maps.size D) D _ hpl hcell hown
  have cS := AnyZI.sorted_in Try.sortedM Fence.wide 5 trivial trivial trivial trivial rfl (by omega) (sortsM _) (enters_of Try.func46 (by kernel_rfl) rfl) 83 #[.pointer (some ⟨p, 0, none⟩)] trivial (enters_of Try.func83 (by kernel_rfl) rfl) _ _ hmax hbytes _ hseq
  change CallsIn _ _ Try.prog 41 _ _ _ at cS
  refine ((callsIn_wide (n := 5)).1 cS).mono ?_
  rintro e w' ⟨v, ss, rfl, hSp, hrow, hnil, hb⟩
  have hp2 : ss.Perm (R.filter S) := hSp.trans hperm
  have he : (ss.mergeSort fun x y => decide (x ≤ y)) = R.filter S :=
    asc_ext (asc_sort (hp2.nodup_iff.2 (hR.asc.filter S).nodup)) (hR.asc.filter S) (fun x => ((List.mergeSort_perm ss _).mem_iff).trans hp2.mem_iff)
  have hrow2 : w'.ownsRow w.heap.size 3 1 v ss.length ((ss.mergeSort (fun x y => decide (x ≤ y))).map encZ) := hrow
  rw [he] at hrow2
  have hO : OwnI w' w.heap.size v (R.filter S) := .of hrow2 hp2.length_eq rfl
  refine ⟨v, rfl, hb, fun k => T k ∨ v.ownBlock = some k, fun _ h => .inl h, fun k hk => ?_, fun k hk => ?_, ?_⟩
  · rcases hk with hk | hk
    · exact .inl hk
    · exact .inr (hO.lt k hk).1
  · rcases hk with hk | hk
    · exact Nat.lt_of_lt_of_le (hT k hk) hb.size
    · exact (hO.lt k hk).2
  · unfold AV.rel
    exact tInt.slice.keepS (own_intsS hO fun x hx => hR.wf x (List.mem_filter.1 hx).1) (fun _ _ => rfl) fun k hk => .inr hk
end Mu
end
section
/-
  A set of pairs that the call makes, as a map keyed by pairs.
  Conditions: none; the types' numbers are this translation's.
-/
namespace Mu
open Go Go.RowKit Go.Proofs Go.Maps Go.Shelf

def encP (x : Pair) : Value := .agg #[.int .i64 x.a, .int .i64 x.b]
def litP (x : Pair) : Lit := .string (keyBytes [.int .i64 x.a, .int .i64 x.b])
set_option maxRecDepth 100000 in
theorem keyP : Keyed Try.prog 34 := Keyed.of_law (deep_law (m := 2) (Nat.le_of_ble_eq_true rfl) (by kernel_rfl) (by kernel_rfl) (by kernel_rfl))
theorem cellsP : Try.prog.cellsOf 34 = 2 := by kernel_rfl
theorem cellsI : Try.prog.cellsOf 3 = 1 := by kernel_rfl
theorem keyI_lits {n : Nat} {v : Value} {L : List Lit} : Try.prog.keyLits (n + 1) 3 [v] = some L ↔ ∃ a, v = .int .i64 a ∧ (Lit.int .i64 a).wf = true ∧ L = [.int .i64 a] := by
  unfold Program.keyLits
  rw [Try.underlying3]
  constructor
  · intro h
    cases v <;> simp only [reduceCtorEq] at h
    rename_i k a
    split at h
    · rename_i hc
      obtain ⟨rfl, hw⟩ := hc
      exact ⟨a, rfl, hw, (Option.some.inj h).symm⟩
    · cases h
  · rintro ⟨a, rfl, hw, rfl⟩
    simp [hw]
set_option maxRecDepth 100000 in
theorem keyP_lits {n : Nat} {vs : List Value} {L : List Lit} (h : Try.prog.keyLits (n + 2) 34 vs = some L) : ∃ a b, vs = [.int .i64 a, .int .i64 b] ∧ (Lit.int .i64 a).wf = true ∧ (Lit.int .i64 b).wf = true ∧ L = [.int .i64 a, .int .i64 b] := by
  rw [show n + 2 = (n + 1) + 1 from rfl] at h
  unfold Program.keyLits at h
  rw [Try.underlying34] at h
  simp only [cellsP] at h
  split at h
  · rename_i hc
    obtain ⟨hl, _⟩ := hc
    match vs, hl with
    | [u, v], _ =>
      simp [cellsI] at h
      cases h1 : Try.prog.keyLits (n + 1) 3 [u] with
      | none => rw [h1] at h; simp at h
      | some l1 =>
        cases h2 : Try.prog.keyLits (n + 1) 3 [v] with
        | none => rw [h1, h2] at h; simp at h
        | some l2 =>
          obtain ⟨a, rfl, wa, rfl⟩ := keyI_lits.1 h1
          obtain ⟨b, rfl, wb, rfl⟩ := keyI_lits.1 h2
          rw [h1, h2] at h
          simp at h
          exact ⟨a, b, rfl, wa, wb, h.symm⟩
  · cases h
set_option maxRecDepth 100000 in
theorem keyP_lits_mk {n : Nat} {a b : Int} (ha : (Lit.int .i64 a).wf = true) (hb : (Lit.int .i64 b).wf = true) : Try.prog.keyLits (n + 2) 34 [.int .i64 a, .int .i64 b] = some [.int .i64 a, .int .i64 b] := by
  rw [show n + 2 = (n + 1) + 1 from rfl]
  unfold Program.keyLits
  rw [Try.underlying34]
  have h1 := (keyI_lits (n := n) (v := .int .i64 a)).2 ⟨a, rfl, ha, rfl⟩
  have h2 := (keyI_lits (n := n) (v := .int .i64 b)).2 ⟨b, rfl, hb, rfl⟩
  simp [cellsP, cellsI, h1, h2]
theorem typesE : Nat.ble 1 Try.prog.types.size = true := by kernel_rfl
theorem typesP : ∃ n, Try.prog.types.size + 1 = n + 2 := by
  have h := Nat.le_of_ble_eq_true typesE
  generalize Try.prog.types.size = m at h
  exact ⟨m - 1, by omega⟩
set_option maxRecDepth 100000 in
theorem keyP_inv {v : Value} {l : Lit} (h : keyOf Try.prog 34 v = some l) : ∃ x, okPair x ∧ v = encP x ∧ l = litP x := by
  obtain ⟨xs, L, rfl, h1, rfl⟩ := keyOf_top (by kernel_rfl) h
  obtain ⟨n, hn⟩ := typesP
  rw [hn] at h1
  obtain ⟨a, b, e, wa, wb, rfl⟩ := keyP_lits h1
  refine ⟨⟨a, b⟩, ⟨wa, wb⟩, ?_, rfl⟩
  have e2 : xs = #[Value.int .i64 a, Value.int .i64 b] := Array.toList_inj.1 e
  rw [e2]
  rfl
set_option maxRecDepth 100000 in
theorem keyP_mk {x : Pair} (h : okPair x) : keyOf Try.prog 34 (encP x) = some (litP x) := by
  obtain ⟨n, hn⟩ := typesP
  have hk : Try.prog.keyType 34 = true := by kernel_rfl
  have hf : (encP x).formed Try.prog 34 = true := by
    unfold encP Value.formed
    rw [Try.underlying34]
    simp [cellsP]
  unfold keyOf
  rw [Try.underlying34]
  simp only [hk, hf, Bool.and_self, if_true]
  rw [hn]
  show (Try.prog.keyLits (n + 2) 34 [.int .i64 x.a, .int .i64 x.b]).map _ = _
  rw [keyP_lits_mk h.a h.b]
  rfl
theorem litP_inj {x y : Pair} (hx : okPair x) (hy : okPair y) (h : litP x = litP y) : x = y := by
  have h1 := keyP_mk hx
  rw [h, ← keyP_mk hy] at h1
  have h2 := keyP.inj (h1.trans (keyP_mk hy)) (keyP_mk hy)
  have h3 : x.a = y.a ∧ x.b = y.b := by
    clear h h1
    unfold encP at h2
    simpa using h2
  cases x; cases y
  exact congr (congrArg Pair.mk h3.1) h3.2
end Mu
end
section
/-
  Sets of pairs of registers as maps of the call's own: made, put into, gone over in an order that nobody knows.
  Conditions: the registers lie in a rising row.
-/
namespace Mu
open Go Go.RowKit Go.Proofs Go.Maps Go.Shelf

theorem nodup_leG {α : Type} [DecidableEq α] : ∀ {l m : List α}, l.Nodup → (∀ x ∈ l, x ∈ m) → l.length ≤ m.length
  | [], _, _, _ => Nat.zero_le _
  | x :: l, m, hn, h => by
    have hn := List.nodup_cons.1 hn
    have hx := h x (by simp)
    have := nodup_leG (m := m.erase x) hn.2 fun y hy => (List.mem_erase_of_ne (fun e => hn.1 (by subst e; exact hy))).2 (h y (by simp [hy]))
    rw [List.length_erase_of_mem hx] at this
    have := List.length_pos_of_mem hx
    simp only [List.length_cons]
    omega
instance inMuPairS1 : DecidableEq Pair := fun x y => decidable_of_iff (x.a = y.a ∧ x.b = y.b) ⟨fun ⟨h1, h2⟩ => by cases x; cases y; simp_all, fun h => by subst h; exact ⟨rfl, rfl⟩⟩
/-- all pairs of a row's, rising -/
def pairsOf : List Int → List Pair
  | [] => []
  | a :: R => R.map (fun b => ⟨a, b⟩) ++ pairsOf R
def SetP (w : World) (b : Nat) (S : Pair → Bool) : Prop := ∃ (D : DataW Unit), w.ownsMap Try.prog 34 (plainElem Try.prog 3) b (Maps.size D) D ∧ ∀ x, okPair x → has D (litP x) = S x
theorem ownP_exact {w : World} {b n : Nat} {D : DataW Unit} (h : w.ownsMap Try.prog 34 (plainElem Try.prog 3) b n D) : w.ownsMap Try.prog 34 (plainElem Try.prog 3) b (Maps.size D) D := by
  obtain ⟨es, clock, h1, h2, h3, rfl⟩ := h
  refine ⟨es, clock, h1, h2, ?_, rfl⟩
  rw [size_eq, length_read]
  exact Nat.le_refl _
theorem SetP.lt {w : World} {b : Nat} {S : Pair → Bool} (h : SetP w b S) : b < w.heap.size := by
  obtain ⟨D, h1, _⟩ := h
  exact h1.lt
theorem SetP.keep {w w' : World} {b : Nat} {S : Pair → Bool} (h : SetP w b S) (hk : w'.heap[b]? = w.heap[b]?) : SetP w' b S := by
  obtain ⟨D, ⟨es, clock, h1, h2⟩, h3⟩ := h
  exact ⟨D, ⟨es, clock, hk.trans h1, h2⟩, h3⟩
/-- how many a set has -/
theorem setP_size {w : World} {b n : Nat} {D : DataW Unit} {S : Pair → Bool} {L : List Pair} (h : w.ownsMap Try.prog 34 (plainElem Try.prog 3) b n D) (hS : ∀ x, okPair x → has D (litP x) = S x) (hL : ∀ x, okPair x → S x = true → x ∈ L) : Maps.size D ≤ L.length := by
  obtain ⟨es, rfl, hpw, _⟩ := h.entries keyP
  obtain ⟨es', hD', hko⟩ := h.keysOf
  obtain rfl : es = es' := by simpa using hD'
  haveI : DecidableEq Lit := fun a b => Classical.propDecidable (a = b)
  suffices hle : (es.map fun p => p.1).length ≤ (L.map litP).length by simpa [size_eq] using hle
  refine nodup_leG (List.pairwise_map.2 hpw) fun l hl => ?_
  obtain ⟨p, hp, rfl⟩ := List.mem_map.1 hl
  obtain ⟨v, hv⟩ := hko p hp
  obtain ⟨x, hx, _, e⟩ := keyP_inv hv
  refine List.mem_map.2 ⟨x, hL x hx ?_, e.symm⟩
  rw [← hS x hx, has_eq]
  exact List.any_eq_true.2 ⟨p, hp, by rw [← e]; exact WideAt.sameKey_self (keyP.key hv)⟩
def addP (S : Pair → Bool) (y : Pair) : Pair → Bool := fun x => S x || decide (x = y)
theorem SetP.put {w w1 : World} {b n : Nat} {S : Pair → Bool} {D : DataW Unit} {d : DataW Unit} {y : Pair} (hy : okPair y) (hown : w.ownsMap Try.prog 34 (plainElem Try.prog 3) b n D) (hS : ∀ x, okPair x → has D (litP x) = S x)
    (h1 : w1.ownsMap Try.prog 34 (plainElem Try.prog 3) b (n + 1) (D.put (litP y) d)) : SetP w1 b (addP S y) := by
  refine ⟨_, ownP_exact h1, fun x hx => ?_⟩
  by_cases e : x = y
  · subst e
    rw [has_put_same hown.isMap (keyP.key (keyP_mk hx))]
    simp [addP]
  · rw [has_put_other (fun h => e (litP_inj hx hy h)), hS x hx]
    simp [addP, e]
def pairR (S : Pair → Bool) (m : Nat) : Res := ⟨[], fun g => g = m, fun w _ => SetP w m S, fun h hk _ _ => h.keep (hk m rfl)⟩
section
variable {C : Ctx} {t : List AV} {h : List ABlk} {o : Oper}
theorem AOp.putP {ty : TypeId} {x y z : Operand} (i : Nat) {m : Nat} {S : Pair → Bool} {L : List Pair} {q : Pair} {K : St → Prop} (ho : o.op = .mapUpdate ty x y z) (hty : Try.prog.underlying ty = some (.map 34 3)) (hi : h[i]? = some (.res (pairR S m)))
    (hx : evA t x = .lit (.map (some m))) (hy : evA t y = .agg (encPair q)) (hz : evA t z = .lit (.int .i64 1)) (hL : ∀ x, okPair x → S x = true → x ∈ L) (hl : L.length < maxLen) (hq : okPair q) (hK : K ⟨putA t o.dst (.lit undef), h.set i (.res (pairR (addP S q) m))⟩) : AOp Try.prog C o ⟨t, h⟩ K := by
  refine AOp.turn (ι := Unit) (Rs := fun _ => pairR (addP S q) m) (val := fun _ => undef) hi (fun _ => rfl) (fun T ψ w ρ H hRw hlt hρ => ?_) (fun _ => hK)
  have h1 := hρ x (by simp [ho, Op.operands])
  have h2 := hρ y (by simp [ho, Op.operands])
  have h3 := hρ z (by simp [ho, Op.operands])
  rw [hx] at h1
  rw [hy] at h2
  rw [hz] at h3
  unfold AV.rel at h1 h2 h3
  obtain ⟨cs, h2, hcs⟩ := h2
  obtain ⟨rfl, _⟩ := tPair_R.1 (put_Pair hq hcs)
  have h2 : ρ y = encP q := h2
  obtain ⟨D, hown, hD⟩ := (show SetP w m S from hRw)
  have hsz := setP_size hown hD hL
  obtain ⟨w', hrun, hown', hg⟩ := hown.update keyP hty (by omega) (keyP_mk hq) (plainElem_int Try.underlying3 one_wf)
  have hs' := SetP.put hq hown hD hown'
  have e : (execOp ρ o).run Try.prog w = .ok .skip w' ∨ (execOp ρ o).run Try.prog w = .ok (.value undef) w' := by
    simp [execOp, ho, h1, h2, h3, hrun, Result.andThen]
  have hT : Turns w T (pairR S m).F (fun _ : Unit => pairR (addP S q) m) (fun _ => undef) undef w' :=
    ⟨Gr.of_grownBy hg |> fun G => ⟨G.os, G.tape, G.output, G.size, fun k hk hn => G.block k hk fun e => hn (by cases e; rfl)⟩, (), rfl, hs', fun k hk => ⟨.inl hk, by
      have hk : k = m := hk
      subst hk
      exact hs'.lt⟩⟩
  rcases e with e | e
  · rw [e]; exact hT
  · rw [e]; exact hT
end
end Mu
end
section
/-
  A set of pairs is gone over: in an order that nobody knows.
  Conditions: none.
-/
namespace Mu
open Go Go.RowKit Go.Proofs Go.Maps Go.Shelf

/-- the pairs ks of a set were given -/
def RngP (w : World) (m r : Nat) (S : Pair → Bool) (ks : List Pair) : Prop := ∃ (D : DataW Unit) (left : Lit → Bool) (cnt : Nat),
  w.ranges Try.prog 34 (plainElem Try.prog 3) m r (Maps.size D) D left cnt ∧ (∀ x, okPair x → has D (litP x) = S x) ∧ (∀ x, okPair x → left (litP x) = (S x && !ks.contains x)) ∧ (∀ x ∈ ks, okPair x ∧ S x = true) ∧ ks.Nodup
/-- .. and q, with c, is the one that is at hand -/
def AtP (w : World) (r : Nat) (q : Pair) (c : Int) : Prop := (Instr.entry (.pointer (some ⟨r, 0, none⟩))).run Try.prog w = .ok (.tuple #[encP q, .int .i64 c]) w
theorem ranges_keep {H : Type} {P : Program} {k : TypeId} {R : Value → Option (DataW H × List MemPlace)} {w w' : World} {b r n : Nat} {D : DataW H} {left : Lit → Bool} {cnt : Nat} (h : w.ranges P k R b r n D left cnt) (hb : w'.heap[b]? = w.heap[b]?) (hr : w'.heap[r]? = w.heap[r]?) : w'.ranges P k R b r n D left cnt := by
  obtain ⟨es, clock, since, seen, c0, h1, F, hs, hD, h2, rest⟩ := h
  exact ⟨es, clock, since, seen, c0, hb.trans h1, F, hs, hD, hr.trans h2, rest⟩
theorem RngP.keep {w w' : World} {m r : Nat} {S : Pair → Bool} {ks : List Pair} (h : RngP w m r S ks) (hb : w'.heap[m]? = w.heap[m]?) (hr : w'.heap[r]? = w.heap[r]?) : RngP w' m r S ks := by
  obtain ⟨D, left, cnt, h1, h2⟩ := h
  exact ⟨D, left, cnt, ranges_keep h1 hb hr, h2⟩
theorem AtP.keep {w w' : World} {m r : Nat} {S : Pair → Bool} {ks : List Pair} {q : Pair} {c : Int} (h : RngP w m r S ks) (ha : AtP w r q c) (hb : w'.heap[m]? = w.heap[m]?) (hr : w'.heap[r]? = w.heap[r]?) : AtP w' r q c := by
  obtain ⟨D, left, cnt, ⟨es, clock, since, seen, c0, h1, _, _, _, h2, _⟩, _⟩ := h
  unfold AtP at ha ⊢
  have e1 : (getObj r).run Try.prog w = .ok (.mapIter (some m) since seen c0) w := by simp [getObj, Sem.run, h2]
  have e2 : (getObj m).run Try.prog w = .ok (.map es clock) w := by simp [getObj, Sem.run, h1]
  have e3 : (getObj r).run Try.prog w' = .ok (.mapIter (some m) since seen c0) w' := by simp [getObj, Sem.run, hr, h2]
  have e4 : (getObj m).run Try.prog w' = .ok (.map es clock) w' := by simp [getObj, Sem.run, hb, h1]
  unfold Instr.entry at ha ⊢
  simp only [Sem.run_bind, e1, e3, Result.andThen_ok] at ha ⊢
  cases hs : seen.back? with
  | none => rw [hs] at ha; simp [stuck] at ha
  | some stamp =>
    rw [hs] at ha
    simp only [Sem.run_bind, e2, e4, Result.andThen_ok] at ha ⊢
    by_cases hc : clock != c0
    · simp [hc, unsupported] at ha
    · cases hf : es.find? (fun x => x.born == stamp) with
      | none => simp [hc, hf, unsupported] at ha
      | some e =>
        simp [hc, hf] at ha ⊢
        exact ha
def rngR (S : Pair → Bool) (ks : List Pair) (m r : Nat) : Res := ⟨[], fun g => g = m ∨ g = r, fun w _ => RngP w m r S ks, fun h hk _ _ => h.keep (hk m (.inl rfl)) (hk r (.inr rfl))⟩
def atR (S : Pair → Bool) (ks : List Pair) (q : Pair) (c : Int) (m r : Nat) : Res := ⟨[], fun g => g = m ∨ g = r, fun w _ => RngP w m r S ks ∧ AtP w r q c, fun h hk _ _ => ⟨h.1.keep (hk m (.inl rfl)) (hk r (.inr rfl)), AtP.keep h.1 h.2 (hk m (.inl rfl)) (hk r (.inr rfl))⟩⟩
section
variable {C : Ctx} {t : List AV} {h : List ABlk} {o : Oper}
theorem AOp.rangeP {ty : TypeId} {x : Operand} (i : Nat) {m : Nat} {S : Pair → Bool} {K : St → Prop} (ho : o.op = .range ty x) (hty : Try.prog.underlying ty = some (.map 34 3)) (hi : h[i]? = some (.res (pairR S m)))
    (hx : evA t x = .lit (.map (some m))) (hK : ∀ r, K ⟨putA t o.dst (.lit (.pointer (some ⟨r, 0, none⟩))), h.set i (.res (rngR S [] m r))⟩) : AOp Try.prog C o ⟨t, h⟩ K := by
  refine AOp.turn (ι := Nat) (Rs := fun r => rngR S [] m r) (val := fun r => .pointer (some ⟨r, 0, none⟩)) hi (fun _ => rfl) (fun T ψ w ρ H hRw hlt hρ => ?_) hK
  have h1 := hρ x (by simp [ho, Op.operands])
  rw [hx] at h1
  unfold AV.rel at h1
  obtain ⟨D, hown, hD⟩ := (show SetP w m S from hRw)
  obtain ⟨w', hrun, hr, hg, hsz⟩ := hown.range keyP hty
  have e : (execOp ρ o).run Try.prog w = .ok (.value (.pointer (some ⟨w.heap.size, 0, none⟩))) w' := by
    simp [execOp, ho, h1, hrun, Result.andThen]
  rw [e]
  have hm := hown.lt
  refine ⟨Gr.of_grownBy hg |> fun G => ⟨G.os, G.tape, G.output, G.size, fun k hk hn => G.block k hk fun e => by cases e⟩, w.heap.size, rfl, ⟨D, _, _, hr, hD, fun x hx => by simp [hD x hx], (fun _ hx => by cases hx), List.nodup_nil⟩, fun k hk => ?_⟩
  rcases (show k = m ∨ k = w.heap.size from hk) with rfl | rfl
  · exact ⟨.inl rfl, by omega⟩
  · exact ⟨.inr (Nat.le_refl _), by omega⟩
theorem AOp.nextP {x : Operand} (i : Nat) {m r : Nat} {S : Pair → Bool} {ks : List Pair} {K : St → Prop} (ho : o.op = .next x false) (hi : h[i]? = some (.res (rngR S ks m r)))
    (hx : evA t x = .lit (.pointer (some ⟨r, 0, none⟩))) (hK0 : (∀ x, okPair x → S x = true → x ∈ ks) → K ⟨putA t o.dst (.lit (.tuple #[.bool false])), h.set i (.res (rngR S ks m r))⟩)
    (hK1 : ∀ q c, okPair q → S q = true → q ∉ ks → K ⟨putA t o.dst (.lit (.tuple #[.bool true, encP q, .int .i64 c])), h.set i (.res (atR S (ks ++ [q]) q c m r))⟩) : AOp Try.prog C o ⟨t, h⟩ K := by
  refine AOp.turn (ι := {p : Option (Pair × Int) // match p with | none => ∀ x, okPair x → S x = true → x ∈ ks | some (q, _) => okPair q ∧ S q = true ∧ q ∉ ks})
    (Rs := fun p => match p.1 with | none => rngR S ks m r | some (q, c) => atR S (ks ++ [q]) q c m r) (val := fun p => match p.1 with | none => .tuple #[.bool false] | some (q, c) => .tuple #[.bool true, encP q, .int .i64 c]) hi ?_ (fun T ψ w ρ H hRw hlt hρ => ?_) ?_
  · rintro ⟨_ | ⟨q, c⟩, hp⟩ <;> rfl
  · have h1 := hρ x (by simp [ho, Op.operands])
    rw [hx] at h1
    unfold AV.rel at h1
    obtain ⟨D, left, cnt, hr, hD, hl, hks, hnd⟩ := (show RngP w m r S ks from hRw)
    have hm := hr.owns.lt
    have hrl := hr.lt
    rcases hr.next keyP o.type with ⟨_, hno, hrun⟩ | ⟨key, v, kl, y, w', cnt', hkey, hleft, hv, _, hrun, hr', _, hg, hsz, hent⟩
    · have e : (execOp ρ o).run Try.prog w = .ok (.value (.tuple #[.bool false])) w := by
        simp [execOp, ho, h1, hrun, Result.andThen]
      rw [e]
      refine ⟨⟨rfl, rfl, rfl, Nat.le_refl _, fun _ _ _ => rfl⟩, ⟨none, fun x hx hs => ?_⟩, rfl, hRw, fun k hk => ⟨.inl hk, ?_⟩⟩
      · have := hl x hx
        rw [hno, hs] at this
        simpa using this
      · rcases (show k = m ∨ k = r from hk) with rfl | rfl
        · exact hm
        · exact hrl
    · obtain ⟨q, hq, rfl, rfl⟩ := keyP_inv hkey
      obtain ⟨c, rfl, _⟩ := plainElem_int_inv Try.underlying3 hv
      have hlq := hl q hq
      rw [hleft] at hlq
      have hlq : S q = true ∧ q ∉ ks := by simpa using hlq.symm
      have e : (execOp ρ o).run Try.prog w = .ok (.value (.tuple #[.bool true, encP q, .int .i64 c])) w' := by
        simp [execOp, ho, h1, hrun, Result.andThen]
      rw [e]
      refine ⟨Gr.of_grownBy hg |> fun G => ⟨G.os, G.tape, G.output, G.size, fun k hk hn => G.block k hk fun e => hn (by cases e; exact .inr rfl)⟩, ⟨some (q, c), hq, hlq.1, hlq.2⟩, rfl, ⟨⟨D, _, _, hr', hD, fun x hx => ?_, fun x hx => ?_, ?_⟩, hent⟩, fun k hk => ⟨.inl hk, ?_⟩⟩
      · rw [hl x hx]
        by_cases hxq : x = q
        · subst hxq
          rw [WideAt.sameKey_self (keyP.key hkey)]
          simp
        · have hs : (litP x).sameKey (litP q) = false := Maps.sameKey_ne fun e => hxq (litP_inj hx hq e)
          rw [hs]
          simp [hxq]
      · rcases List.mem_append.1 hx with hx | hx
        · exact hks x hx
        · simp only [List.mem_cons, List.not_mem_nil, or_false] at hx
          subst hx
          exact ⟨hq, hlq.1⟩
      · rw [List.nodup_append]
        exact ⟨hnd, by simp, fun a ha b hb => by
          simp only [List.mem_cons, List.not_mem_nil, or_false] at hb
          subst hb
          intro e
          subst e
          exact hlq.2 ha⟩
      · rcases (show k = m ∨ k = r from hk) with rfl | rfl <;> omega
  · rintro ⟨_ | ⟨q, c⟩, hp⟩
    · exact hK0 hp
    · exact hK1 q c hp.1 hp.2.1 hp.2.2
theorem Quiet.entryP {x : Operand} (i : Nat) {m r : Nat} {S : Pair → Bool} {ks : List Pair} {q : Pair} {c : Int} (ho : o.op = .entry x) (hi : h[i]? = some (.res (atR S ks q c m r))) (hx : evA t x = .lit (.pointer (some ⟨r, 0, none⟩))) :
    Quiet Try.prog C t h o (.tup [.agg (encPair q), .lit (.int .i64 c)]) :=
  Quiet.of_run fun S' ψ w ρ H hρ => by
    have h1 := hρ x (by simp [ho, Op.operands])
    rw [hx] at h1
    unfold AV.rel at h1
    obtain ⟨_, ha⟩ := (show RngP w m r S ks ∧ AtP w r q c from (H.blk i _ hi).2)
    refine ⟨.tuple #[encP q, .int .i64 c], by simp [execOp, ho, h1, (show _ = _ from ha), Result.andThen], ?_⟩
    simp only [AV.rel, AV.relL, encPair]
    exact ⟨[encP q, .int .i64 c], rfl, _, _, rfl, ⟨[.int .i64 q.a, .int .i64 q.b], rfl, _, _, rfl, rfl, _, _, rfl, rfl, rfl⟩, _, _, rfl, rfl, rfl⟩
end
end Mu
end
section
/-
  inter.Cross, walked: which registers cross a call or a yield.
  Conditions: at most 2^21 of everything.
-/
namespace Mu
open Go Go.RowKit Go.Proofs Go.Maps
instance inMuCross1 : AG Try.prog 57 false 1 := ⟨by kernel_rfl⟩
instance inMuCross2 : SZ Try.prog 57 1 := ⟨by kernel_rfl⟩
instance inMuCross3 : ZC Try.prog 57 [.map none] := ⟨by kernel_rfl⟩

/-- the registers that cross an instruction -/
def crossA (q : Ins × List Int) : List Int := if q.1.op != 5 && q.1.op != 7 then [] else q.2.filter fun r => q.1.op == 7 || r != q.1.d
def crossK (f : Func) (k : Nat) : Int → Bool := addL (fun _ => false) (((stepsL f).take k).flatMap crossA)
def crossL (f : Func) : List Int := (regsL f).filter (crossK f (stepsL f).length)
theorem addL_append (S : Int → Bool) (l m : List Int) : addL S (l ++ m) = addL (addL S l) m := by
  funext x
  simp only [addL, List.contains_eq_mem, List.mem_append, Bool.decide_or, Bool.or_assoc]
theorem crossK_succ {f : Func} {k : Nat} {q : Ins × List Int} (h : (stepsL f)[k]? = some q) : crossK f (k + 1) = addL (crossK f k) (crossA q) := by
  unfold crossK
  rw [List.take_add_one, h, Option.toList_some, List.flatMap_append, addL_append]
  simp
theorem stepsL_mem {f : Func} {q : Ins × List Int} (h : q ∈ stepsL f) : (∃ b ∈ f.blocks, q.1 ∈ b.ins) ∧ (∀ r ∈ q.2, r ∈ regsL f) ∧ q.2.length ≤ (regsL f).length := by
  unfold stepsL at h
  obtain ⟨b, hb, hq⟩ := List.mem_flatMap.1 h
  have hb := List.mem_range.1 hb
  unfold stepsB at hq
  have h1 := (List.of_mem_zip (a := q.1) (b := q.2) hq)
  obtain ⟨bl, hbl⟩ : ∃ bl, f.blocks[b]? = some bl := ⟨_, List.getElem?_eq_getElem hb⟩
  have hins : insOf f b = bl.ins := by unfold insOf; rw [hbl]
  have h2 := List.mem_of_mem_drop h1.2
  unfold blockL at h2
  obtain ⟨i, _, e⟩ := List.mem_map.1 h2
  refine ⟨⟨bl, List.mem_of_getElem? hbl, by rw [← hins]; exact h1.1⟩, fun r hr => ?_, by rw [← e]; exact List.length_filter_le _ _⟩
  rw [← e] at hr
  unfold placeL at hr
  exact (List.mem_filter.1 hr).1
theorem crossA_sub {q : Ins × List Int} {L : List Int} (h : ∀ r ∈ q.2, r ∈ L) : ∀ r ∈ crossA q, r ∈ L := fun r hr => by
  unfold crossA at hr
  split at hr
  · cases hr
  · exact h r (List.mem_filter.1 hr).1
theorem crossK_in (f : Func) (k : Nat) : InR (regsL f) (crossK f k) := ⟨fun x _ hx => by
  unfold crossK addL at hx
  simp only [Bool.false_or, List.contains_iff_mem] at hx
  obtain ⟨q, hq, hx⟩ := List.mem_flatMap.1 hx
  exact crossA_sub (stepsL_mem (List.mem_of_mem_take hq)).2.1 x hx⟩
/-- so many of a row have been looked at -/
def crossI (S : Int → Bool) (q : Ins × List Int) (i : Nat) : Int → Bool := addL S ((q.2.take i).filter fun r => q.1.op == 7 || r != q.1.d)
theorem crossI_zero (S : Int → Bool) (q : Ins × List Int) : crossI S q 0 = S := by
  unfold crossI
  rw [List.take_zero, List.filter_nil, addL_nil]
theorem crossI_yes {S : Int → Bool} {q : Ins × List Int} {i : Nat} {r : Int} (h : q.2[i]? = some r) (hq : (q.1.op == 7 || r != q.1.d) = true) : crossI S q (i + 1) = addS (crossI S q i) r := by
  unfold crossI
  rw [List.take_add_one, h, Option.toList_some, List.filter_append, List.filter_cons, hq, List.filter_nil]
  simp only [if_true]
  exact addL_snoc _ _ _
theorem crossI_no {S : Int → Bool} {q : Ins × List Int} {i : Nat} {r : Int} (h : q.2[i]? = some r) (hq : (q.1.op == 7 || r != q.1.d) = false) : crossI S q (i + 1) = crossI S q i := by
  unfold crossI
  rw [List.take_add_one, h, Option.toList_some, List.filter_append, List.filter_cons, hq, List.filter_nil]
  simp
theorem crossI_in {S : Int → Bool} {q : Ins × List Int} {L : List Int} (h : InR L S) (hq : ∀ r ∈ q.2, r ∈ L) (i : Nat) : InR L (crossI S q i) := h.addL fun r hr => hq r (List.mem_of_mem_take (List.mem_filter.1 hr).1)

set_option maxRecDepth 100000 in
set_option maxHeartbeats 4000000 in
theorem cross_fn (f : Func) (ho : okFunc f) (hs : smallF f) (hT : (allReads f).length ≤ 2097152) (hi1 : ∀ b ∈ f.blocks, b.ins.length + 1 ≤ 2097152) : Fn Try.prog 11 [.agg (encFunc f)] (.bs tInt (crossL f)) := by
  have hbl := hs.blocks
  have hRR := regsR_of f ho hT
  have hLl : (regsL f).length ≤ 2097152 := Nat.le_trans (regsOf_le _) hT
  refine Fn.of_awpM Try.func11 rfl (by kernel_rfl) rfl Try.ntmps11 fun C hC hrd => ?_
  simp only [List.length_cons, List.length_nil, Nat.reduceAdd, Nat.reduceSub, List.replicate_succ, List.replicate_zero, List.cons_append, List.nil_append]
  refine Awp.seq fun K1 h1 => ?_
  (refine Awp.region ?_; (repeat (first | refine sQ (hq := Quiet.pickOr rfl rfl rfl rfl) (hk := ?_) | refine sQ (hq := Quiet.pickAnd rfl rfl rfl rfl) (hk := ?_) | refine sQ (hk := ?_) | refine sSkip (hk := ?_) | refine sG (hk := ?_) | refine sOwn (hk := ?_))); refine aSeq_nil ?_)
  refine h1 _ ?_
  refine nT (hk := ?_)
  refine Awp.seq fun K2 h2 => ?_
  (refine Awp.region ?_; (repeat (first | refine sQ (hq := Quiet.pickOr rfl rfl rfl rfl) (hk := ?_) | refine sQ (hq := Quiet.pickAnd rfl rfl rfl rfl) (hk := ?_) | refine sQ (hk := ?_) | refine sSkip (hk := ?_) | refine sG (hk := ?_) | refine sOwn (hk := ?_))))
  refine aSeq_t rfl (AOp.mkMap rfl fun m => ?_)
  refine sNt (hk := ?_)
  (repeat (first | refine sQ (hq := Quiet.pickOr rfl rfl rfl rfl) (hk := ?_) | refine sQ (hq := Quiet.pickAnd rfl rfl rfl rfl) (hk := ?_) | refine sQ (hk := ?_) | refine sSkip (hk := ?_) | refine sG (hk := ?_) | refine sOwn (hk := ?_)))
  refine aSeq_nil ?_
  refine h2 _ ?_
  refine nT (hk := ?_)
  refine Awp.open_box 3 rfl rfl rfl (fun g => [.agg (encFunc f), .ptr 1 0, .any, .lit (.pointer (some ⟨g, 0, none⟩)), .any, .any, .any, .any, .lit (.map (some m)), .any, .any, .any, .any, .any, .any, .any, .any, .any, .any, .any, .any, .any, .any, .any, .any, .any, .any, .any, .any, .any, .any, .any, .any, .any, .any, .any, .any, .any, .any, .any, .any, .any]) (fun g => (by (repeat (first | exact OpnB.nil | refine OpnB.ptr ?_ | refine OpnB.any ?_ | refine OpnB.keep rfl ?_)))) fun g3 => ?_
  refine Awp.seq fun K3 h3 => ?_
  refine Awp.seq fun K4 h4 => ?_
  (refine Awp.region ?_; (repeat (first | refine sQ (hq := Quiet.pickOr rfl rfl rfl rfl) (hk := ?_) | refine sQ (hq := Quiet.pickAnd rfl rfl rfl rfl) (hk := ?_) | refine sQ (hk := ?_) | refine sSkip (hk := ?_) | refine sG (hk := ?_) | refine sOwn (hk := ?_))))
  refine aSeq_t rfl (AOp.callNew rfl (steps_new f) (fun _ => rfl) rfl rfl fun p => ?_)
  refine sNt (hk := ?_)
  refine aSeq_nil ?_
  refine h4 _ ?_
  refine nT (hk := ?_)
  refine Awp.block ?_
  refine Awp.via ⟨[.agg (encFunc f), .any, .any, .lit (.pointer (some ⟨g3, 0, none⟩)), .any, .any, .any, .any, .any, .any, .lit (stF p), .any, .any, .any, .any, .any, .any, .any, .any, .any, .any, .any, .any, .any, .any, .any, .any, .any, .any, .any, .any, .any, .any, .any, .any, .any, .any, .any, .any, .any, .any, .any], [.res (marksR []), .dead, .res (mapR (crossK f 0) m), .res (boxR g3 [.lit (.map (some m))]), .res (boxR p (encFunc f))]⟩ (le_C (.cons (.dead (.cons (.cons (.cons (Cut.nil _))))))) ?_
  refine Awp.rangeY 4 0 (fun k => [.dead, .dead, .res (mapR (crossK f k) m), .res (boxR g3 [.lit (.map (some m))]), .dead]) hrd (by kernel_rfl) (by decide) rfl rfl rfl ?hdrop rfl (fun _ => rfl) (fun _ => rfl) rfl (stE_cl f) (stE_len f) (steps_iter f ho hs hT hi1 p) ?hround ?hdone
  case hdrop =>
    exact ⟨Cut.dead (Cut.cons (Cut.cons (Cut.cons (Cut.dead (Cut.nil _))))), fun b hb => List.all_eq_true.1 (show bdH [.dead, .dead, .res (mapR (crossK f 0) m), .res (boxR g3 [.lit (.map (some m))]), .dead] = true from rfl) b hb⟩
  case hround =>
    intro k hk C' hr'
    obtain ⟨q, hq⟩ : ∃ q, (stepsL f)[k]? = some q := ⟨_, List.getElem?_eq_getElem hk⟩
    obtain ⟨⟨bl, hbm, hxb⟩, hqr, hql⟩ := stepsL_mem (List.mem_of_getElem? hq)
    have hox := (ho.blocks bl hbm).ins q.1 hxb
    have hcs := crossK_succ hq
    have hin := crossK_in f k
    dsimp only
    rw [stE_eq hq]
    generalize hS0 : crossK f k = S0 at hcs hin ⊢
    refine Awp.nt2 (t' := [.agg (encFunc f), .any, .any, .lit (.pointer (some ⟨g3, 0, none⟩)), .any, .any, .any, .any, .any, .any, .lit (stF p), .agg (encIns q.1), .bs tInt q.2, .any, .any, .any, .any, .any, .any, .any, .any, .any, .any, .any, .any, .any, .any, .any, .any, .any, .any, .any, .any, .any, .any, .any, .any, .any, .any, .any, .any, .any]) rfl rfl ?_
    refine Awp.seq fun K6 h6 => ?_
    (refine Awp.region ?_; (repeat (first | refine sQ (hq := Quiet.pickOr rfl rfl rfl rfl) (hk := ?_) | refine sQ (hq := Quiet.pickAnd rfl rfl rfl rfl) (hk := ?_) | refine sQ (hk := ?_) | refine sSkip (hk := ?_) | refine sG (hk := ?_) | refine sOwn (hk := ?_))); refine aSeq_nil ?_)
    refine h6 _ ?_
    refine nT (hk := ?_)
    (refine Awp.region ?_; (repeat (first | refine sQ (hq := Quiet.pickOr rfl rfl rfl rfl) (hk := ?_) | refine sQ (hq := Quiet.pickAnd rfl rfl rfl rfl) (hk := ?_) | refine sQ (hk := ?_) | refine sSkip (hk := ?_) | refine sG (hk := ?_) | refine sOwn (hk := ?_))); refine aSeq_nil ?_)
    refine athen_n fun C'' hr'' => ?_
    refine nT (hk := ?_)
    refine Awp.block ?_
    refine Awp.seq fun K8 h8 => ?_
    refine Awp.seq fun K9 h9 => ?_
    (refine Awp.region ?_; (repeat (first | refine sQ (hq := Quiet.pickOr rfl rfl rfl rfl) (hk := ?_) | refine sQ (hq := Quiet.pickAnd rfl rfl rfl rfl) (hk := ?_) | refine sQ (hk := ?_) | refine sSkip (hk := ?_) | refine sG (hk := ?_) | refine sOwn (hk := ?_))); refine aSeq_nil ?_)
    refine h9 _ ?_
    refine nT (hk := ?_)
    refine Awp.cond rfl (fun hb10 => ?_) (fun hb10 => ?_)
    · have e : crossA q = [] := by unfold crossA; rw [if_pos hb10]
      rw [hcs, e, addL_nil]
      refine Awp.exit ?_
      exact ⟨rfl, ⟨.cons (.cons (.cons (.cons (.cons (Cut.nil _))))), fun b hb => List.all_eq_true.1 (show bdH [.dead, .dead, .res (mapR S0 m), .res (boxR g3 [.lit (.map (some m))]), .dead] = true from rfl) b hb⟩⟩
    · have e : crossA q = q.2.filter fun r => q.1.op == 7 || r != q.1.d := by unfold crossA; rw [if_neg (by rw [hb10]; simp)]
      have hqi := fun i => crossI_in hin hqr i
      refine Awp.skip ?_
      refine h8 _ ?_
      refine nT (hk := ?_)
      refine Awp.seq fun K11 h11 => ?_
      (refine Awp.region ?_; (repeat (first | refine sQ (hq := Quiet.pickOr rfl rfl rfl rfl) (hk := ?_) | refine sQ (hq := Quiet.pickAnd rfl rfl rfl rfl) (hk := ?_) | refine sQ (hk := ?_) | refine sSkip (hk := ?_) | refine sG (hk := ?_) | refine sOwn (hk := ?_))); refine aSeq_nil ?_)
      refine h11 _ ?_
      refine nT (hk := ?_)
      refine Awp.block ?_
      refine Awp.loopF (fun i : Nat => ⟨[.any, .any, .any, .lit (.pointer (some ⟨g3, 0, none⟩)), .ptr 5 0, .any, .any, .any, .any, .any, .any, .any, .any, .any, .any, .any, .any, .any, .any, .any, .any, .bs tInt q.2, .lit (.int .i64 (q.2.length : Int)), .lit (.int .i64 (i : Int)), .any, .any, .any, .any, .any, .any, .any, .any, .any, .any, .any, .any, .any, .any, .any, .any, .any, .any], [.dead, .dead, .res (mapR (crossI S0 q i) m), .res (boxR g3 [.lit (.map (some m))]), .dead, .box (encIns q.1)]⟩) (fun i => i ≤ q.2.length) (fun i => q.2.length - i) 0 (Nat.zero_le _) (by rw [crossI_zero]; exact le_T) ?_
      intro i hi
      dsimp only at hi ⊢
      refine Awp.seq fun K13 h13 => ?_
      (refine Awp.region ?_; (repeat (first | refine sQ (hq := Quiet.pickOr rfl rfl rfl rfl) (hk := ?_) | refine sQ (hq := Quiet.pickAnd rfl rfl rfl rfl) (hk := ?_) | refine sQ (hk := ?_) | refine sSkip (hk := ?_) | refine sG (hk := ?_) | refine sOwn (hk := ?_))); refine aSeq_nil ?_)
      refine h13 _ ?_
      refine nT (hk := ?_)
      refine Awp.seq fun K14 h14 => ?_
      refine Awp.cond rfl (fun hb15 => ?_) (fun hb15 => ?_)
      · have hlt : i < q.2.length := by simpa using hb15
        obtain ⟨r, hr⟩ : ∃ r, q.2[i]? = some r := ⟨_, List.getElem?_eq_getElem hlt⟩
        have hrw := hRR.wf r (hqr r (List.mem_of_getElem? hr))
        refine Awp.skip ?_
        refine h14 _ ?_
        refine nT (hk := ?_)
        refine Awp.seq fun K16 h16 => ?_
        refine Awp.block ?_
        refine Awp.seq fun K17 h17 => ?_
        (refine Awp.region ?_; (repeat (first | refine sQ (hq := Quiet.pickOr rfl rfl rfl rfl) (hk := ?_) | refine sQ (hq := Quiet.pickAnd rfl rfl rfl rfl) (hk := ?_) | refine sQ (hk := ?_) | refine sSkip (hk := ?_) | refine sG (hk := ?_) | refine sOwn (hk := ?_))); refine aSeq_nil ?_)
        refine h17 _ ?_
        refine nT (hk := ?_)
        refine Awp.seq fun K18 h18 => ?_
        (refine Awp.region ?_; (repeat (first | refine sQ (hq := Quiet.pickOr rfl rfl rfl rfl) (hk := ?_) | refine sQ (hq := Quiet.pickAnd rfl rfl rfl rfl) (hk := ?_) | refine sQ (hk := ?_) | refine sSkip (hk := ?_) | refine sG (hk := ?_) | refine sOwn (hk := ?_))); refine aSeq_nil ?_)
        refine h18 _ ?_
        refine nT (hk := ?_)
        refine Awp.cond rfl (fun hb19 => ?_) (fun hb19 => ?_)
        · have e2 := crossI_yes (S := S0) hr hb19
          (refine Awp.region ?_; (repeat (first | refine sQ (hq := Quiet.pickOr rfl rfl rfl rfl) (hk := ?_) | refine sQ (hq := Quiet.pickAnd rfl rfl rfl rfl) (hk := ?_) | refine sQ (hk := ?_) | refine sSkip (hk := ?_) | refine sG (hk := ?_) | refine sOwn (hk := ?_))))
          refine aSeq_t rfl (AOp.putM 2 rfl Try.underlying57 rfl rfl rfl rfl hRR (hqi i) hrw ?_)
          refine sNt (hk := ?_)
          refine aSeq_nil ?_
          refine h16 _ ?_
          refine nT (hk := ?_)
          (refine Awp.region ?_; (repeat (first | refine sQ (hq := Quiet.pickOr rfl rfl rfl rfl) (hk := ?_) | refine sQ (hq := Quiet.pickAnd rfl rfl rfl rfl) (hk := ?_) | refine sQ (hk := ?_) | refine sSkip (hk := ?_) | refine sG (hk := ?_) | refine sOwn (hk := ?_))); refine aSeq_nil ?_)
          refine athen_n ⟨i + 1, by omega, by omega, ?_⟩
          rw [e2]
          exact le_T
        · have e2 := crossI_no (S := S0) hr hb19
          refine Awp.skip ?_
          refine h16 _ ?_
          refine nT (hk := ?_)
          (refine Awp.region ?_; (repeat (first | refine sQ (hq := Quiet.pickOr rfl rfl rfl rfl) (hk := ?_) | refine sQ (hq := Quiet.pickAnd rfl rfl rfl rfl) (hk := ?_) | refine sQ (hk := ?_) | refine sSkip (hk := ?_) | refine sG (hk := ?_) | refine sOwn (hk := ?_))); refine aSeq_nil ?_)
          refine athen_n ⟨i + 1, by omega, by omega, ?_⟩
          rw [e2]
          exact le_T
      · have hie : i = q.2.length := by have : ¬ i < q.2.length := by simpa using hb15
                                        omega
        subst hie
        have e3 : crossI S0 q q.2.length = crossK f (k + 1) := by rw [hcs, e]; unfold crossI; rw [List.take_length]
        rw [e3]
        refine Awp.exit ?_
        exact ⟨rfl, ⟨.cons (.cons (.cons (.cons (.cons (Cut.nil _))))), fun b hb => List.all_eq_true.1 (show bdH [.dead, .dead, .res (mapR (crossK f (k + 1)) m), .res (boxR g3 [.lit (.map (some m))]), .dead] = true from rfl) b hb⟩⟩
  case hdone =>
    intro D
    refine h3 _ ?_
    refine Awp.nt2 (t' := [.agg (encFunc f), .any, .any, .lit (.pointer (some ⟨g3, 0, none⟩)), .any, .any, .any, .any, .any, .any, .lit (stF p), .any, .any, .any, .any, .any, .any, .any, .any, .any, .any, .any, .any, .any, .any, .any, .any, .any, .any, .any, .any, .any, .any, .any, .any, .any, .any, .any, .any, .any, .any, .any]) (h' := [.res (marksR [D]), .dead, .res (mapR (crossK f (stepsL f).length) m), .res (boxR g3 [.lit (.map (some m))]), .dead]) rfl rfl ?_
    refine Awp.seq fun K20 h20 => ?_
    (refine Awp.region ?_; (repeat (first | refine sQ (hq := Quiet.pickOr rfl rfl rfl rfl) (hk := ?_) | refine sQ (hq := Quiet.pickAnd rfl rfl rfl rfl) (hk := ?_) | refine sQ (hk := ?_) | refine sSkip (hk := ?_) | refine sG (hk := ?_) | refine sOwn (hk := ?_))))
    refine aSeq_t rfl (AOp.callNew rfl (keysI_new m) (fun _ => rfl) rfl rfl fun p2 => ?_)
    refine sNt (hk := ?_)
    (repeat (first | refine sQ (hq := Quiet.callR2 5 2 rfl rfl rfl (sortedI_fn p2 m _ _ hRR (crossK_in f _)) rfl rfl rfl) (hk := ?_) | refine sQ (hq := Quiet.pickOr rfl rfl rfl rfl) (hk := ?_) | refine sQ (hq := Quiet.pickAnd rfl rfl rfl rfl) (hk := ?_) | refine sQ (hk := ?_) | refine sSkip (hk := ?_) | refine sG (hg := by first | rfl | exact gA_c rfl rfl) (hq := by (intro hg; (try simp only [Bool.and_eq_true, beq_iff_eq] at hg); (try simp only [hg, cond_true, Bool.true_and, beq_self_eq_true]); exact Quiet.callR2 5 2 rfl rfl rfl (sortedI_fn p2 m _ _ hRR (crossK_in f _)) rfl rfl rfl)) (hk := ?_) | refine sG (hk := ?_) | refine sOwn (hk := ?_)))
    refine aSeq_nil ?_
    refine h20 _ ?_
    refine nT (hk := ?_)
    refine Awp.ret ?_
    exact ⟨.inr rfl, [D], rfl, rfl, Fin.cl rfl⟩
end Mu
end
section
/-
  The shelf's contracts at this dump, in plain words: small numbers' digits, the search in a rising row.
  Conditions: as each says.
-/
namespace Go.Proofs
open Go.Shelf
end Go.Proofs
end
section
/-
  muntinlaw17: example, head, walked, by the contracts of package live.
  Conditions: none.
-/
namespace Mu
open Go Go.RowKit Go.Proofs

def noName : ByteArray := ⟨#[]⟩
theorem noName_ok : noName.size ≤ maxLen := by decide
section
variable {P : Program} {C : Ctx} {t : List AV} {h : List ABlk} {o : Oper}
theorem Quiet.bld {ty : TypeId} {parts : Array (Nat × Operand)} {zs : List Value} {pl : List (Nat × Nat)} {rs : List AV} [ZC P ty zs] (ho : o.op = .build ty parts) (hpl : places? P ty = some pl)
    (hr : putCells pl (zs.map .lit) (parts.toList.map fun p => (p.1, evA t p.2)) = some rs) (h1 : (parts.toList.all fun p => litBs (evA t p.2)) = true) : Quiet P C t h o (.agg rs) :=
  Quiet.build ho ZC.eq hpl hr fun p hp => One.litBs (List.all_eq_true.1 h1 p hp)
theorem Fit.agg {α : Type} {T : Ty α} {enc : α → List AV} {x : α} (hp : ∀ w S cs ψ, AV.relL w S h ψ (enc x) cs → T.RS w S cs x) : Fit h T (.agg (enc x)) x := fun C S ψ w v H hv => by
  unfold AV.rel at hv
  obtain ⟨cs, rfl, hl⟩ := hv
  exact hp w S cs ψ hl
end
def encIns0 (x : Ins) : List AV := [.lit (.int .u8 x.op), .lit (.int .i64 x.d), .lit (.int .i64 x.a), .lit (.int .i64 x.b), .lit (.int .u32 x.n), .lit (.int .i64 x.f), .lit (.slice none 0 0), .lit (.int .i64 x.l1), .lit (.int .i64 x.l2)]
theorem put_ins0 {w : World} {S : Nat → Prop} {cs : List Value} {h : List ABlk} {ψ : Nat → Value} {x : Ins} (ho : okIns x) (ha : x.args = []) (H : AV.relL w S h ψ (encIns0 x) cs) : tIns.RS w S cs x := by
  refine put_ins (h := h) (ψ := ψ) ho ?_
  simp only [encIns0, encIns, AV.relL, AV.rel] at H ⊢
  obtain ⟨_, _, rfl, rfl, _, _, rfl, rfl, _, _, rfl, rfl, _, _, rfl, rfl, _, _, rfl, rfl, _, _, rfl, rfl, _, _, rfl, rfl, _, _, rfl, rfl, _, _, rfl, rfl, rfl⟩ := H
  rw [ha]
  exact ⟨_, _, rfl, rfl, _, _, rfl, rfl, _, _, rfl, rfl, _, _, rfl, rfl, _, _, rfl, rfl, _, _, rfl, rfl, _, _, rfl, tInt.slice_nilS _ _, _, _, rfl, rfl, _, _, rfl, rfl, rfl⟩
theorem plIns : places? Try.prog 42 = some [(0, 1), (1, 1), (2, 1), (3, 1), (4, 1), (5, 1), (6, 1), (7, 1), (8, 1)] := by kernel_rfl
theorem plBlock : places? Try.prog 39 = some [(0, 1), (1, 1)] := by kernel_rfl
theorem plFunc : places? Try.prog 24 = some [(0, 1), (1, 1), (2, 1), (3, 1)] := by kernel_rfl

end Mu
end
section
/-
  Hints as data; own rows that are sorted and compacted; a nil row as an empty one.
  Conditions: none; the types' numbers are this translation's.
-/
namespace Mu
open Go Go.RowKit Go.Proofs Go.Shelf

/-! ### own rows of integers, sorted and compacted -/
section
variable {N S : Nat → Prop} {w : World} {h : List ABlk} {ψ : Nat → Value} {v : Value} {ver : Nat} {l : List Int}
theorem row_ownI (H : BRel N w S h ψ v (.row ver 3 tInt l)) : OwnI w 0 v l ∧ okInts l := by
  obtain ⟨cells, h1, _, h2, _⟩ := H
  have hl : cells.length = l.length := by have := h1.1; rw [show tInt.size = 1 from rfl, Nat.mul_one] at this; exact this
  have hget : ∀ i d, l[i]? = some d → cells[i]? = some (Value.int .i64 d) ∧ wfI .i64 d := fun i d hd => by
    obtain ⟨e, hw⟩ := tInt_R.1 (h2 i d hd)
    rw [show tInt.size = 1 from rfl, Nat.mul_one, List.take_one, List.head?_drop] at e
    cases hc : cells[i]? with
    | none => rw [hc] at e; cases e
    | some c =>
      rw [hc] at e
      simp only [Option.toList_some, List.cons.injEq, and_true] at e
      exact ⟨by rw [e], hw⟩
  have hc : cells = l.map (Value.int .i64) := by
    apply List.ext_getElem?
    intro i
    by_cases hi : i < l.length
    · rw [List.getElem?_map, List.getElem?_eq_getElem hi]
      exact (hget i _ (List.getElem?_eq_getElem hi)).1
    · rw [List.getElem?_eq_none (by omega), List.getElem?_eq_none (by simp; omega)]
  refine ⟨.of h1 rfl hc, fun r hr => ?_⟩
  obtain ⟨i, hi⟩ := List.mem_iff_getElem?.1 hr
  exact (hget i r hi).2
theorem ownI_row {base : Nat} (hO : OwnI w base v l) (hw : okInts l) (hN : ∀ g, v.ownBlock = some g → ¬ N g ∧ ¬ S g) : BRel N w S h ψ v (.row ver 3 tInt l) := by
  refine ⟨_, hO.mono (Nat.zero_le _), by decide, fun i d hd => ?_, hN⟩
  show tInt.RS w S (((l.map (Value.int .i64)).drop (i * 1)).take 1) d
  have hi : (l.map (Value.int .i64))[i]? = some (.int .i64 d) := by rw [List.getElem?_map, hd]; rfl
  rw [Nat.mul_one, List.take_one, List.head?_drop, hi]
  exact tInt_R.2 ⟨rfl, hw d (List.mem_of_getElem? hd)⟩
end
theorem okInts_sort {l : List Int} (h : okInts l) : okInts (l.mergeSort fun x y => decide (x ≤ y)) := fun r hr => h r ((List.mergeSort_perm l _).mem_iff.1 hr)
section
variable {C : Ctx} {t : List AV} {h : List ABlk} {o : Oper} {K : St → Prop}
theorem AOp.sortRow {x : Operand} {tys : Array TypeId} {i ver : Nat} {l : List Int} (ho : o.op = .call { callee := .value (.func 46), args := #[x], argTypes := tys }) (hx : evA t x = .own i ver) (hi : h[i]? = some (.row ver 3 tInt l)) (hl : l.length ≤ 2147483648)
    (hK : K ⟨putA t o.dst .any, h.set i (.row ver 3 tInt (l.mergeSort fun x y => decide (x ≤ y)))⟩) : AOp Try.prog C o ⟨t, h⟩ K := by
  rintro Q' a w ⟨hd, S, ψ, H, hl'⟩
  refine ⟨fun c e => (by rw [ho] at e; cases e), ?_⟩
  have hx' := ev_rel hl' x
  rw [show evA (St.mk t h).t x = .own i ver from hx] at hx'
  unfold AV.rel at hx'
  have hv := (hx'.2 _ (by rw [hi]; rfl)).2 rfl
  have hBi := H.blk i _ hi
  have hlt := hBi.lt rfl
  obtain ⟨hO, hw⟩ := row_ownI hBi
  unfold Oper.wp
  rw [run_call ho (by kernel_rfl) a.eval w rfl]
  simp only [Oper.upon]
  rw [show (#[x].map a.eval) = #[ψ i] from by simp [hv]]
  refine (sort_own hO hl).mono ?_
  rintro r w' ⟨rfl, hO', hgr⟩
  have hgr' : w.grownBy w' (blkOf (ψ i)) := by
    have e : blkOf (ψ i) = (ψ i).ownBlock := by
      rcases hO.2 with ⟨e, _⟩ | ⟨g, cap, cur, e, _⟩ <;> rw [e] <;> rfl
    rw [e]; exact hgr
  have hblk : ∀ k, S k → w'.heap[k]? = w.heap[k]? := fun k hk => hgr'.block k (H.lt k hk) fun e => (hlt k e.symm).2.2 hk
  have X : Ext w S h ψ w' S (h.set i (.row ver 3 tInt (l.mergeSort fun x y => decide (x ≤ y)))) (ψset ψ i (ψ i)) := Ext.set hblk hi (fun c' hc => by
    simp only [ABlk.ver, Option.some.injEq] at hc
    exact ⟨ver, rfl, by omega, fun _ => ⟨rfl, rfl⟩⟩) fun h => by simp [ABlk.isBox] at h
  exact ⟨_, hK, st_set (s := ⟨t, h⟩) hi hd hl' (H.set hi rfl (Gr.of_grownBy hgr') X (ownI_row hO' (okInts_sort hw) fun g hg => ⟨(hlt g (ownBlock_blkOf hg)).1, (hlt g (ownBlock_blkOf hg)).2.2⟩) fun g hg => .inl hg) X (by unfold AV.rel; trivial)⟩
end
/-- a nil row in a slot is an empty one -/
theorem St.le_nilbs {C : Ctx} {t : List AV} {h : List ABlk} (j : Nat) {α : Type} (T : Ty α) (hj : t[j]? = some (.lit (.slice none 0 0))) : St.le C ⟨t, h⟩ ⟨t.set j (.bs T []), h⟩ := fun a w ⟨hd, S, ψ, H, hl⟩ => by
  refine ⟨hd, S, ψ, H, ?_⟩
  obtain ⟨v, hv, hr⟩ := relL_get hl hj
  unfold AV.rel at hr
  subst hr
  have := relL_set hl j (x := .bs T []) (v := .slice none 0 0) (by unfold AV.rel; exact T.slice_nilS _ _)
  rwa [show a.tmps.toList.set j (.slice none 0 0) = a.tmps.toList from List.ext_getElem? fun k => by
    by_cases hk : j = k
    · subst hk
      rw [List.getElem?_set_self (List.getElem?_eq_some_iff.1 hv).1, hv]
    · rw [List.getElem?_set_ne hk]] at this
end Mu
end
section
/-
  muntinref14: Has, in, Ends, empty, walked.
  Conditions: none.
-/
namespace Mu
open Go Go.RowKit Go.Proofs

end Mu
end
section
/-
  muntinref14: one, writes, Next, walked.
  Conditions: data of at most 2^21 everywhere.
-/
namespace Mu
open Go Go.RowKit Go.Proofs

end Mu
end
section
/-
  A call whose result is a fresh row, kept as one's own.
  Conditions: none; generic.
-/
namespace Mu
open Go Go.RowKit Go.Proofs

end Mu
end
section
/-
  muntinref14: regs, walked.
  Conditions: data of at most 2^21 everywhere.
-/
namespace Mu
open Go Go.RowKit Go.Proofs

def regsX (x : Ins) : List Int := readsC x ++ if writesB x then [x.d] else []
theorem regsX_ok {x : Ins} (h : okIns x) : okInts (regsX x) := fun r hr => by
  rcases List.mem_append.1 hr with hr | hr
  · exact readsC_ok h r hr
  · split at hr
    · simp only [List.mem_singleton] at hr
      subst hr
      exact h.d
    · cases hr
end Mu
end
section
/-
  muntinref12: letter, digit, digits, Name, walked.
  Conditions: none.
-/
namespace Mu
open Go Go.RowKit Go.Proofs

end Mu
end
section
/-
  muntinlaw17: head, LiveTells, walked.
  Conditions: at most 2^21 of everything.
-/
namespace Mu
open Go Go.RowKit Go.Proofs
instance : AG Try.prog 31 false 1 := ⟨by kernel_rfl⟩
instance : SZ Try.prog 31 1 := ⟨by kernel_rfl⟩
instance : ES Try.prog 31 1 := ⟨by kernel_rfl⟩
instance : SL Try.prog 31 := ⟨by kernel_rfl⟩
instance : RT Try.prog 31 43 1 24 := ⟨by kernel_rfl⟩

end Mu
end
section
/-
  muntinlaw17: steps, LiveSteps, walked.
  Conditions: at most 2^21 of everything.
-/
namespace Mu
open Go Go.RowKit Go.Proofs

section
variable {P : Program} {C : Ctx} {t : List AV} {h : List ABlk} {o : Oper}
end
end Mu
end
section
/-
  muntinref14: function, block, walked.
  Conditions: data of at most 2^21 everywhere.
-/
namespace Mu
open Go Go.RowKit Go.Proofs

end Mu
end
section
/-
  muntinref14: Lacks, missing, walked.
  Conditions: data of at most 2^21 everywhere; the function's blocks end well.
-/
namespace Mu
open Go Go.RowKit Go.Proofs

end Mu
end
section
/-
  What muntinref14's answer means, in plain terms.
  Conditions: none.
-/
namespace Mu
open Go Go.RowKit Go.Proofs

end Mu
end
section
/-
  muntinref14.Check's answer, in plain terms: the first place at which something is wrong.
  Conditions: none.
-/
namespace Mu
open Go Go.RowKit Go.Proofs

end Mu
end
section
/-
  What a bulk of at most 2^21 gives; contracts over abstract values as rows use them.
  Conditions: none.
-/
namespace Mu
open Go Go.RowKit Go.Proofs

theorem small_block {b : Block} (h : tBlock.bulk b ≤ 2097152) : smallB b := ⟨Nat.le_trans (block_ins_le b) h, fun x hx => by
  have h1 := block_in_le hx
  have h2 := bulk_ins x
  have h3 := bulkL_length one_int x.args
  omega⟩
theorem small_func {f : Func} (h : tFunc.bulk f ≤ 2097152) : smallF f := ⟨Nat.le_trans (func_blocks_le f) h, fun _b hb => small_block (Nat.le_trans (func_block_le hb) h)⟩
theorem ins1_func {f : Func} (h : tFunc.bulk f ≤ 2097152) : ∀ b ∈ f.blocks, b.ins.length + 1 ≤ 2097152 := fun b hb => by
  have h1 := func_block_le hb
  have h2 := bulk_block b
  have h3 := bulkL_length one_ins b.ins
  omega
theorem reads_ins (l : List Ins) : (l.flatMap readsC).length ≤ bulkL tIns.bulk l := by
  induction l with
  | nil => simp [bulkL]
  | cons x l ih =>
    have h1 := readsC_len2 x
    have h2 := bulk_ins x
    have h3 := bulkL_length one_int x.args
    simp only [List.flatMap_cons, List.length_append, bulkL]
    omega
theorem reads_blocks (l : List Block) : (l.flatMap fun b => b.ins.flatMap readsC).length ≤ bulkL tBlock.bulk l := by
  induction l with
  | nil => simp [bulkL]
  | cons b l ih =>
    have h1 := reads_ins b.ins
    have h2 := bulk_block b
    simp only [List.flatMap_cons, List.length_append, bulkL]
    omega
theorem reads_func {f : Func} (h : tFunc.bulk f ≤ 2097152) : (allReads f).length ≤ 2097152 := by
  have h1 := reads_blocks f.blocks
  have h2 := bulk_func f
  unfold allReads
  omega
theorem u8_range {n : Int} (h : wfI .u8 n) : 0 ≤ n ∧ n ≤ 255 := by simpa [wfI, Lit.wf, IntKind.min, IntKind.max, IntKind.signed, IntKind.bits] using h
theorem fn_calls {P : Program} {f : FuncId} {args : List AV} {u : Value} {W : World} {vs : List Value} (h : Fn P f args (.lit u)) (hr : AV.relL W (fun k => k < W.heap.size) [] ψ0 args vs) : Calls P f vs.toArray W fun e W' => e = .returned u ∧ Below W.heap.size W W' :=
  (h.2 W _ vs (fun _ h => h) hr).mono fun e W' ⟨v, he, hb, _, _, _, _, hv⟩ => by
    unfold AV.rel at hv
    exact ⟨by rw [he, hv], hb⟩
theorem rel_func {W : World} {S : Nat → Prop} {h : List ABlk} {ψ : Nat → Value} {cs : List Value} {f : Func} (hR : tFunc.RS W S cs f) : AV.rel W S h ψ (.agg (encFunc f)) (.agg cs.toArray) := by
  unfold AV.rel
  exact ⟨cs, rfl, EncOf.ok (T := tFunc) W S h ψ cs f hR⟩
theorem rel_litv {W : World} {S : Nat → Prop} {h : List ABlk} {ψ : Nat → Value} (v : Value) : AV.rel W S h ψ (.lit v) v := by
  unfold AV.rel
  rfl
theorem relL_one {W : World} {S : Nat → Prop} {h : List ABlk} {ψ : Nat → Value} {x : AV} {v : Value} (hv : AV.rel W S h ψ x v) : AV.relL W S h ψ [x] [v] := by
  unfold AV.relL
  exact ⟨v, [], rfl, hv, by unfold AV.relL; rfl⟩
theorem relL_more {W : World} {S : Nat → Prop} {h : List ABlk} {ψ : Nat → Value} {x : AV} {v : Value} {l : List AV} {vs : List Value} (hv : AV.rel W S h ψ x v) (hl : AV.relL W S h ψ l vs) : AV.relL W S h ψ (x :: l) (v :: vs) := by
  unfold AV.relL
  exact ⟨v, vs, rfl, hv, hl⟩
end Mu
end
section
/-
  An instruction more at a block's beginning: what is live then. Plain.
  Conditions: none.
-/
namespace Mu
open Go

def putB (bl : Block) (x : Ins) : Block := ⟨bl.name, x :: bl.ins⟩
def putIns (f : Func) (b : Nat) (bl : Block) (x : Ins) : Func := ⟨f.name, f.args, f.regs, f.blocks.set b (putB bl x)⟩
theorem edge_iff {f : Func} {k c : Nat} : Edge f k c ↔ ∃ bl x, f.blocks[k]? = some bl ∧ bl.ins.getLast? = some x ∧ c < f.blocks.length ∧ (c : Int) ∈ rawWays x := by
  unfold Edge nextS
  rw [if_pos (by omega), Int.toNat_natCast]
  constructor
  · rintro ⟨y, hy, rfl⟩
    split at hy
    · cases hy
    · rename_i bl hbl
      unfold nextB at hy
      split at hy
      · cases hy
      · rename_i x hx
        unfold filtB at hy
        obtain ⟨w, hw, hty⟩ := List.mem_filterMap.1 hy
        unfold toBlk at hty
        split at hty
        · rename_i hr
          cases hty
          refine ⟨bl, x, hbl, hx, (show w.toNat < f.blocks.length by omega), ?_⟩
          rw [show ((w.toNat : Nat) : Int) = w by omega]
          exact hw
        · cases hty
  · rintro ⟨bl, x, hbl, hx, hc, hm⟩
    refine ⟨⟨c, hc⟩, ?_, rfl⟩
    rw [hbl]
    show (⟨c, hc⟩ : Blk f) ∈ nextB f bl
    unfold nextB
    rw [hx]
    exact List.mem_filterMap.2 ⟨(c : Int), hm, toBlk_yes hc⟩
section
variable {f : Func} {b : Nat} {bl : Block} {x : Ins} (hb : f.blocks[b]? = some bl)
include hb
theorem insOf_put (c : Nat) : insOf (putIns f b bl x) c = if c = b then x :: bl.ins else insOf f c := by
  unfold insOf putIns
  by_cases hc : c = b
  · subst hc
    rw [if_pos rfl]
    simp only
    rw [List.getElem?_set_self (List.getElem?_eq_some_iff.1 hb).1]
    rfl
  · rw [if_neg hc]
    simp only
    rw [List.getElem?_set_ne (Ne.symm hc)]
theorem edge_put (hne : bl.ins ≠ []) {k c : Nat} : Edge (putIns f b bl x) k c ↔ Edge f k c := by
  rw [edge_iff, edge_iff]
  have hl : (putIns f b bl x).blocks.length = f.blocks.length := by simp [putIns]
  rw [hl]
  have hlast : (putB bl x).ins.getLast? = bl.ins.getLast? := by
    unfold putB
    simp only
    rw [List.getLast?_cons]
    cases h : bl.ins.getLast? with
    | none => exact absurd (List.getLast?_eq_none_iff.1 h) hne
    | some y => rfl
  by_cases hk : k = b
  · subst hk
    have hs : (putIns f k bl x).blocks[k]? = some (putB bl x) := List.getElem?_set_self (List.getElem?_eq_some_iff.1 hb).1
    rw [hs, hb]
    constructor
    · rintro ⟨bl', y, e, h1, h2⟩
      cases e
      exact ⟨bl, y, rfl, by rw [← hlast]; exact h1, h2⟩
    · rintro ⟨bl', y, e, h1, h2⟩
      cases e
      exact ⟨_, y, rfl, by rw [hlast]; exact h1, h2⟩
  · have hs : (putIns f b bl x).blocks[k]? = f.blocks[k]? := List.getElem?_set_ne (Ne.symm hk)
    rw [hs]
theorem rdB_put {q : Int} (hq : (writesB x && x.d == q) = false) {c : Nat} (h : rdB q (insOf f c) = true) : rdB q (insOf (putIns f b bl x) c) = true := by
  rw [insOf_put hb]
  split
  · rename_i hc
    subst hc
    have : insOf f c = bl.ins := by unfold insOf; rw [hb]
    rw [this] at h
    unfold rdB
    rw [hq, h]
    simp
  · exact h
theorem thru_put {q : Int} (hq : (writesB x && x.d == q) = false) {c : Nat} (h : thru q (insOf f c) = true) : thru q (insOf (putIns f b bl x) c) = true := by
  rw [insOf_put hb]
  split
  · rename_i hc
    subst hc
    have : insOf f c = bl.ins := by unfold insOf; rw [hb]
    rw [this] at h
    unfold thru
    rw [hq, h]
    rfl
  · exact h
theorem lout_put (hne : bl.ins ≠ []) {q : Int} (hq : (writesB x && x.d == q) = false) {k : Nat} (h : LOut f k q) : LOut (putIns f b bl x) k q := by
  induction h with
  | read he h1 => exact .read ((edge_put hb hne).2 he) (rdB_put hb hq h1)
  | pass he h1 _ ih => exact .pass ((edge_put hb hne).2 he) (thru_put hb hq h1) (ih hq)
theorem lin_put (hne : bl.ins ≠ []) {q : Int} (hq : (writesB x && x.d == q) = false) {k : Nat} (h : LIn f k q) : LIn (putIns f b bl x) k q := by
  rcases h with h | ⟨h1, h2⟩
  · exact .inl (rdB_put hb hq h)
  · exact .inr ⟨thru_put hb hq h1, lout_put hb hne hq h2⟩
end
theorem outS_subR (f : Func) (b : Nat) : Sub (regsL f) (outS f b) := outS_sub (fun _ hb x hx _ hr => regsL_mem.2 ⟨_, hb, x, hx, hr⟩) b
theorem inS_subR (f : Func) (b i : Nat) : Sub (regsL f) (inS ((insOf f b).drop i) (outS f b)) :=
  (outS_subR f b).inS fun x hx => insOf_in (fun _ hb x hx _ hr => regsL_mem.2 ⟨_, hb, x, hx, hr⟩) b x (List.mem_of_mem_drop hx)
theorem mem_inL {f : Func} {b : Nat} {q : Int} : q ∈ inL f b ↔ LIn f b q := by
  have e : inS (insOf f b) (outS f b) q = true ↔ LIn f b q := by
    rw [inS_eq]
    simp only [Bool.or_eq_true, Bool.and_eq_true]
    unfold LIn
    rw [outS_iff]
  unfold inL
  rw [List.mem_filter, e]
  exact ⟨fun h => h.2, fun h => ⟨inS_subR f b 0 q (by rw [List.drop_zero]; exact e.2 h), h⟩⟩
theorem bulkL_set {α : Type} {g : α → Nat} : ∀ {l : List α} {k : Nat} {y z : α}, l[k]? = some y → bulkL g (l.set k z) + g y = bulkL g l + g z
  | [], k, y, z, h => by simp at h
  | a :: l, 0, y, z, h => by
    have h : a = y := by simpa using h
    subst h
    simp only [List.set_cons_zero, bulkL]
    omega
  | a :: l, k + 1, y, z, h => by
    have := bulkL_set (g := g) (l := l) (k := k) (z := z) (by simpa using h)
    simp only [List.set_cons_succ, bulkL]
    omega
theorem bulk_put {f : Func} {b : Nat} {bl : Block} {x : Ins} (hb : f.blocks[b]? = some bl) : tFunc.bulk (putIns f b bl x) = tFunc.bulk f + tIns.bulk x := by
  have h1 := bulkL_set (g := tBlock.bulk) (z := putB bl x) hb
  have h2 : tBlock.bulk (putB bl x) = tBlock.bulk bl + tIns.bulk x := by
    rw [bulk_block, bulk_block]
    simp only [putB, bulkL]
    omega
  rw [bulk_func, bulk_func]
  simp only [putIns]
  omega
theorem ok_put {f : Func} {b : Nat} {bl : Block} {x : Ins} (ho : okFunc f) (hb : f.blocks[b]? = some bl) (hx : okIns x) : okFunc (putIns f b bl x) := ⟨ho.name, ho.args, ho.regs, fun y hy => by
  rcases List.mem_or_eq_of_mem_set hy with h | h
  · exact ho.blocks y h
  · rw [h]
    have hbl := ho.blocks bl (List.mem_of_getElem? hb)
    exact ⟨hbl.name, fun z hz => by
      rcases List.mem_cons.1 hz with h | h
      · rw [h]; exact hx
      · exact hbl.ins z h⟩⟩
end Mu
end
section
/-
  What it means that Check finds nothing: nothing but arguments is live at the beginning; no more registers are live than there are.
  Conditions: none.
-/
namespace Mu
open Go

end Mu
end
section
/-
  muntinref14: Check, walked.
  Conditions: data of at most 2^21 everywhere.
-/
namespace Mu
open Go Go.RowKit Go.Proofs
end Mu
end
section
/-
  muntinref14.Great, walked.
  Conditions: data of at most 2^21 everywhere.
-/
namespace Mu
open Go Go.RowKit Go.Proofs

end Mu
end
section
/-
  bound: args, rows, some, places, Places, Kept, Name, walked.
  Conditions: at most 2^21 of everything; places below 132.
-/
namespace Mu
open Go Go.RowKit Go.Proofs

/-! ### texts -/
section
variable {P : Program} {C : Ctx} {t : List AV} {h : List ABlk} {o : Oper}
end

/-! ### how many arguments -/
/-! ### places -/
theorem fits_lits {h : List ABlk} : ∀ l : List Int, okInts l → Fits h tInt (l.map fun n => .lit (.int .i64 n)) l
  | [], _ => .nil
  | n :: l, hw => .cons (Fit.int (hw n (by simp))) (fits_lits l fun x hx => hw x (by simp [hx]))
theorem okI_list {l : List Int} (h : (l.all fun n => (Lit.int .i64 n).wf) = true) : okInts l := fun r hr => List.all_eq_true.1 h r hr
/-! ### the search in a rising row -/
/-! ### names -/
end Mu
end
section
/-
  bound: Regs, Hints, walked.
  Conditions: at most 2^21 of everything.
-/
namespace Mu
open Go Go.RowKit Go.Proofs

theorem shape_writes_fn (x : Ins) (ho : okIns x) : Fn Try.prog 76 [.agg (encIns x)] (.tup [.lit (.int .i64 (if writesB x then x.d else 0)), .lit (.bool (writesB x))]) :=
  Fn.of_tup2 (by kernel_rfl) fun w vs hr => by
    obtain ⟨v, rfl, hv⟩ := arg1 hr
    obtain ⟨cs, rfl, hc⟩ := rel_agg hv
    refine (shape_writes x w cs (put_ins ho hc)).mono fun e w' ⟨he, hb⟩ => ⟨?_, hb⟩
    rw [he]
    unfold writesV
    cases writesB x <;> rfl

/-! ### rows laid together -/
theorem flat_next {α β : Type} {g : α → List β} {l : List α} {k : Nat} {x : α} (hx : l[k]? = some x) : (l.take (k + 1)).flatMap g = (l.take k).flatMap g ++ g x := by
  rw [List.take_add_one, hx, List.flatMap_append]
  simp
theorem flat_le {α β : Type} (g : α → List β) (l : List α) (k : Nat) : ((l.take k).flatMap g).length ≤ (l.flatMap g).length := by
  conv => rhs; rw [← List.take_append_drop k l]
  rw [List.flatMap_append, List.length_append]
  omega
theorem flat2_le {β : Type} {g : Ins → List β} {bs : List Block} {b i : Nat} {bl : Block} {x : Ins} (hb : bs[b]? = some bl) (hx : bl.ins[i]? = some x) :
    ((bs.take b).flatMap fun c => c.ins.flatMap g).length + ((bl.ins.take i).flatMap g).length + (g x).length ≤ (bs.flatMap fun c => c.ins.flatMap g).length := by
  have h1 := flat_le (fun c : Block => c.ins.flatMap g) bs (b + 1)
  rw [flat_next hb, List.length_append] at h1
  have h2 := flat_le g bl.ins (i + 1)
  rw [flat_next hx, List.length_append] at h2
  omega
def blkX (b : Block) : List Int := b.ins.flatMap regsX
def allX (f : Func) : List Int := f.blocks.flatMap blkX
end Mu
end
section
/-
  muntinref18: in, with, Regs, Great, walked.
  Conditions: data of at most 2^21 everywhere.
-/
namespace Mu
open Go Go.RowKit Go.Proofs

set_option maxRecDepth 100000 in
theorem in18_fn (l : List Int) (n : Int) (hl : l.length ≤ 2097152) : Fn Try.prog 106 [.bs tInt l, .lit (.int .i64 n)] (.lit (.bool (l.contains n))) := by
  refine Fn.of_awp Try.func106 rfl (by kernel_rfl) rfl Try.ntmps106 fun C hC => ?_
  simp only [List.length_cons, List.length_nil, Nat.reduceAdd, Nat.reduceSub, List.replicate_succ, List.replicate_zero, List.cons_append, List.nil_append]
  refine Awp.seq fun K1 h1 => ?_
  (refine Awp.region ?_; (repeat (first | refine sQ (hq := Quiet.pickOr rfl rfl rfl rfl) (hk := ?_) | refine sQ (hq := Quiet.pickAnd rfl rfl rfl rfl) (hk := ?_) | refine sQ (hk := ?_) | refine sSkip (hk := ?_) | refine sG (hk := ?_) | refine sOwn (hk := ?_))); refine aSeq_nil ?_)
  refine h1 _ ?_
  refine nT (hk := ?_)
  refine Awp.seq fun K2 h2 => ?_
  refine Awp.seq fun K3 h3 => ?_
  (refine Awp.region ?_; (repeat (first | refine sQ (hq := Quiet.pickOr rfl rfl rfl rfl) (hk := ?_) | refine sQ (hq := Quiet.pickAnd rfl rfl rfl rfl) (hk := ?_) | refine sQ (hk := ?_) | refine sSkip (hk := ?_) | refine sG (hk := ?_) | refine sOwn (hk := ?_))); refine aSeq_nil ?_)
  refine h3 _ ?_
  refine nT (hk := ?_)
  refine Awp.block ?_
  refine Awp.loopF (fun i : Nat => ⟨[.bs tInt l, .lit (.int .i64 n), .any, .any, .any, .lit (.int .i64 (i : Int)), .any, .any, .any, .any, .any, .any, .any, .any, .any, .any, .any, .any], []⟩) (fun i => i ≤ l.length ∧ (l.take i).contains n = false) (fun i => l.length - i) 0 ⟨Nat.zero_le _, rfl⟩ (le_T) ?_
  rintro i ⟨hi, hc⟩
  refine Awp.seq fun K4 h4 => ?_
  refine Awp.seq fun K5 h5 => ?_
  (refine Awp.region ?_; (repeat (first | refine sQ (hq := Quiet.pickOr rfl rfl rfl rfl) (hk := ?_) | refine sQ (hq := Quiet.pickAnd rfl rfl rfl rfl) (hk := ?_) | refine sQ (hk := ?_) | refine sSkip (hk := ?_) | refine sG (hk := ?_) | refine sOwn (hk := ?_))); refine aSeq_nil ?_)
  refine h5 _ ?_
  refine nT (hk := ?_)
  refine Awp.cond rfl (fun hb => ?_) (fun hb => ?_)
  · have hlt : i < l.length := by simpa using hb
    obtain ⟨x, hx⟩ : ∃ x, l[i]? = some x := ⟨_, List.getElem?_eq_getElem hlt⟩
    refine Awp.skip ?_
    refine h4 _ ?_
    refine nT (hk := ?_)
    refine Awp.seq fun K6 h6 => ?_
    refine Awp.block ?_
    refine Awp.seq fun K7 h7 => ?_
    (refine Awp.region ?_; (repeat (first | refine sQ (hq := Quiet.pickOr rfl rfl rfl rfl) (hk := ?_) | refine sQ (hq := Quiet.pickAnd rfl rfl rfl rfl) (hk := ?_) | refine sQ (hk := ?_) | refine sSkip (hk := ?_) | refine sG (hk := ?_) | refine sOwn (hk := ?_))); refine aSeq_nil ?_)
    refine h7 _ ?_
    refine nT (hk := ?_)
    refine Awp.cond rfl (fun hb2 => ?_) (fun hb2 => ?_)
    · have hxn : x = n := by simpa using hb2
      have hcn : l.contains n = true := by rw [← hxn]; exact List.contains_iff_mem.2 (List.mem_of_getElem? hx)
      refine Awp.seq fun K8 h8 => ?_
      (refine Awp.region ?_; (repeat (first | refine sQ (hq := Quiet.pickOr rfl rfl rfl rfl) (hk := ?_) | refine sQ (hq := Quiet.pickAnd rfl rfl rfl rfl) (hk := ?_) | refine sQ (hk := ?_) | refine sSkip (hk := ?_) | refine sG (hk := ?_) | refine sOwn (hk := ?_))); refine aSeq_nil ?_)
      refine h8 _ ?_
      refine nT (hk := ?_)
      refine Awp.ret ?_
      rw [hcn]
      exact ⟨.inr rfl, Fin.cl rfl⟩
    · have hxn : ¬ x = n := by simpa using hb2
      refine Awp.skip ?_
      refine h6 _ ?_
      refine nT (hk := ?_)
      (refine Awp.region ?_; (repeat (first | refine sQ (hq := Quiet.pickOr rfl rfl rfl rfl) (hk := ?_) | refine sQ (hq := Quiet.pickAnd rfl rfl rfl rfl) (hk := ?_) | refine sQ (hk := ?_) | refine sSkip (hk := ?_) | refine sG (hk := ?_) | refine sOwn (hk := ?_))); refine aSeq_nil ?_)
      refine athen_n ⟨i + 1, ⟨by omega, ?_⟩, by omega, le_T⟩
      rw [List.take_add_one, hx, List.contains_eq_mem] at *
      simp only [Option.toList_some, List.mem_append, List.mem_cons, List.not_mem_nil, or_false, decide_eq_false_iff_not, not_or] at hc ⊢
      exact ⟨by simpa [List.contains_eq_mem] using hc, fun e => hxn e.symm⟩
  · have hie : i = l.length := by have : ¬ i < l.length := by simpa using hb
                                  omega
    rw [hie, List.take_length] at hc
    refine Awp.exit ?_
    refine h2 _ ?_
    refine nT (hk := ?_)
    refine Awp.seq fun K9 h9 => ?_
    (refine Awp.region ?_; (repeat (first | refine sQ (hq := Quiet.pickOr rfl rfl rfl rfl) (hk := ?_) | refine sQ (hq := Quiet.pickAnd rfl rfl rfl rfl) (hk := ?_) | refine sQ (hk := ?_) | refine sSkip (hk := ?_) | refine sG (hk := ?_) | refine sOwn (hk := ?_))); refine aSeq_nil ?_)
    refine h9 _ ?_
    refine nT (hk := ?_)
    refine Awp.ret ?_
    rw [hc]
    exact ⟨.inr rfl, Fin.cl rfl⟩

/-! ### a number is put into a rising row -/
def stepW (n : Int) (s : List Int × Bool) (x : Int) : List Int × Bool := if (!s.2 && decide (x > n)) = true then (s.1 ++ [n] ++ [x], true) else (s.1 ++ [x], s.2)
def foldW (n : Int) (l : List Int) : List Int × Bool := l.foldl (stepW n) ([], false)
def withL (l : List Int) (n : Int) : List Int := if l.contains n then l else if (!(foldW n l).2) = true then (foldW n l).1 ++ [n] else (foldW n l).1
theorem foldW_next {n : Int} {l : List Int} {i : Nat} {x : Int} (h : l[i]? = some x) : foldW n (l.take (i + 1)) = stepW n (foldW n (l.take i)) x := by
  unfold foldW
  rw [List.take_add_one, h, List.foldl_append]
  rfl
theorem foldW_len (n : Int) (l : List Int) : (foldW n l).1.length + (if (foldW n l).2 then 0 else 1) = l.length + 1 ∧ (wfI .i64 n → okInts l → okInts (foldW n l).1) := by
  suffices h : ∀ (l : List Int) (s : List Int × Bool), (l.foldl (stepW n) s).1.length + (if (l.foldl (stepW n) s).2 then 0 else 1) = s.1.length + (if s.2 then 0 else 1) + l.length ∧ (wfI .i64 n → okInts s.1 → okInts l → okInts (l.foldl (stepW n) s).1) by
    obtain ⟨h1, h2⟩ := h l ([], false)
    refine ⟨?_, fun a b => h2 a (fun r hr => by cases hr) b⟩
    unfold foldW
    rw [h1]
    simp
    omega
  intro l
  induction l with
  | nil => exact fun s => ⟨rfl, fun _ h _ => h⟩
  | cons x l ih =>
    intro s
    obtain ⟨h1, h2⟩ := ih (stepW n s x)
    rw [List.foldl_cons]
    refine ⟨?_, fun a b c => h2 a ?_ fun r hr => c r (List.mem_cons_of_mem _ hr)⟩
    · rw [h1]
      unfold stepW
      obtain ⟨o, d⟩ := s
      cases d
      · by_cases hx : x > n <;> simp [hx] <;> omega
      · simp; omega
    · unfold stepW
      have hx := c x (List.mem_cons_self ..)
      split
      · intro r hr
        simp only [List.mem_append, List.mem_cons, List.not_mem_nil, or_false] at hr
        rcases hr with (hr | rfl) | rfl
        · exact b r hr
        · exact a
        · exact hx
      · intro r hr
        simp only [List.mem_append, List.mem_cons, List.not_mem_nil, or_false] at hr
        rcases hr with hr | rfl
        · exact b r hr
        · exact hx
theorem withL_len (l : List Int) (n : Int) : (withL l n).length ≤ l.length + 1 ∧ (wfI .i64 n → okInts l → okInts (withL l n)) := by
  have h := foldW_len n l
  unfold withL
  split
  · exact ⟨by omega, fun _ h => h⟩
  · split
    · rename_i hd
      have hd : (foldW n l).2 = false := by simpa using hd
      rw [hd] at h
      have h1 := h.1
      simp only [Bool.false_eq_true, if_false] at h1
      refine ⟨by simp; omega, fun a b r hr => ?_⟩
      rcases List.mem_append.1 hr with hr | hr
      · exact h.2 a b r hr
      · rw [List.mem_singleton.1 hr]; exact a
    · refine ⟨?_, fun a b => h.2 a b⟩
      have h1 := h.1
      omega
set_option maxRecDepth 100000 in
set_option maxHeartbeats 1000000 in
theorem with18_fn (l : List Int) (n : Int) (hl : l.length ≤ 2097152) (ho : okInts l) (hn : wfI .i64 n) : Fn Try.prog 75 [.bs tInt l, .lit (.int .i64 n)] (.bs tInt (withL l n)) := by
  have hin := in18_fn l n hl
  refine Fn.of_awp Try.func75 rfl (by kernel_rfl) rfl Try.ntmps75 fun C hC => ?_
  simp only [List.length_cons, List.length_nil, Nat.reduceAdd, Nat.reduceSub, List.replicate_succ, List.replicate_zero, List.cons_append, List.nil_append]
  refine Awp.seq fun K1 h1 => ?_
  (refine Awp.region ?_; (repeat (first | refine sQ (hq := Quiet.pickOr rfl rfl rfl rfl) (hk := ?_) | refine sQ (hq := Quiet.pickAnd rfl rfl rfl rfl) (hk := ?_) | refine sQ (hk := ?_) | refine sSkip (hk := ?_) | refine sG (hk := ?_) | refine sOwn (hk := ?_))); refine aSeq_nil ?_)
  refine h1 _ ?_
  refine nT (hk := ?_)
  refine Awp.seq fun K2 h2 => ?_
  refine Awp.seq fun K3 h3 => ?_
  (refine Awp.region ?_; (repeat (first | refine sQ (hq := Quiet.call rfl hin rfl rfl rfl) (hk := ?_) | refine sQ (hq := Quiet.pickOr rfl rfl rfl rfl) (hk := ?_) | refine sQ (hq := Quiet.pickAnd rfl rfl rfl rfl) (hk := ?_) | refine sQ (hk := ?_) | refine sSkip (hk := ?_) | refine sG (hg := by first | rfl | exact gA_c rfl rfl) (hq := by (intro hg; (try simp only [Bool.and_eq_true, beq_iff_eq] at hg); (try simp only [hg, cond_true, Bool.true_and, beq_self_eq_true]); exact Quiet.call rfl hin rfl rfl rfl)) (hk := ?_) | refine sG (hk := ?_) | refine sOwn (hk := ?_))); refine aSeq_nil ?_)
  refine h3 _ ?_
  refine nT (hk := ?_)
  refine Awp.cond rfl (fun hb4 => ?_) (fun hb4 => ?_)
  · refine Awp.seq fun K5 h5 => ?_
    (refine Awp.region ?_; (repeat (first | refine sQ (hq := Quiet.pickOr rfl rfl rfl rfl) (hk := ?_) | refine sQ (hq := Quiet.pickAnd rfl rfl rfl rfl) (hk := ?_) | refine sQ (hk := ?_) | refine sSkip (hk := ?_) | refine sG (hk := ?_) | refine sOwn (hk := ?_))); refine aSeq_nil ?_)
    refine h5 _ ?_
    refine nT (hk := ?_)
    refine Awp.ret ?_
    rw [show withL l n = l from by unfold withL; rw [hb4]; rfl]
    exact ⟨.inr rfl, Fin.cl rfl⟩
  · refine Awp.skip ?_
    refine h2 _ ?_
    refine nT (hk := ?_)
    refine Awp.seq fun K6 h6 => ?_
    (refine Awp.region ?_; (repeat (first | refine sQ (hq := Quiet.pickOr rfl rfl rfl rfl) (hk := ?_) | refine sQ (hq := Quiet.pickAnd rfl rfl rfl rfl) (hk := ?_) | refine sQ (hk := ?_) | refine sSkip (hk := ?_) | refine sG (hk := ?_) | refine sOwn (hk := ?_))); refine aSeq_nil ?_)
    refine h6 _ ?_
    refine nT (hk := ?_)
    refine Awp.seq fun K7 h7 => ?_
    (refine Awp.region ?_; (repeat (first | refine sQ (hq := Quiet.pickOr rfl rfl rfl rfl) (hk := ?_) | refine sQ (hq := Quiet.pickAnd rfl rfl rfl rfl) (hk := ?_) | refine sQ (hk := ?_) | refine sSkip (hk := ?_) | refine sG (hk := ?_) | refine sOwn (hk := ?_))); refine aSeq_nil ?_)
    refine h7 _ ?_
    refine nT (hk := ?_)
    refine Awp.seq fun K8 h8 => ?_
    refine Awp.seq fun K9 h9 => ?_
    (refine Awp.region ?_; (repeat (first | refine sQ (hq := Quiet.pickOr rfl rfl rfl rfl) (hk := ?_) | refine sQ (hq := Quiet.pickAnd rfl rfl rfl rfl) (hk := ?_) | refine sQ (hk := ?_) | refine sSkip (hk := ?_) | refine sG (hk := ?_) | refine sOwn (hk := ?_))); refine aSeq_nil ?_)
    refine h9 _ ?_
    refine nT (hk := ?_)
    refine Awp.block ?_
    refine Awp.loopF (fun p : Nat × Nat => ⟨[.bs tInt l, .lit (.int .i64 n), .any, .any, .any, .own 0 p.2, .lit (.bool (foldW n (l.take p.1)).2), .lit (.int .i64 (p.1 : Int)), .any, .any, .any, .any, .any, .any, .any, .any, .any, .any, .any, .any, .any, .any, .any, .any, .any, .any, .any, .any, .any, .any, .any, .any, .any, .any, .any, .any, .any, .any, .any, .any, .any, .any, .any, .any, .any, .any], [.row p.2 3 tInt (foldW n (l.take p.1)).1]⟩) (fun p => p.1 ≤ l.length) (fun p => l.length - p.1) (0, 0) (Nat.zero_le _) ((St.le_nil 5 3 tInt rfl (by decide)).trans (le_T)) ?_
    rintro ⟨i, ver⟩ hi
    dsimp only at hi ⊢
    have hfl := (foldW_len n (l.take i)).1
    rw [List.length_take] at hfl
    have hnx : ∀ x, l[i]? = some x → foldW n (l.take (i + 1)) = stepW n (foldW n (l.take i)) x := fun x hx => foldW_next hx
    have hfin : i = l.length → foldW n l = foldW n (l.take i) := fun e => by rw [e, List.take_length]
    generalize foldW n (l.take i) = s at hfl hnx hfin ⊢
    obtain ⟨o, d⟩ := s
    dsimp only at hfl hnx hfin ⊢
    have hol : o.length ≤ 2097154 := by omega
    refine Awp.seq fun K11 h11 => ?_
    refine Awp.seq fun K12 h12 => ?_
    (refine Awp.region ?_; (repeat (first | refine sQ (hq := Quiet.pickOr rfl rfl rfl rfl) (hk := ?_) | refine sQ (hq := Quiet.pickAnd rfl rfl rfl rfl) (hk := ?_) | refine sQ (hk := ?_) | refine sSkip (hk := ?_) | refine sG (hk := ?_) | refine sOwn (hk := ?_))); refine aSeq_nil ?_)
    refine h12 _ ?_
    refine nT (hk := ?_)
    refine Awp.cond rfl (fun hb13 => ?_) (fun hb13 => ?_)
    · have hlt : i < l.length := by simpa using hb13
      obtain ⟨x, hx⟩ : ∃ x, l[i]? = some x := ⟨_, List.getElem?_eq_getElem hlt⟩
      have hxw := ho x (List.mem_of_getElem? hx)
      have hnx := hnx x hx
      refine Awp.skip ?_
      refine h11 _ ?_
      refine nT (hk := ?_)
      refine Awp.seq fun K14 h14 => ?_
      refine Awp.block ?_
      refine Awp.seq fun K15 h15 => ?_
      refine Awp.seq fun K16 h16 => ?_
      (refine Awp.region ?_; (repeat (first | refine sQ (hq := Quiet.pickOr rfl rfl rfl rfl) (hk := ?_) | refine sQ (hq := Quiet.pickAnd rfl rfl rfl rfl) (hk := ?_) | refine sQ (hk := ?_) | refine sSkip (hk := ?_) | refine sG (hk := ?_) | refine sOwn (hk := ?_))); refine aSeq_nil ?_)
      refine h16 _ ?_
      refine nT (hk := ?_)
      refine Awp.cond rfl (fun hb17 => ?_) (fun hb17 => ?_)
      · have e1 : stepW n (o, d) x = (o ++ [n] ++ [x], true) := if_pos hb17
        rw [e1] at hnx
        refine Awp.seq fun K18 h18 => ?_
        (refine Awp.region ?_; (repeat (first | refine sQ (hq := Quiet.pickOr rfl rfl rfl rfl) (hk := ?_) | refine sQ (hq := Quiet.pickAnd rfl rfl rfl rfl) (hk := ?_) | refine sQ (hk := ?_) | refine sSkip (hk := ?_) | refine sG (hk := ?_) | refine sOwn (hk := ?_))); refine aSeq_nil ?_)
        refine h18 _ ?_
        refine nT (hk := ?_)
        (refine Awp.region ?_; (repeat (first | refine sQ (hq := Quiet.pickOr rfl rfl rfl rfl) (hk := ?_) | refine sQ (hq := Quiet.pickAnd rfl rfl rfl rfl) (hk := ?_) | refine sQ (hk := ?_) | refine sSkip (hk := ?_) | refine sG (hk := ?_) | refine sOwn (hk := ?_))); refine aSeq_nil ?_)
        refine h15 _ ?_
        refine nT (hk := ?_)
        (refine Awp.region ?_; (repeat (first | refine sQ (hq := Quiet.pickOr rfl rfl rfl rfl) (hk := ?_) | refine sQ (hq := Quiet.pickAnd rfl rfl rfl rfl) (hk := ?_) | refine sQ (hk := ?_) | refine sSkip (hk := ?_) | refine sG (hk := ?_) | refine sOwn (hk := ?_))); refine aSeq_nil ?_)
        refine h14 _ ?_
        refine nT (hk := ?_)
        (refine Awp.region ?_; (repeat (first | refine sQ (hq := Quiet.pickOr rfl rfl rfl rfl) (hk := ?_) | refine sQ (hq := Quiet.pickAnd rfl rfl rfl rfl) (hk := ?_) | refine sQ (hk := ?_) | refine sSkip (hk := ?_) | refine sG (hk := ?_) | refine sOwn (hk := ?_))); refine aSeq_nil ?_)
        refine athen_n ⟨(i + 1, ver + 2), by dsimp only; omega, by dsimp only; omega, ?_⟩
        dsimp only
        rw [hnx]
        exact le_T
      · have e1 : stepW n (o, d) x = (o ++ [x], d) := if_neg (by rw [show (!(o, d).2 && decide (x > n)) = false from hb17]; simp)
        rw [e1] at hnx
        refine Awp.skip ?_
        refine h15 _ ?_
        refine nT (hk := ?_)
        (refine Awp.region ?_; (repeat (first | refine sQ (hq := Quiet.pickOr rfl rfl rfl rfl) (hk := ?_) | refine sQ (hq := Quiet.pickAnd rfl rfl rfl rfl) (hk := ?_) | refine sQ (hk := ?_) | refine sSkip (hk := ?_) | refine sG (hk := ?_) | refine sOwn (hk := ?_))); refine aSeq_nil ?_)
        refine h14 _ ?_
        refine nT (hk := ?_)
        (refine Awp.region ?_; (repeat (first | refine sQ (hq := Quiet.pickOr rfl rfl rfl rfl) (hk := ?_) | refine sQ (hq := Quiet.pickAnd rfl rfl rfl rfl) (hk := ?_) | refine sQ (hk := ?_) | refine sSkip (hk := ?_) | refine sG (hk := ?_) | refine sOwn (hk := ?_))); refine aSeq_nil ?_)
        refine athen_n ⟨(i + 1, ver + 1), by dsimp only; omega, by dsimp only; omega, ?_⟩
        dsimp only
        rw [hnx]
        exact le_T
    · have hie : i = l.length := by have : ¬ i < l.length := by simpa using hb13
                                    omega
      have hfin := hfin hie
      have hc : l.contains n = false := hb4
      refine Awp.exit ?_
      refine h8 _ ?_
      refine nT (hk := ?_)
      refine Awp.seq fun K19 h19 => ?_
      refine Awp.seq fun K20 h20 => ?_
      (refine Awp.region ?_; (repeat (first | refine sQ (hq := Quiet.pickOr rfl rfl rfl rfl) (hk := ?_) | refine sQ (hq := Quiet.pickAnd rfl rfl rfl rfl) (hk := ?_) | refine sQ (hk := ?_) | refine sSkip (hk := ?_) | refine sG (hk := ?_) | refine sOwn (hk := ?_))); refine aSeq_nil ?_)
      refine h20 _ ?_
      refine nT (hk := ?_)
      refine Awp.cond rfl (fun hb21 => ?_) (fun hb21 => ?_)
      · have e2 : withL l n = o ++ [n] := by unfold withL; rw [hc, if_neg (by simp), hfin, if_pos hb21]
        (refine Awp.region ?_; (repeat (first | refine sQ (hq := Quiet.pickOr rfl rfl rfl rfl) (hk := ?_) | refine sQ (hq := Quiet.pickAnd rfl rfl rfl rfl) (hk := ?_) | refine sQ (hk := ?_) | refine sSkip (hk := ?_) | refine sG (hk := ?_) | refine sOwn (hk := ?_))); refine aSeq_nil ?_)
        refine h19 _ ?_
        refine nT (hk := ?_)
        refine Awp.seq fun K22 h22 => ?_
        (refine Awp.region ?_; (repeat (first | refine sQ (hq := Quiet.pickOr rfl rfl rfl rfl) (hk := ?_) | refine sQ (hq := Quiet.pickAnd rfl rfl rfl rfl) (hk := ?_) | refine sQ (hk := ?_) | refine sSkip (hk := ?_) | refine sG (hk := ?_) | refine sOwn (hk := ?_))); refine aSeq_nil ?_)
        refine h22 _ ?_
        refine nT (hk := ?_)
        refine Awp.ret ?_
        rw [e2]
        exact ⟨.inr rfl, Fin.own rfl⟩
      · have e2 : withL l n = o := by unfold withL; rw [hc, if_neg (by simp), hfin, if_neg (by rw [show (!(o, d).2) = false from hb21]; simp)]
        refine Awp.skip ?_
        refine h19 _ ?_
        refine nT (hk := ?_)
        refine Awp.seq fun K23 h23 => ?_
        (refine Awp.region ?_; (repeat (first | refine sQ (hq := Quiet.pickOr rfl rfl rfl rfl) (hk := ?_) | refine sQ (hq := Quiet.pickAnd rfl rfl rfl rfl) (hk := ?_) | refine sQ (hk := ?_) | refine sSkip (hk := ?_) | refine sG (hk := ?_) | refine sOwn (hk := ?_))); refine aSeq_nil ?_)
        refine h23 _ ?_
        refine nT (hk := ?_)
        refine Awp.ret ?_
        rw [e2]
        exact ⟨.inr rfl, Fin.own rfl⟩
end Mu
end
section
/-
  muntinref18: Regs, Great, walked.
  Conditions: data of at most 2^21 everywhere.
-/
namespace Mu
open Go Go.RowKit Go.Proofs

def regs18L (f : Func) : List Int := (allX f).foldl withL []
theorem foldWL_len (l : List Int) : (l.foldl withL []).length ≤ l.length ∧ (okInts l → okInts (l.foldl withL [])) := by
  suffices h : ∀ (l s : List Int), (l.foldl withL s).length ≤ s.length + l.length ∧ (okInts s → okInts l → okInts (l.foldl withL s)) by
    obtain ⟨h1, h2⟩ := h l []
    exact ⟨by simpa using h1, fun a => h2 (fun r hr => by cases hr) a⟩
  intro l
  induction l with
  | nil => exact fun s => ⟨Nat.le_refl _, fun h _ => h⟩
  | cons x l ih =>
    intro s
    obtain ⟨h1, h2⟩ := ih (withL s x)
    have h3 := withL_len s x
    rw [List.foldl_cons, List.length_cons]
    exact ⟨by omega, fun a b => h2 (h3.2 (b x (List.mem_cons_self ..)) a) fun r hr => b r (List.mem_cons_of_mem _ hr)⟩
theorem foldWL_next {l : List Int} {k : Nat} {r : Int} (P : List Int) (h : l[k]? = some r) : (P ++ l.take (k + 1)).foldl withL [] = withL ((P ++ l.take k).foldl withL []) r := by
  rw [List.take_add_one, h, ← List.append_assoc, List.foldl_append]
  rfl

set_option maxRecDepth 100000 in
set_option maxHeartbeats 4000000 in
theorem regs18_fn (f : Func) (ho : okFunc f) (hs : smallF f) (hX : (allX f).length ≤ 2097152) : Fn Try.prog 36 [.agg (encFunc f)] (.bs tInt (regs18L f)) := by
  have hbl := hs.blocks
  refine Fn.of_awp Try.func36 rfl (by kernel_rfl) rfl Try.ntmps36 fun C hC => ?_
  simp only [List.length_cons, List.length_nil, Nat.reduceAdd, Nat.reduceSub, List.replicate_succ, List.replicate_zero, List.cons_append, List.nil_append]
  refine Awp.seq fun K1 h1 => ?_
  (refine Awp.region ?_; (repeat (first | refine sQ (hq := Quiet.pickOr rfl rfl rfl rfl) (hk := ?_) | refine sQ (hq := Quiet.pickAnd rfl rfl rfl rfl) (hk := ?_) | refine sQ (hk := ?_) | refine sSkip (hk := ?_) | refine sG (hk := ?_) | refine sOwn (hk := ?_))); refine aSeq_nil ?_)
  refine h1 _ ?_
  refine nT (hk := ?_)
  refine Awp.seq fun K2 h2 => ?_
  (refine Awp.region ?_; (repeat (first | refine sQ (hq := Quiet.pickOr rfl rfl rfl rfl) (hk := ?_) | refine sQ (hq := Quiet.pickAnd rfl rfl rfl rfl) (hk := ?_) | refine sQ (hk := ?_) | refine sSkip (hk := ?_) | refine sG (hk := ?_) | refine sOwn (hk := ?_))); refine aSeq_nil ?_)
  refine h2 _ ?_
  refine nT (hk := ?_)
  refine Awp.seq fun K3 h3 => ?_
  refine Awp.seq fun K4 h4 => ?_
  (refine Awp.region ?_; (repeat (first | refine sQ (hq := Quiet.pickOr rfl rfl rfl rfl) (hk := ?_) | refine sQ (hq := Quiet.pickAnd rfl rfl rfl rfl) (hk := ?_) | refine sQ (hk := ?_) | refine sSkip (hk := ?_) | refine sG (hk := ?_) | refine sOwn (hk := ?_))); refine aSeq_nil ?_)
  refine h4 _ ?_
  refine nT (hk := ?_)
  refine Awp.block ?_
  refine Awp.loopF (fun b : Nat => ⟨[.any, .ptr 0 0, .any, .bs tInt (((f.blocks.take b).flatMap blkX).foldl withL []), .lit (.int .i64 (b : Int)), .any, .any, .any, .any, .any, .any, .any, .any, .any, .any, .any, .any, .any, .any, .any, .any, .any, .any, .any, .any, .any, .any, .any, .any, .any, .any, .any, .any, .any, .any, .any, .any, .any, .any, .any, .any, .any, .any, .any, .any, .any, .any, .any, .any, .any, .any, .any, .any, .any, .any, .any, .any, .any, .any, .any, .any, .any, .any, .any, .any], [.box (encFunc f)]⟩) (fun b => b ≤ f.blocks.length) (fun b => f.blocks.length - b) 0 (Nat.zero_le _) ((St.le_nilbs 3 tInt rfl).trans (le_T)) ?_
  intro b hb
  dsimp only at hb ⊢
  refine Awp.seq fun K6 h6 => ?_
  refine Awp.seq fun K7 h7 => ?_
  (refine Awp.region ?_; (repeat (first | refine sQ (hq := Quiet.pickOr rfl rfl rfl rfl) (hk := ?_) | refine sQ (hq := Quiet.pickAnd rfl rfl rfl rfl) (hk := ?_) | refine sQ (hk := ?_) | refine sSkip (hk := ?_) | refine sG (hk := ?_) | refine sOwn (hk := ?_))); refine aSeq_nil ?_)
  refine h7 _ ?_
  refine nT (hk := ?_)
  refine Awp.cond rfl (fun hb8 => ?_) (fun hb8 => ?_)
  · have hlt : b < f.blocks.length := by simpa using hb8
    obtain ⟨bl, hblk⟩ : ∃ bl, f.blocks[b]? = some bl := ⟨_, List.getElem?_eq_getElem hlt⟩
    have hmem := List.mem_of_getElem? hblk
    have hob := ho.blocks bl hmem
    have hsb := hs.all bl hmem
    have hil := hsb.ins
    have hfn := flat_next (g := blkX) hblk
    refine Awp.skip ?_
    refine h6 _ ?_
    refine nT (hk := ?_)
    refine Awp.seq fun K9 h9 => ?_
    refine Awp.block ?_
    refine Awp.seq fun K10 h10 => ?_
    (refine Awp.region ?_; (repeat (first | refine sQ (hq := Quiet.pickOr rfl rfl rfl rfl) (hk := ?_) | refine sQ (hq := Quiet.pickAnd rfl rfl rfl rfl) (hk := ?_) | refine sQ (hk := ?_) | refine sSkip (hk := ?_) | refine sG (hk := ?_) | refine sOwn (hk := ?_))); refine aSeq_nil ?_)
    refine h10 _ ?_
    refine nT (hk := ?_)
    refine Awp.block ?_
    refine Awp.loopF (fun i : Nat => ⟨[.any, .ptr 0 0, .any, .bs tInt (((f.blocks.take b).flatMap blkX ++ (bl.ins.take i).flatMap regsX).foldl withL []), .lit (.int .i64 (b : Int)), .lit (.int .i64 (i : Int)), .any, .any, .any, .any, .any, .any, .any, .any, .any, .any, .any, .any, .any, .any, .any, .any, .any, .any, .any, .any, .any, .any, .any, .any, .any, .any, .any, .any, .any, .any, .any, .any, .any, .any, .any, .any, .any, .any, .any, .any, .any, .any, .any, .any, .any, .any, .any, .any, .any, .any, .any, .any, .any, .any, .any, .any, .any, .any, .any], [.box (encFunc f)]⟩) (fun i => i ≤ bl.ins.length) (fun i => bl.ins.length - i) 0 (Nat.zero_le _) (by rw [show (f.blocks.take b).flatMap blkX ++ (bl.ins.take 0).flatMap regsX = (f.blocks.take b).flatMap blkX by simp]; exact le_T) ?_
    intro i hi
    dsimp only at hi ⊢
    refine Awp.seq fun K12 h12 => ?_
    refine Awp.seq fun K13 h13 => ?_
    (refine Awp.region ?_; (repeat (first | refine sQ (hq := Quiet.pickOr rfl rfl rfl rfl) (hk := ?_) | refine sQ (hq := Quiet.pickAnd rfl rfl rfl rfl) (hk := ?_) | refine sQ (hk := ?_) | refine sSkip (hk := ?_) | refine sG (hk := ?_) | refine sOwn (hk := ?_))); refine aSeq_nil ?_)
    refine h13 _ ?_
    refine nT (hk := ?_)
    refine Awp.cond rfl (fun hb14 => ?_) (fun hb14 => ?_)
    · have hil2 : i < bl.ins.length := by simpa using hb14
      obtain ⟨x, hx⟩ : ∃ x, bl.ins[i]? = some x := ⟨_, List.getElem?_eq_getElem hil2⟩
      have hxm := List.mem_of_getElem? hx
      have hox := hob.ins x hxm
      have hxl : x.args.length ≤ 2097152 := by have := hsb.all x hxm; omega
      have hxn := flat_next (g := regsX) hx
      have hle := flat2_le (g := regsX) hblk hx
      have hX' : (f.blocks.flatMap fun c => c.ins.flatMap regsX).length ≤ 2097152 := hX
      obtain ⟨P, hP⟩ : ∃ P, (f.blocks.take b).flatMap blkX ++ (bl.ins.take i).flatMap regsX = P := ⟨_, rfl⟩
      have hPl : P.length + (regsX x).length ≤ 2097152 := by
        rw [← hP, List.length_append]
        have : ((f.blocks.take b).flatMap blkX).length = ((f.blocks.take b).flatMap fun c => c.ins.flatMap regsX).length := rfl
        omega
      have hPo : okInts P := by
        rw [← hP]
        intro r hr
        rcases List.mem_append.1 hr with hr | hr
        · obtain ⟨c, hc, hr⟩ := List.mem_flatMap.1 hr
          obtain ⟨y, hy, hr⟩ := List.mem_flatMap.1 hr
          exact regsX_ok ((ho.blocks c (List.mem_of_mem_take hc)).ins y hy) r hr
        · obtain ⟨y, hy, hr⟩ := List.mem_flatMap.1 hr
          exact regsX_ok (hob.ins y (List.mem_of_mem_take hy)) r hr
      have hnx : (f.blocks.take b).flatMap blkX ++ (bl.ins.take (i + 1)).flatMap regsX = P ++ regsX x := by rw [hxn, ← hP, List.append_assoc]
      rw [hP]
      have hrx : regsX x = readsC x ++ if writesB x then [x.d] else [] := rfl
      have hxo := regsX_ok hox
      have hrl : (readsC x).length ≤ (regsX x).length := by rw [hrx, List.length_append]; omega
      have hn1 : ([] : List Int).length + (readsC x).length ≤ maxLen := by simp [maxLen]; omega
      have hn2 : (([] : List Int).length + (readsC x).length) * 8 ≤ 140737488355328 := by simp; omega
      refine Awp.skip ?_
      refine h12 _ ?_
      refine nT (hk := ?_)
      refine Awp.seq fun K15 h15 => ?_
      refine Awp.block ?_
      refine Awp.seq fun K16 h16 => ?_
      (refine Awp.region ?_; (repeat (first | refine sQ (hq := Quiet.pickOr rfl rfl rfl rfl) (hk := ?_) | refine sQ (hq := Quiet.pickAnd rfl rfl rfl rfl) (hk := ?_) | refine sQ (hk := ?_) | refine sSkip (hk := ?_) | refine sG (hk := ?_) | refine sOwn (hk := ?_))); refine aSeq_nil ?_)
      refine h16 _ ?_
      refine nT (hk := ?_)
      refine Awp.seq fun K17 h17 => ?_
      (refine Awp.region ?_; (repeat (first | (refine aSeq_t rfl (AOp.lit (s := ⟨_, _⟩) (T := tInt) (xs := []) (ds := []) (e := 3) (bytes := 8) rfl rfl rfl (by kernel_rfl) (by decide) (by decide) .nil ?_); refine sNt (hk := ?_)) | refine sQ (hq := Quiet.call rfl (ref_reads_fn x hox hxl) rfl rfl rfl) (hk := ?_) | refine sQ (hq := Quiet.pickOr rfl rfl rfl rfl) (hk := ?_) | refine sQ (hq := Quiet.pickAnd rfl rfl rfl rfl) (hk := ?_) | refine sQ (hk := ?_) | refine sSkip (hk := ?_) | refine sG (hg := by first | rfl | exact gA_c rfl rfl) (hq := by (intro hg; (try simp only [] at hg); (try simp only [hg, cond_true, Bool.true_and, beq_self_eq_true]); exact Quiet.call rfl (ref_reads_fn x hox hxl) rfl rfl rfl)) (hk := ?_) | refine sG (hk := ?_) | refine sOwn (hk := ?_))); refine aSeq_nil ?_)
      refine h17 _ ?_
      refine nT (hk := ?_)
      refine Awp.seq fun K18 h18 => ?_
      (refine Awp.region ?_; (repeat (first | refine sQ (hq := Quiet.call rfl (ref_writes_fn x hox) rfl rfl rfl) (hk := ?_) | refine sQ (hq := Quiet.pickOr rfl rfl rfl rfl) (hk := ?_) | refine sQ (hq := Quiet.pickAnd rfl rfl rfl rfl) (hk := ?_) | refine sQ (hk := ?_) | refine sSkip (hk := ?_) | refine sG (hg := by first | rfl | exact gA_c rfl rfl) (hq := by (intro hg; (try simp only [Bool.and_eq_true, beq_iff_eq] at hg); (try simp only [hg, cond_true, Bool.true_and, beq_self_eq_true]); exact Quiet.call rfl (ref_writes_fn x hox) rfl rfl rfl)) (hk := ?_) | refine sG (hk := ?_) | refine sOwn (hk := ?_))); refine aSeq_nil ?_)
      refine h18 _ ?_
      refine nT (hk := ?_)
      refine Awp.seq fun K19 h19 => ?_
      refine Awp.seq fun K20 h20 => ?_
      (refine Awp.region ?_; (repeat (first | refine sQ (hq := Quiet.pickOr rfl rfl rfl rfl) (hk := ?_) | refine sQ (hq := Quiet.pickAnd rfl rfl rfl rfl) (hk := ?_) | refine sQ (hk := ?_) | refine sSkip (hk := ?_) | refine sG (hk := ?_) | refine sOwn (hk := ?_))); refine aSeq_nil ?_)
      refine h20 _ ?_
      refine nT (hk := ?_)
      refine Awp.cond rfl (fun hb21 => ?_) (fun hb21 => ?_)
      · rw [hb21, if_pos rfl] at hrx
        have e1 : (if writesB x = true then x.d else 0) = x.d := if_pos hb21
        have hwd := hox.d
        rw [e1]
        have hn3 : (readsC x).length + [x.d].length ≤ maxLen := by simp [maxLen]; omega
        have hn4 : ((readsC x).length + [x.d].length) * 8 ≤ 140737488355328 := by simp; omega
        (refine Awp.region ?_; (repeat (first | refine sQ (hq := Quiet.pickOr rfl rfl rfl rfl) (hk := ?_) | refine sQ (hq := Quiet.pickAnd rfl rfl rfl rfl) (hk := ?_) | refine sQ (hk := ?_) | refine sSkip (hk := ?_) | refine sG (hk := ?_) | refine sOwn (hk := ?_))); refine aSeq_nil ?_)
        refine h19 _ ?_
        refine nT (hk := ?_)
        refine Awp.seq fun K22 h22 => ?_
        (refine Awp.region ?_; (repeat (first | refine sQ (hq := Quiet.pickOr rfl rfl rfl rfl) (hk := ?_) | refine sQ (hq := Quiet.pickAnd rfl rfl rfl rfl) (hk := ?_) | refine sQ (hk := ?_) | refine sSkip (hk := ?_) | refine sG (hk := ?_) | refine sOwn (hk := ?_))); refine aSeq_nil ?_)
        refine h22 _ ?_
        refine nT (hk := ?_)
        refine Awp.block ?_
        refine Awp.loopF (fun k : Nat => ⟨[.any, .ptr 0 0, .any, .bs tInt ((P ++ (regsX x).take k).foldl withL []), .lit (.int .i64 (b : Int)), .lit (.int .i64 (i : Int)), .any, .own 2 2, .any, .any, .lit (.int .i64 (k : Int)), .any, .any, .any, .any, .any, .any, .any, .any, .any, .any, .any, .any, .any, .any, .any, .any, .any, .any, .any, .any, .any, .any, .any, .any, .any, .any, .any, .any, .any, .any, .any, .any, .any, .any, .any, .any, .any, .any, .any, .any, .any, .any, .any, .any, .any, .any, .any, .any, .any, .any, .any, .any, .any, .any], [.box (encFunc f), .dead, .row 2 3 tInt (regsX x)]⟩) (fun k => k ≤ (regsX x).length) (fun k => (regsX x).length - k) 0 (Nat.zero_le _) (by rw [show P ++ (regsX x).take 0 = P by simp, hrx]; exact le_C (.cons (.dead (.cons (Cut.nil _))))) ?_
        intro k hk
        have hkl : (P ++ (regsX x).take k).length ≤ 2097152 := by rw [List.length_append, List.length_take]; omega
        have hko : okInts (P ++ (regsX x).take k) := fun r hr => by
          rcases List.mem_append.1 hr with hr | hr
          · exact hPo r hr
          · exact hxo r (List.mem_of_mem_take hr)
        obtain ⟨hl1, hl2⟩ := foldWL_len (P ++ (regsX x).take k)
        have hl2 := hl2 hko
        have hknx : ∀ r, (regsX x)[k]? = some r → (P ++ (regsX x).take (k + 1)).foldl withL [] = withL ((P ++ (regsX x).take k).foldl withL []) r := fun r hr => foldWL_next P hr
        have hkfin : k = (regsX x).length → (P ++ (regsX x).take k).foldl withL [] = (P ++ regsX x).foldl withL [] := fun e => by rw [e, List.take_length]
        dsimp only at hk ⊢
        generalize (P ++ (regsX x).take k).foldl withL [] = O at hl1 hl2 hknx hkfin ⊢
        refine Awp.seq fun K24 h24 => ?_
        refine Awp.seq fun K25 h25 => ?_
        (refine Awp.region ?_; (repeat (first | refine sQ (hq := Quiet.pickOr rfl rfl rfl rfl) (hk := ?_) | refine sQ (hq := Quiet.pickAnd rfl rfl rfl rfl) (hk := ?_) | refine sQ (hk := ?_) | refine sSkip (hk := ?_) | refine sG (hk := ?_) | refine sOwn (hk := ?_))); refine aSeq_nil ?_)
        refine h25 _ ?_
        refine nT (hk := ?_)
        refine Awp.cond rfl (fun hb26 => ?_) (fun hb26 => ?_)
        · have hklt : k < (regsX x).length := by simpa using hb26
          obtain ⟨r, hr⟩ : ∃ r, (regsX x)[k]? = some r := ⟨_, List.getElem?_eq_getElem hklt⟩
          have hrw := hxo r (List.mem_of_getElem? hr)
          have hknx := hknx r hr
          refine Awp.skip ?_
          refine h24 _ ?_
          refine nT (hk := ?_)
          refine Awp.seq fun K27 h27 => ?_
          refine Awp.block ?_
          (refine Awp.region ?_; (repeat (first | refine sQ (hq := Quiet.call rfl (with18_fn O r (by omega) hl2 hrw) rfl rfl rfl) (hk := ?_) | refine sQ (hq := Quiet.pickOr rfl rfl rfl rfl) (hk := ?_) | refine sQ (hq := Quiet.pickAnd rfl rfl rfl rfl) (hk := ?_) | refine sQ (hk := ?_) | refine sSkip (hk := ?_) | refine sG (hg := by first | rfl | exact gA_c rfl rfl) (hq := by (intro hg; (try simp only [Bool.and_eq_true, beq_iff_eq] at hg); (try simp only [hg, cond_true, Bool.true_and, beq_self_eq_true]); exact Quiet.call rfl (with18_fn O r (by omega) hl2 hrw) rfl rfl rfl)) (hk := ?_) | refine sG (hk := ?_) | refine sOwn (hk := ?_))); refine aSeq_nil ?_)
          refine h27 _ ?_
          refine nT (hk := ?_)
          (refine Awp.region ?_; (repeat (first | refine sQ (hq := Quiet.pickOr rfl rfl rfl rfl) (hk := ?_) | refine sQ (hq := Quiet.pickAnd rfl rfl rfl rfl) (hk := ?_) | refine sQ (hk := ?_) | refine sSkip (hk := ?_) | refine sG (hk := ?_) | refine sOwn (hk := ?_))); refine aSeq_nil ?_)
          refine athen_n ⟨k + 1, by omega, by omega, ?_⟩
          rw [hknx]
          exact le_T
        · have hke : k = (regsX x).length := by have : ¬ k < (regsX x).length := by simpa using hb26
                                                omega
          have hkfin := hkfin hke
          refine Awp.exit ?_
          refine h15 _ ?_
          refine nT (hk := ?_)
          (refine Awp.region ?_; (repeat (first | refine sQ (hq := Quiet.pickOr rfl rfl rfl rfl) (hk := ?_) | refine sQ (hq := Quiet.pickAnd rfl rfl rfl rfl) (hk := ?_) | refine sQ (hk := ?_) | refine sSkip (hk := ?_) | refine sG (hk := ?_) | refine sOwn (hk := ?_))); refine aSeq_nil ?_)
          refine athen_n ⟨i + 1, by omega, by omega, ?_⟩
          rw [hnx, ← hkfin]
          exact le_C (.cons (Cut.nil _))
      · rw [hb21, if_neg (by simp), List.append_nil] at hrx
        refine Awp.skip ?_
        refine h19 _ ?_
        refine nT (hk := ?_)
        refine Awp.seq fun K22 h22 => ?_
        (refine Awp.region ?_; (repeat (first | refine sQ (hq := Quiet.pickOr rfl rfl rfl rfl) (hk := ?_) | refine sQ (hq := Quiet.pickAnd rfl rfl rfl rfl) (hk := ?_) | refine sQ (hk := ?_) | refine sSkip (hk := ?_) | refine sG (hk := ?_) | refine sOwn (hk := ?_))); refine aSeq_nil ?_)
        refine h22 _ ?_
        refine nT (hk := ?_)
        refine Awp.block ?_
        refine Awp.loopF (fun k : Nat => ⟨[.any, .ptr 0 0, .any, .bs tInt ((P ++ (regsX x).take k).foldl withL []), .lit (.int .i64 (b : Int)), .lit (.int .i64 (i : Int)), .any, .own 2 1, .any, .any, .lit (.int .i64 (k : Int)), .any, .any, .any, .any, .any, .any, .any, .any, .any, .any, .any, .any, .any, .any, .any, .any, .any, .any, .any, .any, .any, .any, .any, .any, .any, .any, .any, .any, .any, .any, .any, .any, .any, .any, .any, .any, .any, .any, .any, .any, .any, .any, .any, .any, .any, .any, .any, .any, .any, .any, .any, .any, .any, .any], [.box (encFunc f), .dead, .row 1 3 tInt (regsX x)]⟩) (fun k => k ≤ (regsX x).length) (fun k => (regsX x).length - k) 0 (Nat.zero_le _) (by rw [show P ++ (regsX x).take 0 = P by simp, hrx]; exact le_C (.cons (.dead (.cons (Cut.nil _))))) ?_
        intro k hk
        have hkl : (P ++ (regsX x).take k).length ≤ 2097152 := by rw [List.length_append, List.length_take]; omega
        have hko : okInts (P ++ (regsX x).take k) := fun r hr => by
          rcases List.mem_append.1 hr with hr | hr
          · exact hPo r hr
          · exact hxo r (List.mem_of_mem_take hr)
        obtain ⟨hl1, hl2⟩ := foldWL_len (P ++ (regsX x).take k)
        have hl2 := hl2 hko
        have hknx : ∀ r, (regsX x)[k]? = some r → (P ++ (regsX x).take (k + 1)).foldl withL [] = withL ((P ++ (regsX x).take k).foldl withL []) r := fun r hr => foldWL_next P hr
        have hkfin : k = (regsX x).length → (P ++ (regsX x).take k).foldl withL [] = (P ++ regsX x).foldl withL [] := fun e => by rw [e, List.take_length]
        dsimp only at hk ⊢
        generalize (P ++ (regsX x).take k).foldl withL [] = O at hl1 hl2 hknx hkfin ⊢
        refine Awp.seq fun K24 h24 => ?_
        refine Awp.seq fun K25 h25 => ?_
        (refine Awp.region ?_; (repeat (first | refine sQ (hq := Quiet.pickOr rfl rfl rfl rfl) (hk := ?_) | refine sQ (hq := Quiet.pickAnd rfl rfl rfl rfl) (hk := ?_) | refine sQ (hk := ?_) | refine sSkip (hk := ?_) | refine sG (hk := ?_) | refine sOwn (hk := ?_))); refine aSeq_nil ?_)
        refine h25 _ ?_
        refine nT (hk := ?_)
        refine Awp.cond rfl (fun hb26 => ?_) (fun hb26 => ?_)
        · have hklt : k < (regsX x).length := by simpa using hb26
          obtain ⟨r, hr⟩ : ∃ r, (regsX x)[k]? = some r := ⟨_, List.getElem?_eq_getElem hklt⟩
          have hrw := hxo r (List.mem_of_getElem? hr)
          have hknx := hknx r hr
          refine Awp.skip ?_
          refine h24 _ ?_
          refine nT (hk := ?_)
          refine Awp.seq fun K27 h27 => ?_
          refine Awp.block ?_
          (refine Awp.region ?_; (repeat (first | refine sQ (hq := Quiet.call rfl (with18_fn O r (by omega) hl2 hrw) rfl rfl rfl) (hk := ?_) | refine sQ (hq := Quiet.pickOr rfl rfl rfl rfl) (hk := ?_) | refine sQ (hq := Quiet.pickAnd rfl rfl rfl rfl) (hk := ?_) | refine sQ (hk := ?_) | refine sSkip (hk := ?_) | refine sG (hg := by first | rfl | exact gA_c rfl rfl) (hq := by (intro hg; (try simp only [Bool.and_eq_true, beq_iff_eq] at hg); (try simp only [hg, cond_true, Bool.true_and, beq_self_eq_true]); exact Quiet.call rfl (with18_fn O r (by omega) hl2 hrw) rfl rfl rfl)) (hk := ?_) | refine sG (hk := ?_) | refine sOwn (hk := ?_))); refine aSeq_nil ?_)
          refine h27 _ ?_
          refine nT (hk := ?_)
          (refine Awp.region ?_; (repeat (first | refine sQ (hq := Quiet.pickOr rfl rfl rfl rfl) (hk := ?_) | refine sQ (hq := Quiet.pickAnd rfl rfl rfl rfl) (hk := ?_) | refine sQ (hk := ?_) | refine sSkip (hk := ?_) | refine sG (hk := ?_) | refine sOwn (hk := ?_))); refine aSeq_nil ?_)
          refine athen_n ⟨k + 1, by omega, by omega, ?_⟩
          rw [hknx]
          exact le_T
        · have hke : k = (regsX x).length := by have : ¬ k < (regsX x).length := by simpa using hb26
                                                omega
          have hkfin := hkfin hke
          refine Awp.exit ?_
          refine h15 _ ?_
          refine nT (hk := ?_)
          (refine Awp.region ?_; (repeat (first | refine sQ (hq := Quiet.pickOr rfl rfl rfl rfl) (hk := ?_) | refine sQ (hq := Quiet.pickAnd rfl rfl rfl rfl) (hk := ?_) | refine sQ (hk := ?_) | refine sSkip (hk := ?_) | refine sG (hk := ?_) | refine sOwn (hk := ?_))); refine aSeq_nil ?_)
          refine athen_n ⟨i + 1, by omega, by omega, ?_⟩
          rw [hnx, ← hkfin]
          exact le_C (.cons (Cut.nil _))
    · have hie : i = bl.ins.length := by have : ¬ i < bl.ins.length := by simpa using hb14
                                         omega
      subst hie
      refine Awp.exit ?_
      refine h9 _ ?_
      refine nT (hk := ?_)
      (refine Awp.region ?_; (repeat (first | refine sQ (hq := Quiet.pickOr rfl rfl rfl rfl) (hk := ?_) | refine sQ (hq := Quiet.pickAnd rfl rfl rfl rfl) (hk := ?_) | refine sQ (hk := ?_) | refine sSkip (hk := ?_) | refine sG (hk := ?_) | refine sOwn (hk := ?_))); refine aSeq_nil ?_)
      refine athen_n ⟨b + 1, by omega, by omega, ?_⟩
      rw [hfn, show (bl.ins.take bl.ins.length).flatMap regsX = blkX bl by rw [List.take_length]; rfl]
      exact le_T
  · have hbe : b = f.blocks.length := by have : ¬ b < f.blocks.length := by simpa using hb8
                                         omega
    subst hbe
    rw [List.take_length]
    refine Awp.exit ?_
    refine h3 _ ?_
    refine nT (hk := ?_)
    refine Awp.seq fun K34 h34 => ?_
    (refine Awp.region ?_; (repeat (first | refine sQ (hq := Quiet.pickOr rfl rfl rfl rfl) (hk := ?_) | refine sQ (hq := Quiet.pickAnd rfl rfl rfl rfl) (hk := ?_) | refine sQ (hk := ?_) | refine sSkip (hk := ?_) | refine sG (hk := ?_) | refine sOwn (hk := ?_))); refine aSeq_nil ?_)
    refine h34 _ ?_
    refine nT (hk := ?_)
    refine Awp.ret ?_
    exact ⟨.inr rfl, Fin.cl rfl⟩

def great18 (f : Func) : Bool := great17 f || decide (((regs18L f).length : Int) > 60)
set_option maxRecDepth 100000 in
theorem great18_fn (f : Func) (ho : okFunc f) (hs : smallF f) (hX : (allX f).length ≤ 2097152) : Fn Try.prog 8 [.agg (encFunc f)] (.lit (.bool (great18 f))) := by
  have hgr := great17_fn f hs
  have hrg := regs18_fn f ho hs hX
  refine Fn.of_awp Try.func8 rfl (by kernel_rfl) rfl Try.ntmps8 fun C hC => ?_
  simp only [List.length_cons, List.length_nil, Nat.reduceAdd, Nat.reduceSub, List.replicate_succ, List.replicate_zero, List.cons_append, List.nil_append]
  refine Awp.seq fun K1 h1 => ?_
  (refine Awp.region ?_; (repeat (first | refine sQ (hq := Quiet.pickOr rfl rfl rfl rfl) (hk := ?_) | refine sQ (hq := Quiet.pickAnd rfl rfl rfl rfl) (hk := ?_) | refine sQ (hk := ?_) | refine sSkip (hk := ?_) | refine sG (hk := ?_) | refine sOwn (hk := ?_))); refine aSeq_nil ?_)
  refine h1 _ ?_
  refine nT (hk := ?_)
  refine Awp.seq fun K2 h2 => ?_
  (refine Awp.region ?_; (repeat (first | refine sQ (hq := Quiet.call rfl hgr rfl rfl rfl) (hk := ?_) | refine sQ (hq := Quiet.call rfl hrg rfl rfl rfl) (hk := ?_) | refine sQ (hq := Quiet.pickOr rfl rfl rfl rfl) (hk := ?_) | refine sQ (hq := Quiet.pickAnd rfl rfl rfl rfl) (hk := ?_) | refine sQ (hk := ?_) | refine sSkip (hk := ?_) | refine sG (hg := by first | rfl | exact gA_c rfl rfl) (hq := by (intro hg; (try simp only [beq_iff_eq] at hg); (try simp only [hg, cond_true, beq_self_eq_true]); exact Quiet.call rfl hgr rfl rfl rfl)) (hk := ?_) | refine sG (hg := by first | rfl | exact gA_c rfl rfl) (hq := by (intro hg; (try simp only [beq_iff_eq] at hg); (try simp only [hg, cond_true, beq_self_eq_true]); exact Quiet.call rfl hrg rfl rfl rfl)) (hk := ?_) | refine sG (hk := ?_) | refine sOwn (hk := ?_))); refine aSeq_nil ?_)
  refine h2 _ ?_
  refine nT (hk := ?_)
  refine Awp.ret ?_
  exact ⟨.inr rfl, Fin.cl rfl⟩
end Mu
end
section
/-
  The reference's rising rows are bound's: registers, in plain terms.
  Conditions: none.
-/
namespace Mu
open Go Go.RowKit Go.Proofs

theorem foldW_asc {n : Int} : ∀ (l : List Int) (s : List Int × Bool), Asc (s.1 ++ l) → (s.2 = false → ∀ y ∈ s.1, y < n) → n ∉ l →
    Asc (l.foldl (stepW n) s).1 ∧ (∀ y, y ∈ (l.foldl (stepW n) s).1 ↔ (y ∈ s.1 ∨ y ∈ l) ∨ (y = n ∧ (l.foldl (stepW n) s).2 = true ∧ s.2 = false)) ∧ ((l.foldl (stepW n) s).2 = false → ∀ y ∈ (l.foldl (stepW n) s).1, y < n)
  | [], s, ha, hb, _ => by
    refine ⟨by simpa using ha, fun y => ?_, hb⟩
    simp only [List.foldl_nil, List.not_mem_nil, or_false]
    constructor
    · exact fun h => .inl h
    · rintro (h | ⟨_, h1, h2⟩)
      · exact h
      · rw [h1] at h2; cases h2
  | x :: l, s, ha, hb, hn => by
    have hnx : n ≠ x := fun e => hn (by rw [e]; exact List.mem_cons_self ..)
    have hnl : n ∉ l := fun e => hn (List.mem_cons_of_mem _ e)
    unfold Asc at ha
    rw [List.pairwise_append] at ha
    obtain ⟨a1, a2, a3⟩ := ha
    rw [List.pairwise_cons] at a2
    rw [List.foldl_cons]
    by_cases hc : (!s.2 && decide (x > n)) = true
    · have hs : s.2 = false := by
        simp only [Bool.and_eq_true, Bool.not_eq_true'] at hc
        exact hc.1
      have hxn : x > n := by
        simp only [Bool.and_eq_true, decide_eq_true_eq] at hc
        exact hc.2
      have e : stepW n s x = (s.1 ++ [n] ++ [x], true) := if_pos hc
      rw [e]
      obtain ⟨i1, i2, i3⟩ := foldW_asc l (s.1 ++ [n] ++ [x], true) (by
        unfold Asc
        rw [List.append_assoc, List.append_assoc, List.pairwise_append]
        refine ⟨a1, ?_, fun a hay b hbz => ?_⟩
        · simp only [List.cons_append, List.nil_append, List.pairwise_cons]
          refine ⟨fun b hbm => ?_, a2.1, a2.2⟩
          rcases List.mem_cons.1 hbm with rfl | hbm
          · omega
          · have := a2.1 b hbm
            omega
        · have h1 := hb hs a hay
          simp only [List.cons_append, List.nil_append, List.mem_cons] at hbz
          rcases hbz with rfl | rfl | hbz
          · exact h1
          · omega
          · have := a2.1 b hbz
            omega) (fun h => by cases h) hnl
      have ht : (l.foldl (stepW n) (s.1 ++ [n] ++ [x], true)).2 = true := by
        by_cases h : (l.foldl (stepW n) (s.1 ++ [n] ++ [x], true)).2 = true
        · exact h
        · have h := i3 (by simpa using h) n ((i2 n).2 (.inl (.inl (by simp))))
          omega
      refine ⟨i1, fun y => ?_, fun h => by rw [ht] at h; cases h⟩
      rw [i2, ht, hs]
      simp only [List.mem_append, List.mem_cons, List.not_mem_nil, or_false, and_true, reduceCtorEq, and_false]
      constructor
      · rintro ((h | h) | h)
        · rcases h with h | h
          · exact .inl (.inl h)
          · exact .inr h
        · exact .inl (.inr (.inl h))
        · exact .inl (.inr (.inr h))
      · rintro ((h | h | h) | h)
        · exact .inl (.inl (.inl h))
        · exact .inl (.inr h)
        · exact .inr h
        · exact .inl (.inl (.inr h))
    · have e : stepW n s x = (s.1 ++ [x], s.2) := if_neg hc
      rw [e]
      obtain ⟨i1, i2, i3⟩ := foldW_asc l (s.1 ++ [x], s.2) (by
        unfold Asc
        rw [List.append_assoc, List.pairwise_append]
        refine ⟨a1, ?_, fun a hay b hbz => a3 a hay b (by simpa using hbz)⟩
        simp only [List.cons_append, List.nil_append, List.pairwise_cons]
        exact a2) (fun h y hy => by
        rcases List.mem_append.1 hy with hy | hy
        · exact hb h y hy
        · rw [List.mem_singleton.1 hy]
          have h : s.2 = false := h
          rw [h] at hc
          have : ¬ x > n := by simpa using hc
          omega) hnl
      refine ⟨i1, fun y => ?_, i3⟩
      rw [i2]
      simp only [List.mem_append, List.mem_cons, List.not_mem_nil, or_false, or_assoc]
theorem withL_asc {l : List Int} (h : Asc l) (n : Int) : Asc (withL l n) ∧ ∀ y, y ∈ withL l n ↔ y = n ∨ y ∈ l := by
  unfold withL
  split
  · rename_i hc
    have hc := List.contains_iff_mem.1 hc
    exact ⟨h, fun y => ⟨.inr, fun hy => by
      rcases hy with rfl | hy
      · exact hc
      · exact hy⟩⟩
  · rename_i hc
    have hn : n ∉ l := fun e => hc (List.contains_iff_mem.2 e)
    obtain ⟨i1, i2, i3⟩ := foldW_asc (n := n) l ([], false) (by simpa using h) (fun _ y hy => by cases hy) hn
    have i1 : Asc (foldW n l).1 := i1
    have i2 : ∀ y, y ∈ (foldW n l).1 ↔ (y ∈ ([] : List Int) ∨ y ∈ l) ∨ (y = n ∧ (foldW n l).2 = true ∧ false = false) := i2
    have i3 : (foldW n l).2 = false → ∀ y ∈ (foldW n l).1, y < n := i3
    simp only [List.not_mem_nil, false_or, and_true] at i2
    split
    · rename_i hd
      have hd : (foldW n l).2 = false := by simpa using hd
      refine ⟨?_, fun y => ?_⟩
      · unfold Asc
        rw [List.pairwise_append]
        refine ⟨i1, List.pairwise_singleton .., fun a ha b hb => ?_⟩
        rw [List.mem_singleton.1 hb]
        exact i3 hd a ha
      · rw [List.mem_append, i2, hd, List.mem_singleton]
        simp only [Bool.false_eq_true, and_false, or_false]
        exact or_comm
    · rename_i hd
      have hd : (foldW n l).2 = true := by simpa using hd
      refine ⟨i1, fun y => ?_⟩
      rw [i2, hd]
      simp only [and_true]
      exact or_comm
theorem foldWL_asc (l : List Int) : Asc (l.foldl withL []) ∧ ∀ y, y ∈ l.foldl withL [] ↔ y ∈ l := by
  suffices h : ∀ (l s : List Int), Asc s → Asc (l.foldl withL s) ∧ ∀ y, y ∈ l.foldl withL s ↔ y ∈ s ∨ y ∈ l by
    obtain ⟨h1, h2⟩ := h l [] List.Pairwise.nil
    exact ⟨h1, fun y => by rw [h2]; simp⟩
  intro l
  induction l with
  | nil => exact fun s hs => ⟨hs, fun y => by simp⟩
  | cons x l ih =>
    intro s hs
    obtain ⟨a1, a2⟩ := withL_asc hs x
    obtain ⟨h1, h2⟩ := ih (withL s x) a1
    rw [List.foldl_cons]
    refine ⟨h1, fun y => ?_⟩
    rw [h2, a2, List.mem_cons]
    constructor
    · rintro ((h | h) | h)
      · exact .inr (.inl h)
      · exact .inl h
      · exact .inr (.inr h)
    · rintro (h | h | h)
      · exact .inl (.inr h)
      · exact .inl (.inl h)
      · exact .inr h
theorem regs18_asc (f : Func) : Asc (regs18L f) ∧ ∀ y, y ∈ regs18L f ↔ y ∈ allX f := foldWL_asc _
end Mu
end
section
/-
  The reference's answer on what crosses is inter's, in plain terms; its places are bound's.
  Conditions: none.
-/
namespace Mu
open Go Go.RowKit Go.Proofs

/-- what the reference asks of each register behind an instruction -/
def crossQ (x : Ins) (r : Int) : Bool := x.op == 7 || (x.op == 5 && r != x.d)
theorem crossA_eq (q : Ins × List Int) : crossA q = q.2.filter (crossQ q.1) := by
  unfold crossA crossQ
  split
  · rename_i h
    simp only [Bool.and_eq_true, bne_iff_ne, ne_eq] at h
    refine (List.filter_eq_nil_iff.2 fun r _ => ?_).symm
    simp [h.1, h.2]
  · rename_i h
    refine List.filter_congr fun r _ => ?_
    by_cases h7 : q.1.op = 7
    · simp [h7]
    · have h5 : q.1.op = 5 := by
        simp only [Bool.and_eq_true, bne_iff_ne, ne_eq, not_and, Decidable.not_not] at h
        by_cases h5 : q.1.op = 5
        · exact h5
        · exact absurd (h h5) h7
      simp [h5]
end Mu
end
section
/-
  muntinref18.Cross, walked.
  Conditions: data of at most 2^21 everywhere.
-/
namespace Mu
open Go Go.RowKit Go.Proofs

end Mu
end
section
/-
  Which pairs of registers part, and which would like to share a place, in plain words.
  Conditions: none.
-/
namespace Mu
open Go Go.RowKit Go.Proofs

/-! ### rising pairs -/
def ltP (x y : Pair) : Prop := x.a < y.a ∨ (x.a = y.a ∧ x.b < y.b)
theorem ltP_irr (x : Pair) : ¬ ltP x x := fun h => by rcases h with h | h <;> omega
theorem ltP_tr {x y z : Pair} (h1 : ltP x y) (h2 : ltP y z) : ltP x z := by unfold ltP at *; omega
theorem ltP_asymm {x y : Pair} (h1 : ltP x y) : ¬ ltP y x := fun h2 => ltP_irr x (ltP_tr h1 h2)
abbrev AscP (l : List Pair) : Prop := l.Pairwise ltP
theorem ascP_ext : ∀ {l m : List Pair}, AscP l → AscP m → (∀ x, x ∈ l ↔ x ∈ m) → l = m
  | [], [], _, _, _ => rfl
  | [], y :: m, _, _, h => by have := (h y).2 (by simp); cases this
  | x :: l, [], _, _, h => by have := (h x).1 (by simp); cases this
  | x :: l, y :: m, hl, hm, h => by
    have hl := List.pairwise_cons.1 hl
    have hm := List.pairwise_cons.1 hm
    have e : x = y := by
      rcases List.mem_cons.1 ((h x).1 (by simp)) with e | e
      · exact e
      · rcases List.mem_cons.1 ((h y).2 (by simp)) with e2 | e2
        · exact e2.symm
        · exact absurd (hl.1 y e2) (ltP_asymm (hm.1 x e))
    subst e
    refine congrArg _ (ascP_ext hl.2 hm.2 fun z => ⟨fun hz => ?_, fun hz => ?_⟩)
    · rcases List.mem_cons.1 ((h z).1 (by simp [hz])) with e | e
      · subst e; exact absurd (hl.1 _ hz) (ltP_irr _)
      · exact e
    · rcases List.mem_cons.1 ((h z).2 (by simp [hz])) with e | e
      · subst e; exact absurd (hm.1 _ hz) (ltP_irr _)
      · exact e
theorem mem_pairsOf : ∀ {R : List Int} {x : Pair}, Asc R → (x ∈ pairsOf R ↔ x.a ∈ R ∧ x.b ∈ R ∧ x.a < x.b)
  | [], x, _ => by simp [pairsOf]
  | a :: R, x, h => by
    have h := List.pairwise_cons.1 h
    unfold pairsOf
    rw [List.mem_append, mem_pairsOf h.2, List.mem_map]
    constructor
    · rintro (⟨b, hb, rfl⟩ | ⟨h1, h2, h3⟩)
      · exact ⟨by simp, by simp [hb], h.1 b hb⟩
      · exact ⟨by simp [h1], by simp [h2], h3⟩
    · rintro ⟨h1, h2, h3⟩
      rcases List.mem_cons.1 h1 with e | e
      · rcases List.mem_cons.1 h2 with e2 | e2
        · omega
        · exact .inl ⟨x.b, e2, by rw [← e]⟩
      · rcases List.mem_cons.1 h2 with e2 | e2
        · have := h.1 x.a e; omega
        · exact .inr ⟨e, e2, h3⟩
theorem pairsOf_asc : ∀ {R : List Int}, Asc R → AscP (pairsOf R)
  | [], _ => List.Pairwise.nil
  | a :: R, h => by
    have h := List.pairwise_cons.1 h
    unfold pairsOf
    refine List.pairwise_append.2 ⟨List.pairwise_map.2 (h.2.imp fun h => .inr ⟨rfl, h⟩), pairsOf_asc h.2, fun x hx y hy => ?_⟩
    obtain ⟨b, hb, rfl⟩ := List.mem_map.1 hx
    exact .inl (h.1 _ ((mem_pairsOf h.2).1 hy).1)
theorem pairsOf_len : ∀ (R : List Int), (pairsOf R).length ≤ R.length * R.length
  | [] => Nat.le_refl _
  | a :: R => by
    unfold pairsOf
    rw [List.length_append, List.length_map, List.length_cons]
    have := pairsOf_len R
    have e : (R.length + 1) * (R.length + 1) = R.length * R.length + 2 * R.length + 1 := by rw [Nat.add_mul, Nat.mul_add]; omega
    omega

/-! ### sets of pairs -/
def addPL (S : Pair → Bool) (l : List Pair) : Pair → Bool := fun x => S x || l.contains x
theorem addPL_nil (S : Pair → Bool) : addPL S [] = S := by funext x; simp [addPL]
theorem addPL_append (S : Pair → Bool) (l m : List Pair) : addPL S (l ++ m) = addPL (addPL S l) m := by
  funext x
  simp only [addPL, List.contains_eq_mem, List.mem_append, Bool.decide_or, Bool.or_assoc]
theorem addPL_one (S : Pair → Bool) (q : Pair) : addPL S [q] = addP S q := by
  funext x
  simp only [addPL, addP, List.contains_eq_mem, List.mem_cons, List.not_mem_nil, or_false]
theorem addPL_iff {S : Pair → Bool} {l : List Pair} {x : Pair} : addPL S l x = true ↔ S x = true ∨ x ∈ l := by
  simp only [addPL, Bool.or_eq_true, List.contains_iff_mem]
/-- the pair of two registers, if they are not the same -/
def pairOf (a b : Int) : List Pair := if a = b then [] else [⟨min a b, max a b⟩]
/-- a set lies in the pairs of a row -/
def InP (R : List Int) (S : Pair → Bool) : Prop := ∀ x, S x = true → x.a ∈ R ∧ x.b ∈ R ∧ x.a < x.b
theorem InP.none (R : List Int) : InP R fun _ => false := fun _ h => by cases h
theorem pairOf_in {R : List Int} {a b : Int} (ha : a ∈ R) (hb : b ∈ R) : ∀ x ∈ pairOf a b, x.a ∈ R ∧ x.b ∈ R ∧ x.a < x.b := fun x hx => by
  unfold pairOf at hx
  split at hx
  · cases hx
  · simp only [List.mem_cons, List.not_mem_nil, or_false] at hx
    subst hx
    dsimp only
    rcases Int.lt_or_lt_of_ne (by assumption) with h | h
    · rw [Int.min_eq_left (by omega), Int.max_eq_right (by omega)]; exact ⟨ha, hb, h⟩
    · rw [Int.min_eq_right (by omega), Int.max_eq_left (by omega)]; exact ⟨hb, ha, h⟩
theorem InP.addL {R : List Int} {S : Pair → Bool} {l : List Pair} (h : InP R S) (hl : ∀ x ∈ l, x.a ∈ R ∧ x.b ∈ R ∧ x.a < x.b) : InP R (addPL S l) := fun x hx => by
  rcases addPL_iff.1 hx with hx | hx
  · exact h x hx
  · exact hl x hx
def asPairs (R : List Int) (S : Pair → Bool) : List Pair := (pairsOf R).filter S
theorem mem_asPairs {R : List Int} {S : Pair → Bool} {x : Pair} (hR : Asc R) (h : InP R S) : x ∈ asPairs R S ↔ S x = true := by
  unfold asPairs
  rw [List.mem_filter, mem_pairsOf hR]
  exact ⟨fun h => h.2, fun hx => ⟨h x hx, hx⟩⟩
theorem asPairs_asc {R : List Int} {S : Pair → Bool} (hR : Asc R) : AscP (asPairs R S) := (pairsOf_asc hR).filter S

/-! ### who parts -/
/-- the pairs that an instruction parts, with what is live behind it -/
def edgeR (q : Ins × List Int) (r : Int) : Bool := writesB q.1 && (q.1.op != 2 || r != q.1.a)
def edgeA (q : Ins × List Int) : List Pair := (q.2.filter (edgeR q)).flatMap (pairOf q.1.d)
def edgeK (f : Func) (k : Nat) : Pair → Bool := addPL (fun _ => false) (((stepsL f).take k).flatMap edgeA)
/-- the pairs of a row that is live at the beginning -/
def edgeF (l : List Int) : List Pair := (List.range l.length).flatMap fun i => (l.take i).flatMap (pairOf (l[i]?.getD 0))
def firstL (f : Func) : List Int := if f.blocks.length = 0 then [] else ((blockL f 0)[0]?).getD []
def edgesS (f : Func) : Pair → Bool := addPL (edgeK f (stepsL f).length) (edgeF (firstL f))
def edgesL (f : Func) : List Pair := asPairs (regs18L f) (edgesS f)
def mvA (q : Ins × List Int) : List Pair := if q.1.op = 2 then pairOf q.1.d q.1.a else []
def mvK (f : Func) (k : Nat) : Pair → Bool := addPL (fun _ => false) (((stepsL f).take k).flatMap mvA)
def mvL (f : Func) : List Pair := asPairs (regs18L f) (mvK f (stepsL f).length)
/-- who parts from one -/
def nearX (r : Int) (x : Pair) : List Int := if r = x.a then [x.b] else if r = x.b then [x.a] else []
def nearL (f : Func) (r : Int) : List Int := (regs18L f).filter fun y => r != y && edgesS f ⟨min r y, max r y⟩
theorem edgeK_succ {f : Func} {k : Nat} {q : Ins × List Int} (h : (stepsL f)[k]? = some q) : edgeK f (k + 1) = addPL (edgeK f k) (edgeA q) := by
  unfold edgeK
  rw [List.take_add_one, h, Option.toList_some, List.flatMap_append, addPL_append]
  simp
theorem edgeK_zero (f : Func) : edgeK f 0 = fun _ => false := by
  unfold edgeK
  rw [List.take_zero, List.flatMap_nil, addPL_nil]
theorem movesK_succ {f : Func} {k : Nat} {q : Ins × List Int} (h : (stepsL f)[k]? = some q) : mvK f (k + 1) = addPL (mvK f k) (mvA q) := by
  unfold mvK
  rw [List.take_add_one, h, Option.toList_some, List.flatMap_append, addPL_append]
  simp
theorem movesK_zero (f : Func) : mvK f 0 = fun _ => false := by
  unfold mvK
  rw [List.take_zero, List.flatMap_nil, addPL_nil]
/-- so many of a row have been looked at -/
def edgeI (S : Pair → Bool) (q : Ins × List Int) (i : Nat) : Pair → Bool := addPL S (((q.2.take i).filter (edgeR q)).flatMap (pairOf q.1.d))
theorem edgeI_zero (S : Pair → Bool) (q : Ins × List Int) : edgeI S q 0 = S := by
  unfold edgeI
  rw [List.take_zero, List.filter_nil, List.flatMap_nil, addPL_nil]
theorem edgeI_yes {S : Pair → Bool} {q : Ins × List Int} {i : Nat} {r : Int} (h : q.2[i]? = some r) (hq : edgeR q r = true) : edgeI S q (i + 1) = addPL (edgeI S q i) (pairOf q.1.d r) := by
  unfold edgeI
  rw [List.take_add_one, h, Option.toList_some, List.filter_append, List.filter_cons, hq, List.filter_nil, List.flatMap_append, addPL_append]
  simp
theorem edgeI_no {S : Pair → Bool} {q : Ins × List Int} {i : Nat} {r : Int} (h : q.2[i]? = some r) (hq : edgeR q r = false) : edgeI S q (i + 1) = edgeI S q i := by
  unfold edgeI
  rw [List.take_add_one, h, Option.toList_some, List.filter_append, List.filter_cons, hq, List.filter_nil]
  simp
theorem edgeI_all (S : Pair → Bool) (q : Ins × List Int) : edgeI S q q.2.length = addPL S (edgeA q) := by
  unfold edgeI edgeA
  rw [List.take_length]
/-- so many rounds over the row at the beginning, and so many within the last one -/
def edgeG (S : Pair → Bool) (l : List Int) (i k : Nat) : Pair → Bool := addPL (addPL S ((List.range i).flatMap fun j => (l.take j).flatMap (pairOf (l[j]?.getD 0)))) ((l.take k).flatMap (pairOf (l[i]?.getD 0)))
theorem edgeG_zero (S : Pair → Bool) (l : List Int) : edgeG S l 0 0 = S := by
  unfold edgeG
  rw [List.range_zero, List.flatMap_nil, List.take_zero, List.flatMap_nil, addPL_nil, addPL_nil]
theorem edgeG_succ {S : Pair → Bool} {l : List Int} {i k : Nat} {a b : Int} (ha : l[i]? = some a) (hb : l[k]? = some b) : edgeG S l i (k + 1) = addPL (edgeG S l i k) (pairOf a b) := by
  unfold edgeG
  rw [List.take_add_one, hb, ha, Option.toList_some, List.flatMap_append, addPL_append]
  simp
theorem edgeG_next (S : Pair → Bool) (l : List Int) (i : Nat) : edgeG S l i i = edgeG S l (i + 1) 0 := by
  unfold edgeG
  rw [List.range_succ, List.flatMap_append, List.take_zero, List.flatMap_nil, addPL_nil, addPL_append]
  simp
theorem edgeG_all (S : Pair → Bool) (l : List Int) : edgeG S l l.length 0 = addPL S (edgeF l) := by
  unfold edgeG edgeF
  rw [List.take_zero, List.flatMap_nil, addPL_nil]

/-! ### all of them are a function's registers -/
theorem mem_regs18 {f : Func} {r : Int} : r ∈ regs18L f ↔ ∃ b ∈ f.blocks, ∃ x ∈ b.ins, r ∈ regsX x := by
  rw [(regs18_asc f).2]
  unfold allX blkX
  simp only [List.mem_flatMap]
theorem regs18_read {f : Func} {r : Int} (h : r ∈ regsL f) : r ∈ regs18L f := by
  obtain ⟨b, hb, x, hx, hr⟩ := regsL_mem.1 h
  exact mem_regs18.2 ⟨b, hb, x, hx, List.mem_append.2 (.inl hr)⟩
theorem steps_ins {f : Func} {q : Ins × List Int} (h : q ∈ stepsL f) : (∃ b ∈ f.blocks, q.1 ∈ b.ins) ∧ ∀ r ∈ q.2, r ∈ regs18L f :=
  ⟨(stepsL_mem h).1, fun r hr => regs18_read ((stepsL_mem h).2.1 r hr)⟩
theorem regs18_d {f : Func} {q : Ins × List Int} (h : q ∈ stepsL f) (hw : writesB q.1 = true) : q.1.d ∈ regs18L f := by
  obtain ⟨b, hb, hx⟩ := (steps_ins h).1
  exact mem_regs18.2 ⟨b, hb, q.1, hx, List.mem_append.2 (.inr (by rw [hw]; simp))⟩
theorem mov_writes {x : Ins} (h : x.op = 2) : writesB x = true ∧ x.a ∈ readsC x := by
  unfold writesB readsC
  rw [h]
  exact ⟨by rfl, List.mem_append.2 (.inl (List.mem_append.2 (.inl (by rw [if_pos (by rfl)]; simp))))⟩
theorem regs18_a {f : Func} {q : Ins × List Int} (h : q ∈ stepsL f) (hw : q.1.op = 2) : q.1.a ∈ regs18L f := by
  obtain ⟨b, hb, hx⟩ := (steps_ins h).1
  exact mem_regs18.2 ⟨b, hb, q.1, hx, List.mem_append.2 (.inl (mov_writes hw).2)⟩
theorem flat_pairs_in {R : List Int} {a : Int} {l : List Int} (ha : a ∈ R) (hl : ∀ r ∈ l, r ∈ R) : ∀ x ∈ l.flatMap (pairOf a), x.a ∈ R ∧ x.b ∈ R ∧ x.a < x.b := fun x hx => by
  obtain ⟨r, hr, hx⟩ := List.mem_flatMap.1 hx
  exact pairOf_in ha (hl r hr) x hx
theorem edgeI_in {f : Func} {S : Pair → Bool} {q : Ins × List Int} (hS : InP (regs18L f) S) (h : q ∈ stepsL f) (i : Nat) : InP (regs18L f) (edgeI S q i) := by
  unfold edgeI
  by_cases hw : writesB q.1 = true
  · exact hS.addL (flat_pairs_in (regs18_d h hw) fun r hr => (steps_ins h).2 r (List.mem_of_mem_take (List.mem_filter.1 hr).1))
  · rw [show (q.2.take i).filter (edgeR q) = [] from List.filter_eq_nil_iff.2 fun r _ => by unfold edgeR; simp [hw], List.flatMap_nil, addPL_nil]
    exact hS
theorem edgeK_in (f : Func) : ∀ k, InP (regs18L f) (edgeK f k)
  | 0 => by rw [edgeK_zero]; exact InP.none _
  | k + 1 => by
    by_cases hk : k < (stepsL f).length
    · have hq := List.getElem?_eq_getElem hk
      rw [edgeK_succ hq, ← edgeI_all]
      exact edgeI_in (edgeK_in f k) (List.mem_of_getElem? hq) _
    · have : edgeK f (k + 1) = edgeK f k := by
        unfold edgeK
        rw [List.take_of_length_le (by omega), List.take_of_length_le (by omega)]
      rw [this]
      exact edgeK_in f k
theorem firstL_in (f : Func) : ∀ r ∈ firstL f, r ∈ regs18L f := fun r hr => by
  unfold firstL at hr
  split at hr
  · cases hr
  · unfold blockL at hr
    cases h : ((List.range ((insOf f 0).length + 1)).map (placeL f (regsL f) 0))[0]? with
    | none => rw [h] at hr; cases hr
    | some l =>
      rw [h] at hr
      obtain ⟨i, _, e⟩ := List.mem_map.1 (List.mem_of_getElem? h)
      rw [← e] at hr
      exact regs18_read (List.mem_filter.1 hr).1
theorem edgeG_in {R : List Int} {S : Pair → Bool} {l : List Int} (hS : InP R S) (hl : ∀ r ∈ l, r ∈ R) {i k : Nat} (hi : i ≤ l.length) (hik : k = 0 ∨ i < l.length) : InP R (edgeG S l i k) := by
  have hg : ∀ j, j < l.length → (l[j]?.getD 0) ∈ R := fun j hj => by
    rw [List.getElem?_eq_getElem hj]
    exact hl _ (List.getElem_mem hj)
  unfold edgeG
  refine InP.addL (InP.addL hS fun x hx => ?_) ?_
  · obtain ⟨j, hj, hx⟩ := List.mem_flatMap.1 hx
    exact flat_pairs_in (hg j (by have := List.mem_range.1 hj; omega)) (fun r hr => hl r (List.mem_of_mem_take hr)) x hx
  · rcases hik with rfl | hik
    · intro x hx; simp at hx
    · exact flat_pairs_in (hg i hik) fun r hr => hl r (List.mem_of_mem_take hr)
theorem edgesS_in (f : Func) : InP (regs18L f) (edgesS f) := by
  unfold edgesS
  rw [← edgeG_all]
  exact edgeG_in (edgeK_in f _) (firstL_in f) (Nat.le_refl _) (.inl rfl)
theorem movesK_in (f : Func) : ∀ k, InP (regs18L f) (mvK f k)
  | 0 => by rw [movesK_zero]; exact InP.none _
  | k + 1 => by
    by_cases hk : k < (stepsL f).length
    · have hq := List.getElem?_eq_getElem hk
      have hm := List.mem_of_getElem? hq
      rw [movesK_succ hq]
      refine (movesK_in f k).addL fun x hx => ?_
      unfold mvA at hx
      split at hx
      · rename_i h2
        exact pairOf_in (regs18_d hm (mov_writes h2).1) (regs18_a hm h2) x hx
      · cases hx
    · have : mvK f (k + 1) = mvK f k := by
        unfold mvK
        rw [List.take_of_length_le (by omega), List.take_of_length_le (by omega)]
      rw [this]
      exact movesK_in f k
end Mu
end
