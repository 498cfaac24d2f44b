/-
  Own texts laid together, part 4: MuRef17C, MuRef17D, MuRef17E, MuRef17F, MuLiveQ, MuLiveR, MuAll, MuLiveF, MuRef14A, MuRef14B, MuOwnC, MuRef14C, MuStr, MuRef12, MuLaw17A, MuLaw17B, MuLaw17C.
  Conditions: as each part says.
-/
import Derived.Test.YteeekjidkjdpjaaLa3
import Derived.Laws.Strings3
section
/-
  muntinref17: sorted, Regs, walked.
  Conditions: at most 2^21 of everything.
-/
namespace Mu
open Go Go.RowKit Go.Proofs

def swapL (l : List Int) (q : Nat) : List Int := (l.set q (l.getD (q + 1) 0)).set (q + 1) (l.getD q 0)
def siftL : Nat → List Int → List Int
  | 0, l => l
  | q + 1, l => if l.getD q 0 > l.getD (q + 1) 0 then siftL q (swapL l q) else l
def sortedL (l : List Int) : List Int := siftL (l.length - 1) l
theorem swapL_len (l : List Int) (q : Nat) : (swapL l q).length = l.length := by simp [swapL]
theorem siftL_len : ∀ (k : Nat) (l : List Int), (siftL k l).length = l.length
  | 0, l => rfl
  | q + 1, l => by
    unfold siftL
    split
    · rw [siftL_len q, swapL_len]
    · rfl
theorem swapL_ok {l : List Int} (h : okInts l) {q : Nat} (hq : q + 1 < l.length) : okInts (swapL l q) := by
  intro x hx
  unfold swapL at hx
  have hq' : q < l.length := by omega
  have h1 : l.getD q 0 ∈ l := by rw [List.getD_eq_getElem?_getD, List.getElem?_eq_getElem hq']; exact List.getElem_mem _
  have h2 : l.getD (q + 1) 0 ∈ l := by rw [List.getD_eq_getElem?_getD, List.getElem?_eq_getElem hq]; exact List.getElem_mem _
  rcases List.mem_or_eq_of_mem_set hx with h3 | h3
  · rcases List.mem_or_eq_of_mem_set h3 with h4 | h4
    · exact h x h4
    · rw [h4]; exact h _ h2
  · rw [h3]; exact h _ h1

set_option maxRecDepth 100000 in
set_option maxHeartbeats 1000000 in
theorem sorted17_fn (l : List Int) (ho : okInts l) (h0 : 0 < l.length) (hl : l.length ≤ 4194304) : FnRow Try.prog 73 3 tInt l (sortedL l) := by
  refine FnRow.of_awp Try.func73 rfl (by kernel_rfl) rfl Try.ntmps73 (fun _ _ _ _ _ h => h) fun C => ?_
  simp only [Nat.reduceSub, List.replicate_succ, List.replicate_zero, List.cons_append, List.nil_append]
  refine Awp.seq fun K1 h1 => ?_
  (refine Awp.region ?_; (repeat (first | refine sQ (hk := ?_) | refine sSkip (hk := ?_) | refine sOwn (hk := ?_))); refine aSeq_nil ?_)
  refine h1 _ ?_
  refine nT (hk := ?_)
  refine Awp.seq fun K2 h2 => ?_
  refine Awp.seq fun K3 h3 => ?_
  (refine Awp.region ?_; (repeat (first | refine sQ (hk := ?_) | refine sSkip (hk := ?_) | refine sOwn (hk := ?_))); refine aSeq_nil ?_)
  refine h3 _ ?_
  refine nT (hk := ?_)
  refine Awp.block ?_
  have he0 : ((l.length : Int) - 1) = ((l.length - 1 : Nat) : Int) := by omega
  rw [he0]
  refine Awp.loopF (fun p : Nat × List Int => ⟨[.own 0 0, .any, .any, .lit (.int .i64 (p.1 : Int)), .any, .any, .any, .any, .any, .any, .any, .any, .any, .any, .any, .any, .any, .any, .any, .any, .any, .any, .any, .any, .any, .any, .any, .any, .any, .any, .any, .any, .any, .any, .any, .any, .any, .any, .any, .any], [.row 0 3 tInt p.2]⟩) (fun p => p.2.length = l.length ∧ p.1 < l.length ∧ okInts p.2 ∧ siftL p.1 p.2 = sortedL l) (fun p => p.1) (l.length - 1, l) ⟨rfl, by omega, ho, rfl⟩ (le_T) ?_
  rintro ⟨k, m⟩ ⟨hml, hkl, hmo, hsf⟩
  dsimp only at hml hkl hmo hsf ⊢
  refine Awp.seq fun K5 h5 => ?_
  refine Awp.seq fun K6 h6 => ?_
  cases k with
  | zero =>
    have hb : decide (((0 : Nat) : Int) > 0) = false := by decide
    (refine drawD 14 (hh := ?_); (repeat (first | refine qQ (hk := ?_) | refine qSkip (hk := ?_))); refine aQ_nil ?_; (repeat (first | refine sQ (hk := ?_) | refine sSkip (hk := ?_) | refine sOwn (hk := ?_))); refine aSeq_nil ?_)
    refine h6 _ ?_
    refine nT (hk := ?_)
    refine Awp.cond rfl (fun hb7 => by cases hb7) (fun hb7 => ?_)
    refine Awp.exit ?_
    refine h2 _ ?_
    refine nT (hk := ?_)
    refine Awp.seq fun K9 h9 => ?_
    (refine Awp.region ?_; (repeat (first | refine sQ (hk := ?_) | refine sSkip (hk := ?_) | refine sOwn (hk := ?_))); refine aSeq_nil ?_)
    refine h9 _ ?_
    refine nT (hk := ?_)
    refine Awp.ret ?_
    exact ⟨.inr rfl, 0, 0, rfl, by rw [← hsf]; rfl, rfl⟩
  | succ q =>
    have hb : decide (((q + 1 : Nat) : Int) > 0) = true := by simp
    have hx0 : m[(((q + 1 : Nat) : Int) - 1).toNat]? = some (m.getD q 0) := by
      have : (((q + 1 : Nat) : Int) - 1).toNat = q := by omega
      rw [this, List.getD_eq_getElem?_getD, List.getElem?_eq_getElem (by omega)]; rfl
    have hx1 : m[q + 1]? = some (m.getD (q + 1) 0) := by
      rw [List.getD_eq_getElem?_getD, List.getElem?_eq_getElem (by omega)]; rfl
    have hw0 := hmo _ (List.mem_of_getElem? hx0)
    have hw1 := hmo _ (List.mem_of_getElem? hx1)
    have hql : q + 1 < m.length := by omega
    have hx2 : (m.set (((q + 1 : Nat) : Int) - 1).toNat (m.getD (q + 1) 0))[q + 1]? = some (m.getD (q + 1) 0) := by
      rw [List.getElem?_set_ne (by omega)]; exact hx1
    have hql2 : q + 1 < (m.set (((q + 1 : Nat) : Int) - 1).toNat (m.getD (q + 1) 0)).length := by simpa using hql
    rw [siftL] at hsf
    rcases hc : decide (m.getD q 0 > m.getD (q + 1) 0) with _ | _
    · rw [if_neg (by simpa using hc)] at hsf
      (refine drawD 14 (hh := ?_); (repeat (first | refine qQ (hk := ?_) | refine qSkip (hk := ?_))); refine aQ_nil ?_; (repeat (first | refine sQ (hk := ?_) | refine sSkip (hk := ?_) | refine sOwn (hk := ?_))); refine aSeq_nil ?_)
      refine h6 _ ?_
      refine nT (hk := ?_)
      refine Awp.cond rfl (fun hb7 => by cases hb7) (fun hb7 => ?_)
      refine Awp.exit ?_
      refine h2 _ ?_
      refine nT (hk := ?_)
      refine Awp.seq fun K9 h9 => ?_
      (refine Awp.region ?_; (repeat (first | refine sQ (hk := ?_) | refine sSkip (hk := ?_) | refine sOwn (hk := ?_))); refine aSeq_nil ?_)
      refine h9 _ ?_
      refine nT (hk := ?_)
      refine Awp.ret ?_
      exact ⟨.inr rfl, 0, 0, rfl, by rw [← hsf]; rfl, rfl⟩
    · rw [if_pos (by simpa using hc)] at hsf
      (refine drawD 14 (hh := ?_); (repeat (first | refine qQ (hk := ?_) | refine qSkip (hk := ?_))); refine aQ_nil ?_; (repeat (first | refine sQ (hk := ?_) | refine sSkip (hk := ?_) | refine sOwn (hk := ?_))); refine aSeq_nil ?_)
      refine h6 _ ?_
      refine nT (hk := ?_)
      refine Awp.cond rfl (fun hb7 => ?_) (fun hb7 => by cases hb7)
      refine Awp.skip ?_
      refine h5 _ ?_
      refine nT (hk := ?_)
      refine Awp.seq fun K8 h8 => ?_
      refine Awp.block ?_
      (refine Awp.drawF 15 [3, 4] [0, 1, 2, 5, 6, 7, 8, 9, 10, 11, 12, 13, 14] (by kernel_rfl) (by kernel_rfl) (by decide) rfl ?_; refine aQo_nt (by (try simp only [putA, evA, List.getElem?_cons_zero, List.getElem?_cons_succ, Option.getD_some, List.set_cons_zero, List.set_cons_succ]); exact rfl) ?_; (repeat (refine aQo_t (by simp only [List.getElem?_toArray, List.getElem?_cons_succ, List.getElem?_cons_zero]; exact rfl) rfl ?_; (first | refine QOp.q (Quiet.move rfl (by (conv => lhs; whnf); try rfl)) ?_ | refine QOp.q (Quiet.assign rfl (by (conv => lhs; whnf); try rfl)) ?_ | refine QOp.q (Quiet.fa_ptr rfl rfl rfl) ?_ | refine QOp.q (Quiet.fa_bp rfl rfl) ?_ | refine QOp.q (Quiet.fa_rp rfl rfl rfl) ?_ | refine QOp.q (Quiet.load_ptr rfl rfl rfl rfl) ?_ | refine QOp.q (Quiet.load_bp rfl rfl rfl) ?_ | refine QOp.q (Quiet.load_rp rfl rfl rfl (by assumption) rfl) ?_ | refine QOp.q (Quiet.loadA_ptr rfl rfl rfl rfl) ?_ | refine QOp.q (Quiet.loadA_bp rfl rfl rfl) ?_ | refine QOp.q (Quiet.ix rfl rfl rfl rfl (by assumption)) ?_ | refine QOp.q (Quiet.ixi rfl rfl rfl rfl (by first | decide | omega) (by assumption)) ?_ | refine QOp.q (Quiet.ixo rfl rfl rfl rfl rfl (by first | assumption | omega)) ?_ | refine QOp.q (Quiet.ixoi rfl rfl rfl rfl rfl (by first | decide | omega) (by first | assumption | omega)) ?_ | refine QOp.q (Quiet.ln rfl rfl) ?_ | refine QOp.q (Quiet.lno rfl rfl rfl) ?_ | refine QOp.q (Quiet.lnl rfl rfl) ?_ | refine QOp.q (Quiet.add64 rfl rfl rfl (by omega)) ?_ | refine QOp.q (Quiet.sub64 rfl rfl rfl (by omega)) ?_ | refine QOp.q (Quiet.binb rfl rfl rfl rfl (by assumption)) ?_ | refine QOp.q (Quiet.bin rfl rfl rfl rfl) ?_ | refine QOp.q (Quiet.bnot rfl rfl) ?_ | refine QOp.q (Quiet.pick rfl rfl (by (conv => lhs; whnf); try rfl)) ?_ | refine QOp.q (Quiet.extract rfl rfl rfl) ?_ | refine QOp.q (Quiet.lt1 rfl rfl rfl (by rfl) (by decide) (by first | exact Fit.bool | exact Fit.bs | exact Fit.int (by assumption))) ?_ | refine QOp.q (Quiet.max2 rfl rfl rfl) ?_ | refine QOp.q (Quiet.min2 rfl rfl rfl) ?_); refine aQo_nt (by (try simp only [putA, List.set_cons_zero, List.set_cons_succ]); exact rfl) ?_)); refine aQo_nil ?_)
      have hfin : ∀ s' : St, St.le C s' ⟨[.own 0 0, .any, .any, .lit (.int .i64 ((q + 1 : Nat) : Int)), .any, .any, .any, .any, .any, .any, .any, .any, .any, .any, .any, .any, .any, .any, .any, .any, .any, .any, .any, .any, .any, .any, .any, .any, .any, .any, .any, .any, .any, .any, .any, .any, .any, .any, .any, .any], [.row 0 3 tInt (swapL m q)]⟩ → K8 s' := fun s' hle => by
        refine h8 _ (Awp.via _ hle ?_)
        (refine Awp.region ?_; (repeat (first | refine sQ (hk := ?_) | refine sSkip (hk := ?_) | refine sOwn (hk := ?_))); refine aSeq_nil ?_)
        refine athen_n ⟨(q, swapL m q), ⟨by rw [swapL_len]; exact hml, by omega, swapL_ok hmo hql, hsf⟩, by simp, ?_⟩
        have e2 : (((q + 1 : Nat) : Int) - 1) = (q : Int) := by omega
        rw [e2]
        exact le_T
      have hgo : ∀ t : List AV, Fgt 1 t [.own 0 0, .any, .any, .lit (.int .i64 ((q + 1 : Nat) : Int)), .any, .any, .any, .any, .any, .any, .any, .any, .any, .any, .any, .any, .any, .any, .any, .any, .any, .any, .any, .any, .any, .any, .any, .any, .any, .any, .any, .any, .any, .any, .any, .any, .any, .any, .any, .any] → K8 ⟨t, [.row 0 3 tInt ((m.set (((q + 1 : Nat) : Int) - 1).toNat (m.getD (q + 1) 0)).set (q + 1) (m.getD q 0))]⟩ := fun t ht => by
        have e1 : (((q + 1 : Nat) : Int) - 1).toNat = q := by omega
        rw [e1]
        exact hfin _ (St.le_t rfl ht)
      refine tAny_step [15] (by kernel_rfl) (by simp) (tAll_cons (by simp only [List.getElem?_toArray, List.getElem?_cons_succ, List.getElem?_cons_zero]; exact rfl) rfl ?_ tAll_nil)
      (first | refine oQ (hk := ?_) | refine oOwn (hk := ?_))
      refine tAny_step [16] (by kernel_rfl) (by simp) (tAll_cons (by simp only [List.getElem?_toArray, List.getElem?_cons_succ, List.getElem?_cons_zero]; exact rfl) rfl ?_ tAll_nil)
      (first | refine oQ (hk := ?_) | refine oOwn (hk := ?_))
      refine tAny_step [17] (by kernel_rfl) (by simp) (tAll_cons (by simp only [List.getElem?_toArray, List.getElem?_cons_succ, List.getElem?_cons_zero]; exact rfl) rfl ?_ tAll_nil)
      (first | refine oQ (hk := ?_) | refine oOwn (hk := ?_))
      exact tAny_done (by kernel_rfl) (hgo _ (by (try simp only []); repeat (first | exact Fgt.nil | refine Fgt.keep rfl ?_ | refine Fgt.any ?_)))
end Mu
end
section
/-
  muntinref17.Regs, walked.
  Conditions: at most 2^21 of everything.
-/
namespace Mu
open Go Go.RowKit Go.Proofs

def allReads (f : Func) : List Int := f.blocks.flatMap fun b => b.ins.flatMap readsC
def insR (out : List Int) (x : Int) : List Int := if out.contains x then out else sortedL (out ++ [x])
def regsOf (l : List Int) : List Int := l.foldl insR []
def regsL (f : Func) : List Int := regsOf (allReads f)
theorem regsOf_snoc (l : List Int) (x : Int) : regsOf (l ++ [x]) = insR (regsOf l) x := by simp [regsOf]
theorem sortedL_len (l : List Int) : (sortedL l).length = l.length := siftL_len _ _
theorem siftL_ok : ∀ (k : Nat) (l : List Int), k < l.length → okInts l → okInts (siftL k l)
  | 0, l, _, h => h
  | q + 1, l, hq, h => by
    unfold siftL
    split
    · exact siftL_ok q _ (by rw [swapL_len]; omega) (swapL_ok h hq)
    · exact h
theorem insR_len (out : List Int) (x : Int) : (insR out x).length ≤ out.length + 1 := by
  unfold insR
  split
  · omega
  · rw [sortedL_len]; simp
theorem insR_ok {out : List Int} {x : Int} (h : okInts out) (hx : wfI .i64 x) : okInts (insR out x) := by
  unfold insR
  split
  · exact h
  · unfold sortedL
    refine siftL_ok _ _ (by simp) fun y hy => ?_
    rcases List.mem_append.1 hy with h1 | h1
    · exact h y h1
    · simp at h1; rw [h1]; exact hx
theorem regsOf_rev (l : List Int) : (regsOf l).length ≤ l.length ∧ (okInts l → okInts (regsOf l)) := by
  have key : ∀ (l out : List Int), (l.foldl insR out).length ≤ out.length + l.length ∧ (okInts l → okInts out → okInts (l.foldl insR out)) := by
    intro l
    induction l with
    | nil => intro out; exact ⟨by simp, fun _ h => h⟩
    | cons x l ih =>
      intro out
      obtain ⟨h1, h2⟩ := ih (insR out x)
      have := insR_len out x
      refine ⟨by simp only [List.foldl_cons, List.length_cons]; omega, fun hl ho => h2 (fun y hy => hl y (by simp [hy])) (insR_ok ho (hl x (by simp)))⟩
  obtain ⟨h1, h2⟩ := key l []
  unfold regsOf
  exact ⟨by simpa using h1, fun h => h2 h fun y hy => by cases hy⟩
theorem flat_ok {l : List Ins} (h : ∀ x ∈ l, okIns x) : okInts (l.flatMap readsC) := fun r hr => by
  obtain ⟨x, hx, h1⟩ := List.mem_flatMap.1 hr
  exact readsC_ok (h x hx) r h1
theorem allReads_ok {f : Func} (h : okFunc f) : okInts (allReads f) := fun r hr => by
  obtain ⟨b, hb, h1⟩ := List.mem_flatMap.1 hr
  exact flat_ok (h.blocks b hb).ins r h1
theorem flat_take_len {α : Type} (g : α → List Int) (l : List α) (k : Nat) : ((l.take k).flatMap g).length ≤ (l.flatMap g).length := by
  have : l.flatMap g = (l.take k).flatMap g ++ (l.drop k).flatMap g := by rw [← List.flatMap_append, List.take_append_drop]
  rw [this, List.length_append]
  omega
theorem flat_take_succ {α : Type} (g : α → List Int) {l : List α} {k : Nat} {x : α} (hx : l[k]? = some x) : (l.take (k + 1)).flatMap g = (l.take k).flatMap g ++ g x := by
  rw [List.take_add_one, hx, List.flatMap_append]
  simp

set_option maxRecDepth 100000 in
set_option maxHeartbeats 4000000 in
theorem regs17_fn (f : Func) (ho : okFunc f) (hs : smallF f) (hT : (allReads f).length ≤ 2097152) : Fn Try.prog 50 [.agg (encFunc f)] (.bs tInt (regsL f)) := by
  have hbl := hs.blocks
  refine Fn.of_awp Try.func50 rfl (by kernel_rfl) rfl Try.ntmps50 fun C hC => ?_
  simp only [List.length_cons, List.length_nil, Nat.reduceAdd, Nat.reduceSub, List.replicate_succ, List.replicate_zero, List.cons_append, List.nil_append]
  refine Awp.seq fun K1 h1 => ?_
  (refine Awp.region ?_; (repeat (first | refine sQ (hk := ?_) | refine sSkip (hk := ?_) | refine sOwn (hk := ?_))); refine aSeq_nil ?_)
  refine h1 _ ?_
  refine nT (hk := ?_)
  refine Awp.seq fun K2 h2 => ?_
  (refine Awp.region ?_; (repeat (first | refine sQ (hk := ?_) | refine sSkip (hk := ?_) | refine sOwn (hk := ?_))); refine aSeq_nil ?_)
  refine h2 _ ?_
  refine nT (hk := ?_)
  refine Awp.seq fun K3 h3 => ?_
  refine Awp.seq fun K4 h4 => ?_
  (refine Awp.region ?_; (repeat (first | refine sQ (hk := ?_) | refine sSkip (hk := ?_) | refine sOwn (hk := ?_))); refine aSeq_nil ?_)
  refine h4 _ ?_
  refine nT (hk := ?_)
  refine Awp.block ?_
  refine Awp.loopF (fun p : Nat × Nat => ⟨[.any, .ptr 0 0, .any, .own 1 p.2, .lit (.int .i64 (p.1 : Int)), .any, .any, .any, .any, .any, .any, .any, .any, .any, .any, .any, .any, .any, .any, .any, .any, .any, .any, .any, .any, .any, .any, .any, .any, .any, .any, .any, .any, .any, .any, .any, .any, .any, .any, .any, .any, .any, .any, .any, .any, .any, .any, .any, .any, .any, .any, .any, .any, .any, .any, .any, .any, .any], [.box (encFunc f), .row p.2 3 tInt (regsOf ((f.blocks.take p.1).flatMap fun b => b.ins.flatMap readsC))]⟩) (fun p => p.1 ≤ f.blocks.length) (fun p => f.blocks.length - p.1) (0, 0) (Nat.zero_le _) ((St.le_nil 3 3 tInt rfl Nat.zero_lt_one).trans (le_T)) ?_
  rintro ⟨b, ver⟩ hb
  dsimp only at hb ⊢
  refine Awp.seq fun K6 h6 => ?_
  refine Awp.seq fun K7 h7 => ?_
  (refine Awp.region ?_; (repeat (first | refine sQ (hk := ?_) | refine sSkip (hk := ?_) | refine sOwn (hk := ?_))); refine aSeq_nil ?_)
  refine h7 _ ?_
  refine nT (hk := ?_)
  refine Awp.cond rfl (fun hb8 => ?_) (fun hb8 => ?_)
  · have hlt : b < f.blocks.length := by simpa using hb8
    obtain ⟨bl, hbk⟩ : ∃ bl, f.blocks[b]? = some bl := ⟨_, List.getElem?_eq_getElem hlt⟩
    have hmem := List.mem_of_getElem? hbk
    have hsb := (hs.all bl hmem).ins
    have hsuc := flat_take_succ (fun b : Block => b.ins.flatMap readsC) hbk
    have hcnt := flat_take_len (fun b : Block => b.ins.flatMap readsC) f.blocks (b + 1)
    have hokA : okInts ((f.blocks.take b).flatMap fun b => b.ins.flatMap readsC) := fun r hr => allReads_ok ho r (by
      obtain ⟨c, hc, h1⟩ := List.mem_flatMap.1 hr
      exact List.mem_flatMap.2 ⟨c, List.mem_of_mem_take hc, h1⟩)
    generalize ((f.blocks.take b).flatMap fun b => b.ins.flatMap readsC) = A at hsuc hokA ⊢
    rw [hsuc] at hcnt
    have hcnt2 : (A ++ bl.ins.flatMap readsC).length ≤ 2097152 := Nat.le_trans hcnt hT
    refine Awp.skip ?_
    refine h6 _ ?_
    refine nT (hk := ?_)
    refine Awp.seq fun K9 h9 => ?_
    refine Awp.block ?_
    refine Awp.seq fun K10 h10 => ?_
    (refine Awp.region ?_; (repeat (first | refine sQ (hk := ?_) | refine sSkip (hk := ?_) | refine sOwn (hk := ?_))); refine aSeq_nil ?_)
    refine h10 _ ?_
    refine nT (hk := ?_)
    refine Awp.block ?_
    refine Awp.loopF (fun p : Nat × Nat => ⟨[.any, .ptr 0 0, .any, .own 1 p.2, .lit (.int .i64 (b : Int)), .lit (.int .i64 (p.1 : Int)), .any, .any, .any, .any, .any, .any, .any, .any, .any, .any, .any, .any, .any, .any, .any, .any, .any, .any, .any, .any, .any, .any, .any, .any, .any, .any, .any, .any, .any, .any, .any, .any, .any, .any, .any, .any, .any, .any, .any, .any, .any, .any, .any, .any, .any, .any, .any, .any, .any, .any, .any, .any], [.box (encFunc f), .row p.2 3 tInt (regsOf (A ++ (bl.ins.take p.1).flatMap readsC))]⟩) (fun p => p.1 ≤ bl.ins.length) (fun p => bl.ins.length - p.1) (0, ver) (Nat.zero_le _) (by simp only [List.take_zero, List.flatMap_nil, List.append_nil]; exact le_T) ?_
    rintro ⟨i, ver1⟩ hi
    dsimp only at hi ⊢
    refine Awp.seq fun K12 h12 => ?_
    refine Awp.seq fun K13 h13 => ?_
    (refine Awp.region ?_; (repeat (first | refine sQ (hk := ?_) | refine sSkip (hk := ?_) | refine sOwn (hk := ?_))); refine aSeq_nil ?_)
    refine h13 _ ?_
    refine nT (hk := ?_)
    refine Awp.cond rfl (fun hb14 => ?_) (fun hb14 => ?_)
    · have hlti : i < bl.ins.length := by simpa using hb14
      obtain ⟨x, hx⟩ : ∃ x, bl.ins[i]? = some x := ⟨_, List.getElem?_eq_getElem hlti⟩
      have hxm := List.mem_of_getElem? hx
      have hxo := (ho.blocks bl hmem).ins x hxm
      have hxa := (hs.all bl hmem).all x hxm
      have hsuc2 := flat_take_succ readsC hx
      have hcnt3 := flat_take_len readsC bl.ins (i + 1)
      have hokB : okInts (A ++ (bl.ins.take i).flatMap readsC) := fun r hr => by
        rcases List.mem_append.1 hr with h1 | h1
        · exact hokA r h1
        · exact flat_ok (fun y hy => (ho.blocks bl hmem).ins y (List.mem_of_mem_take hy)) r h1
      rw [hsuc2] at hcnt3
      have hcnt4 : (A ++ (bl.ins.take i).flatMap readsC).length + (readsC x).length ≤ 2097152 := by
        simp only [List.length_append] at hcnt2 hcnt3 ⊢
        omega
      generalize hB : A ++ (bl.ins.take i).flatMap readsC = B at hokB hcnt4 ⊢
      have hrx := readsC_ok hxo
      have hrl : (readsC x).length ≤ 2097152 := by omega
      refine Awp.skip ?_
      refine h12 _ ?_
      refine nT (hk := ?_)
      refine Awp.seq fun K15 h15 => ?_
      refine Awp.block ?_
      refine Awp.seq fun K16 h16 => ?_
      (refine Awp.region ?_; (repeat (first | refine sQ (hq := Quiet.call rfl (ref_reads_fn x hxo (by omega)) rfl rfl rfl) (hk := ?_) | refine sQ (hk := ?_) | refine sSkip (hk := ?_) | refine sOwn (hk := ?_))); refine aSeq_nil ?_)
      refine h16 _ ?_
      refine nT (hk := ?_)
      refine Awp.seq fun K17 h17 => ?_
      (refine Awp.region ?_; (repeat (first | refine sQ (hk := ?_) | refine sSkip (hk := ?_) | refine sOwn (hk := ?_))); refine aSeq_nil ?_)
      refine h17 _ ?_
      refine nT (hk := ?_)
      refine Awp.block ?_
      refine Awp.loopF (fun p : Nat × Nat => ⟨[.any, .ptr 0 0, .any, .own 1 p.2, .lit (.int .i64 (b : Int)), .lit (.int .i64 (i : Int)), .bs tInt (readsC x), .lit (.int .i64 (p.1 : Int)), .any, .any, .any, .any, .any, .any, .any, .any, .any, .any, .any, .any, .any, .any, .any, .any, .any, .any, .any, .any, .any, .any, .any, .any, .any, .any, .any, .any, .any, .any, .any, .any, .any, .any, .any, .any, .any, .any, .any, .any, .any, .any, .any, .any, .any, .any, .any, .any, .any, .any], [.box (encFunc f), .row p.2 3 tInt (regsOf (B ++ (readsC x).take p.1))]⟩) (fun p => p.1 ≤ (readsC x).length) (fun p => (readsC x).length - p.1) (0, ver1) (Nat.zero_le _) (by simp only [List.take_zero, List.append_nil]; exact le_T) ?_
      rintro ⟨k, ver2⟩ hk
      dsimp only at hk ⊢
      refine Awp.seq fun K18 h18 => ?_
      refine Awp.seq fun K19 h19 => ?_
      (refine Awp.region ?_; (repeat (first | refine sQ (hk := ?_) | refine sSkip (hk := ?_) | refine sOwn (hk := ?_))); refine aSeq_nil ?_)
      refine h19 _ ?_
      refine nT (hk := ?_)
      refine Awp.cond rfl (fun hb20 => ?_) (fun hb20 => ?_)
      · have hltk : k < (readsC x).length := by simpa using hb20
        obtain ⟨r, hr⟩ : ∃ r, (readsC x)[k]? = some r := ⟨_, List.getElem?_eq_getElem hltk⟩
        have hrw := hrx r (List.mem_of_getElem? hr)
        have hst : regsOf (B ++ (readsC x).take (k + 1)) = insR (regsOf (B ++ (readsC x).take k)) r := by
          rw [List.take_add_one, hr, ← List.append_assoc]
          exact regsOf_snoc _ _
        obtain ⟨hol, hoo⟩ := regsOf_rev (B ++ (readsC x).take k)
        have hoo' := hoo fun y hy => by
          rcases List.mem_append.1 hy with h1 | h1
          · exact hokB y h1
          · exact hrx y (List.mem_of_mem_take h1)
        have hol' : (regsOf (B ++ (readsC x).take k)).length ≤ 2097152 := by
          simp only [List.length_append, List.length_take] at hol hcnt4
          omega
        generalize regsOf (B ++ (readsC x).take k) = out at hst hol' hoo' ⊢
        refine Awp.skip ?_
        refine h18 _ ?_
        refine nT (hk := ?_)
        refine Awp.seq fun K21 h21 => ?_
        refine Awp.block ?_
        refine Awp.seq fun K22 h22 => ?_
        rcases hc : out.contains r with _ | _
        · have hins : insR out r = sortedL (out ++ [r]) := by unfold insR; rw [if_neg (by rw [hc]; simp)]
          have hn1 : out.length + [r].length ≤ maxLen := by simp [maxLen]; omega
          have hn2 : (out.length + [r].length) * 8 ≤ 140737488355328 := by simp; omega
          (refine Awp.region ?_; (repeat (first | refine sQ (hq := Quiet.lend rfl (by have := in17_fn out r hol'; rw [hc] at this; exact this) (.own rfl (.cl rfl .nil))) (hk := ?_) | refine sQ (hk := ?_) | refine sSkip (hk := ?_) | refine sOwn (hk := ?_))); refine aSeq_nil ?_)
          refine h22 _ ?_
          refine nT (hk := ?_)
          refine Awp.cond rfl (fun hb23 => ?_) (fun hb => by cases hb)
          (refine Awp.region ?_; (repeat (first | (refine aSeq_t rfl (AOp.callRow rfl (sorted17_fn (out ++ [r]) (fun y hy => (List.mem_append.1 hy).elim (hoo' y) fun h => by simp at h; rw [h]; exact hrw) (by simp) (by simp; omega)) rfl rfl ?_); refine sNt (hk := ?_)) | refine sQ (hk := ?_) | refine sSkip (hk := ?_) | refine sOwn (hk := ?_))); refine aSeq_nil ?_)
          refine h21 _ ?_
          refine nT (hk := ?_)
          (refine Awp.region ?_; (repeat (first | refine sQ (hk := ?_) | refine sSkip (hk := ?_) | refine sOwn (hk := ?_))); refine aSeq_nil ?_)
          refine athen_n ⟨(k + 1, ver2 + 1 + 1), by omega, by dsimp only; omega, ?_⟩
          dsimp only
          rw [hst, hins]
          exact le_T
        · have hins : insR out r = out := by unfold insR; rw [if_pos hc]
          (refine Awp.region ?_; (repeat (first | refine sQ (hq := Quiet.lend rfl (by have := in17_fn out r hol'; rw [hc] at this; exact this) (.own rfl (.cl rfl .nil))) (hk := ?_) | refine sQ (hk := ?_) | refine sSkip (hk := ?_) | refine sOwn (hk := ?_))); refine aSeq_nil ?_)
          refine h22 _ ?_
          refine nT (hk := ?_)
          refine Awp.cond rfl (fun hb => by cases hb) (fun hb23 => ?_)
          refine Awp.skip ?_
          refine h21 _ ?_
          refine nT (hk := ?_)
          (refine Awp.region ?_; (repeat (first | refine sQ (hk := ?_) | refine sSkip (hk := ?_) | refine sOwn (hk := ?_))); refine aSeq_nil ?_)
          refine athen_n ⟨(k + 1, ver2), by omega, by dsimp only; omega, ?_⟩
          dsimp only
          rw [hst, hins]
          exact le_T
      · refine Awp.exit ?_
        refine h15 _ ?_
        refine nT (hk := ?_)
        have hkk : k = (readsC x).length := by have : ¬ k < (readsC x).length := by simpa using hb20
                                               omega
        (refine Awp.region ?_; (repeat (first | refine sQ (hk := ?_) | refine sSkip (hk := ?_) | refine sOwn (hk := ?_))); refine aSeq_nil ?_)
        refine athen_n ⟨(i + 1, ver2), by omega, by dsimp only; omega, ?_⟩
        dsimp only
        rw [hsuc2, hkk, List.take_length, ← List.append_assoc, hB]
        exact le_T
    · refine Awp.exit ?_
      refine h9 _ ?_
      refine nT (hk := ?_)
      have hii : i = bl.ins.length := by have : ¬ i < bl.ins.length := by simpa using hb14
                                         omega
      (refine Awp.region ?_; (repeat (first | refine sQ (hk := ?_) | refine sSkip (hk := ?_) | refine sOwn (hk := ?_))); refine aSeq_nil ?_)
      refine athen_n ⟨(b + 1, ver1), by omega, by dsimp only; omega, ?_⟩
      dsimp only
      rw [hsuc, hii, List.take_length]
      exact le_T
  · refine Awp.exit ?_
    refine h3 _ ?_
    refine nT (hk := ?_)
    have hbb : b = f.blocks.length := by have : ¬ b < f.blocks.length := by simpa using hb8
                                         omega
    refine Awp.seq fun K24 h24 => ?_
    (refine Awp.region ?_; (repeat (first | refine sQ (hk := ?_) | refine sSkip (hk := ?_) | refine sOwn (hk := ?_))); refine aSeq_nil ?_)
    refine h24 _ ?_
    refine nT (hk := ?_)
    refine Awp.ret ?_
    rw [hbb, List.take_length]
    exact ⟨.inr rfl, Fin.own rfl⟩
end Mu
end
section
/-
  muntinref17: Place, All, walked.
  Conditions: at most 2^21 of everything.
-/
namespace Mu
open Go Go.RowKit Go.Proofs

def liveAt (f : Func) (b i : Nat) (r : Int) : Bool := (readsP r ((insOf f b).drop i)).1 || (!(readsP r ((insOf f b).drop i)).2 && behindB f (insI f r) b)
def placeL (f : Func) (regs : List Int) (b i : Nat) : List Int := regs.filter (liveAt f b i)
def blockL (f : Func) (b : Nat) : List (List Int) := (List.range ((insOf f b).length + 1)).map (placeL f (regsL f) b)
def allL (f : Func) : List (List (List Int)) := (List.range f.blocks.length).map (blockL f)
theorem filter_take_succ {p : Int → Bool} {l : List Int} {k : Nat} {x : Int} (hx : l[k]? = some x) : (l.take (k + 1)).filter p = (l.take k).filter p ++ if p x then [x] else [] := by
  rw [List.take_add_one, hx, List.filter_append]
  cases h : p x <;> simp [h]
theorem insI_len (f : Func) (r : Int) : (insI f r).length = f.blocks.length := roundsI_len f r _

set_option maxRecDepth 100000 in
set_option maxHeartbeats 4000000 in
theorem place17_fn (f : Func) (regs : List Int) (b i : Nat) (bl : Block) (ho : okFunc f) (hs : smallF f) (hr : okInts regs) (hrl : regs.length ≤ 2097152) (hb : f.blocks[b]? = some bl) (hi : i ≤ bl.ins.length) :
    Fn Try.prog 52 [.agg (encFunc f), .bs tInt regs, .bs Ty.bool.slice (regs.map (insI f)), .lit (.int .i64 (b : Int)), .lit (.int .i64 (i : Int))] (.bs tInt (placeL f regs b i)) := by
  have hbl := hs.blocks
  have hmem := List.mem_of_getElem? hb
  have hins : insOf f b = bl.ins := by unfold insOf; rw [hb]
  refine Fn.of_awp Try.func52 rfl (by kernel_rfl) rfl Try.ntmps52 fun C hC => ?_
  simp only [List.length_cons, List.length_nil, Nat.reduceAdd, Nat.reduceSub, List.replicate_succ, List.replicate_zero, List.cons_append, List.nil_append]
  refine Awp.seq fun K1 h1 => ?_
  (refine Awp.region ?_; (repeat (first | refine sQ (hk := ?_) | refine sSkip (hk := ?_) | refine sOwn (hk := ?_))); refine aSeq_nil ?_)
  refine h1 _ ?_
  refine nT (hk := ?_)
  refine Awp.seq fun K2 h2 => ?_
  (refine Awp.region ?_; (repeat (first | refine sQ (hk := ?_) | refine sSkip (hk := ?_) | refine sOwn (hk := ?_))); refine aSeq_nil ?_)
  refine h2 _ ?_
  refine nT (hk := ?_)
  refine Awp.seq fun K3 h3 => ?_
  refine Awp.seq fun K4 h4 => ?_
  (refine Awp.region ?_; (repeat (first | refine sQ (hk := ?_) | refine sSkip (hk := ?_) | refine sOwn (hk := ?_))); refine aSeq_nil ?_)
  refine h4 _ ?_
  refine nT (hk := ?_)
  refine Awp.block ?_
  refine Awp.loopF (fun p : Nat × Nat => ⟨[.any, .bs tInt regs, .bs Ty.bool.slice (regs.map (insI f)), .lit (.int .i64 (b : Int)), .lit (.int .i64 (i : Int)), .ptr 0 0, .any, .any, .any, .any, .any, .own 1 p.2, .lit (.int .i64 (p.1 : Int)), .any, .any, .any, .any, .any, .any, .any, .any, .any, .any, .any, .any, .any, .any, .any, .any, .any, .any, .any, .any, .any, .any, .any, .any, .any, .any, .any, .any, .any, .any, .any, .any, .any, .any, .any, .any, .any, .any, .any, .any, .any, .any, .any, .any], [.box (encFunc f), .row p.2 3 tInt ((regs.take p.1).filter (liveAt f b i))]⟩) (fun p => p.1 ≤ regs.length) (fun p => regs.length - p.1) (0, 0) (Nat.zero_le _) ((St.le_nil 11 3 tInt rfl Nat.zero_lt_one).trans (le_T)) ?_
  rintro ⟨k, ver⟩ hk
  dsimp only at hk ⊢
  refine Awp.seq fun K6 h6 => ?_
  refine Awp.seq fun K7 h7 => ?_
  (refine Awp.region ?_; (repeat (first | refine sQ (hk := ?_) | refine sSkip (hk := ?_) | refine sOwn (hk := ?_))); refine aSeq_nil ?_)
  refine h7 _ ?_
  refine nT (hk := ?_)
  refine Awp.cond rfl (fun hb8 => ?_) (fun hb8 => ?_)
  · have hlt : k < regs.length := by simpa using hb8
    obtain ⟨r, hrk⟩ : ∃ r, regs[k]? = some r := ⟨_, List.getElem?_eq_getElem hlt⟩
    have hrw := hr r (List.mem_of_getElem? hrk)
    have hik : (regs.map (insI f))[k]? = some (insI f r) := by rw [List.getElem?_map, hrk]; rfl
    have hst := filter_take_succ (p := liveAt f b i) hrk
    have hol := List.length_filter_le (liveAt f b i) (regs.take k)
    have hol2 : ((regs.take k).filter (liveAt f b i)).length ≤ 2097152 := by simp only [List.length_take] at hol; omega
    have hlv : liveAt f b i r = ((readsP r (bl.ins.drop i)).1 || (!(readsP r (bl.ins.drop i)).2 && behindB f (insI f r) b)) := by unfold liveAt; rw [hins]
    have hyes : liveAt f b i r = true → (regs.take (k + 1)).filter (liveAt f b i) = (regs.take k).filter (liveAt f b i) ++ [r] := fun h => by rw [hst, if_pos h]
    have hno : liveAt f b i r = false → (regs.take (k + 1)).filter (liveAt f b i) = (regs.take k).filter (liveAt f b i) := fun h => by rw [hst, if_neg (by simp [h]), List.append_nil]
    generalize hout : (regs.take k).filter (liveAt f b i) = out at hyes hno hol2 ⊢
    have hn1 : out.length + [r].length ≤ maxLen := by simp [maxLen]; omega
    have hn2 : (out.length + [r].length) * 8 ≤ 140737488355328 := by simp; omega
    refine Awp.skip ?_
    refine h6 _ ?_
    refine nT (hk := ?_)
    refine Awp.seq fun K9 h9 => ?_
    refine Awp.block ?_
    refine Awp.seq fun K10 h10 => ?_
    (refine drawD 16 (hh := ?_); (repeat (first | refine qQ (hq := Quiet.call rfl (reads17_fn bl i r (ho.blocks bl hmem) (hs.all bl hmem) hi) rfl rfl rfl) (hk := ?_) | refine qQ (hk := ?_) | refine qSkip (hk := ?_))); refine aQ_nil ?_; (repeat (first | refine sQ (hq := Quiet.call rfl (reads17_fn bl i r (ho.blocks bl hmem) (hs.all bl hmem) hi) rfl rfl rfl) (hk := ?_) | refine sQ (hk := ?_) | refine sSkip (hk := ?_) | refine sOwn (hk := ?_))); refine aSeq_nil ?_)
    refine h10 _ ?_
    refine nT (hk := ?_)
    rcases hr1 : (readsP r (bl.ins.drop i)).1 with _ | _
    · rcases hr2 : (readsP r (bl.ins.drop i)).2 with _ | _
      · rw [hr1, hr2] at hlv
        refine Awp.seq fun K11 h11 => ?_
        rcases hbb : behindB f (insI f r) b with _ | _
        · rw [hbb] at hlv
          (refine drawD 14 (hh := ?_); (repeat (first | refine qQ (hq := Quiet.call rfl (by have := behind17_fn f (insI f r) b ho hs (insI_len f r); rw [hbb] at this; exact this) rfl rfl rfl) (hk := ?_) | refine qQ (hk := ?_) | refine qSkip (hk := ?_))); refine aQ_nil ?_; (repeat (first | refine sQ (hq := Quiet.call rfl (by have := behind17_fn f (insI f r) b ho hs (insI_len f r); rw [hbb] at this; exact this) rfl rfl rfl) (hk := ?_) | refine sQ (hk := ?_) | refine sSkip (hk := ?_) | refine sOwn (hk := ?_))); refine aSeq_nil ?_)
          refine h11 _ ?_
          refine nT (hk := ?_)
          refine Awp.cond rfl (fun hb => by cases hb) (fun hb12 => ?_)
          refine Awp.skip ?_
          refine h9 _ ?_
          refine nT (hk := ?_)
          (refine Awp.region ?_; (repeat (first | refine sQ (hk := ?_) | refine sSkip (hk := ?_) | refine sOwn (hk := ?_))); refine aSeq_nil ?_)
          refine athen_n ⟨(k + 1, ver), by omega, by dsimp only; omega, ?_⟩
          dsimp only
          rw [hno hlv]
          exact le_T
        · rw [hbb] at hlv
          (refine drawD 14 (hh := ?_); (repeat (first | refine qQ (hq := Quiet.call rfl (by have := behind17_fn f (insI f r) b ho hs (insI_len f r); rw [hbb] at this; exact this) rfl rfl rfl) (hk := ?_) | refine qQ (hk := ?_) | refine qSkip (hk := ?_))); refine aQ_nil ?_; (repeat (first | refine sQ (hq := Quiet.call rfl (by have := behind17_fn f (insI f r) b ho hs (insI_len f r); rw [hbb] at this; exact this) rfl rfl rfl) (hk := ?_) | refine sQ (hk := ?_) | refine sSkip (hk := ?_) | refine sOwn (hk := ?_))); refine aSeq_nil ?_)
          refine h11 _ ?_
          refine nT (hk := ?_)
          refine Awp.cond rfl (fun hb12 => ?_) (fun hb => by cases hb)
          (refine Awp.region ?_; (repeat (first | refine sQ (hk := ?_) | refine sSkip (hk := ?_) | refine sOwn (hk := ?_))); refine aSeq_nil ?_)
          refine h9 _ ?_
          refine nT (hk := ?_)
          (refine Awp.region ?_; (repeat (first | refine sQ (hk := ?_) | refine sSkip (hk := ?_) | refine sOwn (hk := ?_))); refine aSeq_nil ?_)
          refine athen_n ⟨(k + 1, ver + 1), by omega, by dsimp only; omega, ?_⟩
          dsimp only
          rw [hyes hlv]
          exact le_T
      · rw [hr1, hr2] at hlv
        refine Awp.seq fun K11 h11 => ?_
        (refine drawD 14 (hh := ?_); (repeat (first | refine qQ (hk := ?_) | refine qSkip (hk := ?_))); refine aQ_nil ?_; (repeat (first | refine sQ (hk := ?_) | refine sSkip (hk := ?_) | refine sOwn (hk := ?_))); refine aSeq_nil ?_)
        refine h11 _ ?_
        refine nT (hk := ?_)
        refine Awp.cond rfl (fun hb => by cases hb) (fun hb12 => ?_)
        refine Awp.skip ?_
        refine h9 _ ?_
        refine nT (hk := ?_)
        (refine Awp.region ?_; (repeat (first | refine sQ (hk := ?_) | refine sSkip (hk := ?_) | refine sOwn (hk := ?_))); refine aSeq_nil ?_)
        refine athen_n ⟨(k + 1, ver), by omega, by dsimp only; omega, ?_⟩
        dsimp only
        rw [hno hlv]
        exact le_T
    · rw [hr1] at hlv
      refine Awp.seq fun K11 h11 => ?_
      (refine drawD 14 (hh := ?_); (repeat (first | refine qQ (hk := ?_) | refine qSkip (hk := ?_))); refine aQ_nil ?_; (repeat (first | refine sQ (hk := ?_) | refine sSkip (hk := ?_) | refine sOwn (hk := ?_))); refine aSeq_nil ?_)
      refine h11 _ ?_
      refine nT (hk := ?_)
      refine Awp.cond rfl (fun hb12 => ?_) (fun hb => by cases hb)
      (refine Awp.region ?_; (repeat (first | refine sQ (hk := ?_) | refine sSkip (hk := ?_) | refine sOwn (hk := ?_))); refine aSeq_nil ?_)
      refine h9 _ ?_
      refine nT (hk := ?_)
      (refine Awp.region ?_; (repeat (first | refine sQ (hk := ?_) | refine sSkip (hk := ?_) | refine sOwn (hk := ?_))); refine aSeq_nil ?_)
      refine athen_n ⟨(k + 1, ver + 1), by omega, by dsimp only; omega, ?_⟩
      dsimp only
      rw [hyes hlv]
      exact le_T
  · refine Awp.exit ?_
    refine h3 _ ?_
    refine nT (hk := ?_)
    have hkk : k = regs.length := by have : ¬ k < regs.length := by simpa using hb8
                                     omega
    refine Awp.seq fun K13 h13 => ?_
    (refine Awp.region ?_; (repeat (first | refine sQ (hk := ?_) | refine sSkip (hk := ?_) | refine sOwn (hk := ?_))); refine aSeq_nil ?_)
    refine h13 _ ?_
    refine nT (hk := ?_)
    refine Awp.ret ?_
    rw [hkk, List.take_length]
    exact ⟨.inr rfl, Fin.own rfl⟩
end Mu
end
section
/-
  muntinref17.All, walked.
  Conditions: at most 2^21 of everything.
-/
namespace Mu
open Go Go.RowKit Go.Proofs

theorem map_take_succ {α β : Type} (g : α → β) {l : List α} {k : Nat} {x : α} (hx : l[k]? = some x) : (l.take (k + 1)).map g = (l.take k).map g ++ [g x] := by
  rw [List.take_add_one, hx, List.map_append]
  simp
theorem range_map_succ {β : Type} (g : Nat → β) (k : Nat) : (List.range (k + 1)).map g = (List.range k).map g ++ [g k] := by rw [List.range_succ, List.map_append]; rfl

set_option maxRecDepth 100000 in
set_option maxHeartbeats 4000000 in
theorem all17_fn (f : Func) (ho : okFunc f) (hs : smallF f) (hT : (allReads f).length ≤ 2097152) : Fn Try.prog 27 [.agg (encFunc f)] (.bs tInt.slice.slice (allL f)) := by
  have hbl := hs.blocks
  obtain ⟨hrl0, hrk0⟩ := regsOf_rev (allReads f)
  have hrl : (regsL f).length ≤ 2097152 := Nat.le_trans hrl0 hT
  have hro : okInts (regsL f) := hrk0 (allReads_ok ho)
  refine Fn.of_awp Try.func27 rfl (by kernel_rfl) rfl Try.ntmps27 fun C hC => ?_
  simp only [List.length_cons, List.length_nil, Nat.reduceAdd, Nat.reduceSub, List.replicate_succ, List.replicate_zero, List.cons_append, List.nil_append]
  refine Awp.seq fun K1 h1 => ?_
  (refine Awp.region ?_; (repeat (first | refine sQ (hk := ?_) | refine sSkip (hk := ?_) | refine sOwn (hk := ?_))); refine aSeq_nil ?_)
  refine h1 _ ?_
  refine nT (hk := ?_)
  refine Awp.seq fun K2 h2 => ?_
  (refine Awp.region ?_; (repeat (first | refine sQ (hq := Quiet.call rfl (regs17_fn f ho hs hT) rfl rfl rfl) (hk := ?_) | refine sQ (hk := ?_) | refine sSkip (hk := ?_) | refine sOwn (hk := ?_))); refine aSeq_nil ?_)
  refine h2 _ ?_
  refine nT (hk := ?_)
  refine Awp.seq fun K3 h3 => ?_
  (refine Awp.region ?_; (repeat (first | refine sQ (hk := ?_) | refine sSkip (hk := ?_) | refine sOwn (hk := ?_))); refine aSeq_nil ?_)
  refine h3 _ ?_
  refine nT (hk := ?_)
  refine Awp.seq fun K4 h4 => ?_
  refine Awp.seq fun K5 h5 => ?_
  (refine Awp.region ?_; (repeat (first | refine sQ (hk := ?_) | refine sSkip (hk := ?_) | refine sOwn (hk := ?_))); refine aSeq_nil ?_)
  refine h5 _ ?_
  refine nT (hk := ?_)
  refine Awp.block ?_
  refine Awp.loopF (fun p : Nat × Nat => ⟨[.any, .ptr 0 0, .any, .bs tInt (regsL f), .own 1 p.2, .lit (.int .i64 (p.1 : Int)), .any, .any, .any, .any, .any, .any, .any, .any, .any, .any, .any, .any, .any, .any, .any, .any, .any, .any, .any, .any, .any, .any, .any, .any, .any, .any, .any, .any, .any, .any, .any, .any, .any, .any, .any, .any, .any, .any, .any, .any, .any, .any, .any, .any, .any, .any, .any, .any, .any, .any, .any, .any, .any], [.box (encFunc f), .row p.2 69 Ty.bool.slice (((regsL f).take p.1).map (insI f))]⟩) (fun p => p.1 ≤ (regsL f).length) (fun p => (regsL f).length - p.1) (0, 0) (Nat.zero_le _) ((St.le_nil 4 69 Ty.bool.slice rfl Nat.zero_lt_one).trans (le_T)) ?_
  rintro ⟨k, ver⟩ hk
  dsimp only at hk ⊢
  refine Awp.seq fun K7 h7 => ?_
  refine Awp.seq fun K8 h8 => ?_
  (refine Awp.region ?_; (repeat (first | refine sQ (hk := ?_) | refine sSkip (hk := ?_) | refine sOwn (hk := ?_))); refine aSeq_nil ?_)
  refine h8 _ ?_
  refine nT (hk := ?_)
  refine Awp.cond rfl (fun hb9 => ?_) (fun hb9 => ?_)
  · have hlt : k < (regsL f).length := by simpa using hb9
    obtain ⟨r, hrk⟩ : ∃ r, (regsL f)[k]? = some r := ⟨_, List.getElem?_eq_getElem hlt⟩
    have hst := map_take_succ (insI f) hrk
    have hol : (((regsL f).take k).map (insI f)).length ≤ 2097152 := by simp only [List.length_map, List.length_take]; omega
    generalize ((regsL f).take k).map (insI f) = out at hst hol ⊢
    have hn1 : out.length + [insI f r].length ≤ maxLen := by simp [maxLen]; omega
    have hn2 : (out.length + [insI f r].length) * 24 ≤ 140737488355328 := by simp; omega
    refine Awp.skip ?_
    refine h7 _ ?_
    refine nT (hk := ?_)
    refine Awp.seq fun K10 h10 => ?_
    refine Awp.block ?_
    (refine drawD 8 (hh := ?_); (repeat (first | refine qQ (hq := Quiet.call rfl (ins17_fn f r ho hs) rfl rfl rfl) (hk := ?_) | refine qQ (hk := ?_) | refine qSkip (hk := ?_))); refine aQ_nil ?_; (repeat (first | refine sQ (hq := Quiet.call rfl (ins17_fn f r ho hs) rfl rfl rfl) (hk := ?_) | refine sQ (hk := ?_) | refine sSkip (hk := ?_) | refine sOwn (hk := ?_))); refine aSeq_nil ?_)
    refine h10 _ ?_
    refine nT (hk := ?_)
    (refine Awp.region ?_; (repeat (first | refine sQ (hk := ?_) | refine sSkip (hk := ?_) | refine sOwn (hk := ?_))); refine aSeq_nil ?_)
    refine athen_n ⟨(k + 1, ver + 1), by omega, by dsimp only; omega, ?_⟩
    dsimp only
    rw [hst]
    exact le_T
  · refine Awp.exit ?_
    refine h4 _ ?_
    refine nT (hk := ?_)
    have hkk : k = (regsL f).length := by have : ¬ k < (regsL f).length := by simpa using hb9
                                          omega
    rw [hkk, List.take_length]
    refine Awp.via ⟨[.any, .ptr 0 0, .any, .bs tInt (regsL f), .bs Ty.bool.slice ((regsL f).map (insI f)), .any, .any, .any, .any, .any, .any, .any, .any, .any, .any, .any, .any, .any, .any, .any, .any, .any, .any, .any, .any, .any, .any, .any, .any, .any, .any, .any, .any, .any, .any, .any, .any, .any, .any, .any, .any, .any, .any, .any, .any, .any, .any, .any, .any, .any, .any, .any, .any, .any, .any, .any, .any, .any, .any], [.box (encFunc f), .dead]⟩ ((St.le_fz hC 1 rfl).trans (by simp only [fzH, AV.fzL, AV.fz, ABlk.fz, List.map_cons, List.map_nil, List.set_cons_zero, List.set_cons_succ, and_self, if_true, encFunc]; exact le_T)) ?_
    refine Awp.seq fun K11 h11 => ?_
    (refine Awp.region ?_; (repeat (first | refine sQ (hk := ?_) | refine sSkip (hk := ?_) | refine sOwn (hk := ?_))); refine aSeq_nil ?_)
    refine h11 _ ?_
    refine nT (hk := ?_)
    refine Awp.seq fun K12 h12 => ?_
    refine Awp.seq fun K13 h13 => ?_
    (refine Awp.region ?_; (repeat (first | refine sQ (hk := ?_) | refine sSkip (hk := ?_) | refine sOwn (hk := ?_))); refine aSeq_nil ?_)
    refine h13 _ ?_
    refine nT (hk := ?_)
    refine Awp.block ?_
    refine Awp.loopF (fun p : Nat × Nat => ⟨[.any, .ptr 0 0, .any, .bs tInt (regsL f), .bs Ty.bool.slice ((regsL f).map (insI f)), .any, .own 2 p.2, .lit (.int .i64 (p.1 : Int)), .any, .any, .any, .any, .any, .any, .any, .any, .any, .any, .any, .any, .any, .any, .any, .any, .any, .any, .any, .any, .any, .any, .any, .any, .any, .any, .any, .any, .any, .any, .any, .any, .any, .any, .any, .any, .any, .any, .any, .any, .any, .any, .any, .any, .any, .any, .any, .any, .any, .any, .any], [.box (encFunc f), .dead, .row p.2 48 tInt.slice.slice ((List.range p.1).map (blockL f))]⟩) (fun p => p.1 ≤ f.blocks.length) (fun p => f.blocks.length - p.1) (0, 0) (Nat.zero_le _) ((St.le_nil 6 48 tInt.slice.slice rfl Nat.zero_lt_one).trans (le_T)) ?_
    rintro ⟨b, ver⟩ hb
    dsimp only at hb ⊢
    refine Awp.seq fun K15 h15 => ?_
    refine Awp.seq fun K16 h16 => ?_
    (refine Awp.region ?_; (repeat (first | refine sQ (hk := ?_) | refine sSkip (hk := ?_) | refine sOwn (hk := ?_))); refine aSeq_nil ?_)
    refine h16 _ ?_
    refine nT (hk := ?_)
    refine Awp.cond rfl (fun hb17 => ?_) (fun hb17 => ?_)
    · have hltb : b < f.blocks.length := by simpa using hb17
      obtain ⟨bl, hbk⟩ : ∃ bl, f.blocks[b]? = some bl := ⟨_, List.getElem?_eq_getElem hltb⟩
      have hmem := List.mem_of_getElem? hbk
      have hsi := (hs.all bl hmem).ins
      have hins : insOf f b = bl.ins := by unfold insOf; rw [hbk]
      have hstb := range_map_succ (blockL f) b
      have hblk : blockL f b = (List.range (bl.ins.length + 1)).map (placeL f (regsL f) b) := by unfold blockL; rw [hins]
      have holb : ((List.range b).map (blockL f)).length ≤ 2097152 := by simp; omega
      generalize (List.range b).map (blockL f) = out at hstb holb ⊢
      have hn1 : out.length + [blockL f b].length ≤ maxLen := by simp [maxLen]; omega
      have hn2 : (out.length + [blockL f b].length) * 24 ≤ 140737488355328 := by simp; omega
      refine Awp.skip ?_
      refine h15 _ ?_
      refine nT (hk := ?_)
      refine Awp.seq fun K18 h18 => ?_
      refine Awp.block ?_
      refine Awp.seq fun K19 h19 => ?_
      (refine Awp.region ?_; (repeat (first | refine sQ (hk := ?_) | refine sSkip (hk := ?_) | refine sOwn (hk := ?_))); refine aSeq_nil ?_)
      refine h19 _ ?_
      refine nT (hk := ?_)
      refine Awp.seq fun K20 h20 => ?_
      refine Awp.seq fun K21 h21 => ?_
      (refine Awp.region ?_; (repeat (first | refine sQ (hk := ?_) | refine sSkip (hk := ?_) | refine sOwn (hk := ?_))); refine aSeq_nil ?_)
      refine h21 _ ?_
      refine nT (hk := ?_)
      refine Awp.block ?_
      refine Awp.loopF (fun p : Nat × Nat => ⟨[.any, .ptr 0 0, .any, .bs tInt (regsL f), .bs Ty.bool.slice ((regsL f).map (insI f)), .any, .own 2 ver, .lit (.int .i64 (b : Int)), .own 3 p.2, .lit (.int .i64 (p.1 : Int)), .any, .any, .any, .any, .any, .any, .any, .any, .any, .any, .any, .any, .any, .any, .any, .any, .any, .any, .any, .any, .any, .any, .any, .any, .any, .any, .any, .any, .any, .any, .any, .any, .any, .any, .any, .any, .any, .any, .any, .any, .any, .any, .any, .any, .any, .any, .any, .any, .any], [.box (encFunc f), .dead, .row ver 48 tInt.slice.slice out, .row p.2 22 tInt.slice ((List.range p.1).map (placeL f (regsL f) b))]⟩) (fun p => p.1 ≤ bl.ins.length + 1) (fun p => bl.ins.length + 1 - p.1) (0, 0) (Nat.zero_le _) ((St.le_nil 8 22 tInt.slice rfl Nat.zero_lt_one).trans (le_T)) ?_
      rintro ⟨i, ver2⟩ hi
      dsimp only at hi ⊢
      refine Awp.seq fun K22 h22 => ?_
      refine Awp.seq fun K23 h23 => ?_
      (refine Awp.region ?_; (repeat (first | refine sQ (hk := ?_) | refine sSkip (hk := ?_) | refine sOwn (hk := ?_))); refine aSeq_nil ?_)
      refine h23 _ ?_
      refine nT (hk := ?_)
      refine Awp.cond rfl (fun hb24 => ?_) (fun hb24 => ?_)
      · have hlti : i ≤ bl.ins.length := by simpa using hb24
        have hsti := range_map_succ (placeL f (regsL f) b) i
        have holi : ((List.range i).map (placeL f (regsL f) b)).length ≤ 2097152 := by simp; omega
        generalize (List.range i).map (placeL f (regsL f) b) = l at hsti holi ⊢
        have hn3 : l.length + [placeL f (regsL f) b i].length ≤ maxLen := by simp [maxLen]; omega
        have hn4 : (l.length + [placeL f (regsL f) b i].length) * 24 ≤ 140737488355328 := by simp; omega
        refine Awp.skip ?_
        refine h22 _ ?_
        refine nT (hk := ?_)
        refine Awp.seq fun K25 h25 => ?_
        refine Awp.block ?_
        (refine Awp.region ?_; (repeat (first | refine sQ (hq := Quiet.call rfl (place17_fn f (regsL f) b i bl ho hs hro hrl hbk hlti) rfl rfl rfl) (hk := ?_) | refine sQ (hk := ?_) | refine sSkip (hk := ?_) | refine sOwn (hk := ?_))); refine aSeq_nil ?_)
        refine h25 _ ?_
        refine nT (hk := ?_)
        (refine Awp.region ?_; (repeat (first | refine sQ (hk := ?_) | refine sSkip (hk := ?_) | refine sOwn (hk := ?_))); refine aSeq_nil ?_)
        refine athen_n ⟨(i + 1, ver2 + 1), by omega, by dsimp only; omega, ?_⟩
        dsimp only
        rw [hsti]
        exact le_T
      · refine Awp.exit ?_
        refine h20 _ ?_
        refine nT (hk := ?_)
        have hii : i = bl.ins.length + 1 := by have : ¬ i ≤ bl.ins.length := by simpa using hb24
                                               omega
        rw [hii, ← hblk]
        refine Awp.via ⟨[.any, .ptr 0 0, .any, .bs tInt (regsL f), .bs Ty.bool.slice ((regsL f).map (insI f)), .any, .own 2 ver, .lit (.int .i64 (b : Int)), .bs tInt.slice (blockL f b), .any, .any, .any, .any, .any, .any, .any, .any, .any, .any, .any, .any, .any, .any, .any, .any, .any, .any, .any, .any, .any, .any, .any, .any, .any, .any, .any, .any, .any, .any, .any, .any, .any, .any, .any, .any, .any, .any, .any, .any, .any, .any, .any, .any, .any, .any, .any, .any, .any, .any], [.box (encFunc f), .dead, .row ver 48 tInt.slice.slice out, .dead]⟩ ((St.le_fz hC 3 rfl).trans (by simp only [fzH, AV.fzL, AV.fz, ABlk.fz, List.map_cons, List.map_nil, List.set_cons_zero, List.set_cons_succ, and_self, if_true, encFunc, Nat.reduceEqDiff, false_and, if_false]; exact le_T)) ?_
        (refine Awp.region ?_; (repeat (first | refine sQ (hk := ?_) | refine sSkip (hk := ?_) | refine sOwn (hk := ?_))); refine aSeq_nil ?_)
        refine h18 _ ?_
        refine nT (hk := ?_)
        (refine Awp.region ?_; (repeat (first | refine sQ (hk := ?_) | refine sSkip (hk := ?_) | refine sOwn (hk := ?_))); refine aSeq_nil ?_)
        refine athen_n ⟨(b + 1, ver + 1), by omega, by dsimp only; omega, ?_⟩
        dsimp only
        rw [hstb]
        exact le_C (Cut.cons (Cut.cons (Cut.cons (Cut.nil _))))
    · refine Awp.exit ?_
      refine h12 _ ?_
      refine nT (hk := ?_)
      have hbb : b = f.blocks.length := by have : ¬ b < f.blocks.length := by simpa using hb17
                                           omega
      refine Awp.seq fun K26 h26 => ?_
      (refine Awp.region ?_; (repeat (first | refine sQ (hk := ?_) | refine sSkip (hk := ?_) | refine sOwn (hk := ?_))); refine aSeq_nil ?_)
      refine h26 _ ?_
      refine nT (hk := ?_)
      refine Awp.ret ?_
      rw [hbb]
      exact ⟨.inr rfl, Fin.own rfl⟩
end Mu
end
section
/-
  The document's answer on what is live, plain: it is the least one; its registers rise.
  Conditions: none.
-/
namespace Mu
open Go

/-- live at a block's beginning -/
def LIn (f : Func) (b : Nat) (r : Int) : Prop := rdB r (insOf f b) = true ∨ (thru r (insOf f b) = true ∧ LOut f b r)
theorem lout_iff {f : Func} {k : Nat} {r : Int} : LOut f k r ↔ ∃ b, Edge f k b ∧ LIn f b r := by
  constructor
  · intro h
    cases h with
    | read he h => exact ⟨_, he, .inl h⟩
    | pass he h hl => exact ⟨_, he, .inr ⟨h, hl⟩⟩
  · rintro ⟨b, he, h | ⟨h, hl⟩⟩
    · exact .read he h
    · exact .pass he h hl
theorem behind_iff {f : Func} {out : List Bool} {k : Nat} : behindB f out (k : Int) = true ↔ ∃ b, Edge f k b ∧ out.getD b false = true := by
  unfold behindB nextL Edge
  rw [List.any_eq_true]
  constructor
  · rintro ⟨x, hx, h⟩
    obtain ⟨y, hy, rfl⟩ := List.mem_map.1 hx
    exact ⟨y.1, ⟨y, hy, rfl⟩, by simpa [blkI] using h⟩
  · rintro ⟨b, ⟨y, hy, rfl⟩, h⟩
    exact ⟨blkI y, List.mem_map.2 ⟨y, hy, rfl⟩, by simpa [blkI] using h⟩
theorem go_eq (f : Func) (r : Int) (out : List Bool) (b : Nat) : goB f r out b = (rdB r (insOf f b) || (thru r (insOf f b) && behindB f out b)) := by
  have h := readsP_in r (insOf f b) (fun _ => behindB f out b)
  rw [inS_eq] at h
  exact h
theorem edge_lt {f : Func} {k b : Nat} (h : Edge f k b) : b < f.blocks.length := by
  obtain ⟨x, _, rfl⟩ := h
  exact x.2

/-! ### nothing but what is live -/
def SoundO (f : Func) (r : Int) (out : List Bool) : Prop := ∀ b, out.getD b false = true → LIn f b r
theorem sound_behind {f : Func} {r : Int} {out : List Bool} (h : SoundO f r out) {k : Nat} (hb : behindB f out (k : Int) = true) : LOut f k r := by
  obtain ⟨b, he, ho⟩ := behind_iff.1 hb
  exact lout_iff.2 ⟨b, he, h b ho⟩
theorem sound_step {f : Func} {r : Int} {out : List Bool} (h : SoundO f r out) (b : Nat) : SoundO f r (stepI f r out b) := by
  unfold stepI
  split
  · rename_i hg
    intro c hc
    by_cases hbc : b = c
    · subst hbc
      rw [go_eq] at hg
      simp only [Bool.or_eq_true, Bool.and_eq_true] at hg
      rcases hg with hg | ⟨h1, h2⟩
      · exact .inl hg
      · exact .inr ⟨h1, sound_behind h h2⟩
    · rw [List.getD_eq_getElem?_getD, List.getElem?_set_ne hbc, ← List.getD_eq_getElem?_getD] at hc
      exact h c hc
  · exact h
theorem sound_fold {f : Func} {r : Int} {out : List Bool} (h : SoundO f r out) (m : Nat) : SoundO f r (foldI f r out m) := by
  induction m with
  | zero => exact h
  | succ m ih => rw [foldI_succ]; exact sound_step ih m
theorem sound_rounds (f : Func) (r : Int) (m : Nat) : SoundO f r (roundsI f r m) := by
  induction m with
  | zero =>
    intro b hb
    unfold roundsI at hb
    rw [List.getD_eq_getElem?_getD, List.getElem?_replicate] at hb
    split at hb <;> simp at hb
  | succ m ih => exact sound_fold ih _

/-! ### all that is live -/
theorem step_keeps {f : Func} {r : Int} {out : List Bool} {b c : Nat} (h : out.getD c false = true) : (stepI f r out b).getD c false = true := by
  unfold stepI
  split
  · by_cases hbc : b = c
    · subst hbc
      have hl : b < out.length := by
        rcases Nat.lt_or_ge b out.length with h1 | h1
        · exact h1
        · rw [List.getD_eq_getElem?_getD, List.getElem?_eq_none h1] at h; simp at h
      rw [List.getD_eq_getElem?_getD, List.getElem?_set_self hl]
      rfl
    · rw [List.getD_eq_getElem?_getD, List.getElem?_set_ne hbc, ← List.getD_eq_getElem?_getD]
      exact h
  · exact h
theorem step_count (f : Func) (r : Int) (out : List Bool) (b : Nat) : out.count true ≤ (stepI f r out b).count true ∧ (stepI f r out b ≠ out → out.count true < (stepI f r out b).count true) := by
  unfold stepI
  split
  · by_cases hb : b < out.length
    · have hs : out.set b true = out.take b ++ true :: out.drop (b + 1) := List.set_eq_take_append_cons_drop .. |>.trans (by rw [if_pos hb])
      have ho : out = out.take b ++ out[b] :: out.drop (b + 1) := by rw [← List.drop_eq_getElem_cons hb, List.take_append_drop]
      have h1 : (out.set b true).count true = (out.take b).count true + 1 + (out.drop (b + 1)).count true := by rw [hs, List.count_append, List.count_cons_self]; omega
      cases hv : out[b] with
      | true =>
        have h2 : out.count true = (out.take b).count true + 1 + (out.drop (b + 1)).count true := by
          conv => lhs; rw [ho, hv]
          rw [List.count_append, List.count_cons_self]; omega
        refine ⟨by omega, fun hne => absurd ?_ hne⟩
        rw [hs]
        conv => rhs; rw [ho, hv]
      | false =>
        have h2 : out.count true = (out.take b).count true + (out.drop (b + 1)).count true := by
          conv => lhs; rw [ho, hv]
          rw [List.count_append, List.count_cons_of_ne (by simp)]
        exact ⟨by omega, fun _ => by omega⟩
    · rw [List.set_eq_of_length_le (by omega)]
      exact ⟨Nat.le_refl _, fun h => absurd rfl h⟩
  · exact ⟨Nat.le_refl _, fun h => absurd rfl h⟩
theorem fold_count (f : Func) (r : Int) (out : List Bool) (m : Nat) : out.count true ≤ (foldI f r out m).count true ∧ (foldI f r out m ≠ out → out.count true < (foldI f r out m).count true) := by
  induction m with
  | zero => exact ⟨Nat.le_refl _, fun h => absurd rfl h⟩
  | succ m ih =>
    rw [foldI_succ]
    obtain ⟨h1, h2⟩ := step_count f r (foldI f r out m) m
    refine ⟨by omega, fun hne => ?_⟩
    by_cases he : foldI f r out m = out
    · rw [he] at h1 h2 hne ⊢
      exact h2 hne
    · have := ih.2 he
      omega
theorem fold_fixed {f : Func} {r : Int} {out : List Bool} {n : Nat} (h : foldI f r out n = out) : ∀ m, m ≤ n → foldI f r out m = out := by
  intro m hm
  by_cases he : foldI f r out m = out
  · exact he
  · exfalso
    have h1 := (fold_count f r out m).2 he
    have key : ∀ k, (foldI f r out m).count true ≤ (foldI f r out (m + k)).count true := by
      intro k
      induction k with
      | zero => exact Nat.le_refl _
      | succ k ih => rw [← Nat.add_assoc, foldI_succ]; exact Nat.le_trans ih (step_count f r _ _).1
    have h2 := key (n - m)
    rw [show m + (n - m) = n by omega, h] at h2
    omega
theorem fixed_go {f : Func} {r : Int} {out : List Bool} (hl : out.length = f.blocks.length) (h : foldI f r out f.blocks.length = out) {b : Nat} (hb : b < f.blocks.length) (hg : goB f r out b = true) : out.getD b false = true := by
  have h1 := fold_fixed h (b + 1) (by omega)
  rw [foldI_succ, fold_fixed h b (by omega), stepI, if_pos hg] at h1
  rw [← h1, List.getD_eq_getElem?_getD, List.getElem?_set_self (by omega)]
  rfl
theorem fixed_all {f : Func} {r : Int} {out : List Bool} (hl : out.length = f.blocks.length) (h : foldI f r out f.blocks.length = out) {k : Nat} (hlo : LOut f k r) : behindB f out (k : Int) = true := by
  induction hlo with
  | read he h1 => exact behind_iff.2 ⟨_, he, fixed_go hl h (edge_lt he) (by rw [go_eq, h1]; rfl)⟩
  | pass he h1 _ ih => exact behind_iff.2 ⟨_, he, fixed_go hl h (edge_lt he) (by rw [go_eq, h1, ih h]; simp)⟩
theorem rounds_fixed (f : Func) (r : Int) : foldI f r (insI f r) f.blocks.length = insI f r := by
  have key : ∀ m, (∃ j, j < m ∧ roundsI f r (j + 1) = roundsI f r j) ∨ m ≤ (roundsI f r m).count true := by
    intro m
    induction m with
    | zero => exact .inr (Nat.zero_le _)
    | succ m ih =>
      rcases ih with ⟨j, hj, he⟩ | h
      · exact .inl ⟨j, by omega, he⟩
      · by_cases he : roundsI f r (m + 1) = roundsI f r m
        · exact .inl ⟨m, by omega, he⟩
        · have := (fold_count f r (roundsI f r m) f.blocks.length).2 he
          exact .inr (Nat.lt_of_le_of_lt h this)
  rcases key (f.blocks.length + 1) with ⟨j, hj, he⟩ | h
  · have hst : ∀ k, roundsI f r (j + k) = roundsI f r j := by
      intro k
      induction k with
      | zero => rfl
      | succ k ih =>
        show foldI f r (roundsI f r (j + k)) f.blocks.length = _
        rw [ih]
        exact he
    have h1 : insI f r = roundsI f r j := by
      unfold insI
      rw [show f.blocks.length + 1 = j + (f.blocks.length + 1 - j) by omega]
      exact hst _
    rw [h1]
    exact he
  · have := List.count_le_length (a := true) (l := roundsI f r (f.blocks.length + 1))
    rw [roundsI_len] at this
    omega
theorem behind_live (f : Func) (r : Int) (k : Nat) : behindB f (insI f r) (k : Int) = true ↔ LOut f k r :=
  ⟨fun h => sound_behind (sound_rounds f r _) h, fun h => fixed_all (insI_len f r) (rounds_fixed f r) h⟩
/-- what is live at a place, by the least answer -/
theorem liveAt_eq (f : Func) (S : Int → Bool) (b i : Nat) (hS : ∀ r, S r = true ↔ LOut f b r) (r : Int) : liveAt f b i r = inS ((insOf f b).drop i) S r := by
  unfold liveAt
  have e : behindB f (insI f r) (b : Int) = S r := by
    cases h1 : behindB f (insI f r) (b : Int) <;> cases h2 : S r
    · rfl
    · have := (behind_live f r b).2 ((hS r).1 h2); rw [h1] at this; cases this
    · have := (hS r).2 ((behind_live f r b).1 h1); rw [h2] at this; cases this
    · rfl
  rw [e]
  exact readsP_in r _ S
end Mu
end
section
/-
  The registers that are read, plain: they rise, each once.
  Conditions: none.
-/
namespace Mu
open Go

/-- put in from behind; the row lies the other way round -/
def insRev (x : Int) : List Int → List Int
  | [] => [x]
  | a :: l => if a > x then a :: insRev x l else x :: a :: l
theorem getD_at {A B : List Int} {x : Int} {q : Nat} (h : A.length = q) : (A ++ x :: B).getD q 0 = x := by
  rw [List.getD_eq_getElem?_getD, List.getElem?_append_right (by omega)]
  simp [h]
theorem swapL_at {A B : List Int} {a x : Int} {q : Nat} (h : A.length = q) : swapL (A ++ a :: x :: B) q = A ++ x :: a :: B := by
  unfold swapL
  have h1 : (A ++ a :: x :: B).getD q 0 = a := getD_at h
  have h2 : (A ++ a :: x :: B).getD (q + 1) 0 = x := by
    rw [show A ++ a :: x :: B = (A ++ [a]) ++ x :: B by simp]
    exact getD_at (by simp [h])
  rw [h1, h2]
  subst h
  simp []
theorem sift_at (x : Int) : ∀ (R B : List Int), siftL R.length (R.reverse ++ x :: B) = (insRev x R).reverse ++ B
  | [], B => by simp [siftL, insRev]
  | a :: R, B => by
    have hl : R.reverse.length = R.length := List.length_reverse
    have e : (a :: R).reverse ++ x :: B = R.reverse ++ a :: x :: B := by simp
    rw [e, List.length_cons, siftL]
    have h1 : (R.reverse ++ a :: x :: B).getD R.length 0 = a := getD_at hl
    have h2 : (R.reverse ++ a :: x :: B).getD (R.length + 1) 0 = x := by
      rw [show R.reverse ++ a :: x :: B = (R.reverse ++ [a]) ++ x :: B by simp]
      exact getD_at (by simp)
    rw [h1, h2, swapL_at hl]
    unfold insRev
    by_cases hax : a > x
    · rw [if_pos hax, if_pos hax, sift_at x R (a :: B)]
      simp
    · rw [if_neg hax, if_neg hax]
      simp
theorem sortedL_snoc (l : List Int) (x : Int) : sortedL (l ++ [x]) = (insRev x l.reverse).reverse := by
  have h := sift_at x l.reverse []
  rw [List.reverse_reverse, List.length_reverse, List.append_nil] at h
  unfold sortedL
  simpa using h
theorem insRev_mem {x y : Int} : ∀ {l : List Int}, y ∈ insRev x l ↔ y = x ∨ y ∈ l
  | [] => by simp [insRev]
  | a :: l => by
    unfold insRev
    split
    · rw [List.mem_cons, insRev_mem (l := l), List.mem_cons]
      constructor
      · rintro (h | h | h) <;> simp [h]
      · rintro (h | h | h) <;> simp [h]
    · rw [List.mem_cons]
theorem insRev_desc {x : Int} : ∀ {l : List Int}, l.Pairwise (fun a b => b < a) → x ∉ l → (insRev x l).Pairwise fun a b => b < a
  | [], _, _ => by simp [insRev]
  | a :: l, h, hx => by
    rw [List.pairwise_cons] at h
    simp only [List.mem_cons, not_or] at hx
    unfold insRev
    split
    · rename_i hax
      refine List.pairwise_cons.2 ⟨fun y hy => ?_, insRev_desc h.2 hx.2⟩
      rcases insRev_mem.1 hy with rfl | hy
      · exact hax
      · exact h.1 y hy
    · rename_i hax
      refine List.pairwise_cons.2 ⟨fun y hy => ?_, List.pairwise_cons.2 h⟩
      rcases List.mem_cons.1 hy with rfl | hy
      · omega
      · have := h.1 y hy
        omega
theorem insR_asc {l : List Int} {x : Int} (h : Asc l) : Asc (insR l x) ∧ ∀ y, y ∈ insR l x ↔ y = x ∨ y ∈ l := by
  unfold insR
  split
  · rename_i hc
    have hm : x ∈ l := by simpa using hc
    refine ⟨h, fun y => ⟨fun hy => .inr hy, ?_⟩⟩
    rintro (rfl | hy)
    · exact hm
    · exact hy
  · rename_i hc
    have hm : x ∉ l := by simpa using hc
    rw [sortedL_snoc]
    refine ⟨?_, fun y => by rw [List.mem_reverse, insRev_mem, List.mem_reverse]⟩
    unfold Asc at *
    rw [List.pairwise_reverse]
    exact insRev_desc (by rw [List.pairwise_reverse]; exact h) (by rw [List.mem_reverse]; exact hm)
theorem regsOf_asc (l : List Int) : Asc (regsOf l) ∧ ∀ y, y ∈ regsOf l ↔ y ∈ l := by
  have key : ∀ (l out : List Int), Asc out → Asc (l.foldl insR out) ∧ ∀ y, y ∈ l.foldl insR out ↔ y ∈ out ∨ y ∈ l := by
    intro l
    induction l with
    | nil => intro out h; exact ⟨h, fun y => by simp⟩
    | cons x l ih =>
      intro out h
      obtain ⟨h1, h2⟩ := insR_asc (x := x) h
      obtain ⟨h3, h4⟩ := ih _ h1
      refine ⟨h3, fun y => ?_⟩
      rw [List.foldl_cons, h4 y, h2 y, List.mem_cons]
      constructor
      · rintro ((h | h) | h) <;> simp [h]
      · rintro (h | h | h) <;> simp [h]
  obtain ⟨h1, h2⟩ := key l [] List.Pairwise.nil
  exact ⟨h1, fun y => by unfold regsOf; rw [h2 y]; simp⟩
theorem regsL_asc (f : Func) : Asc (regsL f) := (regsOf_asc _).1
theorem regsL_mem {f : Func} {r : Int} : r ∈ regsL f ↔ ∃ b ∈ f.blocks, ∃ x ∈ b.ins, r ∈ readsC x := by
  unfold regsL
  rw [(regsOf_asc _).2 r]
  unfold allReads
  simp only [List.mem_flatMap]
end Mu
end
section
/-
  live.all, walked: the row of sets of what is live behind blocks.
  Conditions: at most 2^21 of everything.
-/
namespace Mu
open Go Go.RowKit Go.Proofs Go.Maps
instance : AG Try.prog 77 false 1 := ⟨by kernel_rfl⟩
instance : SZ Try.prog 77 1 := ⟨by kernel_rfl⟩
instance : ES Try.prog 77 1 := ⟨by kernel_rfl⟩
instance : SL Try.prog 77 := ⟨by kernel_rfl⟩
instance : RT Try.prog 77 80 1 8 := ⟨by kernel_rfl⟩
instance : AG Try.prog 80 false 1 := ⟨by kernel_rfl⟩
instance : SZ Try.prog 80 1 := ⟨by kernel_rfl⟩
instance : ZC Try.prog 80 [.map none] := ⟨by kernel_rfl⟩

theorem athen_x {i : Nat} {K : St → Prop} {Q : Exit → St → Prop} {s : St} (h : Q (.exit i) s) : athen K Q (.exit i) s := h
theorem ablock_hit {id : Nat} {Q : Exit → St → Prop} {s : St} (h : Q .normal s) : ablock id Q (.exit id) s := by simp [ablock, h]
theorem ablock_n {id : Nat} {Q : Exit → St → Prop} {s : St} (h : Q .normal s) : ablock id Q .normal s := h
theorem z1set : zeroOne Try.prog 77 = some (80, .map none, 8) := by kernel_rfl
theorem undSet : Try.prog.underlying 80 = some (.map 3 3) := by kernel_rfl
theorem regsOf_le (l : List Int) : (regsOf l).length ≤ l.length := by
  have key : ∀ (l acc : List Int), (l.foldl insR acc).length ≤ acc.length + l.length := by
    intro l
    induction l with
    | nil => intro acc; simp
    | cons x l ih =>
      intro acc
      have := ih (insR acc x)
      have h2 : (insR acc x).length ≤ acc.length + 1 := by
        unfold insR
        split
        · omega
        · rw [sortedL_len]; simp
      simp only [List.foldl_cons, List.length_cons]
      omega
  simpa [regsOf] using key l []
theorem regsR_of (f : Func) (ho : okFunc f) (hT : (allReads f).length ≤ 2097152) : RegsR (regsL f) := by
  refine ⟨regsL_asc f, fun x hx => ?_, ?_⟩
  · obtain ⟨b, h1, y, h2, h3⟩ := regsL_mem.1 hx
    exact readsC_ok ((ho.blocks b h1).ins y h2) x h3
  · have := regsOf_le (allReads f)
    unfold regsL
    omega

/-- the cells of the row: sets that are there, and none behind -/
def cellsM (ms : List Nat) (n : Nat) : List AV := ms.map cellM ++ List.replicate (n - ms.length) (.lit (.map none))
theorem cellsM_put {ms : List Nat} {n b m : Nat} (hb : ms.length = b) (_hn : b < n) : (cellsM ms n).take b ++ [cellM m] ++ (cellsM ms n).drop (b + 1) = cellsM (ms ++ [m]) n := by
  unfold cellsM
  have h1 : (ms.map cellM).length = b := by simp [hb]
  rw [List.take_append_of_le_length (by omega), List.take_of_length_le (by omega), List.drop_append, List.drop_eq_nil_of_le (by simp; omega), List.nil_append, h1, List.drop_replicate, List.map_append, List.length_append, List.append_assoc, List.append_assoc]
  congr 3
  simp
  omega
theorem cellsM_len {ms : List Nat} {n : Nat} (h : ms.length ≤ n) : (cellsM ms n).length = n := by
  unfold cellsM
  simp
  omega
theorem cellsM_full {ms : List Nat} {n : Nat} (h : ms.length = n) : cellsM ms n = ms.map cellM := by
  unfold cellsM
  rw [h]
  simp
def i64s (l : List Nat) : List Int := l.map fun k : Nat => (k : Int)
theorem i64s_len (l : List Nat) : (i64s l).length = l.length := by simp [i64s]
theorem i64s_snoc (l : List Nat) (b : Nat) : i64s (l ++ [b]) = i64s l ++ [(b : Int)] := by simp [i64s]
/-- what is live behind the first of so many instructions at a block's end -/
def bkS (ds : List Ins) (S : Int → Bool) (k : Nat) : Int → Bool := inS (ds.drop (ds.length - k)) S
theorem bkS_zero (ds : List Ins) (S : Int → Bool) : bkS ds S 0 = S := by
  unfold bkS
  rw [Nat.sub_zero, List.drop_eq_nil_of_le (Nat.le_refl _)]
  rfl
theorem bkS_all (ds : List Ins) (S : Int → Bool) : bkS ds S ds.length = inS ds S := by
  unfold bkS
  rw [Nat.sub_self]
  rfl
theorem bkS_succ {ds : List Ins} {S : Int → Bool} {k : Nat} {d : Ins} (hd : ds[ds.length - 1 - k]? = some d) (hk : k < ds.length) : bkS ds S (k + 1) = backS d (bkS ds S k) := by
  unfold bkS
  have h1 : ds.length - (k + 1) = ds.length - 1 - k := by omega
  have h2 : ds.length - k = ds.length - 1 - k + 1 := by omega
  rw [h1, h2, List.drop_eq_getElem_cons (by omega)]
  have : ds[ds.length - 1 - k] = d := by
    rw [List.getElem?_eq_getElem (by omega)] at hd
    exact Option.some.inj hd
  rw [this]
  rfl
theorem bkS_sub {ds : List Ins} {L : List Int} {S : Int → Bool} (h : Sub L S) (hx : ∀ x ∈ ds, ∀ r ∈ readsC x, r ∈ L) (k : Nat) : Sub L (bkS ds S k) :=
  h.inS fun x hm => hx x (List.mem_of_mem_drop hm)
theorem lackBd {a b c : Nat} (hb : b ≤ 2097152) (hc : c ≤ 2097152) (h : a ≤ b * c) : a ≤ 4398046511104 := Nat.le_trans h (Nat.le_trans (Nat.mul_le_mul hb hc) (by decide))

set_option maxRecDepth 100000 in
set_option maxHeartbeats 4000000 in
theorem all_fn (f : Func) (ho : okFunc f) (hs : smallF f) (hT : (allReads f).length ≤ 2097152) : Fn Try.prog 53 [.agg (encFunc f)] (.bs tSet ((List.range f.blocks.length).map (outS f))) := by
  have hbl := hs.blocks
  have hRR := regsR_of f ho hT
  have hLl : (regsL f).length ≤ 2097152 := Nat.le_trans (regsOf_le _) hT
  have hLr : ∀ b ∈ f.blocks, ∀ x ∈ b.ins, ∀ r ∈ readsC x, r ∈ regsL f := fun b hb x hx r hr => regsL_mem.2 ⟨b, hb, x, hx, hr⟩
  have hmk : 8 * f.blocks.length ≤ 281474976710656 := by omega
  have hmx : f.blocks.length ≤ maxLen := by unfold maxLen; omega
  refine Fn.of_awpM Try.func53 rfl (by kernel_rfl) rfl Try.ntmps53 fun C hC hrd => ?_
  simp only [List.length_cons, List.length_nil, Nat.reduceAdd, Nat.reduceSub, List.replicate_succ, List.replicate_zero, List.cons_append, List.nil_append]
  refine Awp.seq fun K1 h1 => ?_
  (refine Awp.region ?_; (repeat (first | refine sQ (hk := ?_) | refine sSkip (hk := ?_) | refine sOwn (hk := ?_))); refine aSeq_nil ?_)
  refine h1 _ ?_
  refine nT (hk := ?_)
  refine Awp.open_box 1 rfl rfl rfl (fun g => [.any, .lit (.pointer (some ⟨g, 0, none⟩)), .any, .any, .any, .any, .any, .any, .any, .any, .any, .any, .any, .any, .any, .any, .any, .any, .any, .any, .any, .any, .any, .any, .any, .any, .any, .any, .any, .any, .any, .any, .any, .any, .any, .any, .any, .any, .any, .any, .any, .any, .any, .any, .any, .any, .any, .any, .any, .any, .any, .any, .any, .any, .any, .any, .any, .any, .any, .any, .any, .any, .any, .any, .any, .any, .any, .any, .any, .any, .any, .any, .any, .any, .any, .any, .any, .any, .any, .any, .any, .any, .any, .any, .any, .any, .any, .any, .any, .any, .any, .any, .any, .any, .any, .any, .any, .any, .any, .any, .any, .any, .any]) (fun g => (by (repeat (first | exact OpnB.nil | refine OpnB.ptr ?_ | refine OpnB.any ?_ | refine OpnB.keep rfl ?_)))) fun g1 => ?_
  refine Awp.seq fun K2 h2 => ?_
  (refine Awp.region ?_; (repeat (first | refine sQ (hk := ?_) | refine sSkip (hk := ?_) | refine sOwn (hk := ?_))))
  refine aSeq_t rfl (AOp.mkL rfl z1set rfl rfl hmk hmx fun O => ?_)
  refine sNt (hk := ?_)
  (repeat (first | refine sQ (hk := ?_) | refine sSkip (hk := ?_) | refine sOwn (hk := ?_)))
  refine aSeq_nil ?_
  refine h2 _ ?_
  refine nT (hk := ?_)
  refine Awp.via ⟨[.any, .lit (.pointer (some ⟨g1, 0, none⟩)), .any, .lit (.slice (some ⟨O, 0, none⟩) f.blocks.length f.blocks.length), .any, .any, .any, .any, .any, .any, .any, .any, .any, .any, .any, .any, .any, .any, .any, .any, .any, .any, .any, .any, .any, .any, .any, .any, .any, .any, .any, .any, .any, .any, .any, .any, .any, .any, .any, .any, .any, .any, .any, .any, .any, .any, .any, .any, .any, .any, .any, .any, .any, .any, .any, .any, .any, .any, .any, .any, .any, .any, .any, .any, .any, .any, .any, .any, .any, .any, .any, .any, .any, .any, .any, .any, .any, .any, .any, .any, .any, .any, .any, .any, .any, .any, .any, .any, .any, .any, .any, .any, .any, .any, .any, .any, .any, .any, .any, .any, .any, .any, .any], [.res (marksR []), .res (boxR g1 (encFunc f)), .res (boxR O (List.replicate f.blocks.length (.lit (.map none))))]⟩ (le_T) ?_
  refine Awp.seq fun K3 h3 => ?_
  suffices hM3 : ∀ s' : St, St.le C s' ⟨[.any, .lit (.pointer (some ⟨g1, 0, none⟩)), .any, .lit (.slice (some ⟨O, 0, none⟩) f.blocks.length f.blocks.length), .own 3 0, .bs tInt.slice (befN f f.blocks.length), .any, .any, .any, .any, .any, .any, .any, .any, .any, .any, .any, .any, .any, .any, .any, .any, .any, .any, .any, .any, .any, .any, .any, .any, .any, .any, .any, .any, .any, .any, .any, .any, .any, .any, .any, .any, .any, .any, .any, .any, .any, .any, .any, .any, .any, .any, .any, .any, .any, .any, .any, .any, .any, .any, .any, .any, .any, .any, .any, .any, .any, .any, .any, .any, .any, .any, .any, .any, .any, .any, .any, .any, .any, .any, .any, .any, .any, .any, .any, .any, .any, .any, .any, .any, .any, .any, .any, .any, .any, .any, .any, .any, .any, .any, .any, .any, .any], [.res (marksR []), .res (boxR g1 (encFunc f)), .res (boxR O (List.replicate f.blocks.length (.lit (.map none)))), .row 0 3 tInt []]⟩ → K3 s' by
    (refine Awp.drawT 0 (by kernel_rfl) (by kernel_rfl) ?_; refine aQ_nil ?_; (refine tStep [0, 4] (tC ?_ (tC ?_ tAll_nil)); ((first | refine oQ (hq := Quiet.call rfl (before_fn f ho hs) rfl rfl rfl) (hk := ?_) | refine oQ (hk := ?_)); (refine tStep [1, 4] (tC ?_ (tC ?_ tAll_nil)); ((first | refine oQ (hq := Quiet.call rfl (before_fn f ho hs) rfl rfl rfl) (hk := ?_) | refine oQ (hk := ?_)); (refine tStep [2, 4] (tC ?_ (tC ?_ tAll_nil)); ((first | refine oQ (hq := Quiet.call rfl (before_fn f ho hs) rfl rfl rfl) (hk := ?_) | refine oQ (hk := ?_)); (refine tStep [3, 4] (tC ?_ (tC ?_ tAll_nil)); ((refine AOp.mk0 (T := tInt) (m := 1) (e := 3) rfl rfl (by decide) rfl rfl hmk hmx ?_; refine tNt (hk := ?_)); (refine tStep [4] (tC ?_ tAll_nil); ((first | refine oQ (hq := Quiet.call rfl (before_fn f ho hs) rfl rfl rfl) (hk := ?_) | refine oQ (hk := ?_)); (refine tStep [5] (tC ?_ tAll_nil); ((first | refine oQ (hq := Quiet.call rfl (before_fn f ho hs) rfl rfl rfl) (hk := ?_) | refine oQ (hk := ?_)); (refine tStep [6] (tC ?_ tAll_nil); ((first | refine oQ (hq := Quiet.call rfl (before_fn f ho hs) rfl rfl rfl) (hk := ?_) | refine oQ (hk := ?_)); (refine tStep [7] (tC ?_ tAll_nil); ((first | refine oQ (hq := Quiet.call rfl (before_fn f ho hs) rfl rfl rfl) (hk := ?_) | refine oQ (hk := ?_)); (exact tDone (hM3 _ (le_T)))))))))))); ((first | refine oQ (hq := Quiet.call rfl (before_fn f ho hs) rfl rfl rfl) (hk := ?_) | refine oQ (hk := ?_)); (refine tStep [3, 5] (tC ?_ (tC ?_ tAll_nil)); ((refine AOp.mk0 (T := tInt) (m := 1) (e := 3) rfl rfl (by decide) rfl rfl hmk hmx ?_; refine tNt (hk := ?_)); (refine tStep [5] (tC ?_ tAll_nil); ((first | refine oQ (hq := Quiet.call rfl (before_fn f ho hs) rfl rfl rfl) (hk := ?_) | refine oQ (hk := ?_)); (refine tStep [6] (tC ?_ tAll_nil); ((first | refine oQ (hq := Quiet.call rfl (before_fn f ho hs) rfl rfl rfl) (hk := ?_) | refine oQ (hk := ?_)); (refine tStep [7] (tC ?_ tAll_nil); ((first | refine oQ (hq := Quiet.call rfl (before_fn f ho hs) rfl rfl rfl) (hk := ?_) | refine oQ (hk := ?_)); (exact tDone (hM3 _ (le_T)))))))))); ((first | refine oQ (hq := Quiet.call rfl (before_fn f ho hs) rfl rfl rfl) (hk := ?_) | refine oQ (hk := ?_)); (refine tStep [3] (tC ?_ tAll_nil); ((refine AOp.mk0 (T := tInt) (m := 1) (e := 3) rfl rfl (by decide) rfl rfl hmk hmx ?_; refine tNt (hk := ?_)); (refine tStep [6] (tC ?_ tAll_nil); ((first | refine oQ (hq := Quiet.call rfl (before_fn f ho hs) rfl rfl rfl) (hk := ?_) | refine oQ (hk := ?_)); (refine tStep [7] (tC ?_ tAll_nil); ((first | refine oQ (hq := Quiet.call rfl (before_fn f ho hs) rfl rfl rfl) (hk := ?_) | refine oQ (hk := ?_)); (exact tDone (hM3 _ (le_T)))))))))))))); ((first | refine oQ (hq := Quiet.call rfl (before_fn f ho hs) rfl rfl rfl) (hk := ?_) | refine oQ (hk := ?_)); (refine tStep [2, 5] (tC ?_ (tC ?_ tAll_nil)); ((first | refine oQ (hq := Quiet.call rfl (before_fn f ho hs) rfl rfl rfl) (hk := ?_) | refine oQ (hk := ?_)); (refine tStep [3, 5] (tC ?_ (tC ?_ tAll_nil)); ((refine AOp.mk0 (T := tInt) (m := 1) (e := 3) rfl rfl (by decide) rfl rfl hmk hmx ?_; refine tNt (hk := ?_)); (refine tStep [5] (tC ?_ tAll_nil); ((first | refine oQ (hq := Quiet.call rfl (before_fn f ho hs) rfl rfl rfl) (hk := ?_) | refine oQ (hk := ?_)); (refine tStep [6] (tC ?_ tAll_nil); ((first | refine oQ (hq := Quiet.call rfl (before_fn f ho hs) rfl rfl rfl) (hk := ?_) | refine oQ (hk := ?_)); (refine tStep [7] (tC ?_ tAll_nil); ((first | refine oQ (hq := Quiet.call rfl (before_fn f ho hs) rfl rfl rfl) (hk := ?_) | refine oQ (hk := ?_)); (exact tDone (hM3 _ (le_T)))))))))); ((first | refine oQ (hq := Quiet.call rfl (before_fn f ho hs) rfl rfl rfl) (hk := ?_) | refine oQ (hk := ?_)); (refine tStep [3] (tC ?_ tAll_nil); ((refine AOp.mk0 (T := tInt) (m := 1) (e := 3) rfl rfl (by decide) rfl rfl hmk hmx ?_; refine tNt (hk := ?_)); (refine tStep [6] (tC ?_ tAll_nil); ((first | refine oQ (hq := Quiet.call rfl (before_fn f ho hs) rfl rfl rfl) (hk := ?_) | refine oQ (hk := ?_)); (refine tStep [7] (tC ?_ tAll_nil); ((first | refine oQ (hq := Quiet.call rfl (before_fn f ho hs) rfl rfl rfl) (hk := ?_) | refine oQ (hk := ?_)); (exact tDone (hM3 _ (le_T)))))))))))); ((first | refine oQ (hq := Quiet.call rfl (before_fn f ho hs) rfl rfl rfl) (hk := ?_) | refine oQ (hk := ?_)); (refine tStep [2] (tC ?_ tAll_nil); ((first | refine oQ (hq := Quiet.call rfl (before_fn f ho hs) rfl rfl rfl) (hk := ?_) | refine oQ (hk := ?_)); (refine tStep [3] (tC ?_ tAll_nil); ((refine AOp.mk0 (T := tInt) (m := 1) (e := 3) rfl rfl (by decide) rfl rfl hmk hmx ?_; refine tNt (hk := ?_)); (refine tStep [6] (tC ?_ tAll_nil); ((first | refine oQ (hq := Quiet.call rfl (before_fn f ho hs) rfl rfl rfl) (hk := ?_) | refine oQ (hk := ?_)); (refine tStep [7] (tC ?_ tAll_nil); ((first | refine oQ (hq := Quiet.call rfl (before_fn f ho hs) rfl rfl rfl) (hk := ?_) | refine oQ (hk := ?_)); (exact tDone (hM3 _ (le_T)))))))))))))))); ((first | refine oQ (hq := Quiet.call rfl (before_fn f ho hs) rfl rfl rfl) (hk := ?_) | refine oQ (hk := ?_)); (refine tStep [1, 5] (tC ?_ (tC ?_ tAll_nil)); ((first | refine oQ (hq := Quiet.call rfl (before_fn f ho hs) rfl rfl rfl) (hk := ?_) | refine oQ (hk := ?_)); (refine tStep [2, 5] (tC ?_ (tC ?_ tAll_nil)); ((first | refine oQ (hq := Quiet.call rfl (before_fn f ho hs) rfl rfl rfl) (hk := ?_) | refine oQ (hk := ?_)); (refine tStep [3, 5] (tC ?_ (tC ?_ tAll_nil)); ((refine AOp.mk0 (T := tInt) (m := 1) (e := 3) rfl rfl (by decide) rfl rfl hmk hmx ?_; refine tNt (hk := ?_)); (refine tStep [5] (tC ?_ tAll_nil); ((first | refine oQ (hq := Quiet.call rfl (before_fn f ho hs) rfl rfl rfl) (hk := ?_) | refine oQ (hk := ?_)); (refine tStep [6] (tC ?_ tAll_nil); ((first | refine oQ (hq := Quiet.call rfl (before_fn f ho hs) rfl rfl rfl) (hk := ?_) | refine oQ (hk := ?_)); (refine tStep [7] (tC ?_ tAll_nil); ((first | refine oQ (hq := Quiet.call rfl (before_fn f ho hs) rfl rfl rfl) (hk := ?_) | refine oQ (hk := ?_)); (exact tDone (hM3 _ (le_T)))))))))); ((first | refine oQ (hq := Quiet.call rfl (before_fn f ho hs) rfl rfl rfl) (hk := ?_) | refine oQ (hk := ?_)); (refine tStep [3] (tC ?_ tAll_nil); ((refine AOp.mk0 (T := tInt) (m := 1) (e := 3) rfl rfl (by decide) rfl rfl hmk hmx ?_; refine tNt (hk := ?_)); (refine tStep [6] (tC ?_ tAll_nil); ((first | refine oQ (hq := Quiet.call rfl (before_fn f ho hs) rfl rfl rfl) (hk := ?_) | refine oQ (hk := ?_)); (refine tStep [7] (tC ?_ tAll_nil); ((first | refine oQ (hq := Quiet.call rfl (before_fn f ho hs) rfl rfl rfl) (hk := ?_) | refine oQ (hk := ?_)); (exact tDone (hM3 _ (le_T)))))))))))); ((first | refine oQ (hq := Quiet.call rfl (before_fn f ho hs) rfl rfl rfl) (hk := ?_) | refine oQ (hk := ?_)); (refine tStep [2] (tC ?_ tAll_nil); ((first | refine oQ (hq := Quiet.call rfl (before_fn f ho hs) rfl rfl rfl) (hk := ?_) | refine oQ (hk := ?_)); (refine tStep [3] (tC ?_ tAll_nil); ((refine AOp.mk0 (T := tInt) (m := 1) (e := 3) rfl rfl (by decide) rfl rfl hmk hmx ?_; refine tNt (hk := ?_)); (refine tStep [6] (tC ?_ tAll_nil); ((first | refine oQ (hq := Quiet.call rfl (before_fn f ho hs) rfl rfl rfl) (hk := ?_) | refine oQ (hk := ?_)); (refine tStep [7] (tC ?_ tAll_nil); ((first | refine oQ (hq := Quiet.call rfl (before_fn f ho hs) rfl rfl rfl) (hk := ?_) | refine oQ (hk := ?_)); (exact tDone (hM3 _ (le_T)))))))))))))); ((first | refine oQ (hq := Quiet.call rfl (before_fn f ho hs) rfl rfl rfl) (hk := ?_) | refine oQ (hk := ?_)); (refine tStep [1] (tC ?_ tAll_nil); ((first | refine oQ (hq := Quiet.call rfl (before_fn f ho hs) rfl rfl rfl) (hk := ?_) | refine oQ (hk := ?_)); (refine tStep [2] (tC ?_ tAll_nil); ((first | refine oQ (hq := Quiet.call rfl (before_fn f ho hs) rfl rfl rfl) (hk := ?_) | refine oQ (hk := ?_)); (refine tStep [3] (tC ?_ tAll_nil); ((refine AOp.mk0 (T := tInt) (m := 1) (e := 3) rfl rfl (by decide) rfl rfl hmk hmx ?_; refine tNt (hk := ?_)); (refine tStep [6] (tC ?_ tAll_nil); ((first | refine oQ (hq := Quiet.call rfl (before_fn f ho hs) rfl rfl rfl) (hk := ?_) | refine oQ (hk := ?_)); (refine tStep [7] (tC ?_ tAll_nil); ((first | refine oQ (hq := Quiet.call rfl (before_fn f ho hs) rfl rfl rfl) (hk := ?_) | refine oQ (hk := ?_)); (exact tDone (hM3 _ (le_T)))))))))))))))))); ((first | refine oQ (hq := Quiet.call rfl (before_fn f ho hs) rfl rfl rfl) (hk := ?_) | refine oQ (hk := ?_)); (refine tStep [0, 5] (tC ?_ (tC ?_ tAll_nil)); ((first | refine oQ (hq := Quiet.call rfl (before_fn f ho hs) rfl rfl rfl) (hk := ?_) | refine oQ (hk := ?_)); (refine tStep [1, 5] (tC ?_ (tC ?_ tAll_nil)); ((first | refine oQ (hq := Quiet.call rfl (before_fn f ho hs) rfl rfl rfl) (hk := ?_) | refine oQ (hk := ?_)); (refine tStep [2, 5] (tC ?_ (tC ?_ tAll_nil)); ((first | refine oQ (hq := Quiet.call rfl (before_fn f ho hs) rfl rfl rfl) (hk := ?_) | refine oQ (hk := ?_)); (refine tStep [3, 5] (tC ?_ (tC ?_ tAll_nil)); ((refine AOp.mk0 (T := tInt) (m := 1) (e := 3) rfl rfl (by decide) rfl rfl hmk hmx ?_; refine tNt (hk := ?_)); (refine tStep [5] (tC ?_ tAll_nil); ((first | refine oQ (hq := Quiet.call rfl (before_fn f ho hs) rfl rfl rfl) (hk := ?_) | refine oQ (hk := ?_)); (refine tStep [6] (tC ?_ tAll_nil); ((first | refine oQ (hq := Quiet.call rfl (before_fn f ho hs) rfl rfl rfl) (hk := ?_) | refine oQ (hk := ?_)); (refine tStep [7] (tC ?_ tAll_nil); ((first | refine oQ (hq := Quiet.call rfl (before_fn f ho hs) rfl rfl rfl) (hk := ?_) | refine oQ (hk := ?_)); (exact tDone (hM3 _ (le_T)))))))))); ((first | refine oQ (hq := Quiet.call rfl (before_fn f ho hs) rfl rfl rfl) (hk := ?_) | refine oQ (hk := ?_)); (refine tStep [3] (tC ?_ tAll_nil); ((refine AOp.mk0 (T := tInt) (m := 1) (e := 3) rfl rfl (by decide) rfl rfl hmk hmx ?_; refine tNt (hk := ?_)); (refine tStep [6] (tC ?_ tAll_nil); ((first | refine oQ (hq := Quiet.call rfl (before_fn f ho hs) rfl rfl rfl) (hk := ?_) | refine oQ (hk := ?_)); (refine tStep [7] (tC ?_ tAll_nil); ((first | refine oQ (hq := Quiet.call rfl (before_fn f ho hs) rfl rfl rfl) (hk := ?_) | refine oQ (hk := ?_)); (exact tDone (hM3 _ (le_T)))))))))))); ((first | refine oQ (hq := Quiet.call rfl (before_fn f ho hs) rfl rfl rfl) (hk := ?_) | refine oQ (hk := ?_)); (refine tStep [2] (tC ?_ tAll_nil); ((first | refine oQ (hq := Quiet.call rfl (before_fn f ho hs) rfl rfl rfl) (hk := ?_) | refine oQ (hk := ?_)); (refine tStep [3] (tC ?_ tAll_nil); ((refine AOp.mk0 (T := tInt) (m := 1) (e := 3) rfl rfl (by decide) rfl rfl hmk hmx ?_; refine tNt (hk := ?_)); (refine tStep [6] (tC ?_ tAll_nil); ((first | refine oQ (hq := Quiet.call rfl (before_fn f ho hs) rfl rfl rfl) (hk := ?_) | refine oQ (hk := ?_)); (refine tStep [7] (tC ?_ tAll_nil); ((first | refine oQ (hq := Quiet.call rfl (before_fn f ho hs) rfl rfl rfl) (hk := ?_) | refine oQ (hk := ?_)); (exact tDone (hM3 _ (le_T)))))))))))))); ((first | refine oQ (hq := Quiet.call rfl (before_fn f ho hs) rfl rfl rfl) (hk := ?_) | refine oQ (hk := ?_)); (refine tStep [1] (tC ?_ tAll_nil); ((first | refine oQ (hq := Quiet.call rfl (before_fn f ho hs) rfl rfl rfl) (hk := ?_) | refine oQ (hk := ?_)); (refine tStep [2] (tC ?_ tAll_nil); ((first | refine oQ (hq := Quiet.call rfl (before_fn f ho hs) rfl rfl rfl) (hk := ?_) | refine oQ (hk := ?_)); (refine tStep [3] (tC ?_ tAll_nil); ((refine AOp.mk0 (T := tInt) (m := 1) (e := 3) rfl rfl (by decide) rfl rfl hmk hmx ?_; refine tNt (hk := ?_)); (refine tStep [6] (tC ?_ tAll_nil); ((first | refine oQ (hq := Quiet.call rfl (before_fn f ho hs) rfl rfl rfl) (hk := ?_) | refine oQ (hk := ?_)); (refine tStep [7] (tC ?_ tAll_nil); ((first | refine oQ (hq := Quiet.call rfl (before_fn f ho hs) rfl rfl rfl) (hk := ?_) | refine oQ (hk := ?_)); (exact tDone (hM3 _ (le_T)))))))))))))))); ((first | refine oQ (hq := Quiet.call rfl (before_fn f ho hs) rfl rfl rfl) (hk := ?_) | refine oQ (hk := ?_)); (refine tStep [0] (tC ?_ tAll_nil); ((first | refine oQ (hq := Quiet.call rfl (before_fn f ho hs) rfl rfl rfl) (hk := ?_) | refine oQ (hk := ?_)); (refine tStep [1] (tC ?_ tAll_nil); ((first | refine oQ (hq := Quiet.call rfl (before_fn f ho hs) rfl rfl rfl) (hk := ?_) | refine oQ (hk := ?_)); (refine tStep [2] (tC ?_ tAll_nil); ((first | refine oQ (hq := Quiet.call rfl (before_fn f ho hs) rfl rfl rfl) (hk := ?_) | refine oQ (hk := ?_)); (refine tStep [3] (tC ?_ tAll_nil); ((refine AOp.mk0 (T := tInt) (m := 1) (e := 3) rfl rfl (by decide) rfl rfl hmk hmx ?_; refine tNt (hk := ?_)); (refine tStep [6] (tC ?_ tAll_nil); ((first | refine oQ (hq := Quiet.call rfl (before_fn f ho hs) rfl rfl rfl) (hk := ?_) | refine oQ (hk := ?_)); (refine tStep [7] (tC ?_ tAll_nil); ((first | refine oQ (hq := Quiet.call rfl (before_fn f ho hs) rfl rfl rfl) (hk := ?_) | refine oQ (hk := ?_)); (exact tDone (hM3 _ (le_T))))))))))))))))))))
  intro s' hle
  · refine h3 _ (Awp.via _ hle ?_)
    refine Awp.via _ (St.le_res0 (R := mapsR [] []) (fun _ _ => ⟨rfl, List.nodup_nil, fun i m S hm => by simp at hm⟩) (fun g hg => by cases hg) rfl) ?_
    refine Awp.seq fun K4 h4 => ?_
    refine Awp.seq fun K5 h5 => ?_
    (refine Awp.region ?_; (repeat (first | refine sQ (hk := ?_) | refine sSkip (hk := ?_) | refine sOwn (hk := ?_))); refine aSeq_nil ?_)
    refine h5 _ ?_
    refine nT (hk := ?_)
    refine Awp.block ?_
    refine Awp.loopF (fun p : Nat × Nat × List Nat => ⟨[.any, .lit (.pointer (some ⟨g1, 0, none⟩)), .any, .lit (.slice (some ⟨O, 0, none⟩) f.blocks.length f.blocks.length), .own 3 p.2.1, .bs tInt.slice (befN f f.blocks.length), .any, .any, .any, .any, .any, .any, .any, .any, .any, .any, .any, .any, .any, .any, .any, .any, .any, .any, .any, .any, .lit (.int .i64 (f.blocks.length : Int)), .lit (.int .i64 (p.1 : Int)), .any, .any, .any, .any, .any, .any, .any, .any, .any, .any, .any, .any, .any, .any, .any, .any, .any, .any, .any, .any, .any, .any, .any, .any, .any, .any, .any, .any, .any, .any, .any, .any, .any, .any, .any, .any, .any, .any, .any, .any, .any, .any, .any, .any, .any, .any, .any, .any, .any, .any, .any, .any, .any, .any, .any, .any, .any, .any, .any, .any, .any, .any, .any, .any, .any, .any, .any, .any, .any, .any, .any, .any, .any, .any, .any], [.res (marksR []), .res (boxR g1 (encFunc f)), .res (boxR O (cellsM p.2.2 f.blocks.length)), .row p.2.1 3 tInt (i64s (List.range p.1)), .res (mapsR p.2.2 (List.replicate p.1 fun _ => false))]⟩) (fun p => p.1 ≤ f.blocks.length ∧ p.2.2.length = p.1) (fun p => f.blocks.length - p.1) (0, 0, []) ⟨Nat.zero_le _, rfl⟩ (le_T) ?_
    rintro ⟨b, ver, ms⟩ ⟨hbn, hms⟩
    dsimp only at hbn hms ⊢
    refine Awp.seq fun K7 h7 => ?_
    (refine Awp.region ?_; (repeat (first | refine sQ (hk := ?_) | refine sSkip (hk := ?_) | refine sOwn (hk := ?_))); refine aSeq_nil ?_)
    refine h7 _ ?_
    refine nT (hk := ?_)
    refine Awp.seq fun K8 h8 => ?_
    refine Awp.cond rfl (fun hb9 => ?_) (fun hb9 => ?_)
    · have hlt : b < f.blocks.length := by simpa using hb9
      have hclen : b + [cellM 0].length ≤ (cellsM ms f.blocks.length).length := by rw [cellsM_len (by omega)]; exact hlt
      have hw := nat_wf (k := b) (by omega)
      have hn1 : (i64s (List.range b)).length + [(b : Int)].length ≤ maxLen := by rw [i64s_len]; simp [maxLen]; omega
      have hn2 : ((i64s (List.range b)).length + [(b : Int)].length) * 8 ≤ 140737488355328 := by rw [i64s_len]; simp; omega
      refine Awp.skip ?_
      refine h8 _ ?_
      refine nT (hk := ?_)
      refine Awp.seq fun K10 h10 => ?_
      refine Awp.block ?_
      refine Awp.seq fun K11 h11 => ?_
      (refine Awp.region ?_; (repeat (first | refine sQ (hk := ?_) | refine sSkip (hk := ?_) | refine sOwn (hk := ?_))); refine aSeq_nil ?_)
      refine h11 _ ?_
      refine nT (hk := ?_)
      refine Awp.seq fun K12 h12 => ?_
      (refine Awp.region ?_; (repeat (first | refine sQ (hk := ?_) | refine sSkip (hk := ?_) | refine sOwn (hk := ?_))))
      refine aSeq_t rfl (AOp.mkMap rfl fun m => ?_)
      refine sNt (hk := ?_)
      (repeat (first | refine sQ (hk := ?_) | refine sSkip (hk := ?_) | refine sOwn (hk := ?_)))
      refine aSeq_t rfl (AOp.stL (i := 2) (new := [cellM m]) rfl rfl rfl (Parts.one (One.lit rfl)) rfl rfl hclen ?_)
      refine sNt (hk := ?_)
      refine aSeq_nil ?_
      rw [cellsM_put hms hlt]
      refine h12 _ ?_
      refine nT (hk := ?_)
      refine Awp.via _ (St.le_maps (i := 4) (j := 5) (by decide) rfl rfl) ?_
      (refine Awp.region ?_; (repeat (first | refine sQ (hk := ?_) | refine sSkip (hk := ?_) | refine sOwn (hk := ?_))); refine aSeq_nil ?_)
      refine h10 _ ?_
      refine nT (hk := ?_)
      (refine Awp.region ?_; (repeat (first | refine sQ (hk := ?_) | refine sSkip (hk := ?_) | refine sOwn (hk := ?_))); refine aSeq_nil ?_)
      refine athen_n ⟨(b + 1, ver + 1, ms ++ [m]), ⟨by omega, by simp [hms]⟩, by dsimp only; omega, ?_⟩
      dsimp only
      rw [List.range_succ, i64s_snoc, List.replicate_succ']
      exact le_C (Cut.cons (Cut.cons (Cut.cons (Cut.cons (Cut.cons (Cut.nil _))))))
    · refine Awp.exit ?_
      have hbe : b = f.blocks.length := by have : ¬ b < f.blocks.length := by simpa using hb9
                                           omega
      subst hbe
      refine h4 _ ?_
      refine nT (hk := ?_)
      rw [cellsM_full hms]
      refine Awp.seq fun K13 h13 => ?_
      refine Awp.block ?_
      have hI0 : AllI f (regsL f) (List.range f.blocks.length) (List.replicate f.blocks.length fun _ => false) := AllI.start fun b => List.mem_range
      have hlk := lack_le (regsL f) (List.replicate f.blocks.length fun _ => false)
      rw [List.length_replicate] at hlk
      have hlk2 := lackBd hbl hLl hlk
      refine Awp.loopF (fun p : List Nat × Nat × List Nat × List (Int → Bool) => ⟨[.any, .lit (.pointer (some ⟨g1, 0, none⟩)), .any, .lit (.slice (some ⟨O, 0, none⟩) f.blocks.length f.blocks.length), .own 3 p.2.1, .bs tInt.slice (befN f f.blocks.length), .any, .any, .any, .any, .any, .any, .any, .any, .any, .any, .any, .any, .any, .any, .any, .any, .any, .any, .any, .any, .any, .any, .any, .any, .any, .any, .any, .any, .any, .any, .any, .any, .any, .any, .any, .any, .any, .any, .any, .any, .any, .any, .any, .any, .any, .any, .any, .any, .any, .any, .any, .any, .any, .any, .any, .any, .any, .any, .any, .any, .any, .any, .any, .any, .any, .any, .any, .any, .any, .any, .any, .any, .any, .any, .any, .any, .any, .any, .any, .any, .any, .any, .any, .any, .any, .any, .any, .any, .any, .any, .any, .any, .any, .any, .any, .any, .any], [.res (marksR p.1), .res (boxR g1 (encFunc f)), .res (boxR O (ms.map cellM)), .row p.2.1 3 tInt (i64s p.2.2.1), .res (mapsR ms p.2.2.2)]⟩) (fun p => AllI f (regsL f) p.2.2.1 p.2.2.2 ∧ 2 * lackS (regsL f) p.2.2.2 + p.2.2.1.length ≤ 10000000000000) (fun p => 2 * lackS (regsL f) p.2.2.2 + p.2.2.1.length) ([], ver, List.range f.blocks.length, List.replicate f.blocks.length fun _ => false) ⟨hI0, by dsimp only; rw [List.length_range]; omega⟩ (le_T) ?_
      rintro ⟨ds, ver, wait, Ss⟩ ⟨hI, hmu⟩
      dsimp only at hI hmu ⊢
      refine Awp.seq fun K15 h15 => ?_
      refine Awp.seq fun K16 h16 => ?_
      (refine Awp.region ?_; (repeat (first | refine sQ (hk := ?_) | refine sSkip (hk := ?_) | refine sOwn (hk := ?_))); refine aSeq_nil ?_)
      refine h16 _ ?_
      refine nT (hk := ?_)
      refine Awp.cond rfl (fun hb17 => ?_) (fun hb17 => ?_)
      · have hne : wait ≠ [] := fun e => by subst e; simp [i64s] at hb17
        obtain ⟨w0, b, rfl⟩ : ∃ w0 b, wait = w0 ++ [b] := ⟨_, _, (List.dropLast_concat_getLast hne).symm⟩
        have hl : (i64s (w0 ++ [b])).length = w0.length + 1 := by rw [i64s_len]; simp
        have hwl : w0.length ≤ 10000000000000 := by simp at hmu; omega
        have hx0 : (i64s (w0 ++ [b]))[(((i64s (w0 ++ [b])).length : Int) - 1).toNat]? = some (b : Int) := by
          rw [hl, i64s_snoc, show (((w0.length + 1 : Nat) : Int) - 1).toNat = (i64s w0).length by rw [i64s_len]; omega]
          simp
        have hcut : AV.lit (.int .i64 (((i64s (w0 ++ [b])).length : Int) - 1)) = .lit (.int .i64 (w0.length : Int)) := by
          rw [hl, show (((w0.length + 1 : Nat) : Int) - 1) = (w0.length : Int) by omega]
        have hcl : w0.length ≤ (i64s (w0 ++ [b])).length := by omega
        have htk : (i64s (w0 ++ [b])).take w0.length = i64s w0 := by rw [i64s_snoc, ← i64s_len w0]; simp
        have hbn : b < f.blocks.length := hI.lt b (by simp)
        obtain ⟨m, hm⟩ : ∃ m, ms[b]? = some m := ⟨_, List.getElem?_eq_getElem (by omega)⟩
        obtain ⟨S, hS⟩ : ∃ S, Ss[b]? = some S := ⟨_, List.getElem?_eq_getElem (by rw [hI.len]; exact hbn)⟩
        obtain ⟨bl, hblk⟩ : ∃ bl, f.blocks[b]? = some bl := ⟨_, List.getElem?_eq_getElem hbn⟩
        have hat : at_ Ss b = S := by unfold at_; rw [List.getD_eq_getElem?_getD, hS]; rfl
        have hins : insOf f b = bl.ins := by unfold insOf; rw [hblk]
        have hmem := List.mem_of_getElem? hblk
        have hsb := hs.all bl hmem
        have hob := ho.blocks bl hmem
        have hSs : Sub (regsL f) S := by have := hI.sub b; rwa [hat] at this
        have hmc : (ms.map cellM)[b]? = some (cellM m) := by rw [List.getElem?_map, hm]; rfl
        refine Awp.skip ?_
        refine h15 _ ?_
        refine nT (hk := ?_)
        refine Awp.block ?_
        refine Awp.seq fun K18 h18 => ?_
        (refine Awp.region ?_; (repeat (first | refine sQ (hk := ?_) | refine sSkip (hk := ?_) | refine sOwn (hk := ?_))); refine aSeq_nil ?_)
        refine h18 _ ?_
        refine nT (hk := ?_)
        refine Awp.seq fun K19 h19 => ?_
        (refine Awp.region ?_; (repeat (first | refine sQ (hk := ?_) | refine sSkip (hk := ?_) | refine sOwn (hk := ?_))))
        refine aSeq_t rfl (AOp.cutRow (i := 3) (m := w0.length) rfl rfl rfl rfl ⟨.i64, hcut⟩ hcl ?_)
        refine sNt (hk := ?_)
        (repeat (first | refine sQ (hk := ?_) | refine sSkip (hk := ?_) | refine sOwn (hk := ?_)))
        refine aSeq_nil ?_
        rw [htk]
        refine h19 _ ?_
        refine nT (hk := ?_)
        refine Awp.seq fun K20 h20 => ?_
        (refine Awp.region ?_; (repeat (first | refine sQ (hk := ?_) | refine sSkip (hk := ?_) | refine sOwn (hk := ?_))))
        refine aSeq_t rfl (AOp.callRNew (i := 4) rfl rfl (clone_maps hm hS) (fun _ => rfl) rfl rfl fun mn => ?_)
        refine sNt (hk := ?_)
        (repeat (first | (refine aSeq_t rfl (AOp.stBox (new := [_]) rfl rfl rfl (Parts.one (One.lit rfl)) rfl (Nat.le_of_ble_eq_true rfl) ?_); refine sNt (hk := ?_)) | refine sQ (hk := ?_) | refine sSkip (hk := ?_) | refine sOwn (hk := ?_)))
        refine aSeq_nil ?_
        refine h20 _ ?_
        refine nT (hk := ?_)
        refine Awp.open_box 6 rfl rfl rfl (fun g => [.any, .lit (.pointer (some ⟨g1, 0, none⟩)), .any, .lit (.slice (some ⟨O, 0, none⟩) f.blocks.length f.blocks.length), .own 3 (ver + 1), .bs tInt.slice (befN f f.blocks.length), .any, .lit (.int .i64 (b : Int)), .lit (.pointer (some ⟨g, 0, none⟩)), .any, .any, .any, .any, .any, .any, .any, .any, .any, .any, .any, .any, .any, .any, .any, .any, .any, .any, .any, .any, .any, .any, .any, .any, .any, .any, .any, .any, .any, .any, .any, .any, .any, .any, .any, .any, .any, .any, .any, .any, .any, .any, .any, .any, .any, .any, .any, .any, .any, .any, .any, .any, .any, .any, .any, .any, .any, .any, .any, .any, .any, .any, .any, .any, .any, .any, .any, .any, .any, .any, .any, .any, .any, .any, .any, .any, .any, .any, .any, .any, .any, .any, .any, .any, .any, .any, .any, .any, .any, .any, .any, .any, .any, .any]) (fun g => (by (repeat (first | exact OpnB.nil | refine OpnB.ptr ?_ | refine OpnB.any ?_ | refine OpnB.keep rfl ?_)))) fun gn => ?_
        refine Awp.open_row 3 rfl rfl (fun v => [.any, .lit (.pointer (some ⟨g1, 0, none⟩)), .any, .lit (.slice (some ⟨O, 0, none⟩) f.blocks.length f.blocks.length), .lit v, .bs tInt.slice (befN f f.blocks.length), .any, .lit (.int .i64 (b : Int)), .lit (.pointer (some ⟨gn, 0, none⟩)), .any, .any, .any, .any, .any, .any, .any, .any, .any, .any, .any, .any, .any, .any, .any, .any, .any, .any, .any, .any, .any, .any, .any, .any, .any, .any, .any, .any, .any, .any, .any, .any, .any, .any, .any, .any, .any, .any, .any, .any, .any, .any, .any, .any, .any, .any, .any, .any, .any, .any, .any, .any, .any, .any, .any, .any, .any, .any, .any, .any, .any, .any, .any, .any, .any, .any, .any, .any, .any, .any, .any, .any, .any, .any, .any, .any, .any, .any, .any, .any, .any, .any, .any, .any, .any, .any, .any, .any, .any, .any, .any, .any, .any, .any]) (fun v => (by (repeat (first | exact Opn.nil | refine Opn.own ?_ | refine Opn.any ?_ | refine Opn.keep rfl ?_)))) fun vw => ?_
        refine Awp.seq fun K21 h21 => ?_
        refine Awp.seq fun K22 h22 => ?_
        (refine Awp.region ?_; (repeat (first | refine sQ (hk := ?_) | refine sSkip (hk := ?_) | refine sOwn (hk := ?_))))
        refine aSeq_t rfl (AOp.callNew rfl (backward_new bl.ins) (fun _ => rfl) rfl rfl fun p => ?_)
        refine sNt (hk := ?_)
        (repeat (first | refine sQ (hk := ?_) | refine sSkip (hk := ?_) | refine sOwn (hk := ?_)))
        refine aSeq_nil ?_
        refine h22 _ ?_
        refine nT (hk := ?_)
        refine Awp.via ⟨[.any, .lit (.pointer (some ⟨g1, 0, none⟩)), .any, .lit (.slice (some ⟨O, 0, none⟩) f.blocks.length f.blocks.length), .lit vw, .bs tInt.slice (befN f f.blocks.length), .any, .lit (.int .i64 (b : Int)), .lit (.pointer (some ⟨gn, 0, none⟩)), .any, .any, .any, .any, .any, .any, .any, .any, .any, .any, .any, .any, .any, .any, .any, .any, .any, .any, .any, .any, .any, .any, .any, .any, .any, .any, .any, .any, .any, .any, .any, .any, .any, .any, .any, .any, .any, .any, .any, .any, .any, .any, .any, .any, .any, .any, .any, .any, .any, .any, .any, .any, .any, .any, .any, .lit (bkF p), .any, .any, .any, .any, .any, .any, .any, .any, .any, .any, .any, .any, .any, .any, .any, .any, .any, .any, .any, .any, .any, .any, .any, .any, .any, .any, .any, .any, .any, .any, .any, .any, .any, .any, .any, .any, .any, .any], [.res (marksR ds), .res (boxR g1 (encFunc f)), .res (boxR O (ms.map cellM)), .res (rowR vw 3 tInt (i64s w0)), .res (mapsR ms Ss), .res (mapR S mn), .res (boxR gn [cellM mn]), .res (bkR bl.ins p)]⟩ (le_T) ?_
        refine Awp.block ?_
        obtain ⟨sg, hsg⟩ : ∃ sg : (Int → Bool) → List ABlk, sg = fun T => [.dead, .res (boxR g1 (encFunc f)), .res (boxR O (ms.map cellM)), .res (rowR vw 3 tInt (i64s w0)), .res (mapsR ms Ss), .res (mapR T mn), .res (boxR gn [cellM mn]), .dead] := ⟨_, rfl⟩
        refine Awp.rangeK 7 0 (fun k => sg (bkS bl.ins S k)) hrd (by kernel_rfl) rfl rfl rfl rfl ?hdrop ?hd1 ?hd2 ?hd3 rfl (bkE_cl _) (bkE_len _) (fun w T h1 h2 h3 => backward_iter bl.ins hsb.ins p w T h1 h2 h3) ?hround ?hdone
        case hdrop =>
          rw [bkS_zero, hsg]
          exact ⟨Cut.dead (Cut.cons (Cut.cons (Cut.cons (Cut.cons (Cut.cons (Cut.cons (Cut.dead (Cut.nil _)))))))), fun b hb => List.all_eq_true.1 (show bdH [.dead, .res (boxR g1 (encFunc f)), .res (boxR O (ms.map cellM)), .res (rowR vw 3 tInt (i64s w0)), .res (mapsR ms Ss), .res (mapR S mn), .res (boxR gn [cellM mn]), .dead] = true from rfl) b hb⟩
        case hd1 => rw [hsg]; rfl
        case hd2 => intro k; rw [hsg]; rfl
        case hd3 => intro k; rw [hsg]; rfl
        case hround =>
          intro k hk C' hr'
          obtain ⟨d, hd⟩ : ∃ d, bl.ins[bl.ins.length - 1 - k]? = some d := ⟨_, List.getElem?_eq_getElem (by omega)⟩
          have hmd := List.mem_of_getElem? hd
          have hbk : bkE bl.ins k = [.lit (.int .i64 ((bl.ins.length - 1 - k : Nat) : Int)), .agg (encIns d)] := by unfold bkE; rw [hd]
          have hsub := bkS_sub hSs (hLr bl hmem) k
          have hal : d.args.length ≤ 2097152 := by have := hsb.all d hmd; omega
          rw [hbk, hsg]
          refine Awp.nt2 (t' := [.any, .lit (.pointer (some ⟨g1, 0, none⟩)), .any, .lit (.slice (some ⟨O, 0, none⟩) f.blocks.length f.blocks.length), .lit vw, .bs tInt.slice (befN f f.blocks.length), .any, .lit (.int .i64 (b : Int)), .lit (.pointer (some ⟨gn, 0, none⟩)), .any, .any, .any, .any, .any, .any, .any, .any, .any, .any, .any, .any, .any, .any, .any, .any, .any, .any, .any, .any, .any, .any, .any, .any, .any, .any, .any, .any, .any, .any, .any, .any, .any, .any, .any, .any, .any, .any, .any, .any, .any, .any, .any, .any, .any, .any, .any, .any, .any, .any, .any, .any, .any, .any, .any, .lit (bkF p), .lit (.int .i64 ((bl.ins.length - 1 - k : Nat) : Int)), .agg (encIns d), .any, .any, .any, .any, .any, .any, .any, .any, .any, .any, .any, .any, .any, .any, .any, .any, .any, .any, .any, .any, .any, .any, .any, .any, .any, .any, .any, .any, .any, .any, .any, .any, .any, .any, .any, .any]) rfl rfl ?_
          (refine Awp.region ?_; (repeat (first | refine sQ (hk := ?_) | refine sSkip (hk := ?_) | refine sOwn (hk := ?_))); refine aSeq_nil ?_)
          refine athen_n ?_
          intro C'' hr''
          refine nT (hk := ?_)
          refine Awp.block ?_
          (refine Awp.region ?_; (repeat (first | refine sQ (hk := ?_) | refine sSkip (hk := ?_) | refine sOwn (hk := ?_))))
          refine aSeq_t rfl (AOp.callTurn (i := 5) rfl rfl (back_turn d _ (regsL f) mn (hob.ins d hmd) hal hRR hsub.inR (hLr bl hmem d hmd)) (fun _ => rfl) rfl rfl fun _ => ?_)
          refine sNt (hk := ?_)
          refine aSeq_nil ?_
          refine ⟨rfl, ?_⟩
          rw [bkS_succ hd hk]
          exact ⟨Cut.cons (Cut.cons (Cut.cons (Cut.cons (Cut.cons (Cut.cons (Cut.cons (Cut.cons (Cut.nil _)))))))), fun b hb => List.all_eq_true.1 (show bdH [.dead, .res (boxR g1 (encFunc f)), .res (boxR O (ms.map cellM)), .res (rowR vw 3 tInt (i64s w0)), .res (mapsR ms Ss), .res (mapR (backS d (bkS bl.ins S k)) mn), .res (boxR gn [cellM mn]), .dead] = true from rfl) b hb⟩
        case hdone =>
          intro D
          have hbf : (befN f f.blocks.length)[b]? = some (befL f b) := by
            unfold befL
            rw [List.getD_eq_getElem?_getD, List.getElem?_eq_getElem (by rw [befN_length]; exact hbn)]
            rfl
          have hbe := befN_le f f.blocks.length _ (List.mem_of_getElem? hbf)
          have hNs : Sub (regsL f) (inS bl.ins S) := hSs.inS (hLr bl hmem)
          rw [bkS_all, hsg]
          refine h21 _ ?_
          refine Awp.nt2 (t' := [.any, .lit (.pointer (some ⟨g1, 0, none⟩)), .any, .lit (.slice (some ⟨O, 0, none⟩) f.blocks.length f.blocks.length), .lit vw, .bs tInt.slice (befN f f.blocks.length), .any, .lit (.int .i64 (b : Int)), .lit (.pointer (some ⟨gn, 0, none⟩)), .any, .any, .any, .any, .any, .any, .any, .any, .any, .any, .any, .any, .any, .any, .any, .any, .any, .any, .any, .any, .any, .any, .any, .any, .any, .any, .any, .any, .any, .any, .any, .any, .any, .any, .any, .any, .any, .any, .any, .any, .any, .any, .any, .any, .any, .any, .any, .any, .any, .any, .any, .any, .any, .any, .any, .lit (bkF p), .any, .any, .any, .any, .any, .any, .any, .any, .any, .any, .any, .any, .any, .any, .any, .any, .any, .any, .any, .any, .any, .any, .any, .any, .any, .any, .any, .any, .any, .any, .any, .any, .any, .any, .any, .any, .any, .any]) (h' := [.res (marksR (D :: ds)), .res (boxR g1 (encFunc f)), .res (boxR O (ms.map cellM)), .res (rowR vw 3 tInt (i64s w0)), .res (mapsR ms Ss), .res (mapR (inS bl.ins S) mn), .res (boxR gn [cellM mn]), .dead]) rfl rfl ?_
          refine Awp.via _ (St.le_close 3 (ver := ver + 1) (t' := [.any, .lit (.pointer (some ⟨g1, 0, none⟩)), .any, .lit (.slice (some ⟨O, 0, none⟩) f.blocks.length f.blocks.length), .own 3 (ver + 1), .bs tInt.slice (befN f f.blocks.length), .any, .lit (.int .i64 (b : Int)), .lit (.pointer (some ⟨gn, 0, none⟩)), .any, .any, .any, .any, .any, .any, .any, .any, .any, .any, .any, .any, .any, .any, .any, .any, .any, .any, .any, .any, .any, .any, .any, .any, .any, .any, .any, .any, .any, .any, .any, .any, .any, .any, .any, .any, .any, .any, .any, .any, .any, .any, .any, .any, .any, .any, .any, .any, .any, .any, .any, .any, .any, .any, .any, .any, .any, .any, .any, .any, .any, .any, .any, .any, .any, .any, .any, .any, .any, .any, .any, .any, .any, .any, .any, .any, .any, .any, .any, .any, .any, .any, .any, .any, .any, .any, .any, .any, .any, .any, .any, .any, .any, .any]) rfl rfl (by (try simp only []); (repeat (first | exact Cls.nil | refine Cls.own ?_ | refine Cls.any ?_ | refine Cls.keep rfl ?_)))) ?_
          refine Awp.seq fun K30 h30 => ?_
          (refine Awp.region ?_; (repeat (first | refine sQ (hk := ?_) | refine sSkip (hk := ?_) | refine sOwn (hk := ?_))); refine aSeq_nil ?_)
          refine h30 _ ?_
          refine nT (hk := ?_)
          refine Awp.block ?_
          refine Awp.loopF (fun p : Nat × Nat × List Nat × List (Int → Bool) => ⟨[.any, .lit (.pointer (some ⟨g1, 0, none⟩)), .any, .lit (.slice (some ⟨O, 0, none⟩) f.blocks.length f.blocks.length), .own 3 p.2.1, .bs tInt.slice (befN f f.blocks.length), .any, .any, .lit (.pointer (some ⟨gn, 0, none⟩)), .any, .any, .any, .any, .any, .any, .any, .any, .any, .any, .any, .any, .any, .any, .any, .any, .any, .any, .any, .any, .any, .any, .any, .any, .any, .any, .any, .any, .any, .any, .any, .any, .any, .any, .any, .any, .any, .any, .any, .any, .any, .any, .any, .any, .any, .any, .any, .any, .any, .any, .any, .any, .any, .any, .any, .any, .any, .any, .any, .any, .any, .any, .any, .any, .bs tInt (befL f b), .lit (.int .i64 ((befL f b).length : Int)), .lit (.int .i64 (p.1 : Int)), .any, .any, .any, .any, .any, .any, .any, .any, .any, .any, .any, .any, .any, .any, .any, .any, .any, .any, .any, .any, .any, .any, .any, .any, .any, .any, .any], [.res (marksR (D :: ds)), .res (boxR g1 (encFunc f)), .res (boxR O (ms.map cellM)), .row p.2.1 3 tInt (i64s p.2.2.1), .res (mapsR ms p.2.2.2), .res (mapR (inS bl.ins S) mn), .res (boxR gn [cellM mn]), .dead]⟩) (fun p => p.1 ≤ (befL f b).length ∧ AllJ f (regsL f) b w0 Ss ((befL f b).take p.1) p.2.2.1 p.2.2.2) (fun p => (befL f b).length - p.1) (0, ver + 1, w0, Ss) ⟨Nat.zero_le _, hI.split⟩ (le_T) ?_
          rintro ⟨i, v2, wt, Ts⟩ ⟨hil, hJ⟩
          dsimp only at hil hJ ⊢
          have hless := hJ.less
          have hwt : wt.length ≤ 10000000000000 := by simp at hmu; omega
          refine Awp.seq fun K31 h31 => ?_
          (refine Awp.region ?_; (repeat (first | refine sQ (hk := ?_) | refine sSkip (hk := ?_) | refine sOwn (hk := ?_))); refine aSeq_nil ?_)
          refine h31 _ ?_
          refine nT (hk := ?_)
          refine Awp.seq fun K32 h32 => ?_
          refine Awp.cond rfl (fun hb33 => ?_) (fun hb33 => ?_)
          · have hlt : i < (befL f b).length := by simpa using hb33
            obtain ⟨x, hxb⟩ : ∃ x, (befL f b)[i]? = some x := ⟨_, List.getElem?_eq_getElem hlt⟩
            obtain ⟨k, hek, rfl⟩ := (befL_mem hbn x).1 (List.mem_of_getElem? hxb)
            have hkn := (edge_src hek).1
            obtain ⟨mk, hmk2⟩ : ∃ mk, ms[k]? = some mk := ⟨_, List.getElem?_eq_getElem (by omega)⟩
            obtain ⟨T, hTk⟩ : ∃ T, Ts[k]? = some T := ⟨_, List.getElem?_eq_getElem (by rw [hJ.len]; exact hkn)⟩
            have hmck : (ms.map cellM)[k]? = some (cellM mk) := by rw [List.getElem?_map, hmk2]; rfl
            have hatT : at_ Ts k = T := by unfold at_; rw [List.getD_eq_getElem?_getD, hTk]; rfl
            have hTs : Sub (regsL f) T := by have := hJ.sub k; rwa [hatT] at this
            have hUs : Sub (regsL f) (uni T (inS bl.ins S)) := fun r hr => by
              unfold uni at hr
              rw [Bool.or_eq_true] at hr
              rcases hr with hr | hr
              · exact hTs r hr
              · exact hNs r hr
            have hTk2 : (Ts.set k (uni T (inS bl.ins S)))[k]? = some (uni T (inS bl.ins S)) := List.getElem?_set_self (by rw [hJ.len]; exact hkn)
            have hstep := hJ.step hI hek hTk (by rw [hins]; exact hLr bl hmem)
            dsimp only at hstep
            rw [hins, hat] at hstep
            have htk2 : (befL f b).take (i + 1) = (befL f b).take i ++ [(k : Int)] := by rw [List.take_add_one, hxb]; rfl
            rw [← htk2] at hstep
            have hw := nat_wf (k := k) (by omega)
            have hn1 : (i64s wt).length + [(k : Int)].length ≤ maxLen := by rw [i64s_len]; simp [maxLen]; omega
            have hn2 : ((i64s wt).length + [(k : Int)].length) * 8 ≤ 140737488355328 := by rw [i64s_len]; simp; omega
            refine Awp.skip ?_
            refine h32 _ ?_
            refine nT (hk := ?_)
            refine Awp.seq fun K34 h34 => ?_
            refine Awp.block ?_
            refine Awp.seq fun K35 h35 => ?_
            (refine Awp.region ?_; (repeat (first | refine sQ (hk := ?_) | refine sSkip (hk := ?_) | refine sOwn (hk := ?_))); refine aSeq_nil ?_)
            refine h35 _ ?_
            refine nT (hk := ?_)
            refine Awp.seq fun K36 h36 => ?_
            (refine Awp.region ?_; (repeat (first | refine sQ (hq := Quiet.lenM (i := 4) rfl undSet rfl rfl (mapsR_set hmk2 hTk) hRR hTs.inR) (hk := ?_) | refine sQ (hk := ?_) | refine sSkip (hk := ?_) | refine sOwn (hk := ?_))); refine aSeq_nil ?_)
            refine h36 _ ?_
            refine nT (hk := ?_)
            refine Awp.seq fun K37 h37 => ?_
            (refine drawD 5 (hh := ?_); (repeat (first | refine qQ (hk := ?_) | refine qSkip (hk := ?_))); refine aQ_nil ?_; (repeat (first | (refine aSeq_t rfl (AOp.callTurn2 (i := 4) (j := 5) (by decide) rfl rfl rfl (copy_turn2 hmk2 hTk hRR hTs.inR hNs.inR) (fun _ => rfl) rfl rfl fun _ => ?_); refine sNt (hk := ?_)) | refine sQ (hk := ?_) | refine sSkip (hk := ?_) | refine sOwn (hk := ?_))); refine aSeq_nil ?_)
            refine h37 _ ?_
            refine nT (hk := ?_)
            refine Awp.seq fun K38 h38 => ?_
            rcases hc : decide ((((regsL f).filter (uni T (inS bl.ins S))).length : Int) > (((regsL f).filter T).length : Int)) with _ | _
            · rw [if_neg (by simpa using hc)] at hstep
              (refine Awp.region ?_; (repeat (first | refine sQ (hq := Quiet.lenM (i := 4) rfl undSet rfl rfl (mapsR_set hmk2 hTk2) hRR hUs.inR) (hk := ?_) | refine sQ (hk := ?_) | refine sSkip (hk := ?_) | refine sOwn (hk := ?_))); refine aSeq_nil ?_)
              refine h38 _ ?_
              refine nT (hk := ?_)
              refine Awp.cond rfl (fun hb39 => by cases hb39) (fun hb39 => ?_)
              refine Awp.skip ?_
              refine h34 _ ?_
              refine nT (hk := ?_)
              (refine Awp.region ?_; (repeat (first | refine sQ (hk := ?_) | refine sSkip (hk := ?_) | refine sOwn (hk := ?_))); refine aSeq_nil ?_)
              refine athen_n ⟨(i + 1, v2, wt, Ts.set k (uni T (inS bl.ins S))), ⟨by omega, hstep⟩, by dsimp only; omega, ?_⟩
              exact le_T
            · rw [if_pos (by simpa using hc)] at hstep
              (refine Awp.region ?_; (repeat (first | refine sQ (hq := Quiet.lenM (i := 4) rfl undSet rfl rfl (mapsR_set hmk2 hTk2) hRR hUs.inR) (hk := ?_) | refine sQ (hk := ?_) | refine sSkip (hk := ?_) | refine sOwn (hk := ?_))); refine aSeq_nil ?_)
              refine h38 _ ?_
              refine nT (hk := ?_)
              refine Awp.cond rfl (fun hb39 => ?_) (fun hb39 => by cases hb39)
              (refine Awp.region ?_; (repeat (first | refine sQ (hk := ?_) | refine sSkip (hk := ?_) | refine sOwn (hk := ?_))); refine aSeq_nil ?_)
              refine h34 _ ?_
              refine nT (hk := ?_)
              (refine Awp.region ?_; (repeat (first | refine sQ (hk := ?_) | refine sSkip (hk := ?_) | refine sOwn (hk := ?_))); refine aSeq_nil ?_)
              refine athen_n ⟨(i + 1, v2 + 1, wt ++ [k], Ts.set k (uni T (inS bl.ins S))), ⟨by omega, hstep⟩, by dsimp only; omega, ?_⟩
              dsimp only
              rw [i64s_snoc]
              exact le_T
          · refine Awp.exit ?_
            have hie : i = (befL f b).length := by have : ¬ i < (befL f b).length := by simpa using hb33
                                                   omega
            subst hie
            rw [List.take_length] at hJ
            refine athen_x (athen_x ?_)
            refine ablock_hit ?_
            refine ablock_n ?_
            refine athen_n ⟨(D :: ds, v2, wt, Ts), ⟨hJ.done_all hI, by dsimp only; simp at hmu; omega⟩, by dsimp only; simp; omega, ?_⟩
            dsimp only
            exact le_C (Cut.cons (Cut.cons (Cut.cons (Cut.cons (Cut.cons (Cut.nil _))))))
      · refine Awp.exit ?_
        have hw0 : wait = [] := List.eq_nil_of_length_eq_zero (by
          have : ¬ (0 : Int) < ((i64s wait).length : Int) := by simpa using hb17
          rw [i64s_len] at this
          omega)
        subst hw0
        refine h13 _ ?_
        refine nT (hk := ?_)
        have hend := hI.end_
        have hln := hI.len
        subst hend
        refine Awp.via _ (St.le_setsA (i := 2) (j := 4) (by decide) rfl rfl) ?_
        refine Awp.seq fun K23 h23 => ?_
        (refine Awp.region ?_; (repeat (first | refine sQ (hk := ?_) | refine sSkip (hk := ?_) | refine sOwn (hk := ?_))); refine aSeq_nil ?_)
        refine h23 _ ?_
        refine nT (hk := ?_)
        refine Awp.ret ?_
        exact ⟨.inr rfl, ds, rfl, rfl, Fin.sets (i := 2) (p := (O, ms)) rfl hln hmx⟩
end Mu
end
section
/-
  live.In, Out, At, Most, walked.
  Conditions: at most 2^21 of everything.
-/
namespace Mu
open Go Go.RowKit Go.Proofs Go.Maps
instance : AG Try.prog 48 false 1 := ⟨by kernel_rfl⟩
instance : SZ Try.prog 48 1 := ⟨by kernel_rfl⟩
instance : ES Try.prog 48 1 := ⟨by kernel_rfl⟩
instance : SL Try.prog 48 := ⟨by kernel_rfl⟩
instance : RT Try.prog 48 22 1 24 := ⟨by kernel_rfl⟩
instance : AG Try.prog 22 false 1 := ⟨by kernel_rfl⟩
instance : SZ Try.prog 22 1 := ⟨by kernel_rfl⟩
instance : ES Try.prog 22 1 := ⟨by kernel_rfl⟩
instance : SL Try.prog 22 := ⟨by kernel_rfl⟩
instance : RT Try.prog 22 3 1 8 := ⟨by kernel_rfl⟩
instance : AG Try.prog 29 false 1 := ⟨by kernel_rfl⟩
instance : SZ Try.prog 29 1 := ⟨by kernel_rfl⟩
instance : ES Try.prog 29 2 := ⟨by kernel_rfl⟩
instance : SL Try.prog 29 := ⟨by kernel_rfl⟩
instance : RT Try.prog 29 42 2 40 := ⟨by kernel_rfl⟩
instance : AG Try.prog 42 true 2 := ⟨by kernel_rfl⟩
instance : SZ Try.prog 42 2 := ⟨by kernel_rfl⟩

theorem places_fold {R : List Int} {ds : List Ins} {S : Int → Bool} : ∀ (k : Nat), k ≤ ds.length → ∀ p : (Int → Bool) × List (List Int), p.1 = inS (ds.drop k) S → p.2.length = ds.length + 1 →
    ((List.range k).reverse.foldl (stepP R ds) p).2 = (List.range k).map (fun j => R.filter (inS (ds.drop j) S)) ++ p.2.drop k
  | 0, _, p, _, _ => by simp
  | k + 1, hk, p, h1, h2 => by
    have hd : ds[k]? = some (ds[k]'(by omega)) := List.getElem?_eq_getElem (by omega)
    have hb : stepB ds p.1 k = inS (ds.drop k) S := by
      unfold stepB
      rw [hd, h1, List.drop_eq_getElem_cons (i := k) (by omega)]
      rfl
    rw [List.range_succ, List.reverse_append, List.reverse_singleton, List.singleton_append, List.foldl_cons, places_fold k (by omega) (stepP R ds p k) hb (by simp [stepP, h2])]
    simp only [stepP, hb, List.map_append, List.map_cons, List.map_nil, List.append_assoc, List.singleton_append]
    congr 1
    rw [List.drop_eq_getElem_cons (i := k) (by simp; omega), List.getElem_set_self, List.drop_set_of_lt (by omega)]
theorem placesL_eq (R : List Int) (ds : List Ins) (S : Int → Bool) : placesL R ds S = (List.range (ds.length + 1)).map fun i => R.filter (inS (ds.drop i) S) := by
  unfold placesL placesN
  rw [places_fold ds.length (Nat.le_refl _) _ (by rw [List.drop_eq_nil_of_le (Nat.le_refl _)]; rfl) (by simp), List.range_succ, List.map_append]
  congr 1
  rw [List.drop_set]
  simp [List.drop_replicate, inS]
/-- what is live at the places of a block -/
theorem atL_eq (f : Func) (b : Nat) : placesL (regsL f) (insOf f b) (outS f b) = blockL f b := by
  rw [placesL_eq]
  unfold blockL placeL
  refine List.map_congr_left fun i _ => ?_
  congr 1
  funext r
  exact (liveAt_eq f (outS f b) b i (fun r => outS_iff) r).symm
theorem blockL_len (f : Func) (b : Nat) : (blockL f b).length = (insOf f b).length + 1 := by simp [blockL]
theorem allL_len (f : Func) : (allL f).length = f.blocks.length := by simp [allL]
noncomputable def inL (f : Func) (b : Nat) : List Int := (regsL f).filter (inS (insOf f b) (outS f b))
noncomputable def outL (f : Func) (b : Nat) : List Int := (regsL f).filter (outS f b)
noncomputable def inF (f : Func) : List (List Int) := (List.range f.blocks.length).map (inL f)
noncomputable def outF (f : Func) : List (List Int) := (List.range f.blocks.length).map (outL f)
def atF (f : Func) (b : Int) : List (List Int) := if 0 ≤ b ∧ b < f.blocks.length then blockL f b.toNat else []
def mxI (n : Int) (l : List Int) : Int := if (l.length : Int) > n then (l.length : Int) else n
def mxB (n : Int) (ls : List (List Int)) : Int := ls.foldl mxI n
def mostF (f : Func) : Int := (allL f).foldl mxB 0
theorem blockL_first (f : Func) (b : Nat) : (blockL f b)[0]? = some (inL f b) := by
  rw [← atL_eq, placesL_eq, List.getElem?_map, List.getElem?_range (by omega)]
  rfl
theorem blockL_last (f : Func) (b : Nat) : (blockL f b)[(insOf f b).length]? = some (outL f b) := by
  rw [← atL_eq, placesL_eq, List.getElem?_map, List.getElem?_range (by omega)]
  simp [inS, outL]
theorem range_snoc {α : Type} (g : Nat → α) (b : Nat) : (List.range (b + 1)).map g = (List.range b).map g ++ [g b] := by rw [List.range_succ, List.map_append]; rfl

set_option maxRecDepth 100000 in
set_option maxHeartbeats 1000000 in
theorem in_fn (f : Func) (ho : okFunc f) (hs : smallF f) (hT : (allReads f).length ≤ 2097152) : Fn Try.prog 28 [.agg (encFunc f)] (.bs tInt.slice (inF f)) := by
  have hbl := hs.blocks
  have hRR := regsR_of f ho hT
  have hLr : ∀ b ∈ f.blocks, ∀ x ∈ b.ins, ∀ r ∈ readsC x, r ∈ regsL f := fun b hb x hx r hr => regsL_mem.2 ⟨b, hb, x, hx, hr⟩
  refine Fn.of_awp Try.func28 rfl (by kernel_rfl) rfl Try.ntmps28 fun C hC => ?_
  simp only [List.length_cons, List.length_nil, Nat.reduceAdd, Nat.reduceSub, List.replicate_succ, List.replicate_zero, List.cons_append, List.nil_append]
  refine Awp.seq fun K1 h1 => ?_
  (refine Awp.region ?_; (repeat (first | refine sQ (hk := ?_) | refine sSkip (hk := ?_) | refine sOwn (hk := ?_))); refine aSeq_nil ?_)
  refine h1 _ ?_
  refine nT (hk := ?_)
  refine Awp.seq fun K2 h2 => ?_
  (refine Awp.region ?_; (repeat (first | refine sQ (hk := ?_) | refine sSkip (hk := ?_) | refine sOwn (hk := ?_))); refine aSeq_nil ?_)
  refine h2 _ ?_
  refine nT (hk := ?_)
  refine Awp.seq fun K3 h3 => ?_
  refine Awp.seq fun K4 h4 => ?_
  (refine Awp.region ?_; (repeat (first | refine sQ (hq := Quiet.call rfl (all_fn f ho hs hT) rfl rfl rfl) (hk := ?_) | refine sQ (hk := ?_) | refine sSkip (hk := ?_) | refine sOwn (hk := ?_))); refine aSeq_nil ?_)
  refine h4 _ ?_
  refine nT (hk := ?_)
  refine Awp.block ?_
  refine Awp.loopF (fun p : Nat × Nat => ⟨[.any, .ptr 0 0, .any, .own 1 p.2, .any, .any, .any, .bs tSet ((List.range f.blocks.length).map (outS f)), .lit (.int .i64 (f.blocks.length : Int)), .lit (.int .i64 (p.1 : Int)), .any, .any, .any, .any, .any, .any, .any, .any, .any, .any, .any, .any, .any, .any, .any, .any, .any, .any], [.box (encFunc f), .row p.2 22 tInt.slice ((List.range p.1).map (inL f))]⟩) (fun p => p.1 ≤ f.blocks.length) (fun p => f.blocks.length - p.1) (0, 0) (Nat.zero_le _) ((St.le_nil 3 22 tInt.slice rfl (by decide)).trans (St.le_t rfl (by rw [List.length_map, List.length_range]; exact (by (try simp only [List.set_cons_zero, List.set_cons_succ]); repeat (first | exact Fgt.nil | refine Fgt.keep rfl ?_ | refine Fgt.any ?_))))) ?_
  rintro ⟨b, ver⟩ hbn
  dsimp only at hbn ⊢
  refine Awp.seq fun K6 h6 => ?_
  (refine Awp.region ?_; (repeat (first | refine sQ (hk := ?_) | refine sSkip (hk := ?_) | refine sOwn (hk := ?_))); refine aSeq_nil ?_)
  refine h6 _ ?_
  refine nT (hk := ?_)
  refine Awp.seq fun K7 h7 => ?_
  refine Awp.cond rfl (fun hb8 => ?_) (fun hb8 => ?_)
  · have hlt : b < f.blocks.length := by simpa using hb8
    obtain ⟨bl, hblk⟩ : ∃ bl, f.blocks[b]? = some bl := ⟨_, List.getElem?_eq_getElem hlt⟩
    have hmem := List.mem_of_getElem? hblk
    have hins : insOf f b = bl.ins := by unfold insOf; rw [hblk]
    have hset : ((List.range f.blocks.length).map (outS f))[b]? = some (outS f b) := by rw [List.getElem?_map, List.getElem?_range hlt]; rfl
    have hp0 : (placesL (regsL f) bl.ins (outS f b))[(0 : Int).toNat]? = some (inL f b) := by rw [← hins, atL_eq]; exact blockL_first f b
    have hn1 : ((List.range b).map (inL f)).length + [inL f b].length ≤ maxLen := by simp [maxLen]; omega
    have hn2 : (((List.range b).map (inL f)).length + [inL f b].length) * 24 ≤ 140737488355328 := by simp; omega
    refine Awp.skip ?_
    refine h7 _ ?_
    refine nT (hk := ?_)
    refine Awp.seq fun K9 h9 => ?_
    refine Awp.block ?_
    refine Awp.seq fun K10 h10 => ?_
    (refine Awp.region ?_; (repeat (first | refine sQ (hk := ?_) | refine sSkip (hk := ?_) | refine sOwn (hk := ?_))); refine aSeq_nil ?_)
    refine h10 _ ?_
    refine nT (hk := ?_)
    (refine Awp.region ?_; (repeat (first | refine sQ (hq := Quiet.call rfl (places_fn bl (outS f b) (regsL f) (ho.blocks bl hmem) (hs.all bl hmem) hRR (outS_sub hLr b) (hLr bl hmem)) rfl rfl rfl) (hk := ?_) | refine sQ (hk := ?_) | refine sSkip (hk := ?_) | refine sOwn (hk := ?_))); refine aSeq_nil ?_)
    refine h9 _ ?_
    refine nT (hk := ?_)
    (refine Awp.region ?_; (repeat (first | refine sQ (hk := ?_) | refine sSkip (hk := ?_) | refine sOwn (hk := ?_))); refine aSeq_nil ?_)
    refine athen_n ⟨(b + 1, ver + 1), by dsimp only; omega, by dsimp only; omega, ?_⟩
    dsimp only
    rw [range_snoc]
    exact le_T
  · refine Awp.exit ?_
    have hbe : b = f.blocks.length := by have : ¬ b < f.blocks.length := by simpa using hb8
                                         omega
    subst hbe
    refine h3 _ ?_
    refine nT (hk := ?_)
    refine Awp.seq fun K11 h11 => ?_
    (refine Awp.region ?_; (repeat (first | refine sQ (hk := ?_) | refine sSkip (hk := ?_) | refine sOwn (hk := ?_))); refine aSeq_nil ?_)
    refine h11 _ ?_
    refine nT (hk := ?_)
    refine Awp.ret ?_
    exact ⟨.inr rfl, Fin.own rfl⟩

set_option maxRecDepth 100000 in
set_option maxHeartbeats 1000000 in
theorem out_fn (f : Func) (ho : okFunc f) (hs : smallF f) (hT : (allReads f).length ≤ 2097152) : Fn Try.prog 29 [.agg (encFunc f)] (.bs tInt.slice (outF f)) := by
  have hbl := hs.blocks
  have hRR := regsR_of f ho hT
  have hLr : ∀ b ∈ f.blocks, ∀ x ∈ b.ins, ∀ r ∈ readsC x, r ∈ regsL f := fun b hb x hx r hr => regsL_mem.2 ⟨b, hb, x, hx, hr⟩
  refine Fn.of_awp Try.func29 rfl (by kernel_rfl) rfl Try.ntmps29 fun C hC => ?_
  simp only [List.length_cons, List.length_nil, Nat.reduceAdd, Nat.reduceSub, List.replicate_succ, List.replicate_zero, List.cons_append, List.nil_append]
  refine Awp.seq fun K1 h1 => ?_
  (refine Awp.region ?_; (repeat (first | refine sQ (hk := ?_) | refine sSkip (hk := ?_) | refine sOwn (hk := ?_))); refine aSeq_nil ?_)
  refine h1 _ ?_
  refine nT (hk := ?_)
  refine Awp.seq fun K2 h2 => ?_
  (refine Awp.region ?_; (repeat (first | refine sQ (hk := ?_) | refine sSkip (hk := ?_) | refine sOwn (hk := ?_))); refine aSeq_nil ?_)
  refine h2 _ ?_
  refine nT (hk := ?_)
  refine Awp.seq fun K3 h3 => ?_
  refine Awp.seq fun K4 h4 => ?_
  (refine Awp.region ?_; (repeat (first | refine sQ (hq := Quiet.call rfl (all_fn f ho hs hT) rfl rfl rfl) (hk := ?_) | refine sQ (hk := ?_) | refine sSkip (hk := ?_) | refine sOwn (hk := ?_))); refine aSeq_nil ?_)
  refine h4 _ ?_
  refine nT (hk := ?_)
  refine Awp.block ?_
  refine Awp.loopF (fun p : Nat × Nat => ⟨[.any, .any, .any, .own 1 p.2, .any, .any, .any, .bs tSet ((List.range f.blocks.length).map (outS f)), .lit (.int .i64 (f.blocks.length : Int)), .lit (.int .i64 (p.1 : Int)), .any, .any, .any, .any, .any, .any, .any, .any, .any, .any], [.box (encFunc f), .row p.2 22 tInt.slice ((List.range p.1).map (outL f))]⟩) (fun p => p.1 ≤ f.blocks.length) (fun p => f.blocks.length - p.1) (0, 0) (Nat.zero_le _) ((St.le_nil 3 22 tInt.slice rfl (by decide)).trans (St.le_t rfl (by rw [List.length_map, List.length_range]; exact (by (try simp only [List.set_cons_zero, List.set_cons_succ]); repeat (first | exact Fgt.nil | refine Fgt.keep rfl ?_ | refine Fgt.any ?_))))) ?_
  rintro ⟨b, ver⟩ hbn
  dsimp only at hbn ⊢
  refine Awp.seq fun K6 h6 => ?_
  (refine Awp.region ?_; (repeat (first | refine sQ (hk := ?_) | refine sSkip (hk := ?_) | refine sOwn (hk := ?_))); refine aSeq_nil ?_)
  refine h6 _ ?_
  refine nT (hk := ?_)
  refine Awp.seq fun K7 h7 => ?_
  refine Awp.cond rfl (fun hb8 => ?_) (fun hb8 => ?_)
  · have hlt : b < f.blocks.length := by simpa using hb8
    obtain ⟨bl, hblk⟩ : ∃ bl, f.blocks[b]? = some bl := ⟨_, List.getElem?_eq_getElem hlt⟩
    have hmem := List.mem_of_getElem? hblk
    have hins : insOf f b = bl.ins := by unfold insOf; rw [hblk]
    have hset : ((List.range f.blocks.length).map (outS f))[b]? = some (outS f b) := by rw [List.getElem?_map, List.getElem?_range hlt]; rfl
    have hn1 : ((List.range b).map (outL f)).length + [outL f b].length ≤ maxLen := by simp [maxLen]; omega
    have hn2 : (((List.range b).map (outL f)).length + [outL f b].length) * 24 ≤ 140737488355328 := by simp; omega
    refine Awp.skip ?_
    refine h7 _ ?_
    refine nT (hk := ?_)
    refine Awp.seq fun K9 h9 => ?_
    refine Awp.block ?_
    refine Awp.seq fun K10 h10 => ?_
    (refine Awp.region ?_; (repeat (first | refine sQ (hk := ?_) | refine sSkip (hk := ?_) | refine sOwn (hk := ?_))); refine aSeq_nil ?_)
    refine h10 _ ?_
    refine nT (hk := ?_)
    (refine Awp.region ?_; (repeat (first | refine sQ (hq := Quiet.call (r := .bs tInt (outL f b)) rfl (list_fn (outS f b) (regsL f) hRR (outS_sub hLr b)) rfl rfl rfl) (hk := ?_) | refine sQ (hk := ?_) | refine sSkip (hk := ?_) | refine sOwn (hk := ?_))); refine aSeq_nil ?_)
    refine h9 _ ?_
    refine nT (hk := ?_)
    (refine Awp.region ?_; (repeat (first | refine sQ (hk := ?_) | refine sSkip (hk := ?_) | refine sOwn (hk := ?_))); refine aSeq_nil ?_)
    refine athen_n ⟨(b + 1, ver + 1), by dsimp only; omega, by dsimp only; omega, ?_⟩
    dsimp only
    rw [range_snoc]
    exact le_T
  · refine Awp.exit ?_
    have hbe : b = f.blocks.length := by have : ¬ b < f.blocks.length := by simpa using hb8
                                         omega
    subst hbe
    refine h3 _ ?_
    refine nT (hk := ?_)
    refine Awp.seq fun K11 h11 => ?_
    (refine Awp.region ?_; (repeat (first | refine sQ (hk := ?_) | refine sSkip (hk := ?_) | refine sOwn (hk := ?_))); refine aSeq_nil ?_)
    refine h11 _ ?_
    refine nT (hk := ?_)
    refine Awp.ret ?_
    exact ⟨.inr rfl, Fin.own rfl⟩

theorem Fin.nilRow {h : List ABlk} {α : Type} {T : Ty α} (hm : mkD h = [] := by rfl) : Fin h (.lit (.slice none 0 0)) (.bs T []) := ⟨hm, fun C S ψ w v hC H hv => ⟨S, fun _ h => h, fun _ h => .inl h, H.lt, by
  unfold AV.rel at hv ⊢
  rw [hv]
  exact T.slice_nilS _ _⟩⟩

set_option maxRecDepth 100000 in
set_option maxHeartbeats 1000000 in
theorem at_fn (f : Func) (b : Int) (ho : okFunc f) (hs : smallF f) (hT : (allReads f).length ≤ 2097152) : Fn Try.prog 30 [.agg (encFunc f), .lit (.int .i64 b)] (.bs tInt.slice (atF f b)) := by
  have hbl := hs.blocks
  have hRR := regsR_of f ho hT
  have hLr : ∀ b ∈ f.blocks, ∀ x ∈ b.ins, ∀ r ∈ readsC x, r ∈ regsL f := fun b hb x hx r hr => regsL_mem.2 ⟨b, hb, x, hx, hr⟩
  refine Fn.of_awp Try.func30 rfl (by kernel_rfl) rfl Try.ntmps30 fun C hC => ?_
  simp only [List.length_cons, List.length_nil, Nat.reduceAdd, Nat.reduceSub, List.replicate_succ, List.replicate_zero, List.cons_append, List.nil_append]
  refine Awp.seq fun K1 h1 => ?_
  (refine Awp.region ?_; (repeat (first | refine sQ (hk := ?_) | refine sSkip (hk := ?_) | refine sOwn (hk := ?_))); refine aSeq_nil ?_)
  refine h1 _ ?_
  refine nT (hk := ?_)
  refine Awp.seq fun K2 h2 => ?_
  refine Awp.seq fun K3 h3 => ?_
  rcases hd1 : decide (b < 0) with _ | _
  · rcases hd2 : decide (b ≥ (f.blocks.length : Int)) with _ | _
    · have h0 : 0 ≤ b := by simpa using hd1
      have hlt : b.toNat < f.blocks.length := by have : b < (f.blocks.length : Int) := by simpa using hd2
                                                 omega
      obtain ⟨bl, hblk⟩ : ∃ bl, f.blocks[b.toNat]? = some bl := ⟨_, List.getElem?_eq_getElem hlt⟩
      have hmem := List.mem_of_getElem? hblk
      have hins : insOf f b.toNat = bl.ins := by unfold insOf; rw [hblk]
      have hset : ((List.range f.blocks.length).map (outS f))[b.toNat]? = some (outS f b.toNat) := by rw [List.getElem?_map, List.getElem?_range hlt]; rfl
      have hres : atF f b = placesL (regsL f) bl.ins (outS f b.toNat) := by
        unfold atF
        rw [if_pos ⟨h0, by omega⟩, ← hins, atL_eq]
      (refine Awp.region ?_; (repeat (first | refine sQ (hk := ?_) | refine sSkip (hk := ?_) | refine sOwn (hk := ?_))); refine aSeq_nil ?_)
      refine h3 _ ?_
      refine nT (hk := ?_)
      refine Awp.cond rfl (fun hb4 => by cases hb4) (fun hb4 => ?_)
      refine Awp.skip ?_
      refine h2 _ ?_
      refine nT (hk := ?_)
      refine Awp.seq fun K6 h6 => ?_
      (refine drawD 12 (hh := ?_); (repeat (first | refine qQ (hq := Quiet.call rfl (all_fn f ho hs hT) rfl rfl rfl) (hk := ?_) | refine qQ (hq := Quiet.call rfl (places_fn bl (outS f b.toNat) (regsL f) (ho.blocks bl hmem) (hs.all bl hmem) hRR (outS_sub hLr _) (hLr bl hmem)) rfl rfl rfl) (hk := ?_) | refine qQ (hk := ?_) | refine qSkip (hk := ?_))); refine aQ_nil ?_; (repeat (first | refine sQ (hq := Quiet.call rfl (all_fn f ho hs hT) rfl rfl rfl) (hk := ?_) | refine sQ (hq := Quiet.call rfl (places_fn bl (outS f b.toNat) (regsL f) (ho.blocks bl hmem) (hs.all bl hmem) hRR (outS_sub hLr _) (hLr bl hmem)) rfl rfl rfl) (hk := ?_) | refine sQ (hk := ?_) | refine sSkip (hk := ?_) | refine sOwn (hk := ?_))); refine aSeq_nil ?_)
      refine h6 _ ?_
      refine nT (hk := ?_)
      refine Awp.ret ?_
      rw [hres]
      exact ⟨.inr rfl, Fin.cl rfl⟩
    · have hres : atF f b = [] := by
        have : (f.blocks.length : Int) ≤ b := by simpa using hd2
        unfold atF
        rw [if_neg (by omega)]
      (refine Awp.region ?_; (repeat (first | refine sQ (hk := ?_) | refine sSkip (hk := ?_) | refine sOwn (hk := ?_))); refine aSeq_nil ?_)
      refine h3 _ ?_
      refine nT (hk := ?_)
      refine Awp.cond rfl (fun hb4 => ?_) (fun hb4 => by cases hb4)
      refine Awp.seq fun K5 h5 => ?_
      (refine Awp.region ?_; (repeat (first | refine sQ (hk := ?_) | refine sSkip (hk := ?_) | refine sOwn (hk := ?_))); refine aSeq_nil ?_)
      refine h5 _ ?_
      refine nT (hk := ?_)
      refine Awp.ret ?_
      rw [hres]
      exact ⟨.inr rfl, Fin.nilRow⟩
  · have hres : atF f b = [] := by
      have : b < 0 := by simpa using hd1
      unfold atF
      rw [if_neg (by omega)]
    (refine Awp.region ?_; (repeat (first | refine sQ (hk := ?_) | refine sSkip (hk := ?_) | refine sOwn (hk := ?_))); refine aSeq_nil ?_)
    refine h3 _ ?_
    refine nT (hk := ?_)
    refine Awp.cond rfl (fun hb4 => ?_) (fun hb4 => by cases hb4)
    refine Awp.seq fun K5 h5 => ?_
    (refine Awp.region ?_; (repeat (first | refine sQ (hk := ?_) | refine sSkip (hk := ?_) | refine sOwn (hk := ?_))); refine aSeq_nil ?_)
    refine h5 _ ?_
    refine nT (hk := ?_)
    refine Awp.ret ?_
    rw [hres]
    exact ⟨.inr rfl, Fin.nilRow⟩

theorem fold_take_succ {α β : Type} (g : β → α → β) (z : β) {l : List α} {i : Nat} {x : α} (h : l[i]? = some x) : (l.take (i + 1)).foldl g z = g ((l.take i).foldl g z) x := by
  rw [List.take_add_one, h, List.foldl_append]
  rfl
set_option maxRecDepth 100000 in
set_option maxHeartbeats 1000000 in
theorem most_fn (f : Func) (ho : okFunc f) (hs : smallF f) (hT : (allReads f).length ≤ 2097152) : Fn Try.prog 32 [.agg (encFunc f)] (.lit (.int .i64 (mostF f))) := by
  have hbl := hs.blocks
  have hRR := regsR_of f ho hT
  have hLr : ∀ b ∈ f.blocks, ∀ x ∈ b.ins, ∀ r ∈ readsC x, r ∈ regsL f := fun b hb x hx r hr => regsL_mem.2 ⟨b, hb, x, hx, hr⟩
  refine Fn.of_awp Try.func32 rfl (by kernel_rfl) rfl Try.ntmps32 fun C hC => ?_
  simp only [List.length_cons, List.length_nil, Nat.reduceAdd, Nat.reduceSub, List.replicate_succ, List.replicate_zero, List.cons_append, List.nil_append]
  refine Awp.seq fun K1 h1 => ?_
  (refine Awp.region ?_; (repeat (first | refine sQ (hk := ?_) | refine sSkip (hk := ?_) | refine sOwn (hk := ?_))); refine aSeq_nil ?_)
  refine h1 _ ?_
  refine nT (hk := ?_)
  refine Awp.seq fun K2 h2 => ?_
  (refine Awp.region ?_; (repeat (first | refine sQ (hk := ?_) | refine sSkip (hk := ?_) | refine sOwn (hk := ?_))); refine aSeq_nil ?_)
  refine h2 _ ?_
  refine nT (hk := ?_)
  refine Awp.seq fun K3 h3 => ?_
  refine Awp.seq fun K4 h4 => ?_
  (refine Awp.region ?_; (repeat (first | refine sQ (hq := Quiet.call rfl (all_fn f ho hs hT) rfl rfl rfl) (hk := ?_) | refine sQ (hk := ?_) | refine sSkip (hk := ?_) | refine sOwn (hk := ?_))); refine aSeq_nil ?_)
  refine h4 _ ?_
  refine nT (hk := ?_)
  refine Awp.block ?_
  refine Awp.loopF (fun p : Nat => ⟨[.any, .ptr 0 0, .any, .lit (.int .i64 (((allL f).take p).foldl mxB 0)), .any, .any, .any, .any, .any, .bs tSet ((List.range f.blocks.length).map (outS f)), .lit (.int .i64 (f.blocks.length : Int)), .lit (.int .i64 (p : Int)), .any, .any, .any, .any, .any, .any, .any, .any, .any, .any, .any, .any, .any, .any, .any, .any, .any, .any, .any, .any, .any, .any, .any], [.box (encFunc f)]⟩) (fun p => p ≤ f.blocks.length) (fun p => f.blocks.length - p) 0 (Nat.zero_le _) (St.le_t rfl (by rw [List.length_map, List.length_range]; exact (by (try simp only []); repeat (first | exact Fgt.nil | refine Fgt.keep rfl ?_ | refine Fgt.any ?_)))) ?_
  intro b hbn
  dsimp only at hbn ⊢
  refine Awp.seq fun K6 h6 => ?_
  (refine Awp.region ?_; (repeat (first | refine sQ (hk := ?_) | refine sSkip (hk := ?_) | refine sOwn (hk := ?_))); refine aSeq_nil ?_)
  refine h6 _ ?_
  refine nT (hk := ?_)
  refine Awp.seq fun K7 h7 => ?_
  refine Awp.cond rfl (fun hb8 => ?_) (fun hb8 => ?_)
  · have hlt : b < f.blocks.length := by simpa using hb8
    obtain ⟨bl, hblk⟩ : ∃ bl, f.blocks[b]? = some bl := ⟨_, List.getElem?_eq_getElem hlt⟩
    have hmem := List.mem_of_getElem? hblk
    have hins : insOf f b = bl.ins := by unfold insOf; rw [hblk]
    have hset : ((List.range f.blocks.length).map (outS f))[b]? = some (outS f b) := by rw [List.getElem?_map, List.getElem?_range hlt]; rfl
    have hall : (allL f)[b]? = some (blockL f b) := by unfold allL; rw [List.getElem?_map, List.getElem?_range hlt]; rfl
    have hbe := fold_take_succ mxB 0 hall
    have hpl : placesL (regsL f) bl.ins (outS f b) = blockL f b := by rw [← hins, atL_eq]
    have hbll : (blockL f b).length ≤ 2097153 := by rw [blockL_len, hins]; have := (hs.all bl hmem).ins; omega
    generalize hn0 : ((allL f).take b).foldl mxB 0 = n0 at hbe ⊢
    refine Awp.skip ?_
    refine h7 _ ?_
    refine nT (hk := ?_)
    refine Awp.seq fun K9 h9 => ?_
    refine Awp.block ?_
    refine Awp.seq fun K10 h10 => ?_
    (refine Awp.region ?_; (repeat (first | refine sQ (hk := ?_) | refine sSkip (hk := ?_) | refine sOwn (hk := ?_))); refine aSeq_nil ?_)
    refine h10 _ ?_
    refine nT (hk := ?_)
    refine Awp.seq fun K11 h11 => ?_
    (refine Awp.region ?_; (repeat (first | refine sQ (hq := Quiet.call rfl (by have := places_fn bl (outS f b) (regsL f) (ho.blocks bl hmem) (hs.all bl hmem) hRR (outS_sub hLr b) (hLr bl hmem); rw [hpl] at this; exact this) rfl rfl rfl) (hk := ?_) | refine sQ (hk := ?_) | refine sSkip (hk := ?_) | refine sOwn (hk := ?_))); refine aSeq_nil ?_)
    refine h11 _ ?_
    refine nT (hk := ?_)
    refine Awp.block ?_
    refine Awp.loopF (fun p : Nat => ⟨[.any, .ptr 0 0, .any, .lit (.int .i64 (mxB n0 ((blockL f b).take p))), .any, .any, .any, .any, .any, .bs tSet ((List.range f.blocks.length).map (outS f)), .lit (.int .i64 (f.blocks.length : Int)), .lit (.int .i64 (b : Int)), .any, .any, .any, .any, .any, .any, .any, .any, .any, .any, .bs tInt.slice (blockL f b), .lit (.int .i64 ((blockL f b).length : Int)), .lit (.int .i64 (p : Int)), .any, .any, .any, .any, .any, .any, .any, .any, .any, .any], [.box (encFunc f)]⟩) (fun p => p ≤ (blockL f b).length) (fun p => (blockL f b).length - p) 0 (Nat.zero_le _) (le_T) ?_
    intro i hil
    dsimp only at hil ⊢
    refine Awp.seq fun K13 h13 => ?_
    (refine Awp.region ?_; (repeat (first | refine sQ (hk := ?_) | refine sSkip (hk := ?_) | refine sOwn (hk := ?_))); refine aSeq_nil ?_)
    refine h13 _ ?_
    refine nT (hk := ?_)
    refine Awp.seq fun K14 h14 => ?_
    refine Awp.cond rfl (fun hb15 => ?_) (fun hb15 => ?_)
    · have hlt2 : i < (blockL f b).length := by simpa using hb15
      obtain ⟨l, hl⟩ : ∃ l, (blockL f b)[i]? = some l := ⟨_, List.getElem?_eq_getElem hlt2⟩
      have hst : mxB n0 ((blockL f b).take (i + 1)) = mxI (mxB n0 ((blockL f b).take i)) l := fold_take_succ mxI n0 hl
      refine Awp.skip ?_
      refine h14 _ ?_
      refine nT (hk := ?_)
      refine Awp.seq fun K16 h16 => ?_
      refine Awp.block ?_
      refine Awp.seq fun K17 h17 => ?_
      (refine Awp.region ?_; (repeat (first | refine sQ (hk := ?_) | refine sSkip (hk := ?_) | refine sOwn (hk := ?_))); refine aSeq_nil ?_)
      refine h17 _ ?_
      refine nT (hk := ?_)
      (refine Awp.region ?_; (repeat (first | refine sQ (hk := ?_) | refine sSkip (hk := ?_) | refine sOwn (hk := ?_))); refine aSeq_nil ?_)
      refine h16 _ ?_
      refine nT (hk := ?_)
      (refine Awp.region ?_; (repeat (first | refine sQ (hk := ?_) | refine sSkip (hk := ?_) | refine sOwn (hk := ?_))); refine aSeq_nil ?_)
      refine athen_n ⟨i + 1, by omega, by omega, ?_⟩
      rw [hst]
      exact le_T
    · refine Awp.exit ?_
      have hie : i = (blockL f b).length := by have : ¬ i < (blockL f b).length := by simpa using hb15
                                               omega
      subst hie
      refine h9 _ ?_
      refine nT (hk := ?_)
      (refine Awp.region ?_; (repeat (first | refine sQ (hk := ?_) | refine sSkip (hk := ?_) | refine sOwn (hk := ?_))); refine aSeq_nil ?_)
      refine athen_n ⟨b + 1, by omega, by omega, ?_⟩
      rw [hbe]
      rw [List.take_length]
      exact le_T
  · refine Awp.exit ?_
    have hbe : b = f.blocks.length := by have : ¬ b < f.blocks.length := by simpa using hb8
                                         omega
    subst hbe
    refine h3 _ ?_
    refine nT (hk := ?_)
    refine Awp.seq fun K18 h18 => ?_
    (refine Awp.region ?_; (repeat (first | refine sQ (hk := ?_) | refine sSkip (hk := ?_) | refine sOwn (hk := ?_))); refine aSeq_nil ?_)
    refine h18 _ ?_
    refine nT (hk := ?_)
    refine Awp.ret ?_
    rw [← allL_len f, List.take_length]
    exact ⟨.inr rfl, Fin.cl rfl⟩
end Mu
end
section
/-
  muntinref14: Has, in, Ends, empty, walked.
  Conditions: none.
-/
namespace Mu
open Go Go.RowKit Go.Proofs

theorem rel_cons {w : World} {S : Nat → Prop} {h : List ABlk} {ψ : Nat → Value} {x : AV} {l : List AV} {vs : List Value} (H : AV.relL w S h ψ (x :: l) vs) : ∃ v us, vs = v :: us ∧ AV.rel w S h ψ x v ∧ AV.relL w S h ψ l us := by
  unfold AV.relL at H
  exact H
theorem has14_fn (op : Int) (h0 : 0 ≤ op) (h1 : op ≤ 255) : Fn Try.prog 91 [.lit (.int .u8 op)] (.lit (.string ⟨(hasS op).toArray⟩)) :=
  Fn.of_lit (by kernel_rfl) fun w vs hr => by
    obtain ⟨v, rfl, hv⟩ := arg1 hr
    obtain rfl := rel_lit hv
    exact ref_Has op w h0 h1
theorem in14_fn (s : ByteArray) (c : UInt8) (hs : s.size ≤ 65536) : Fn Try.prog 90 [.lit (.string s), .lit (.int .u8 (c.toNat : Int))] (.lit (.bool (hasC s c))) :=
  Fn.of_lit (by kernel_rfl) fun w vs hr => by
    obtain ⟨v, u, rfl, hv, hu⟩ := arg2 hr
    obtain rfl := rel_lit hv
    obtain rfl := rel_lit hu
    exact (ref_in14 s c w hs).mono fun e w' ⟨h1, h2⟩ => ⟨h1, by rw [← h2]; exact Below.refl _ _⟩
theorem hasS_small (op : Int) : (⟨(hasS op).toArray⟩ : ByteArray).size ≤ 65536 := by
  show (hasS op).toArray.size ≤ 65536
  unfold hasS
  repeat' split
  all_goals decide
def hasL (op : Int) (c : UInt8) : Bool := (hasS op).contains c
theorem in14_has (op : Int) (c : UInt8) (n : Int) (hn : (c.toNat : Int) = n) : Fn Try.prog 90 [.lit (.string ⟨(hasS op).toArray⟩), .lit (.int .u8 n)] (.lit (.bool (hasL op c))) := by
  have := in14_fn ⟨(hasS op).toArray⟩ c (hasS_small op)
  rw [hn] at this
  exact this

def endsB (x : Ins) : Bool := x.op == 8 || x.op == 9 || x.op == 10
set_option maxRecDepth 100000 in
set_option maxHeartbeats 1000000 in
theorem ends14_fn (x : Ins) : Fn Try.prog 85 [.agg (encIns x)] (.lit (.bool (endsB x))) := by
  refine Fn.of_awp Try.func85 rfl (by kernel_rfl) rfl Try.ntmps85 fun C hC => ?_
  simp only [List.length_cons, List.length_nil, Nat.reduceAdd, Nat.reduceSub, List.replicate_succ, List.replicate_zero, List.cons_append, List.nil_append]
  refine Awp.seq fun K1 h1 => ?_
  (refine Awp.region ?_; (repeat (first | refine sQ (hq := Quiet.pickOr rfl rfl rfl rfl) (hk := ?_) | refine sQ (hq := Quiet.pickAnd rfl rfl rfl rfl) (hk := ?_) | refine sQ (hk := ?_) | refine sSkip (hk := ?_) | refine sG (hk := ?_) | refine sOwn (hk := ?_))); refine aSeq_nil ?_)
  refine h1 _ ?_
  refine nT (hk := ?_)
  refine Awp.seq fun K2 h2 => ?_
  (refine Awp.region ?_; (repeat (first | refine sQ (hq := Quiet.pickOr rfl rfl rfl rfl) (hk := ?_) | refine sQ (hq := Quiet.pickAnd rfl rfl rfl rfl) (hk := ?_) | refine sQ (hk := ?_) | refine sSkip (hk := ?_) | refine sG (hk := ?_) | refine sOwn (hk := ?_))); refine aSeq_nil ?_)
  refine h2 _ ?_
  refine nT (hk := ?_)
  refine Awp.ret ?_
  exact ⟨.inr rfl, Fin.cl rfl⟩
def emptyB (x : Ins) : Bool := (hasL x.op 100 || x.d == 0) && (hasL x.op 97 || x.a == 0) && (hasL x.op 98 || x.b == 0) && (hasL x.op 110 || x.n == 0) && (hasL x.op 102 || x.f == 0) && (hasL x.op 120 || (x.args.length : Int) == 0) && (hasL x.op 108 || x.l1 == 0) && (hasL x.op 109 || x.l2 == 0)
set_option maxRecDepth 100000 in
set_option maxHeartbeats 1000000 in
theorem empty14_fn (x : Ins) (h0 : 0 ≤ x.op) (h1 : x.op ≤ 255) : Fn Try.prog 113 [.agg (encIns x)] (.lit (.bool (emptyB x))) := by
  have c1 := in14_has x.op 100 100 rfl
  have c2 := in14_has x.op 97 97 rfl
  have c3 := in14_has x.op 98 98 rfl
  have c4 := in14_has x.op 110 110 rfl
  have c5 := in14_has x.op 102 102 rfl
  have c6 := in14_has x.op 120 120 rfl
  have c7 := in14_has x.op 108 108 rfl
  have c8 := in14_has x.op 109 109 rfl
  have hh := has14_fn x.op h0 h1
  refine Fn.of_awp Try.func113 rfl (by kernel_rfl) rfl Try.ntmps113 fun C hC => ?_
  simp only [List.length_cons, List.length_nil, Nat.reduceAdd, Nat.reduceSub, List.replicate_succ, List.replicate_zero, List.cons_append, List.nil_append]
  refine Awp.seq fun K1 h1 => ?_
  (refine Awp.region ?_; (repeat (first | refine sQ (hq := Quiet.pickOr rfl rfl rfl rfl) (hk := ?_) | refine sQ (hq := Quiet.pickAnd rfl rfl rfl rfl) (hk := ?_) | refine sQ (hk := ?_) | refine sSkip (hk := ?_) | refine sG (hk := ?_) | refine sOwn (hk := ?_))); refine aSeq_nil ?_)
  refine h1 _ ?_
  refine nT (hk := ?_)
  refine Awp.seq fun K2 h2 => ?_
  (refine Awp.region ?_; (repeat (first | refine sQ (hq := Quiet.call rfl hh rfl rfl rfl) (hk := ?_) | refine sQ (hq := Quiet.pickOr rfl rfl rfl rfl) (hk := ?_) | refine sQ (hq := Quiet.pickAnd rfl rfl rfl rfl) (hk := ?_) | refine sQ (hk := ?_) | refine sSkip (hk := ?_) | refine sG (hg := by first | rfl | exact gA_c rfl rfl) (hq := by (intro hg; (try simp only [Bool.and_eq_true, beq_iff_eq] at hg); (try simp only [hg, cond_true, Bool.true_and, beq_self_eq_true]); exact Quiet.call rfl hh rfl rfl rfl)) (hk := ?_) | refine sG (hk := ?_) | refine sOwn (hk := ?_))); refine aSeq_nil ?_)
  refine h2 _ ?_
  refine nT (hk := ?_)
  refine Awp.seq fun K3 h3 => ?_
  (refine Awp.region ?_; (repeat (first | refine sQ (hq := Quiet.call rfl c1 rfl rfl rfl) (hk := ?_) | refine sQ (hq := Quiet.call rfl c2 rfl rfl rfl) (hk := ?_) | refine sQ (hq := Quiet.call rfl c3 rfl rfl rfl) (hk := ?_) | refine sQ (hq := Quiet.call rfl c4 rfl rfl rfl) (hk := ?_) | refine sQ (hq := Quiet.call rfl c5 rfl rfl rfl) (hk := ?_) | refine sQ (hq := Quiet.call rfl c6 rfl rfl rfl) (hk := ?_) | refine sQ (hq := Quiet.call rfl c7 rfl rfl rfl) (hk := ?_) | refine sQ (hq := Quiet.call rfl c8 rfl rfl rfl) (hk := ?_) | refine sQ (hq := Quiet.pickOr rfl rfl rfl rfl) (hk := ?_) | refine sQ (hq := Quiet.pickAnd rfl rfl rfl rfl) (hk := ?_) | refine sQ (hk := ?_) | refine sSkip (hk := ?_) | refine sG (hg := by first | rfl | exact gA_c rfl rfl) (hq := by (intro hg; (try simp only [Bool.and_eq_true, beq_iff_eq] at hg); (try simp only [hg, cond_true, Bool.true_and, beq_self_eq_true]); exact Quiet.call rfl c1 rfl rfl rfl)) (hk := ?_) | refine sG (hg := by first | rfl | exact gA_c rfl rfl) (hq := by (intro hg; (try simp only [Bool.and_eq_true, beq_iff_eq] at hg); (try simp only [hg, cond_true, Bool.true_and, beq_self_eq_true]); exact Quiet.call rfl c2 rfl rfl rfl)) (hk := ?_) | refine sG (hg := by first | rfl | exact gA_c rfl rfl) (hq := by (intro hg; (try simp only [Bool.and_eq_true, beq_iff_eq] at hg); (try simp only [hg, cond_true, Bool.true_and, beq_self_eq_true]); exact Quiet.call rfl c3 rfl rfl rfl)) (hk := ?_) | refine sG (hg := by first | rfl | exact gA_c rfl rfl) (hq := by (intro hg; (try simp only [Bool.and_eq_true, beq_iff_eq] at hg); (try simp only [hg, cond_true, Bool.true_and, beq_self_eq_true]); exact Quiet.call rfl c4 rfl rfl rfl)) (hk := ?_) | refine sG (hg := by first | rfl | exact gA_c rfl rfl) (hq := by (intro hg; (try simp only [Bool.and_eq_true, beq_iff_eq] at hg); (try simp only [hg, cond_true, Bool.true_and, beq_self_eq_true]); exact Quiet.call rfl c5 rfl rfl rfl)) (hk := ?_) | refine sG (hg := by first | rfl | exact gA_c rfl rfl) (hq := by (intro hg; (try simp only [Bool.and_eq_true, beq_iff_eq] at hg); (try simp only [hg, cond_true, Bool.true_and, beq_self_eq_true]); exact Quiet.call rfl c6 rfl rfl rfl)) (hk := ?_) | refine sG (hg := by first | rfl | exact gA_c rfl rfl) (hq := by (intro hg; (try simp only [Bool.and_eq_true, beq_iff_eq] at hg); (try simp only [hg, cond_true, Bool.true_and, beq_self_eq_true]); exact Quiet.call rfl c7 rfl rfl rfl)) (hk := ?_) | refine sG (hg := by first | rfl | exact gA_c rfl rfl) (hq := by (intro hg; (try simp only [Bool.and_eq_true, beq_iff_eq] at hg); (try simp only [hg, cond_true, Bool.true_and, beq_self_eq_true]); exact Quiet.call rfl c8 rfl rfl rfl)) (hk := ?_) | refine sG (hk := ?_) | refine sOwn (hk := ?_))); refine aSeq_nil ?_)
  refine h3 _ ?_
  refine nT (hk := ?_)
  refine Awp.ret ?_
  exact ⟨.inr rfl, Fin.cl rfl⟩
end Mu
end
section
/-
  muntinref14: one, writes, Next, walked.
  Conditions: data of at most 2^21 everywhere.
-/
namespace Mu
open Go Go.RowKit Go.Proofs

def bad1 (x : Ins) : Bool := (((decide (x.op > 10) || !(emptyB x)) || decide (x.d < 0)) || decide (x.a < 0)) || decide (x.b < 0)
def argsN (p : Prog) (k : Int) : Int := (p.funcs[k.toNat]?.elim 0 (·.args))
def bad5 (p : Prog) (x : Ins) : Bool := (decide (x.f < 0) || decide (x.f ≥ (p.funcs.length : Int))) || ((x.args.length : Int) != argsN p x.f)
def okL (f : Func) (x : Ins) : Bool := ((decide (x.l1 ≥ 0) && decide (x.l1 < (f.blocks.length : Int))) && decide (x.l2 ≥ 0)) && decide (x.l2 < (f.blocks.length : Int))
def oneB (p : Prog) (f : Func) (x : Ins) : Bool := !(bad1 x) && (!(x.args.any fun r => decide (r < 0)) && (!(x.op == 1 && decide (x.n > 13)) && (!(x.op == 5 && bad5 p x) && (!(x.op == 8 || x.op == 9) || okL f x))))


theorem any_takeG {α : Type} {l : List α} {p : α → Bool} {k : Nat} {x : α} (hx : l[k]? = some x) (hn : (l.take k).any p = false) (hp : p x = false) : (l.take (k + 1)).any p = false := by
  rw [List.take_add_one, hx, List.any_append, hn]
  simp [hp]
theorem any_all {α : Type} {l : List α} {p : α → Bool} {k : Nat} (h : (l.take k).any p = false) (hk : ¬ k < l.length) : l.any p = false := by
  rw [List.take_of_length_le (by omega)] at h
  exact h

set_option maxRecDepth 100000 in
set_option maxHeartbeats 4000000 in
theorem one14_fn (p : Prog) (f : Func) (x : Ins) (ho : okIns x) (hl : x.args.length ≤ 2097152) (hp : p.funcs.length ≤ 2097152) (hf : f.blocks.length ≤ 2097152) : Fn Try.prog 86 [.agg (encProg p), .agg (encFunc f), .agg (encIns x)] (.lit (.bool (oneB p f x))) := by
  have hem := empty14_fn x (wfI_u8 ho.op).1 (wfI_u8 ho.op).2
  refine Fn.of_awp Try.func86 rfl (by kernel_rfl) rfl Try.ntmps86 fun C hC => ?_
  simp only [List.length_cons, List.length_nil, Nat.reduceAdd, Nat.reduceSub, List.replicate_succ, List.replicate_zero, List.cons_append, List.nil_append]
  refine Awp.seq fun K1 h1 => ?_
  (refine Awp.region ?_; (repeat (first | refine sQ (hq := Quiet.pickOr rfl rfl rfl rfl) (hk := ?_) | refine sQ (hq := Quiet.pickAnd rfl rfl rfl rfl) (hk := ?_) | refine sQ (hk := ?_) | refine sSkip (hk := ?_) | refine sG (hk := ?_) | refine sOwn (hk := ?_))); refine aSeq_nil ?_)
  refine h1 _ ?_
  refine nT (hk := ?_)
  refine Awp.seq fun K2 h2 => ?_
  refine Awp.seq fun K3 h3 => ?_
  (refine Awp.region ?_; (repeat (first | refine sQ (hq := Quiet.call rfl hem rfl rfl rfl) (hk := ?_) | refine sQ (hq := Quiet.pickOr rfl rfl rfl rfl) (hk := ?_) | refine sQ (hq := Quiet.pickAnd rfl rfl rfl rfl) (hk := ?_) | refine sQ (hk := ?_) | refine sSkip (hk := ?_) | refine sG (hg := by first | rfl | exact gA_c rfl rfl) (hq := by (intro hg; (try simp only [Bool.and_eq_true, beq_iff_eq] at hg); (try simp only [hg, cond_true, Bool.true_and, beq_self_eq_true]); exact Quiet.call rfl hem rfl rfl rfl)) (hk := ?_) | refine sG (hk := ?_) | refine sOwn (hk := ?_))); refine aSeq_nil ?_)
  refine h3 _ ?_
  refine nT (hk := ?_)
  refine Awp.cond rfl (fun hb4 => ?_) (fun hb4 => ?_)
  · have e1 : bad1 x = true := hb4
    have e : oneB p f x = false := by unfold oneB; rw [e1]; rfl
    refine Awp.seq fun K5 h5 => ?_
    (refine Awp.region ?_; (repeat (first | refine sQ (hq := Quiet.pickOr rfl rfl rfl rfl) (hk := ?_) | refine sQ (hq := Quiet.pickAnd rfl rfl rfl rfl) (hk := ?_) | refine sQ (hk := ?_) | refine sSkip (hk := ?_) | refine sG (hk := ?_) | refine sOwn (hk := ?_))); refine aSeq_nil ?_)
    refine h5 _ ?_
    refine nT (hk := ?_)
    refine Awp.ret ?_
    rw [e]
    exact ⟨.inr rfl, Fin.cl rfl⟩
  · have e1 : bad1 x = false := hb4
    refine Awp.skip ?_
    refine h2 _ ?_
    refine nT (hk := ?_)
    refine Awp.seq fun K6 h6 => ?_
    refine Awp.seq fun K7 h7 => ?_
    (refine Awp.region ?_; (repeat (first | refine sQ (hq := Quiet.pickOr rfl rfl rfl rfl) (hk := ?_) | refine sQ (hq := Quiet.pickAnd rfl rfl rfl rfl) (hk := ?_) | refine sQ (hk := ?_) | refine sSkip (hk := ?_) | refine sG (hk := ?_) | refine sOwn (hk := ?_))); refine aSeq_nil ?_)
    refine h7 _ ?_
    refine nT (hk := ?_)
    refine Awp.block ?_
    refine Awp.loopF (fun k : Nat => ⟨[.any, .any, .any, .ptr 0 0, .ptr 1 0, .ptr 2 0, .any, .lit (.int .i64 (k : Int)), .any, .any, .any, .any, .any, .any, .any, .any, .any, .any, .any, .any, .any, .any, .any, .any, .any, .any, .any, .any, .any, .any, .any, .any, .any, .any, .any, .any, .any, .any, .any, .any, .any, .any, .any, .any, .any, .any, .any, .any, .any, .any, .any, .any, .any, .any, .any, .any, .any, .any, .any, .any, .any, .any, .any, .any, .any, .any, .any, .any, .any, .any, .any, .any, .any, .any, .any, .any, .any, .any, .any, .any, .any, .any, .any, .any, .any, .any, .any, .any, .any, .any, .any, .any, .any, .any, .any, .any, .any, .any, .any, .any, .any, .any, .any, .any, .any, .any, .any, .any, .any, .any, .any, .any, .any], [.box (encProg p), .box (encFunc f), .box (encIns x)]⟩) (fun k => k ≤ x.args.length ∧ (x.args.take k).any (fun r => decide (r < 0)) = false) (fun k => x.args.length - k) 0 ⟨Nat.zero_le _, by simp⟩ (le_T) ?_
    rintro k ⟨hk, hno⟩
    refine Awp.seq fun K9 h9 => ?_
    refine Awp.seq fun K10 h10 => ?_
    (refine Awp.region ?_; (repeat (first | refine sQ (hq := Quiet.pickOr rfl rfl rfl rfl) (hk := ?_) | refine sQ (hq := Quiet.pickAnd rfl rfl rfl rfl) (hk := ?_) | refine sQ (hk := ?_) | refine sSkip (hk := ?_) | refine sG (hk := ?_) | refine sOwn (hk := ?_))); refine aSeq_nil ?_)
    refine h10 _ ?_
    refine nT (hk := ?_)
    refine Awp.cond rfl (fun hb11 => ?_) (fun hb11 => ?_)
    · have hlt : k < x.args.length := by simpa using hb11
      obtain ⟨r, hr⟩ : ∃ r, x.args[k]? = some r := ⟨_, List.getElem?_eq_getElem hlt⟩
      refine Awp.skip ?_
      refine h9 _ ?_
      refine nT (hk := ?_)
      refine Awp.seq fun K12 h12 => ?_
      refine Awp.block ?_
      refine Awp.seq fun K13 h13 => ?_
      (refine Awp.region ?_; (repeat (first | refine sQ (hq := Quiet.pickOr rfl rfl rfl rfl) (hk := ?_) | refine sQ (hq := Quiet.pickAnd rfl rfl rfl rfl) (hk := ?_) | refine sQ (hk := ?_) | refine sSkip (hk := ?_) | refine sG (hk := ?_) | refine sOwn (hk := ?_))); refine aSeq_nil ?_)
      refine h13 _ ?_
      refine nT (hk := ?_)
      refine Awp.cond rfl (fun hb14 => ?_) (fun hb14 => ?_)
      · have e2 : x.args.any (fun r => decide (r < 0)) = true := List.any_eq_true.2 ⟨r, List.mem_of_getElem? hr, hb14⟩
        have e : oneB p f x = false := by unfold oneB; rw [e1, e2]; rfl
        refine Awp.seq fun K15 h15 => ?_
        (refine Awp.region ?_; (repeat (first | refine sQ (hq := Quiet.pickOr rfl rfl rfl rfl) (hk := ?_) | refine sQ (hq := Quiet.pickAnd rfl rfl rfl rfl) (hk := ?_) | refine sQ (hk := ?_) | refine sSkip (hk := ?_) | refine sG (hk := ?_) | refine sOwn (hk := ?_))); refine aSeq_nil ?_)
        refine h15 _ ?_
        refine nT (hk := ?_)
        refine Awp.ret ?_
        rw [e]
        exact ⟨.inr rfl, Fin.cl rfl⟩
      · refine Awp.skip ?_
        refine h12 _ ?_
        refine nT (hk := ?_)
        (refine Awp.region ?_; (repeat (first | refine sQ (hq := Quiet.pickOr rfl rfl rfl rfl) (hk := ?_) | refine sQ (hq := Quiet.pickAnd rfl rfl rfl rfl) (hk := ?_) | refine sQ (hk := ?_) | refine sSkip (hk := ?_) | refine sG (hk := ?_) | refine sOwn (hk := ?_))); refine aSeq_nil ?_)
        refine athen_n ⟨k + 1, ⟨by omega, any_takeG hr hno hb14⟩, by omega, ?_⟩
        exact le_T
    · have e2 : x.args.any (fun r => decide (r < 0)) = false := by
        have : k = x.args.length := by have : ¬ k < x.args.length := by simpa using hb11
                                       omega
        rw [this, List.take_length] at hno
        exact hno
      refine Awp.exit ?_
      refine h6 _ ?_
      refine nT (hk := ?_)
      refine Awp.seq fun K16 h16 => ?_
      refine Awp.seq fun K17 h17 => ?_
      (refine Awp.region ?_; (repeat (first | refine sQ (hq := Quiet.pickOr rfl rfl rfl rfl) (hk := ?_) | refine sQ (hq := Quiet.pickAnd rfl rfl rfl rfl) (hk := ?_) | refine sQ (hk := ?_) | refine sSkip (hk := ?_) | refine sG (hk := ?_) | refine sOwn (hk := ?_))); refine aSeq_nil ?_)
      refine h17 _ ?_
      refine nT (hk := ?_)
      refine Awp.cond rfl (fun hb18 => ?_) (fun hb18 => ?_)
      · have e3 : (x.op == 1 && decide (x.n > 13)) = true := hb18
        have e : oneB p f x = false := by unfold oneB; rw [e1, e2, e3]; rfl
        refine Awp.seq fun K19 h19 => ?_
        (refine Awp.region ?_; (repeat (first | refine sQ (hq := Quiet.pickOr rfl rfl rfl rfl) (hk := ?_) | refine sQ (hq := Quiet.pickAnd rfl rfl rfl rfl) (hk := ?_) | refine sQ (hk := ?_) | refine sSkip (hk := ?_) | refine sG (hk := ?_) | refine sOwn (hk := ?_))); refine aSeq_nil ?_)
        refine h19 _ ?_
        refine nT (hk := ?_)
        refine Awp.ret ?_
        rw [e]
        exact ⟨.inr rfl, Fin.cl rfl⟩
      · have e3 : (x.op == 1 && decide (x.n > 13)) = false := hb18
        refine Awp.skip ?_
        refine h16 _ ?_
        refine nT (hk := ?_)
        refine Awp.seq fun K20 h20 => ?_
        refine Awp.via ⟨[.any, .any, .any, .ptr 0 0, .ptr 1 0, .ptr 2 0, .any, .any, .any, .any, .any, .any, .any, .any, .any, .any, .any, .any, .any, .any, .any, .any, .any, .any, .any, .any, .any, .any, .any, .any, .any, .any, .any, .any, .any, .any, .any, .any, .any, .any, .any, .any, .any, .any, .any, .any, .any, .any, .any, .any, .any, .any, .any, .any, .any, .any, .any, .any, .any, .any, .any, .any, .any, .any, .any, .any, .any, .any, .any, .any, .any, .any, .any, .any, .any, .any, .any, .any, .any, .any, .any, .any, .any, .any, .any, .any, .any, .any, .any, .any, .any, .any, .any, .any, .any, .any, .any, .any, .any, .any, .any, .any, .any, .any, .any, .any, .any, .any, .any, .any, .any, .any, .any], [.box (encProg p), .box (encFunc f), .box (encIns x)]⟩ (le_T) ?_
        refine Awp.seqc ⟨[.any, .any, .any, .ptr 0 0, .ptr 1 0, .ptr 2 0, .any, .any, .any, .any, .any, .any, .any, .any, .any, .any, .any, .any, .any, .any, .any, .any, .any, .any, .any, .any, .any, .any, .any, .any, .any, .any, .any, .any, .any, .any, .any, .any, .any, .any, .any, .any, .any, .any, .any, .any, .any, .any, .any, .any, .any, .any, .any, .any, .any, .any, .any, .any, .any, .any, .any, .any, .any, .any, .any, .any, .any, .any, .any, .any, .any, .any, .any, .any, .any, .any, .any, .any, .any, .any, .lit (.bool (x.op == 5 && bad5 p x)), .any, .any, .any, .any, .any, .any, .any, .any, .any, .any, .any, .any, .any, .any, .any, .any, .any, .any, .any, .any, .any, .any, .any, .any, .any, .any, .any, .any, .any, .any, .any, .any], [.box (encProg p), .box (encFunc f), .box (encIns x)]⟩ ?_ ?_
        · rcases h5 : (x.op == 5) with _ | _
          · (refine drawD 29 (hh := ?_); (repeat (first | refine qQ (hq := Quiet.pickOr rfl rfl rfl rfl) (hk := ?_) | refine qQ (hq := Quiet.pickAnd rfl rfl rfl rfl) (hk := ?_) | refine qQ (hk := ?_) | refine qSkip (hk := ?_) | refine qG (hk := ?_))); refine aQ_nil ?_; (repeat (first | refine sQ (hq := Quiet.pickOr rfl rfl rfl rfl) (hk := ?_) | refine sQ (hq := Quiet.pickAnd rfl rfl rfl rfl) (hk := ?_) | refine sQ (hk := ?_) | refine sSkip (hk := ?_) | refine sG (hk := ?_) | refine sOwn (hk := ?_))); refine aSeq_nil ?_)
            refine athen_n ?_
            exact le_T
          · rcases h6' : decide (x.f < 0) with _ | _
            · rcases h7' : decide (x.f ≥ (p.funcs.length : Int)) with _ | _
              · have hx0 : 0 ≤ x.f := by simpa using h6'
                have hxl : x.f < p.funcs.length := by simpa using h7'
                obtain ⟨g, hg⟩ : ∃ g, p.funcs[x.f.toNat]? = some g := ⟨_, List.getElem?_eq_getElem (by omega)⟩
                have eb : bad5 p x = ((x.args.length : Int) != g.args) := by unfold bad5 argsN; rw [h6', h7', hg]; rfl
                rw [eb]
                (refine drawD 29 (hh := ?_); (repeat (first | refine qQ (hq := Quiet.pickOr rfl rfl rfl rfl) (hk := ?_) | refine qQ (hq := Quiet.pickAnd rfl rfl rfl rfl) (hk := ?_) | refine qQ (hk := ?_) | refine qSkip (hk := ?_) | refine qG (hk := ?_))); refine aQ_nil ?_; (repeat (first | refine sQ (hq := Quiet.pickOr rfl rfl rfl rfl) (hk := ?_) | refine sQ (hq := Quiet.pickAnd rfl rfl rfl rfl) (hk := ?_) | refine sQ (hk := ?_) | refine sSkip (hk := ?_) | refine sG (hk := ?_) | refine sOwn (hk := ?_))); refine aSeq_nil ?_)
                refine athen_n ?_
                exact le_T
              · have eb : bad5 p x = true := by unfold bad5; rw [h6', h7']; rfl
                rw [eb]
                (refine drawD 29 (hh := ?_); (repeat (first | refine qQ (hq := Quiet.pickOr rfl rfl rfl rfl) (hk := ?_) | refine qQ (hq := Quiet.pickAnd rfl rfl rfl rfl) (hk := ?_) | refine qQ (hk := ?_) | refine qSkip (hk := ?_) | refine qG (hk := ?_))); refine aQ_nil ?_; (repeat (first | refine sQ (hq := Quiet.pickOr rfl rfl rfl rfl) (hk := ?_) | refine sQ (hq := Quiet.pickAnd rfl rfl rfl rfl) (hk := ?_) | refine sQ (hk := ?_) | refine sSkip (hk := ?_) | refine sG (hk := ?_) | refine sOwn (hk := ?_))); refine aSeq_nil ?_)
                refine athen_n ?_
                exact le_T
            · have eb : bad5 p x = true := by unfold bad5; rw [h6']; rfl
              rw [eb]
              (refine drawD 29 (hh := ?_); (repeat (first | refine qQ (hq := Quiet.pickOr rfl rfl rfl rfl) (hk := ?_) | refine qQ (hq := Quiet.pickAnd rfl rfl rfl rfl) (hk := ?_) | refine qQ (hk := ?_) | refine qSkip (hk := ?_) | refine qG (hk := ?_))); refine aQ_nil ?_; (repeat (first | refine sQ (hq := Quiet.pickOr rfl rfl rfl rfl) (hk := ?_) | refine sQ (hq := Quiet.pickAnd rfl rfl rfl rfl) (hk := ?_) | refine sQ (hk := ?_) | refine sSkip (hk := ?_) | refine sG (hk := ?_) | refine sOwn (hk := ?_))); refine aSeq_nil ?_)
              refine athen_n ?_
              exact le_T
        · refine Awp.cond rfl (fun hb22 => ?_) (fun hb22 => ?_)
          · have e : oneB p f x = false := by unfold oneB; rw [e1, e2, e3, hb22]; rfl
            refine Awp.seq fun K23 h23 => ?_
            (refine Awp.region ?_; (repeat (first | refine sQ (hq := Quiet.pickOr rfl rfl rfl rfl) (hk := ?_) | refine sQ (hq := Quiet.pickAnd rfl rfl rfl rfl) (hk := ?_) | refine sQ (hk := ?_) | refine sSkip (hk := ?_) | refine sG (hk := ?_) | refine sOwn (hk := ?_))); refine aSeq_nil ?_)
            refine h23 _ ?_
            refine nT (hk := ?_)
            refine Awp.ret ?_
            rw [e]
            exact ⟨.inr rfl, Fin.cl rfl⟩
          · refine Awp.skip ?_
            refine h20 _ ?_
            refine nT (hk := ?_)
            refine Awp.seq fun K24 h24 => ?_
            refine Awp.seq fun K25 h25 => ?_
            (refine Awp.region ?_; (repeat (first | refine sQ (hq := Quiet.pickOr rfl rfl rfl rfl) (hk := ?_) | refine sQ (hq := Quiet.pickAnd rfl rfl rfl rfl) (hk := ?_) | refine sQ (hk := ?_) | refine sSkip (hk := ?_) | refine sG (hk := ?_) | refine sOwn (hk := ?_))); refine aSeq_nil ?_)
            refine h25 _ ?_
            refine nT (hk := ?_)
            refine Awp.cond rfl (fun hb26 => ?_) (fun hb26 => ?_)
            · have e5 : (x.op == 8 || x.op == 9) = true := hb26
              have e : oneB p f x = okL f x := by unfold oneB; rw [e1, e2, e3, hb22, e5]; rfl
              refine Awp.seq fun K27 h27 => ?_
              (refine Awp.region ?_; (repeat (first | refine sQ (hq := Quiet.pickOr rfl rfl rfl rfl) (hk := ?_) | refine sQ (hq := Quiet.pickAnd rfl rfl rfl rfl) (hk := ?_) | refine sQ (hk := ?_) | refine sSkip (hk := ?_) | refine sG (hk := ?_) | refine sOwn (hk := ?_))); refine aSeq_nil ?_)
              refine h27 _ ?_
              refine nT (hk := ?_)
              refine Awp.ret ?_
              rw [e]
              exact ⟨.inr rfl, Fin.cl rfl⟩
            · have e5 : (x.op == 8 || x.op == 9) = false := hb26
              have e : oneB p f x = true := by unfold oneB; rw [e1, e2, e3, hb22, e5]; rfl
              refine Awp.skip ?_
              refine h24 _ ?_
              refine nT (hk := ?_)
              refine Awp.seq fun K28 h28 => ?_
              (refine Awp.region ?_; (repeat (first | refine sQ (hq := Quiet.pickOr rfl rfl rfl rfl) (hk := ?_) | refine sQ (hq := Quiet.pickAnd rfl rfl rfl rfl) (hk := ?_) | refine sQ (hk := ?_) | refine sSkip (hk := ?_) | refine sG (hk := ?_) | refine sOwn (hk := ?_))); refine aSeq_nil ?_)
              refine h28 _ ?_
              refine nT (hk := ?_)
              refine Awp.ret ?_
              rw [e]
              exact ⟨.inr rfl, Fin.cl rfl⟩
def writesR (l : List Ins) (r : Int) : Bool := l.any fun x => writesB x && x.d == r
set_option maxRecDepth 100000 in
set_option maxHeartbeats 4000000 in
theorem writes14_fn (b : Block) (r : Int) (m : Nat) (ho : okBlock b) (hl : b.ins.length ≤ 2097152) (hm : m ≤ b.ins.length) : Fn Try.prog 87 [.agg (encBlock b), .lit (.int .i64 r), .lit (.int .i64 (m : Int))] (.lit (.bool (writesR (b.ins.take m) r))) := by
  refine Fn.of_awp Try.func87 rfl (by kernel_rfl) rfl Try.ntmps87 fun C hC => ?_
  simp only [List.length_cons, List.length_nil, Nat.reduceAdd, Nat.reduceSub, List.replicate_succ, List.replicate_zero, List.cons_append, List.nil_append]
  refine Awp.seq fun K1 h1 => ?_
  (refine Awp.region ?_; (repeat (first | refine sQ (hq := Quiet.pickOr rfl rfl rfl rfl) (hk := ?_) | refine sQ (hq := Quiet.pickAnd rfl rfl rfl rfl) (hk := ?_) | refine sQ (hk := ?_) | refine sSkip (hk := ?_) | refine sG (hk := ?_) | refine sOwn (hk := ?_))); refine aSeq_nil ?_)
  refine h1 _ ?_
  refine nT (hk := ?_)
  refine Awp.seq fun K2 h2 => ?_
  refine Awp.seq fun K3 h3 => ?_
  (refine Awp.region ?_; (repeat (first | refine sQ (hq := Quiet.pickOr rfl rfl rfl rfl) (hk := ?_) | refine sQ (hq := Quiet.pickAnd rfl rfl rfl rfl) (hk := ?_) | refine sQ (hk := ?_) | refine sSkip (hk := ?_) | refine sG (hk := ?_) | refine sOwn (hk := ?_))); refine aSeq_nil ?_)
  refine h3 _ ?_
  refine nT (hk := ?_)
  refine Awp.block ?_
  refine Awp.loopF (fun k : Nat => ⟨[.any, .lit (.int .i64 r), .lit (.int .i64 (m : Int)), .ptr 0 0, .any, .any, .any, .lit (.int .i64 (k : Int)), .any, .any, .any, .any, .any, .any, .any, .any, .any, .any, .any, .any, .any, .any, .any, .any, .any, .any, .any, .any, .any, .any], [.box (encBlock b)]⟩) (fun k => k ≤ m ∧ writesR (b.ins.take k) r = false) (fun k => m - k) 0 ⟨Nat.zero_le _, by simp [writesR]⟩ (le_T) ?_
  rintro k ⟨hk, hno⟩
  refine Awp.seq fun K5 h5 => ?_
  refine Awp.seq fun K6 h6 => ?_
  (refine Awp.region ?_; (repeat (first | refine sQ (hq := Quiet.pickOr rfl rfl rfl rfl) (hk := ?_) | refine sQ (hq := Quiet.pickAnd rfl rfl rfl rfl) (hk := ?_) | refine sQ (hk := ?_) | refine sSkip (hk := ?_) | refine sG (hk := ?_) | refine sOwn (hk := ?_))); refine aSeq_nil ?_)
  refine h6 _ ?_
  refine nT (hk := ?_)
  refine Awp.cond rfl (fun hb7 => ?_) (fun hb7 => ?_)
  · have hlt : k < m := by simpa using hb7
    obtain ⟨x, hx⟩ : ∃ x, b.ins[k]? = some x := ⟨_, List.getElem?_eq_getElem (by omega)⟩
    have hox := ho.ins x (List.mem_of_getElem? hx)
    refine Awp.skip ?_
    refine h5 _ ?_
    refine nT (hk := ?_)
    refine Awp.seq fun K8 h8 => ?_
    refine Awp.block ?_
    refine Awp.seq fun K9 h9 => ?_
    (refine Awp.region ?_; (repeat (first | refine sQ (hq := Quiet.call rfl (ref_writes_fn x hox) rfl rfl rfl) (hk := ?_) | refine sQ (hq := Quiet.pickOr rfl rfl rfl rfl) (hk := ?_) | refine sQ (hq := Quiet.pickAnd rfl rfl rfl rfl) (hk := ?_) | refine sQ (hk := ?_) | refine sSkip (hk := ?_) | refine sG (hg := by first | rfl | exact gA_c rfl rfl) (hq := by (intro hg; (try simp only [Bool.and_eq_true, beq_iff_eq] at hg); (try simp only [hg, cond_true, Bool.true_and, beq_self_eq_true]); exact Quiet.call rfl (ref_writes_fn x hox) rfl rfl rfl)) (hk := ?_) | refine sG (hk := ?_) | refine sOwn (hk := ?_))); refine aSeq_nil ?_)
    refine h9 _ ?_
    refine nT (hk := ?_)
    refine Awp.seq fun K10 h10 => ?_
    (refine Awp.region ?_; (repeat (first | refine sQ (hq := Quiet.pickOr rfl rfl rfl rfl) (hk := ?_) | refine sQ (hq := Quiet.pickAnd rfl rfl rfl rfl) (hk := ?_) | refine sQ (hk := ?_) | refine sSkip (hk := ?_) | refine sG (hk := ?_) | refine sOwn (hk := ?_))); refine aSeq_nil ?_)
    refine h10 _ ?_
    refine nT (hk := ?_)
    refine Awp.cond rfl (fun hb11 => ?_) (fun hb11 => ?_)
    · have e : writesR (b.ins.take m) r = true := by
        have hb : (writesB x && x.d == r) = true := by simpa using hb11
        refine List.any_eq_true.2 ⟨x, ?_, hb⟩
        exact List.mem_of_getElem? (i := k) (by rw [List.getElem?_take_of_lt hlt]; exact hx)
      refine Awp.seq fun K12 h12 => ?_
      (refine Awp.region ?_; (repeat (first | refine sQ (hq := Quiet.pickOr rfl rfl rfl rfl) (hk := ?_) | refine sQ (hq := Quiet.pickAnd rfl rfl rfl rfl) (hk := ?_) | refine sQ (hk := ?_) | refine sSkip (hk := ?_) | refine sG (hk := ?_) | refine sOwn (hk := ?_))); refine aSeq_nil ?_)
      refine h12 _ ?_
      refine nT (hk := ?_)
      refine Awp.ret ?_
      rw [e]
      exact ⟨.inr rfl, Fin.cl rfl⟩
    · have hp : (writesB x && x.d == r) = false := by
        simpa using hb11
      refine Awp.skip ?_
      refine h8 _ ?_
      refine nT (hk := ?_)
      (refine Awp.region ?_; (repeat (first | refine sQ (hq := Quiet.pickOr rfl rfl rfl rfl) (hk := ?_) | refine sQ (hq := Quiet.pickAnd rfl rfl rfl rfl) (hk := ?_) | refine sQ (hk := ?_) | refine sSkip (hk := ?_) | refine sG (hk := ?_) | refine sOwn (hk := ?_))); refine aSeq_nil ?_)
      refine athen_n ⟨k + 1, ⟨by omega, any_takeG hx hno hp⟩, by omega, ?_⟩
      exact le_T
  · have : k = m := by have : ¬ k < m := by simpa using hb7
                       omega
    subst this
    refine Awp.exit ?_
    refine h2 _ ?_
    refine nT (hk := ?_)
    refine Awp.seq fun K13 h13 => ?_
    (refine Awp.region ?_; (repeat (first | refine sQ (hq := Quiet.pickOr rfl rfl rfl rfl) (hk := ?_) | refine sQ (hq := Quiet.pickAnd rfl rfl rfl rfl) (hk := ?_) | refine sQ (hk := ?_) | refine sSkip (hk := ?_) | refine sG (hk := ?_) | refine sOwn (hk := ?_))); refine aSeq_nil ?_)
    refine h13 _ ?_
    refine nT (hk := ?_)
    refine Awp.ret ?_
    rw [hno]
    exact ⟨.inr rfl, Fin.cl rfl⟩
def nextO (x : Ins) : List Int := if x.op == 8 then [x.l1] else if x.op == 9 then [x.l1, x.l2] else []
set_option maxRecDepth 100000 in
set_option maxHeartbeats 4000000 in
theorem next14_fn (b : Block) (x : Ins) (hl : b.ins.length ≤ 2097152) (hx : b.ins[b.ins.length - 1]? = some x) (ho : okIns x) : Fn Try.prog 88 [.agg (encBlock b)] (.bs tInt (nextO x)) := by
  have h0 : 0 < b.ins.length := by
    have := (List.getElem?_eq_some_iff.1 hx).1
    omega
  have h1' : (0 : Int) ≤ (b.ins.length : Int) - 1 := by omega
  have hx' : b.ins[((b.ins.length : Int) - 1).toNat]? = some x := by rw [← hx]; congr 1; omega
  refine Fn.of_awp Try.func88 rfl (by kernel_rfl) rfl Try.ntmps88 fun C hC => ?_
  simp only [List.length_cons, List.length_nil, Nat.reduceAdd, Nat.reduceSub, List.replicate_succ, List.replicate_zero, List.cons_append, List.nil_append]
  refine Awp.seq fun K1 h1 => ?_
  (refine Awp.region ?_; (repeat (first | refine sQ (hq := Quiet.pickOr rfl rfl rfl rfl) (hk := ?_) | refine sQ (hq := Quiet.pickAnd rfl rfl rfl rfl) (hk := ?_) | refine sQ (hk := ?_) | refine sSkip (hk := ?_) | refine sG (hk := ?_) | refine sOwn (hk := ?_))); refine aSeq_nil ?_)
  refine h1 _ ?_
  refine nT (hk := ?_)
  refine Awp.seq fun K2 h2 => ?_
  (refine Awp.region ?_; (repeat (first | refine sQ (hq := Quiet.pickOr rfl rfl rfl rfl) (hk := ?_) | refine sQ (hq := Quiet.pickAnd rfl rfl rfl rfl) (hk := ?_) | refine sQ (hk := ?_) | refine sSkip (hk := ?_) | refine sG (hk := ?_) | refine sOwn (hk := ?_))); refine aSeq_nil ?_)
  refine h2 _ ?_
  refine nT (hk := ?_)
  refine Awp.seq fun K3 h3 => ?_
  refine Awp.seq fun K4 h4 => ?_
  (refine Awp.region ?_; (repeat (first | refine sQ (hq := Quiet.pickOr rfl rfl rfl rfl) (hk := ?_) | refine sQ (hq := Quiet.pickAnd rfl rfl rfl rfl) (hk := ?_) | refine sQ (hk := ?_) | refine sSkip (hk := ?_) | refine sG (hk := ?_) | refine sOwn (hk := ?_))); refine aSeq_nil ?_)
  refine h4 _ ?_
  refine nT (hk := ?_)
  refine Awp.cond rfl (fun hb5 => ?_) (fun hb5 => ?_)
  · have e : nextO x = [x.l1] := by unfold nextO; rw [if_pos hb5]
    refine Awp.seq fun K6 h6 => ?_
    (refine Awp.region ?_; (repeat (first | refine sQ (hq := Quiet.lt (xs := [.tmp 16]) (T := tInt) (ds := [x.l1]) rfl rfl rfl rfl (by decide) (.cons (Fit.int ho.l1) .nil)) (hk := ?_) | refine sQ (hq := Quiet.pickOr rfl rfl rfl rfl) (hk := ?_) | refine sQ (hq := Quiet.pickAnd rfl rfl rfl rfl) (hk := ?_) | refine sQ (hk := ?_) | refine sSkip (hk := ?_) | refine sG (hg := by first | rfl | exact gA_c rfl rfl) (hq := by (intro hg; (try simp only [Bool.and_eq_true, beq_iff_eq] at hg); (try simp only [hg, cond_true, Bool.true_and, beq_self_eq_true]); exact Quiet.lt (xs := [.tmp 16]) (T := tInt) (ds := [x.l1]) rfl rfl rfl rfl (by decide) (.cons (Fit.int ho.l1) .nil))) (hk := ?_) | refine sG (hk := ?_) | refine sOwn (hk := ?_))); refine aSeq_nil ?_)
    refine h6 _ ?_
    refine nT (hk := ?_)
    refine Awp.ret ?_
    rw [e]
    exact ⟨.inr rfl, Fin.cl rfl⟩
  · have hb5' : ¬ (x.op == 8) = true := by have : (x.op == 8) = false := hb5
                                           simp [this]
    refine Awp.skip ?_
    refine h3 _ ?_
    refine nT (hk := ?_)
    refine Awp.seq fun K7 h7 => ?_
    refine Awp.seq fun K8 h8 => ?_
    (refine Awp.region ?_; (repeat (first | refine sQ (hq := Quiet.pickOr rfl rfl rfl rfl) (hk := ?_) | refine sQ (hq := Quiet.pickAnd rfl rfl rfl rfl) (hk := ?_) | refine sQ (hk := ?_) | refine sSkip (hk := ?_) | refine sG (hk := ?_) | refine sOwn (hk := ?_))); refine aSeq_nil ?_)
    refine h8 _ ?_
    refine nT (hk := ?_)
    refine Awp.cond rfl (fun hb9 => ?_) (fun hb9 => ?_)
    · have e : nextO x = [x.l1, x.l2] := by unfold nextO; rw [if_neg hb5', if_pos hb9]
      refine Awp.seq fun K10 h10 => ?_
      (refine Awp.region ?_; (repeat (first | refine sQ (hq := Quiet.lt (xs := [.tmp 22, .tmp 24]) (T := tInt) (ds := [x.l1, x.l2]) rfl rfl rfl rfl (by decide) (.cons (Fit.int ho.l1) (.cons (Fit.int ho.l2) .nil))) (hk := ?_) | refine sQ (hq := Quiet.pickOr rfl rfl rfl rfl) (hk := ?_) | refine sQ (hq := Quiet.pickAnd rfl rfl rfl rfl) (hk := ?_) | refine sQ (hk := ?_) | refine sSkip (hk := ?_) | refine sG (hg := by first | rfl | exact gA_c rfl rfl) (hq := by (intro hg; (try simp only [Bool.and_eq_true, beq_iff_eq] at hg); (try simp only [hg, cond_true, Bool.true_and, beq_self_eq_true]); exact Quiet.lt (xs := [.tmp 22, .tmp 24]) (T := tInt) (ds := [x.l1, x.l2]) rfl rfl rfl rfl (by decide) (.cons (Fit.int ho.l1) (.cons (Fit.int ho.l2) .nil)))) (hk := ?_) | refine sG (hk := ?_) | refine sOwn (hk := ?_))); refine aSeq_nil ?_)
      refine h10 _ ?_
      refine nT (hk := ?_)
      refine Awp.ret ?_
      rw [e]
      exact ⟨.inr rfl, Fin.cl rfl⟩
    · have e : nextO x = [] := by unfold nextO; rw [if_neg hb5', if_neg (by have : (x.op == 9) = false := hb9
                                                                            simp [this])]
      refine Awp.skip ?_
      refine h7 _ ?_
      refine nT (hk := ?_)
      refine Awp.seq fun K11 h11 => ?_
      (refine Awp.region ?_; (repeat (first | refine sQ (hq := Quiet.pickOr rfl rfl rfl rfl) (hk := ?_) | refine sQ (hq := Quiet.pickAnd rfl rfl rfl rfl) (hk := ?_) | refine sQ (hk := ?_) | refine sSkip (hk := ?_) | refine sG (hk := ?_) | refine sOwn (hk := ?_))); refine aSeq_nil ?_)
      refine h11 _ ?_
      refine nT (hk := ?_)
      refine Awp.ret ?_
      rw [e]
      exact ⟨.inr rfl, Fin.nilRow⟩
end Mu
end
section
/-
  A call whose result is a fresh row, kept as one's own.
  Conditions: none; generic.
-/
namespace Mu
open Go Go.RowKit Go.Proofs

section
variable {P : Program} {C : Ctx} {t : List AV} {h : List ABlk} {o : Oper}
def FnOwn (P : Program) (f : FuncId) (args : List AV) (e : TypeId) {α : Type} (T : Ty α) (l : List α) : Prop :=
  Enters P f = true ∧ ∀ (w : World) (S : Nat → Prop) (vs : List Value), (∀ k, S k → k < w.heap.size) → AV.relL w S [] ψ0 args vs →
    Calls P f vs.toArray w fun r w' => ∃ v cells, r = .returned v ∧ Below w.heap.size w w' ∧ w'.ownsRow w.heap.size e T.size v l.length cells ∧ ∀ i d, l[i]? = some d → T.RS w' S ((cells.drop (i * T.size)).take T.size) d
theorem ftp_row {w : World} {e : TypeId} {α : Type} {T : Ty α} {l : List α} {ver base n sz : Nat} {cells : List Value} {v : Value} (hv : w.ownsRow base e sz v n cells) : ∀ g, ftp (some (.row ver e T l)) v g → base ≤ g := fun g hg => by
  obtain ⟨_, ⟨rfl, _⟩ | ⟨g', cap, cur, rfl, hb, _⟩⟩ := hv
  · simp [ftp, blkOf] at hg
  · simp [ftp, blkOf] at hg
    omega
theorem AOp.callOwn {f : FuncId} {args : Array Operand} {tys : Array TypeId} {xs : List AV} {K : St → Prop} {e : TypeId} {α : Type} {T : Ty α} {l : List α}
    (ho : o.op = .call { callee := .value (.func f), args := args, argTypes := tys }) (hF : FnOwn P f xs e T l) (h0 : 0 < T.size) (hx : args.toList.map (evA t) = xs) (hc : AV.clL xs = true)
    (hK : K ⟨putA t o.dst (.own h.length 0), h ++ [.row 0 e T l]⟩) : AOp P C o ⟨t, h⟩ K := by
  rintro Q' a w ⟨hd, S, ψ, H, hl⟩
  refine ⟨fun c e => (by rw [ho] at e; cases e), ?_⟩
  have h2 : AV.relL w S h ψ xs (args.toList.map a.eval) := by
    rw [← hx]
    exact relL_map fun x _ => ev_rel hl x
  unfold Oper.wp
  rw [run_call ho hF.1 a.eval w rfl]
  simp only [Oper.upon]
  rw [show (args.map a.eval) = (args.toList.map a.eval).toArray from (by rw [← Array.toList_map])]
  refine (hF.2 w S (args.toList.map a.eval) H.lt (AV.relL_cl _ _ hc h2)).mono ?_
  rintro r w' ⟨v, cells, rfl, hb, hown, hR⟩
  have X : Ext w S h ψ w' S (h ++ [.row 0 e T l]) (ψset ψ h.length v) := Ext.push _ _ fun k hk => hb.block k (H.lt k hk)
  have hB : BRel C.N w' S (h ++ [.row 0 e T l]) (ψset ψ h.length v) v (.row 0 e T l) :=
    ⟨cells, hown.mono (Nat.zero_le _), h0, hR, fun g hg => by
      have hlt := hown.lt g hg
      exact ⟨fun hN => by have := H.nlt _ hN; have := H.bel.size; omega, fun hS => by have := H.lt _ hS; omega⟩⟩
  refine ⟨_, hK, st_push (s := ⟨t, h⟩) hd hl (H.push hb hB (ftp_row hown)) X ?_⟩
  unfold AV.rel
  refine ⟨by simp, fun c' hc' => ?_⟩
  rw [List.getElem?_append_right (Nat.le_refl _)] at hc'
  simp [ABlk.ver] at hc'
  exact ⟨by omega, fun _ => ψset_self.symm⟩
end
theorem reads14_own (x : Ins) (ho : okIns x) (hl : x.args.length ≤ 2097152) : FnOwn Try.prog 62 [.agg (encIns x)] 3 tInt (readsC x) :=
  ⟨by kernel_rfl, fun w S vs hS hr => by
    have hr' := AV.relL_ext (Ext.grow [] ψ0 (fun _ _ => rfl) hS) _ _ hr
    obtain ⟨v, rfl, hv⟩ := arg1 hr'
    obtain ⟨cs, rfl, hc⟩ := rel_agg hv
    refine (ref_reads x w cs (put_ins ho hc) hl).mono ?_
    rintro e w' ⟨v, rfl, hO, hb⟩
    refine ⟨v, _, rfl, hb, hO, fun i d hd => ?_⟩
    show tInt.RS w' S ((((readsC x).map (Value.int .i64)).drop (i * 1)).take 1) d
    have hi : ((readsC x).map (Value.int .i64))[i]? = some (.int .i64 d) := by rw [List.getElem?_map, hd]; rfl
    rw [Nat.mul_one, List.take_one, List.head?_drop, hi]
    exact tInt_R.2 ⟨rfl, readsC_ok ho d (List.mem_of_getElem? hd)⟩⟩
end Mu
end
section
/-
  muntinref14: regs, walked.
  Conditions: data of at most 2^21 everywhere.
-/
namespace Mu
open Go Go.RowKit Go.Proofs

def regsX (x : Ins) : List Int := readsC x ++ if writesB x then [x.d] else []
def stepReg (n r : Int) : Int := if (if (4096 : Int) < r then 4096 else r) + 1 > n then (if (4096 : Int) < r then 4096 else r) + 1 else n
def insReg (n : Int) (x : Ins) : Int := (regsX x).foldl stepReg n
def blkReg (n : Int) (b : Block) : Int := b.ins.foldl insReg n
def regsI (f : Func) : Int := f.blocks.foldl blkReg 0
theorem regsX_ok {x : Ins} (h : okIns x) : okInts (regsX x) := fun r hr => by
  rcases List.mem_append.1 hr with hr | hr
  · exact readsC_ok h r hr
  · split at hr
    · simp only [List.mem_singleton] at hr
      subst hr
      exact h.d
    · cases hr
theorem readsC_le {x : Ins} (h : x.args.length ≤ 2097152) : (readsC x).length ≤ 2097154 := readsC_len h

set_option maxRecDepth 100000 in
set_option maxHeartbeats 4000000 in
theorem regs14_fn (f : Func) (ho : okFunc f) (hs : smallF f) : Fn Try.prog 84 [.agg (encFunc f)] (.lit (.int .i64 (regsI f))) := by
  have hbl := hs.blocks
  refine Fn.of_awp Try.func84 rfl (by kernel_rfl) rfl Try.ntmps84 fun C hC => ?_
  simp only [List.length_cons, List.length_nil, Nat.reduceAdd, Nat.reduceSub, List.replicate_succ, List.replicate_zero, List.cons_append, List.nil_append]
  refine Awp.seq fun K1 h1 => ?_
  (refine Awp.region ?_; (repeat (first | refine sQ (hq := Quiet.pickOr rfl rfl rfl rfl) (hk := ?_) | refine sQ (hq := Quiet.pickAnd rfl rfl rfl rfl) (hk := ?_) | refine sQ (hk := ?_) | refine sSkip (hk := ?_) | refine sG (hk := ?_) | refine sOwn (hk := ?_))); refine aSeq_nil ?_)
  refine h1 _ ?_
  refine nT (hk := ?_)
  refine Awp.seq fun K2 h2 => ?_
  (refine Awp.region ?_; (repeat (first | refine sQ (hq := Quiet.pickOr rfl rfl rfl rfl) (hk := ?_) | refine sQ (hq := Quiet.pickAnd rfl rfl rfl rfl) (hk := ?_) | refine sQ (hk := ?_) | refine sSkip (hk := ?_) | refine sG (hk := ?_) | refine sOwn (hk := ?_))); refine aSeq_nil ?_)
  refine h2 _ ?_
  refine nT (hk := ?_)
  refine Awp.seq fun K3 h3 => ?_
  refine Awp.seq fun K4 h4 => ?_
  (refine Awp.region ?_; (repeat (first | refine sQ (hq := Quiet.pickOr rfl rfl rfl rfl) (hk := ?_) | refine sQ (hq := Quiet.pickAnd rfl rfl rfl rfl) (hk := ?_) | refine sQ (hk := ?_) | refine sSkip (hk := ?_) | refine sG (hk := ?_) | refine sOwn (hk := ?_))); refine aSeq_nil ?_)
  refine h4 _ ?_
  refine nT (hk := ?_)
  refine Awp.block ?_
  refine Awp.loopF (fun i : Nat => ⟨[.any, .ptr 0 0, .any, .lit (.int .i64 ((f.blocks.take i).foldl blkReg 0)), .lit (.int .i64 (i : Int)), .any, .any, .any, .any, .any, .any, .any, .any, .any, .any, .any, .any, .any, .any, .any, .any, .any, .any, .any, .any, .any, .any, .any, .any, .any, .any, .any, .any, .any, .any, .any, .any, .any, .any, .any, .any, .any, .any, .any, .any, .any, .any, .any, .any, .any, .any, .any, .any, .any, .any, .any, .any, .any, .any, .any, .any, .any, .any, .any, .any], [.box (encFunc f)]⟩) (fun i => i ≤ f.blocks.length) (fun i => f.blocks.length - i) 0 (Nat.zero_le _) (le_T) ?_
  intro i hi
  dsimp only at hi ⊢
  refine Awp.seq fun K6 h6 => ?_
  refine Awp.seq fun K7 h7 => ?_
  (refine Awp.region ?_; (repeat (first | refine sQ (hq := Quiet.pickOr rfl rfl rfl rfl) (hk := ?_) | refine sQ (hq := Quiet.pickAnd rfl rfl rfl rfl) (hk := ?_) | refine sQ (hk := ?_) | refine sSkip (hk := ?_) | refine sG (hk := ?_) | refine sOwn (hk := ?_))); refine aSeq_nil ?_)
  refine h7 _ ?_
  refine nT (hk := ?_)
  refine Awp.cond rfl (fun hb8 => ?_) (fun hb8 => ?_)
  · have hlt : i < f.blocks.length := by simpa using hb8
    obtain ⟨bl, hblk⟩ : ∃ bl, f.blocks[i]? = some bl := ⟨_, List.getElem?_eq_getElem hlt⟩
    have hmem := List.mem_of_getElem? hblk
    have hob := ho.blocks bl hmem
    have hsb := hs.all bl hmem
    have hil := hsb.ins
    have hbe := fold_take_succ blkReg 0 hblk
    generalize hn0 : (f.blocks.take i).foldl blkReg 0 = n0 at hbe ⊢
    refine Awp.skip ?_
    refine h6 _ ?_
    refine nT (hk := ?_)
    refine Awp.seq fun K9 h9 => ?_
    refine Awp.block ?_
    refine Awp.seq fun K10 h10 => ?_
    (refine Awp.region ?_; (repeat (first | refine sQ (hq := Quiet.pickOr rfl rfl rfl rfl) (hk := ?_) | refine sQ (hq := Quiet.pickAnd rfl rfl rfl rfl) (hk := ?_) | refine sQ (hk := ?_) | refine sSkip (hk := ?_) | refine sG (hk := ?_) | refine sOwn (hk := ?_))); refine aSeq_nil ?_)
    refine h10 _ ?_
    refine nT (hk := ?_)
    refine Awp.block ?_
    refine Awp.loopF (fun k : Nat => ⟨[.any, .ptr 0 0, .any, .lit (.int .i64 ((bl.ins.take k).foldl insReg n0)), .lit (.int .i64 (i : Int)), .lit (.int .i64 (k : Int)), .any, .any, .any, .any, .any, .any, .any, .any, .any, .any, .any, .any, .any, .any, .any, .any, .any, .any, .any, .any, .any, .any, .any, .any, .any, .any, .any, .any, .any, .any, .any, .any, .any, .any, .any, .any, .any, .any, .any, .any, .any, .any, .any, .any, .any, .any, .any, .any, .any, .any, .any, .any, .any, .any, .any, .any, .any, .any, .any], [.box (encFunc f)]⟩) (fun k => k ≤ bl.ins.length) (fun k => bl.ins.length - k) 0 (Nat.zero_le _) (le_T) ?_
    intro k hk
    dsimp only at hk ⊢
    refine Awp.seq fun K12 h12 => ?_
    refine Awp.seq fun K13 h13 => ?_
    (refine Awp.region ?_; (repeat (first | refine sQ (hq := Quiet.pickOr rfl rfl rfl rfl) (hk := ?_) | refine sQ (hq := Quiet.pickAnd rfl rfl rfl rfl) (hk := ?_) | refine sQ (hk := ?_) | refine sSkip (hk := ?_) | refine sG (hk := ?_) | refine sOwn (hk := ?_))); refine aSeq_nil ?_)
    refine h13 _ ?_
    refine nT (hk := ?_)
    refine Awp.cond rfl (fun hb14 => ?_) (fun hb14 => ?_)
    · have hlt2 : k < bl.ins.length := by simpa using hb14
      obtain ⟨x, hx⟩ : ∃ x, bl.ins[k]? = some x := ⟨_, List.getElem?_eq_getElem hlt2⟩
      have hxm := List.mem_of_getElem? hx
      have hox := hob.ins x hxm
      have hxl : x.args.length ≤ 2097152 := by have := hsb.all x hxm; omega
      have hrl := readsC_le hxl
      have hbe2 := fold_take_succ insReg n0 hx
      generalize hn1 : (bl.ins.take k).foldl insReg n0 = n1 at hbe2 ⊢
      have hn1' : (readsC x).length + [x.d].length ≤ maxLen := by simp [maxLen]; omega
      have hn2' : ((readsC x).length + [x.d].length) * 8 ≤ 140737488355328 := by simp; omega
      refine Awp.skip ?_
      refine h12 _ ?_
      refine nT (hk := ?_)
      refine Awp.seq fun K15 h15 => ?_
      refine Awp.block ?_
      refine Awp.seq fun K16 h16 => ?_
      (refine Awp.region ?_; (repeat (first | refine sQ (hq := Quiet.pickOr rfl rfl rfl rfl) (hk := ?_) | refine sQ (hq := Quiet.pickAnd rfl rfl rfl rfl) (hk := ?_) | refine sQ (hk := ?_) | refine sSkip (hk := ?_) | refine sG (hk := ?_) | refine sOwn (hk := ?_))); refine aSeq_nil ?_)
      refine h16 _ ?_
      refine nT (hk := ?_)
      refine Awp.seq fun K17 h17 => ?_
      (refine Awp.region ?_; (repeat (first | refine sQ (hq := Quiet.pickOr rfl rfl rfl rfl) (hk := ?_) | refine sQ (hq := Quiet.pickAnd rfl rfl rfl rfl) (hk := ?_) | refine sQ (hk := ?_) | refine sSkip (hk := ?_) | refine sG (hk := ?_) | refine sOwn (hk := ?_))))
      (repeat (first | (refine aSeq_t rfl (AOp.callOwn rfl (reads14_own x hox hxl) (by decide) rfl rfl ?_); refine sNt (hk := ?_)) | refine sQ (hq := Quiet.pickOr rfl rfl rfl rfl) (hk := ?_) | refine sQ (hq := Quiet.pickAnd rfl rfl rfl rfl) (hk := ?_) | refine sQ (hk := ?_) | refine sSkip (hk := ?_) | refine sG (hk := ?_) | refine sOwn (hk := ?_)))
      refine aSeq_nil ?_
      refine h17 _ ?_
      refine nT (hk := ?_)
      refine Awp.seq fun K18 h18 => ?_
      (refine Awp.region ?_; (repeat (first | refine sQ (hq := Quiet.call rfl (ref_writes_fn x hox) rfl rfl rfl) (hk := ?_) | refine sQ (hq := Quiet.pickOr rfl rfl rfl rfl) (hk := ?_) | refine sQ (hq := Quiet.pickAnd rfl rfl rfl rfl) (hk := ?_) | refine sQ (hk := ?_) | refine sSkip (hk := ?_) | refine sG (hg := by first | rfl | exact gA_c rfl rfl) (hq := by (intro hg; (try simp only [Bool.and_eq_true, beq_iff_eq] at hg); (try simp only [hg, cond_true, Bool.true_and, beq_self_eq_true]); exact Quiet.call rfl (ref_writes_fn x hox) rfl rfl rfl)) (hk := ?_) | refine sG (hk := ?_) | refine sOwn (hk := ?_))); refine aSeq_nil ?_)
      refine h18 _ ?_
      refine nT (hk := ?_)
      refine Awp.seqc ⟨[.any, .ptr 0 0, .any, .lit (.int .i64 n1), .lit (.int .i64 (i : Int)), .lit (.int .i64 (k : Int)), .any, .bs tInt (regsX x), .any, .any, .any, .any, .any, .any, .any, .any, .any, .any, .any, .any, .any, .any, .any, .any, .any, .any, .any, .any, .any, .any, .any, .any, .any, .any, .any, .any, .any, .any, .any, .any, .any, .any, .any, .any, .any, .any, .any, .any, .any, .any, .any, .any, .any, .any, .any, .any, .any, .any, .any, .any, .any, .any, .any, .any, .any], [.box (encFunc f)]⟩ ?_ ?_
      · refine Awp.seq fun K20 h20 => ?_
        (refine Awp.region ?_; (repeat (first | refine sQ (hq := Quiet.pickOr rfl rfl rfl rfl) (hk := ?_) | refine sQ (hq := Quiet.pickAnd rfl rfl rfl rfl) (hk := ?_) | refine sQ (hk := ?_) | refine sSkip (hk := ?_) | refine sG (hk := ?_) | refine sOwn (hk := ?_))); refine aSeq_nil ?_)
        refine h20 _ ?_
        refine nT (hk := ?_)
        refine Awp.cond rfl (fun hb21 => ?_) (fun hb21 => ?_)
        · have hw : writesB x = true := hb21
          have hfit : Fit [.box (encFunc f), .box (encIns x), .row 0 3 tInt (readsC x)] tInt (.lit (.int .i64 (if writesB x then x.d else 0))) x.d := by rw [hw]; exact Fit.int hox.d
          have hrx : regsX x = readsC x ++ [x.d] := by unfold regsX; rw [hw]; rfl
          rw [hrx]
          (refine Awp.region ?_; (repeat (first | refine sQ (hq := Quiet.pickOr rfl rfl rfl rfl) (hk := ?_) | refine sQ (hq := Quiet.pickAnd rfl rfl rfl rfl) (hk := ?_) | refine sQ (hk := ?_) | refine sSkip (hk := ?_) | refine sG (hk := ?_) | refine sOwn (hk := ?_))))
          (repeat (first | refine sQ (hq := Quiet.lt1 (T := tInt) (d := x.d) rfl rfl rfl (by rfl) (by decide) hfit) (hk := ?_) | (refine aSeq_t rfl (AOp.app rfl rfl rfl rfl rfl hn1' hn2' ?_); refine sNt (hk := ?_)) | refine sQ (hq := Quiet.pickOr rfl rfl rfl rfl) (hk := ?_) | refine sQ (hq := Quiet.pickAnd rfl rfl rfl rfl) (hk := ?_) | refine sQ (hk := ?_) | refine sSkip (hk := ?_) | refine sG (hg := by first | rfl | exact gA_c rfl rfl) (hq := by (intro hg; (try simp only [Bool.and_eq_true, beq_iff_eq] at hg); (try simp only [hg, cond_true, Bool.true_and, beq_self_eq_true]); exact Quiet.lt1 (T := tInt) (d := x.d) rfl rfl rfl (by rfl) (by decide) hfit)) (hk := ?_) | refine sG (hk := ?_) | refine sOwn (hk := ?_)))
          refine aSeq_nil ?_
          refine athen_n ?_
          refine (St.le_fz hC 2 rfl).trans ?_
          exact le_C (.cons (Cut.nil _))
        · have hw : writesB x = false := hb21
          have hrx : regsX x = readsC x := by unfold regsX; rw [hw]; simp
          rw [hrx]
          refine Awp.skip ?_
          refine athen_n ?_
          refine (St.le_fz hC 2 rfl).trans ?_
          exact le_C (.cons (Cut.nil _))
      · refine Awp.seq fun K22 h22 => ?_
        (refine Awp.region ?_; (repeat (first | refine sQ (hq := Quiet.pickOr rfl rfl rfl rfl) (hk := ?_) | refine sQ (hq := Quiet.pickAnd rfl rfl rfl rfl) (hk := ?_) | refine sQ (hk := ?_) | refine sSkip (hk := ?_) | refine sG (hk := ?_) | refine sOwn (hk := ?_))); refine aSeq_nil ?_)
        refine h22 _ ?_
        refine nT (hk := ?_)
        refine Awp.block ?_
        have hok := regsX_ok hox
        have hrl2 : (regsX x).length ≤ 2097155 := by
          unfold regsX
          rw [List.length_append]
          have : (if writesB x = true then [x.d] else []).length ≤ 1 := by split <;> simp
          omega
        refine Awp.loopF (fun j : Nat => ⟨[.any, .ptr 0 0, .any, .lit (.int .i64 (((regsX x).take j).foldl stepReg n1)), .lit (.int .i64 (i : Int)), .lit (.int .i64 (k : Int)), .any, .bs tInt (regsX x), .any, .any, .lit (.int .i64 (j : Int)), .any, .any, .any, .any, .any, .any, .any, .any, .any, .any, .any, .any, .any, .any, .any, .any, .any, .any, .any, .any, .any, .any, .any, .any, .any, .any, .any, .any, .any, .any, .any, .any, .any, .any, .any, .any, .any, .any, .any, .any, .any, .any, .any, .any, .any, .any, .any, .any, .any, .any, .any, .any, .any, .any], [.box (encFunc f)]⟩) (fun j => j ≤ (regsX x).length) (fun j => (regsX x).length - j) 0 (Nat.zero_le _) (le_T) ?_
        intro j hj
        dsimp only at hj ⊢
        refine Awp.seq fun K24 h24 => ?_
        refine Awp.seq fun K25 h25 => ?_
        (refine Awp.region ?_; (repeat (first | refine sQ (hq := Quiet.pickOr rfl rfl rfl rfl) (hk := ?_) | refine sQ (hq := Quiet.pickAnd rfl rfl rfl rfl) (hk := ?_) | refine sQ (hk := ?_) | refine sSkip (hk := ?_) | refine sG (hk := ?_) | refine sOwn (hk := ?_))); refine aSeq_nil ?_)
        refine h25 _ ?_
        refine nT (hk := ?_)
        refine Awp.cond rfl (fun hb26 => ?_) (fun hb26 => ?_)
        · have hlt3 : j < (regsX x).length := by simpa using hb26
          obtain ⟨r, hr⟩ : ∃ r, (regsX x)[j]? = some r := ⟨_, List.getElem?_eq_getElem hlt3⟩
          have hbe3 := fold_take_succ stepReg n1 hr
          generalize hn3 : ((regsX x).take j).foldl stepReg n1 = n2 at hbe3 ⊢
          have hrw := wfI_i64 (hok r (List.mem_of_getElem? hr))
          have hmn : -9223372036854775808 ≤ (if (4096 : Int) < r then 4096 else r) ∧ (if (4096 : Int) < r then 4096 else r) ≤ 4096 := by split <;> omega
          refine Awp.skip ?_
          refine h24 _ ?_
          refine nT (hk := ?_)
          refine Awp.seq fun K27 h27 => ?_
          refine Awp.block ?_
          (refine Awp.region ?_; (repeat (first | refine sQ (hq := Quiet.add64 rfl rfl rfl ⟨by have := hmn.1; omega, by have := hmn.2; omega⟩) (hk := ?_) | refine sQ (hq := Quiet.pickOr rfl rfl rfl rfl) (hk := ?_) | refine sQ (hq := Quiet.pickAnd rfl rfl rfl rfl) (hk := ?_) | refine sQ (hk := ?_) | refine sSkip (hk := ?_) | refine sG (hg := by first | rfl | exact gA_c rfl rfl) (hq := by (intro hg; (try simp only [Bool.and_eq_true, beq_iff_eq] at hg); (try simp only [hg, cond_true, Bool.true_and, beq_self_eq_true]); exact Quiet.add64 rfl rfl rfl ⟨by have := hmn.1; omega, by have := hmn.2; omega⟩)) (hk := ?_) | refine sG (hk := ?_) | refine sOwn (hk := ?_))); refine aSeq_nil ?_)
          refine h27 _ ?_
          refine nT (hk := ?_)
          (refine Awp.region ?_; (repeat (first | refine sQ (hq := Quiet.pickOr rfl rfl rfl rfl) (hk := ?_) | refine sQ (hq := Quiet.pickAnd rfl rfl rfl rfl) (hk := ?_) | refine sQ (hk := ?_) | refine sSkip (hk := ?_) | refine sG (hk := ?_) | refine sOwn (hk := ?_))); refine aSeq_nil ?_)
          refine athen_n ⟨j + 1, by omega, by omega, ?_⟩
          rw [hbe3]
          exact le_T
        · have : j = (regsX x).length := by have : ¬ j < (regsX x).length := by simpa using hb26
                                            omega
          subst this
          rw [List.take_length]
          refine Awp.exit ?_
          refine h15 _ ?_
          refine nT (hk := ?_)
          (refine Awp.region ?_; (repeat (first | refine sQ (hq := Quiet.pickOr rfl rfl rfl rfl) (hk := ?_) | refine sQ (hq := Quiet.pickAnd rfl rfl rfl rfl) (hk := ?_) | refine sQ (hk := ?_) | refine sSkip (hk := ?_) | refine sG (hk := ?_) | refine sOwn (hk := ?_))); refine aSeq_nil ?_)
          refine athen_n ⟨k + 1, by omega, by omega, ?_⟩
          rw [hbe2]
          exact le_T
    · have : k = bl.ins.length := by have : ¬ k < bl.ins.length := by simpa using hb14
                                     omega
      subst this
      rw [List.take_length]
      refine Awp.exit ?_
      refine h9 _ ?_
      refine nT (hk := ?_)
      (refine Awp.region ?_; (repeat (first | refine sQ (hq := Quiet.pickOr rfl rfl rfl rfl) (hk := ?_) | refine sQ (hq := Quiet.pickAnd rfl rfl rfl rfl) (hk := ?_) | refine sQ (hk := ?_) | refine sSkip (hk := ?_) | refine sG (hk := ?_) | refine sOwn (hk := ?_))); refine aSeq_nil ?_)
      refine athen_n ⟨i + 1, by omega, by omega, ?_⟩
      rw [hbe]
      exact le_T
  · have : i = f.blocks.length := by have : ¬ i < f.blocks.length := by simpa using hb8
                                     omega
    subst this
    refine Awp.exit ?_
    refine h3 _ ?_
    refine nT (hk := ?_)
    refine Awp.seq fun K34 h34 => ?_
    (refine Awp.region ?_; (repeat (first | refine sQ (hq := Quiet.pickOr rfl rfl rfl rfl) (hk := ?_) | refine sQ (hq := Quiet.pickAnd rfl rfl rfl rfl) (hk := ?_) | refine sQ (hk := ?_) | refine sSkip (hk := ?_) | refine sG (hk := ?_) | refine sOwn (hk := ?_))); refine aSeq_nil ?_)
    refine h34 _ ?_
    refine nT (hk := ?_)
    refine Awp.ret ?_
    rw [List.take_length]
    exact ⟨.inr rfl, Fin.cl rfl⟩
end Mu
end
section
/-
  Texts: length, a byte, the rest of one, whether two are the same.
  Conditions: none; generic.
-/
namespace Mu
open Go Go.RowKit Go.Proofs

class StrT (P : Program) (ty : TypeId) : Prop where
  eq : P.underlying ty = some .string
section
variable {P : Program} {C : Ctx} {o : Oper} {t : List AV} {h : List ABlk}
theorem Quiet.lnS {ty : TypeId} {x : Operand} {s : ByteArray} [StrT P ty] (ho : o.op = .call { callee := .builtin .len, args := #[x], argTypes := #[ty] }) (hx : evA t x = .lit (.string s)) : Quiet P C t h o (.lit (.int .i64 (s.size : Int))) :=
  Quiet.of_run fun S ψ w ρ H hρ => by
    have h1 := hρ x (by simp [ho, Op.operands, Call.operands])
    rw [hx] at h1
    unfold AV.rel at h1
    refine ⟨_, by simp [execOp, ho, resolve, invoke, builtin, h1, run_len_string w ty _ s (StrT.eq (P := P) (ty := ty)), goInt]; rfl, ?_⟩
    unfold AV.rel
    rfl
theorem Quiet.ixS {ty : TypeId} {x y : Operand} {s : ByteArray} {k : Nat} {ik : IntKind} {c : UInt8} [StrT P ty] (ho : o.op = .index ty x y) (hx : evA t x = .lit (.string s)) (hy : evA t y = .lit (.int ik (k : Int))) (hk : s.data.toList[k]? = some c) : Quiet P C t h o (.lit (.int .u8 (c.toNat : Int))) :=
  Quiet.of_run fun S ψ w ρ H hρ => by
    have h1 := hρ x (by simp [ho, Op.operands])
    have h2 := hρ y (by simp [ho, Op.operands])
    rw [hx] at h1
    rw [hy] at h2
    unfold AV.rel at h1 h2
    obtain ⟨hlt, hc⟩ := List.getElem?_eq_some_iff.1 hk
    have hlt' : k < s.size := hlt
    have hr := run_index_string w ty s ik (k : Int) (StrT.eq (P := P) (ty := ty))
    rw [dif_pos ⟨by omega, by omega⟩] at hr
    have e : (s[(k : Int).toNat]'(by simpa using hlt')) = c := by
      rw [← hc]
      rfl
    rw [e] at hr
    exact ⟨_, by simp [execOp, ho, h1, h2, hr]; rfl, by unfold AV.rel; rfl⟩
theorem Quiet.cutS {ty : TypeId} {x y : Operand} {s : ByteArray} {k : Nat} {ik : IntKind} [StrT P ty] (ho : o.op = .slice ty x (some y) none none) (hx : evA t x = .lit (.string s)) (hy : evA t y = .lit (.int ik (k : Int))) (hk : k ≤ s.size) : Quiet P C t h o (.lit (.string (s.extract k s.size))) :=
  Quiet.of_run fun S ψ w ρ H hρ => by
    have h1 := hρ x (by simp [ho, Op.operands])
    have h2 := hρ y (by simp [ho, Op.operands])
    rw [hx] at h1
    rw [hy] at h2
    unfold AV.rel at h1 h2
    have hr := run_slice_string_from_if (P := P) w ty s ik (k : Int) (StrT.eq (P := P) (ty := ty))
    rw [if_pos ⟨by omega, by omega⟩, show ((k : Int).toNat) = k from rfl] at hr
    exact ⟨_, by simp [execOp, ho, h1, h2, run_sliceAt_string (P := P) w ty _ _ _ _ (StrT.eq (P := P) (ty := ty)), hr]; rfl, by unfold AV.rel; rfl⟩
theorem Quiet.eqS {xt yt : TypeId} {x y : Operand} {a b : ByteArray} (ho : o.op = .binOp .eql xt x y yt) (hx : evA t x = .lit (.string a)) (hy : evA t y = .lit (.string b)) : Quiet P C t h o (.lit (.bool (a == b))) :=
  Quiet.of_run fun S ψ w ρ H hρ => by
    have h1 := hρ x (by simp [ho, Op.operands])
    have h2 := hρ y (by simp [ho, Op.operands])
    rw [hx] at h1
    rw [hy] at h2
    unfold AV.rel at h1 h2
    rw [beq_toListBytes]
    exact ⟨_, by simp [execOp, ho, h1, h2, binOp_string_eql]; rfl, by unfold AV.rel; rfl⟩
end
end Mu
end
section
/-
  muntinref12: letter, digit, digits, Name, walked.
  Conditions: none.
-/
namespace Mu
open Go Go.RowKit Go.Proofs

instance : StrT Try.prog 9 := ⟨by kernel_rfl⟩
def letterI (n : Int) : Bool := ((decide (n ≥ 65) && decide (n ≤ 90)) || (decide (n ≥ 97) && decide (n ≤ 122))) || n == 95
def digitI (n : Int) : Bool := decide (n ≥ 48) && decide (n ≤ 57)
def digitsL (l : List UInt8) : Bool := (l.all fun c => digitI (c.toNat : Int)) && decide (0 < l.length)
def digitsB (s : ByteArray) : Bool := digitsL s.data.toList
def restB (c : UInt8) : Bool := !(letterI (c.toNat : Int)) && !(digitI (c.toNat : Int))
def nameL (l : List UInt8) : Bool :=
  match l with
  | [] => false
  | c :: l => decide (l.length < 64) && (letterI (c.toNat : Int) && (!(l.any restB) && !((c.toNat : Int) == 118 && digitsL l)))
def nameB (s : ByteArray) : Bool := nameL s.data.toList

set_option maxRecDepth 100000 in
set_option maxHeartbeats 1000000 in
theorem letter12_fn (n : Int) : Fn Try.prog 110 [.lit (.int .u8 n)] (.lit (.bool (letterI n))) := by
  refine Fn.of_awp Try.func110 rfl (by kernel_rfl) rfl Try.ntmps110 fun C hC => ?_
  simp only [List.length_cons, List.length_nil, Nat.reduceAdd, Nat.reduceSub, List.replicate_succ, List.replicate_zero, List.cons_append, List.nil_append]
  refine Awp.seq fun K1 h1 => ?_
  (refine Awp.region ?_; (repeat (first | refine sQ (hq := Quiet.pickOr rfl rfl rfl rfl) (hk := ?_) | refine sQ (hq := Quiet.pickAnd rfl rfl rfl rfl) (hk := ?_) | refine sQ (hk := ?_) | refine sSkip (hk := ?_) | refine sG (hk := ?_) | refine sOwn (hk := ?_))); refine aSeq_nil ?_)
  refine h1 _ ?_
  refine nT (hk := ?_)
  refine Awp.seq fun K2 h2 => ?_
  (refine Awp.region ?_; (repeat (first | refine sQ (hq := Quiet.pickOr rfl rfl rfl rfl) (hk := ?_) | refine sQ (hq := Quiet.pickAnd rfl rfl rfl rfl) (hk := ?_) | refine sQ (hk := ?_) | refine sSkip (hk := ?_) | refine sG (hk := ?_) | refine sOwn (hk := ?_))); refine aSeq_nil ?_)
  refine h2 _ ?_
  refine nT (hk := ?_)
  refine Awp.ret ?_
  exact ⟨.inr rfl, Fin.cl rfl⟩
set_option maxRecDepth 100000 in
set_option maxHeartbeats 1000000 in
theorem digit12_fn (n : Int) : Fn Try.prog 111 [.lit (.int .u8 n)] (.lit (.bool (digitI n))) := by
  refine Fn.of_awp Try.func111 rfl (by kernel_rfl) rfl Try.ntmps111 fun C hC => ?_
  simp only [List.length_cons, List.length_nil, Nat.reduceAdd, Nat.reduceSub, List.replicate_succ, List.replicate_zero, List.cons_append, List.nil_append]
  refine Awp.seq fun K1 h1 => ?_
  (refine Awp.region ?_; (repeat (first | refine sQ (hq := Quiet.pickOr rfl rfl rfl rfl) (hk := ?_) | refine sQ (hq := Quiet.pickAnd rfl rfl rfl rfl) (hk := ?_) | refine sQ (hk := ?_) | refine sSkip (hk := ?_) | refine sG (hk := ?_) | refine sOwn (hk := ?_))); refine aSeq_nil ?_)
  refine h1 _ ?_
  refine nT (hk := ?_)
  refine Awp.seq fun K2 h2 => ?_
  (refine Awp.region ?_; (repeat (first | refine sQ (hq := Quiet.pickOr rfl rfl rfl rfl) (hk := ?_) | refine sQ (hq := Quiet.pickAnd rfl rfl rfl rfl) (hk := ?_) | refine sQ (hk := ?_) | refine sSkip (hk := ?_) | refine sG (hk := ?_) | refine sOwn (hk := ?_))); refine aSeq_nil ?_)
  refine h2 _ ?_
  refine nT (hk := ?_)
  refine Awp.ret ?_
  exact ⟨.inr rfl, Fin.cl rfl⟩
set_option maxRecDepth 100000 in
set_option maxHeartbeats 1000000 in
theorem digits12_fn (s : ByteArray) (hs : s.size ≤ 9223372036854775806) : Fn Try.prog 112 [.lit (.string s)] (.lit (.bool (digitsB s))) := by
  obtain ⟨l, hl⟩ : ∃ l, s.data.toList = l := ⟨_, rfl⟩
  have hsz : s.size = l.length := by rw [← hl]; rfl
  refine Fn.of_awp Try.func112 rfl (by kernel_rfl) rfl Try.ntmps112 fun C hC => ?_
  simp only [List.length_cons, List.length_nil, Nat.reduceAdd, Nat.reduceSub, List.replicate_succ, List.replicate_zero, List.cons_append, List.nil_append]
  refine Awp.seq fun K1 h1 => ?_
  (refine Awp.region ?_; (repeat (first | refine sQ (hq := Quiet.pickOr rfl rfl rfl rfl) (hk := ?_) | refine sQ (hq := Quiet.pickAnd rfl rfl rfl rfl) (hk := ?_) | refine sQ (hk := ?_) | refine sSkip (hk := ?_) | refine sG (hk := ?_) | refine sOwn (hk := ?_))); refine aSeq_nil ?_)
  refine h1 _ ?_
  refine nT (hk := ?_)
  refine Awp.seq fun K2 h2 => ?_
  refine Awp.seq fun K3 h3 => ?_
  (refine Awp.region ?_; (repeat (first | refine sQ (hq := Quiet.pickOr rfl rfl rfl rfl) (hk := ?_) | refine sQ (hq := Quiet.pickAnd rfl rfl rfl rfl) (hk := ?_) | refine sQ (hk := ?_) | refine sSkip (hk := ?_) | refine sG (hk := ?_) | refine sOwn (hk := ?_))); refine aSeq_nil ?_)
  refine h3 _ ?_
  refine nT (hk := ?_)
  refine Awp.block ?_
  refine Awp.loopF (fun k : Nat => ⟨[.lit (.string s), .any, .any, .lit (.int .i64 (k : Int)), .any, .any, .any, .any, .any, .any, .any, .any, .any, .any, .any, .any, .any, .any], []⟩) (fun k => k ≤ l.length ∧ (l.take k).any (fun c => !(digitI (c.toNat : Int))) = false) (fun k => l.length - k) 0 ⟨Nat.zero_le _, by simp⟩ (le_T) ?_
  rintro k ⟨hk, hno⟩
  refine Awp.seq fun K5 h5 => ?_
  refine Awp.seq fun K6 h6 => ?_
  (refine Awp.region ?_; (repeat (first | refine sQ (hq := Quiet.lnS rfl rfl) (hk := ?_) | refine sQ (hq := Quiet.pickOr rfl rfl rfl rfl) (hk := ?_) | refine sQ (hq := Quiet.pickAnd rfl rfl rfl rfl) (hk := ?_) | refine sQ (hk := ?_) | refine sSkip (hk := ?_) | refine sG (hg := by first | rfl | exact gA_c rfl rfl) (hq := by (intro hg; (try simp only [Bool.and_eq_true, beq_iff_eq] at hg); (try simp only [hg, cond_true, Bool.true_and, beq_self_eq_true]); exact Quiet.lnS rfl rfl)) (hk := ?_) | refine sG (hk := ?_) | refine sOwn (hk := ?_))); refine aSeq_nil ?_)
  refine h6 _ ?_
  refine nT (hk := ?_)
  refine Awp.cond rfl (fun hb7 => ?_) (fun hb7 => ?_)
  · have hlt : k < l.length := by have : k < s.size := by simpa using hb7
                                  omega
    obtain ⟨c, hc⟩ : ∃ c, l[k]? = some c := ⟨_, List.getElem?_eq_getElem hlt⟩
    have hc' : s.data.toList[k]? = some c := by rw [hl]; exact hc
    refine Awp.skip ?_
    refine h5 _ ?_
    refine nT (hk := ?_)
    refine Awp.seq fun K8 h8 => ?_
    refine Awp.block ?_
    refine Awp.seq fun K9 h9 => ?_
    (refine Awp.region ?_; (repeat (first | refine sQ (hq := Quiet.ixS rfl rfl rfl hc') (hk := ?_) | refine sQ (hq := Quiet.call rfl (digit12_fn _) rfl rfl rfl) (hk := ?_) | refine sQ (hq := Quiet.pickOr rfl rfl rfl rfl) (hk := ?_) | refine sQ (hq := Quiet.pickAnd rfl rfl rfl rfl) (hk := ?_) | refine sQ (hk := ?_) | refine sSkip (hk := ?_) | refine sG (hg := by first | rfl | exact gA_c rfl rfl) (hq := by (intro hg; (try simp only [Bool.and_eq_true, beq_iff_eq] at hg); (try simp only [hg, cond_true, Bool.true_and, beq_self_eq_true]); exact Quiet.ixS rfl rfl rfl hc')) (hk := ?_) | refine sG (hg := by first | rfl | exact gA_c rfl rfl) (hq := by (intro hg; (try simp only [Bool.and_eq_true, beq_iff_eq] at hg); (try simp only [hg, cond_true, Bool.true_and, beq_self_eq_true]); exact Quiet.call rfl (digit12_fn _) rfl rfl rfl)) (hk := ?_) | refine sG (hk := ?_) | refine sOwn (hk := ?_))); refine aSeq_nil ?_)
    refine h9 _ ?_
    refine nT (hk := ?_)
    refine Awp.cond rfl (fun hb10 => ?_) (fun hb10 => ?_)
    · have e : digitsB s = false := by
        unfold digitsB digitsL
        rw [hl]
        have : (l.all fun c => digitI (c.toNat : Int)) = false := by
          rw [Bool.eq_false_iff]
          intro hall
          have := List.all_eq_true.1 hall c (List.mem_of_getElem? hc)
          rw [this] at hb10
          cases hb10
        rw [this]
        rfl
      refine Awp.seq fun K11 h11 => ?_
      (refine Awp.region ?_; (repeat (first | refine sQ (hq := Quiet.pickOr rfl rfl rfl rfl) (hk := ?_) | refine sQ (hq := Quiet.pickAnd rfl rfl rfl rfl) (hk := ?_) | refine sQ (hk := ?_) | refine sSkip (hk := ?_) | refine sG (hk := ?_) | refine sOwn (hk := ?_))); refine aSeq_nil ?_)
      refine h11 _ ?_
      refine nT (hk := ?_)
      refine Awp.ret ?_
      rw [e]
      exact ⟨.inr rfl, Fin.cl rfl⟩
    · refine Awp.skip ?_
      refine h8 _ ?_
      refine nT (hk := ?_)
      (refine Awp.region ?_; (repeat (first | refine sQ (hq := Quiet.pickOr rfl rfl rfl rfl) (hk := ?_) | refine sQ (hq := Quiet.pickAnd rfl rfl rfl rfl) (hk := ?_) | refine sQ (hk := ?_) | refine sSkip (hk := ?_) | refine sG (hk := ?_) | refine sOwn (hk := ?_))); refine aSeq_nil ?_)
      refine athen_n ⟨k + 1, ⟨by omega, any_takeG hc hno hb10⟩, by omega, ?_⟩
      exact le_T
  · have hnl : ¬ k < l.length := by have : ¬ k < s.size := by simpa using hb7
                                    omega
    have hno' := any_all hno hnl
    have e : digitsB s = decide ((s.size : Int) > 0) := by
      unfold digitsB digitsL
      rw [hl, hsz]
      have : (l.all fun c => digitI (c.toNat : Int)) = true := by
        rw [List.all_eq_true]
        intro c hc
        have := List.any_eq_false.1 hno' c hc
        simpa using this
      rw [this]
      simp
    refine Awp.exit ?_
    refine h2 _ ?_
    refine nT (hk := ?_)
    refine Awp.seq fun K12 h12 => ?_
    (refine Awp.region ?_; (repeat (first | refine sQ (hq := Quiet.lnS rfl rfl) (hk := ?_) | refine sQ (hq := Quiet.pickOr rfl rfl rfl rfl) (hk := ?_) | refine sQ (hq := Quiet.pickAnd rfl rfl rfl rfl) (hk := ?_) | refine sQ (hk := ?_) | refine sSkip (hk := ?_) | refine sG (hg := by first | rfl | exact gA_c rfl rfl) (hq := by (intro hg; (try simp only [Bool.and_eq_true, beq_iff_eq] at hg); (try simp only [hg, cond_true, Bool.true_and, beq_self_eq_true]); exact Quiet.lnS rfl rfl)) (hk := ?_) | refine sG (hk := ?_) | refine sOwn (hk := ?_))); refine aSeq_nil ?_)
    refine h12 _ ?_
    refine nT (hk := ?_)
    refine Awp.ret ?_
    rw [e]
    exact ⟨.inr rfl, Fin.cl rfl⟩
set_option maxRecDepth 100000 in
set_option maxHeartbeats 2000000 in
theorem name12_fn (s : ByteArray) (hs : s.size ≤ maxLen) : Fn Try.prog 83 [.lit (.string s)] (.lit (.bool (nameB s))) := by
  obtain ⟨l, hl⟩ : ∃ l, s.data.toList = l := ⟨_, rfl⟩
  have hsz : s.size = l.length := by rw [← hl]; rfl
  have hm := hs
  unfold maxLen at hm
  refine Fn.of_awp Try.func83 rfl (by kernel_rfl) rfl Try.ntmps83 fun C hC => ?_
  simp only [List.length_cons, List.length_nil, Nat.reduceAdd, Nat.reduceSub, List.replicate_succ, List.replicate_zero, List.cons_append, List.nil_append]
  refine Awp.seq fun K1 h1 => ?_
  (refine Awp.region ?_; (repeat (first | refine sQ (hq := Quiet.pickOr rfl rfl rfl rfl) (hk := ?_) | refine sQ (hq := Quiet.pickAnd rfl rfl rfl rfl) (hk := ?_) | refine sQ (hk := ?_) | refine sSkip (hk := ?_) | refine sG (hk := ?_) | refine sOwn (hk := ?_))); refine aSeq_nil ?_)
  refine h1 _ ?_
  refine nT (hk := ?_)
  refine Awp.seq fun K2 h2 => ?_
  refine Awp.seq fun K3 h3 => ?_
  rcases l with _ | ⟨c, l⟩
  · have hz : ((s.size : Int) == 0) = true := by rw [hsz]; rfl
    have e : nameB s = false := by unfold nameB; rw [hl]; rfl
    (refine Awp.region ?_; (repeat (first | refine sQ (hq := Quiet.lnS rfl rfl) (hk := ?_) | refine sQ (hq := Quiet.pickOr rfl rfl rfl rfl) (hk := ?_) | refine sQ (hq := Quiet.pickAnd rfl rfl rfl rfl) (hk := ?_) | refine sQ (hk := ?_) | refine sSkip (hk := ?_) | refine sG (hg := by first | rfl | exact gA_c rfl rfl) (hq := by (intro hg; (try simp only [Bool.and_eq_true, beq_iff_eq] at hg); (try simp only [hg, cond_true, Bool.true_and, beq_self_eq_true]); exact Quiet.lnS rfl rfl)) (hk := ?_) | refine sG (hk := ?_) | refine sOwn (hk := ?_))); refine aSeq_nil ?_)
    refine h3 _ ?_
    refine nT (hk := ?_)
    refine Awp.cond rfl (fun hb4 => ?_) (fun hb4 => by cases hb4)
    refine Awp.seq fun K5 h5 => ?_
    (refine Awp.region ?_; (repeat (first | refine sQ (hq := Quiet.pickOr rfl rfl rfl rfl) (hk := ?_) | refine sQ (hq := Quiet.pickAnd rfl rfl rfl rfl) (hk := ?_) | refine sQ (hk := ?_) | refine sSkip (hk := ?_) | refine sG (hk := ?_) | refine sOwn (hk := ?_))); refine aSeq_nil ?_)
    refine h5 _ ?_
    refine nT (hk := ?_)
    refine Awp.ret ?_
    rw [e]
    exact ⟨.inr rfl, Fin.cl rfl⟩
  · have hz : ((s.size : Int) == 0) = false := by rw [hsz]; simp; omega
    have hc0 : s.data.toList[0]? = some c := by rw [hl]; rfl
    (refine Awp.region ?_; (repeat (first | refine sQ (hq := Quiet.lnS rfl rfl) (hk := ?_) | refine sQ (hq := Quiet.ixS (k := 0) rfl rfl rfl hc0) (hk := ?_) | refine sQ (hq := Quiet.call rfl (letter12_fn _) rfl rfl rfl) (hk := ?_) | refine sQ (hq := Quiet.pickOr rfl rfl rfl rfl) (hk := ?_) | refine sQ (hq := Quiet.pickAnd rfl rfl rfl rfl) (hk := ?_) | refine sQ (hk := ?_) | refine sSkip (hk := ?_) | refine sG (hg := by first | rfl | exact gA_c rfl rfl) (hq := by (intro hg; (try simp only [Bool.and_eq_true, beq_iff_eq] at hg); (try simp only [hg, cond_true, Bool.true_and, beq_self_eq_true]); exact Quiet.lnS rfl rfl)) (hk := ?_) | refine sG (hg := by first | rfl | exact gA_c rfl rfl) (hq := by (intro hg; (try simp only [Bool.and_eq_true, beq_iff_eq] at hg); (try simp only [hg, cond_true, Bool.true_and, beq_self_eq_true]); exact Quiet.ixS (k := 0) rfl rfl rfl hc0)) (hk := ?_) | refine sG (hg := by first | rfl | exact gA_c rfl rfl) (hq := by (intro hg; (try simp only [Bool.and_eq_true, beq_iff_eq] at hg); (try simp only [hg, cond_true, Bool.true_and, beq_self_eq_true]); exact Quiet.call rfl (letter12_fn _) rfl rfl rfl)) (hk := ?_) | refine sG (hk := ?_) | refine sOwn (hk := ?_))); refine aSeq_nil ?_)
    refine h3 _ ?_
    refine nT (hk := ?_)
    refine Awp.cond rfl (fun hb4 => ?_) (fun hb4 => ?_)
    · have hb : (decide ((s.size : Int) > 64) || !(letterI (c.toNat : Int))) = true := hb4
      have e : nameB s = false := by
        unfold nameB
        rw [hl]
        unfold nameL
        simp only [Bool.or_eq_true, decide_eq_true_eq, Bool.not_eq_true'] at hb
        rcases hb with hb | hb
        · have : decide (l.length < 64) = false := by
            rw [hsz] at hb
            simp only [List.length_cons] at hb
            simp
            omega
          simp [this]
        · simp [hb]
      refine Awp.seq fun K5 h5 => ?_
      (refine Awp.region ?_; (repeat (first | refine sQ (hq := Quiet.pickOr rfl rfl rfl rfl) (hk := ?_) | refine sQ (hq := Quiet.pickAnd rfl rfl rfl rfl) (hk := ?_) | refine sQ (hk := ?_) | refine sSkip (hk := ?_) | refine sG (hk := ?_) | refine sOwn (hk := ?_))); refine aSeq_nil ?_)
      refine h5 _ ?_
      refine nT (hk := ?_)
      refine Awp.ret ?_
      rw [e]
      exact ⟨.inr rfl, Fin.cl rfl⟩
    · have hb : (decide ((s.size : Int) > 64) || !(letterI (c.toNat : Int))) = false := hb4
      have hb5 : l.length < 64 ∧ letterI (c.toNat : Int) = true := by
        simp only [Bool.or_eq_false_iff, decide_eq_false_iff_not, Bool.not_eq_false'] at hb
        refine ⟨?_, hb.2⟩
        have h1 := hb.1
        rw [hsz] at h1
        simp only [List.length_cons] at h1
        omega
      have hd1 : decide (l.length < 64) = true := decide_eq_true hb5.1
      refine Awp.skip ?_
      refine h2 _ ?_
      refine nT (hk := ?_)
      refine Awp.seq fun K6 h6 => ?_
      refine Awp.seq fun K7 h7 => ?_
      (refine Awp.region ?_; (repeat (first | refine sQ (hq := Quiet.pickOr rfl rfl rfl rfl) (hk := ?_) | refine sQ (hq := Quiet.pickAnd rfl rfl rfl rfl) (hk := ?_) | refine sQ (hk := ?_) | refine sSkip (hk := ?_) | refine sG (hk := ?_) | refine sOwn (hk := ?_))); refine aSeq_nil ?_)
      refine h7 _ ?_
      refine nT (hk := ?_)
      refine Awp.block ?_
      refine Awp.loopF (fun k : Nat => ⟨[.lit (.string s), .any, .any, .lit (.int .i64 ((k + 1 : Nat) : Int)), .any, .any, .any, .any, .any, .any, .any, .any, .any, .any, .any, .any, .any, .any, .any, .any, .any, .any, .any, .any, .any, .any, .any, .any, .any, .any, .any, .any, .any, .any, .any, .any, .any, .any, .any, .any, .any, .any, .any, .any, .any], []⟩) (fun k => k ≤ l.length ∧ (l.take k).any restB = false) (fun k => l.length - k) 0 ⟨Nat.zero_le _, by simp⟩ (le_T) ?_
      rintro k ⟨hk, hno⟩
      refine Awp.seq fun K9 h9 => ?_
      refine Awp.seq fun K10 h10 => ?_
      (refine Awp.region ?_; (repeat (first | refine sQ (hq := Quiet.lnS rfl rfl) (hk := ?_) | refine sQ (hq := Quiet.pickOr rfl rfl rfl rfl) (hk := ?_) | refine sQ (hq := Quiet.pickAnd rfl rfl rfl rfl) (hk := ?_) | refine sQ (hk := ?_) | refine sSkip (hk := ?_) | refine sG (hg := by first | rfl | exact gA_c rfl rfl) (hq := by (intro hg; (try simp only [Bool.and_eq_true, beq_iff_eq] at hg); (try simp only [hg, cond_true, Bool.true_and, beq_self_eq_true]); exact Quiet.lnS rfl rfl)) (hk := ?_) | refine sG (hk := ?_) | refine sOwn (hk := ?_))); refine aSeq_nil ?_)
      refine h10 _ ?_
      refine nT (hk := ?_)
      refine Awp.cond rfl (fun hb11 => ?_) (fun hb11 => ?_)
      · have hlt : k < l.length := by
          have : (((k + 1 : Nat) : Int)) < (s.size : Int) := by simpa using hb11
          rw [hsz] at this
          simp only [List.length_cons] at this
          omega
        obtain ⟨d, hd⟩ : ∃ d, l[k]? = some d := ⟨_, List.getElem?_eq_getElem hlt⟩
        have hd' : s.data.toList[k + 1]? = some d := by rw [hl]; exact hd
        refine Awp.skip ?_
        refine h9 _ ?_
        refine nT (hk := ?_)
        refine Awp.seq fun K12 h12 => ?_
        refine Awp.block ?_
        refine Awp.seq fun K13 h13 => ?_
        (refine Awp.region ?_; (repeat (first | refine sQ (hq := Quiet.ixS rfl rfl rfl hd') (hk := ?_) | refine sQ (hq := Quiet.call rfl (letter12_fn _) rfl rfl rfl) (hk := ?_) | refine sQ (hq := Quiet.call rfl (digit12_fn _) rfl rfl rfl) (hk := ?_) | refine sQ (hq := Quiet.pickOr rfl rfl rfl rfl) (hk := ?_) | refine sQ (hq := Quiet.pickAnd rfl rfl rfl rfl) (hk := ?_) | refine sQ (hk := ?_) | refine sSkip (hk := ?_) | refine sG (hg := by first | rfl | exact gA_c rfl rfl) (hq := by (intro hg; (try simp only [Bool.and_eq_true, beq_iff_eq] at hg); (try simp only [hg, cond_true, Bool.true_and, beq_self_eq_true]); exact Quiet.ixS rfl rfl rfl hd')) (hk := ?_) | refine sG (hg := by first | rfl | exact gA_c rfl rfl) (hq := by (intro hg; (try simp only [Bool.and_eq_true, beq_iff_eq] at hg); (try simp only [hg, cond_true, Bool.true_and, beq_self_eq_true]); exact Quiet.call rfl (letter12_fn _) rfl rfl rfl)) (hk := ?_) | refine sG (hg := by first | rfl | exact gA_c rfl rfl) (hq := by (intro hg; (try simp only [Bool.and_eq_true, beq_iff_eq] at hg); (try simp only [hg, cond_true, Bool.true_and, beq_self_eq_true]); exact Quiet.call rfl (digit12_fn _) rfl rfl rfl)) (hk := ?_) | refine sG (hk := ?_) | refine sOwn (hk := ?_))); refine aSeq_nil ?_)
        refine h13 _ ?_
        refine nT (hk := ?_)
        refine Awp.cond rfl (fun hb14 => ?_) (fun hb14 => ?_)
        · have hp : restB d = true := hb14
          have e : nameB s = false := by
            unfold nameB
            rw [hl]
            unfold nameL
            have : l.any restB = true := List.any_eq_true.2 ⟨d, List.mem_of_getElem? hd, hp⟩
            simp [this]
          refine Awp.seq fun K15 h15 => ?_
          (refine Awp.region ?_; (repeat (first | refine sQ (hq := Quiet.pickOr rfl rfl rfl rfl) (hk := ?_) | refine sQ (hq := Quiet.pickAnd rfl rfl rfl rfl) (hk := ?_) | refine sQ (hk := ?_) | refine sSkip (hk := ?_) | refine sG (hk := ?_) | refine sOwn (hk := ?_))); refine aSeq_nil ?_)
          refine h15 _ ?_
          refine nT (hk := ?_)
          refine Awp.ret ?_
          rw [e]
          exact ⟨.inr rfl, Fin.cl rfl⟩
        · have hp : restB d = false := hb14
          refine Awp.skip ?_
          refine h12 _ ?_
          refine nT (hk := ?_)
          (refine Awp.region ?_; (repeat (first | refine sQ (hq := Quiet.add64 rfl rfl rfl (by constructor <;> omega)) (hk := ?_) | refine sQ (hq := Quiet.pickOr rfl rfl rfl rfl) (hk := ?_) | refine sQ (hq := Quiet.pickAnd rfl rfl rfl rfl) (hk := ?_) | refine sQ (hk := ?_) | refine sSkip (hk := ?_) | refine sG (hg := by first | rfl | exact gA_c rfl rfl) (hq := by (intro hg; (try simp only [Bool.and_eq_true, beq_iff_eq] at hg); (try simp only [hg, cond_true, Bool.true_and, beq_self_eq_true]); exact Quiet.add64 rfl rfl rfl (by constructor <;> omega))) (hk := ?_) | refine sG (hk := ?_) | refine sOwn (hk := ?_))); refine aSeq_nil ?_)
          refine athen_n ⟨k + 1, ⟨by omega, any_takeG hd hno hp⟩, by omega, ?_⟩
          exact le_T
      · have hnl : ¬ k < l.length := by
          have : ¬ (((k + 1 : Nat) : Int)) < (s.size : Int) := by simpa using hb11
          rw [hsz] at this
          simp only [List.length_cons] at this
          omega
        have hno' := any_all hno hnl
        have hx1 : digitsB (s.extract 1 s.size) = digitsL l := by
          unfold digitsB
          have : (s.extract 1 s.size).data.toList = l := by
            have : (s.extract 1 s.size).data = s.data.extract 1 s.size := by simp
            rw [this, Array.toList_extract, hl]
            simp [hsz]
          rw [this]
        have hxs : (s.extract 1 s.size).size ≤ 9223372036854775806 := by
          rw [ByteArray.size_extract]
          omega
        have hdg := digits12_fn (s.extract 1 s.size) hxs
        rw [hx1] at hdg
        have e : nameB s = !((c.toNat : Int) == 118 && digitsL l) := by
          unfold nameB
          rw [hl]
          unfold nameL
          simp [hd1, hb5.2, hno']
        refine Awp.exit ?_
        refine h6 _ ?_
        refine nT (hk := ?_)
        refine Awp.seq fun K16 h16 => ?_
        (refine Awp.region ?_; (repeat (first | refine sQ (hq := Quiet.ixS (k := 0) rfl rfl rfl hc0) (hk := ?_) | refine sQ (hq := Quiet.cutS (k := 1) rfl rfl rfl (by rw [hsz]; simp)) (hk := ?_) | refine sQ (hq := Quiet.call rfl hdg rfl rfl rfl) (hk := ?_) | refine sQ (hq := Quiet.pickOr rfl rfl rfl rfl) (hk := ?_) | refine sQ (hq := Quiet.pickAnd rfl rfl rfl rfl) (hk := ?_) | refine sQ (hk := ?_) | refine sSkip (hk := ?_) | refine sG (hg := by first | rfl | exact gA_c rfl rfl) (hq := by (intro hg; (try simp only [Bool.and_eq_true, beq_iff_eq] at hg); (try simp only [hg, cond_true, Bool.true_and, beq_self_eq_true]); exact Quiet.ixS (k := 0) rfl rfl rfl hc0)) (hk := ?_) | refine sG (hg := by first | rfl | exact gA_c rfl rfl) (hq := by (intro hg; (try simp only [Bool.and_eq_true, beq_iff_eq] at hg); (try simp only [hg, cond_true, Bool.true_and, beq_self_eq_true]); exact Quiet.cutS (k := 1) rfl rfl rfl (by rw [hsz]; simp))) (hk := ?_) | refine sG (hg := by first | rfl | exact gA_c rfl rfl) (hq := by (intro hg; (try simp only [Bool.and_eq_true, beq_iff_eq] at hg); (try simp only [hg, cond_true, Bool.true_and, beq_self_eq_true]); exact Quiet.call rfl hdg rfl rfl rfl)) (hk := ?_) | refine sG (hk := ?_) | refine sOwn (hk := ?_))); refine aSeq_nil ?_)
        refine h16 _ ?_
        refine nT (hk := ?_)
        refine Awp.ret ?_
        rw [e]
        exact ⟨.inr rfl, Fin.cl rfl⟩
end Mu
end
section
/-
  muntinlaw17: example, head, walked, by the contracts of package live.
  Conditions: none.
-/
namespace Mu
open Go Go.RowKit Go.Proofs

def noName : ByteArray := ⟨#[]⟩
def exI0 : Ins := ⟨0, 0, 0, 0, 3, 0, [], 0, 0⟩
def exI1 : Ins := ⟨8, 0, 0, 0, 0, 0, [], 1, 0⟩
def exI2 : Ins := ⟨1, 1, 0, 0, 0, 0, [], 0, 0⟩
def exI3 : Ins := ⟨9, 0, 1, 0, 0, 0, [], 1, 2⟩
def exI4 : Ins := ⟨10, 0, 0, 0, 0, 0, [], 0, 0⟩
def exB0 : Block := ⟨noName, [exI0, exI1]⟩
def exB1 : Block := ⟨noName, [exI2, exI3]⟩
def exB2 : Block := ⟨noName, [exI4]⟩
def exF : Func := ⟨noName, 0, 2, [exB0, exB1, exB2]⟩
theorem okI_dec (x : Ins) (h : ((Lit.int .u8 x.op).wf && (Lit.int .i64 x.d).wf && (Lit.int .i64 x.a).wf && (Lit.int .i64 x.b).wf && (Lit.int .u32 x.n).wf && (Lit.int .i64 x.f).wf && (Lit.int .i64 x.l1).wf && (Lit.int .i64 x.l2).wf && x.args.isEmpty) = true) : okIns x := by
  simp only [Bool.and_eq_true] at h
  obtain ⟨⟨⟨⟨⟨⟨⟨⟨h1, h2⟩, h3⟩, h4⟩, h5⟩, h6⟩, h7⟩, h8⟩, h9⟩ := h
  exact ⟨h1, h2, h3, h4, h5, h6, h7, h8, fun y hy => by rw [List.isEmpty_iff.1 h9] at hy; cases hy⟩
theorem ok0 : okIns exI0 := okI_dec _ (by decide)
theorem ok1 : okIns exI1 := okI_dec _ (by decide)
theorem ok2 : okIns exI2 := okI_dec _ (by decide)
theorem ok3 : okIns exI3 := okI_dec _ (by decide)
theorem ok4 : okIns exI4 := okI_dec _ (by decide)
theorem noName_ok : noName.size ≤ maxLen := by decide
theorem okB0 : okBlock exB0 := ⟨noName_ok, fun x hx => by
  simp only [exB0, List.mem_cons, List.not_mem_nil, or_false] at hx
  rcases hx with rfl | rfl
  · exact ok0
  · exact ok1⟩
theorem okB1 : okBlock exB1 := ⟨noName_ok, fun x hx => by
  simp only [exB1, List.mem_cons, List.not_mem_nil, or_false] at hx
  rcases hx with rfl | rfl
  · exact ok2
  · exact ok3⟩
theorem okB2 : okBlock exB2 := ⟨noName_ok, fun x hx => by
  simp only [exB2, List.mem_cons, List.not_mem_nil, or_false] at hx
  subst hx
  exact ok4⟩
theorem okF : okFunc exF := ⟨noName_ok, (by decide : (Lit.int .i64 (0 : Int)).wf = true), (by decide : (Lit.int .i64 (2 : Int)).wf = true), fun x hx => by
  simp only [exF, List.mem_cons, List.not_mem_nil, or_false] at hx
  rcases hx with rfl | rfl | rfl
  · exact okB0
  · exact okB1
  · exact okB2⟩
theorem smF : smallF exF := ⟨by decide, fun x hx => by
  simp only [exF, List.mem_cons, List.not_mem_nil, or_false] at hx
  rcases hx with rfl | rfl | rfl
  · exact ⟨by decide, fun y hy => by simp only [exB0, List.mem_cons, List.not_mem_nil, or_false] at hy; rcases hy with rfl | rfl <;> decide⟩
  · exact ⟨by decide, fun y hy => by simp only [exB1, List.mem_cons, List.not_mem_nil, or_false] at hy; rcases hy with rfl | rfl <;> decide⟩
  · exact ⟨by decide, fun y hy => by simp only [exB2, List.mem_cons, List.not_mem_nil, or_false] at hy; subst hy; decide⟩⟩

section
variable {P : Program} {C : Ctx} {t : List AV} {h : List ABlk} {o : Oper}
theorem Quiet.bld {ty : TypeId} {parts : Array (Nat × Operand)} {zs : List Value} {pl : List (Nat × Nat)} {rs : List AV} [ZC P ty zs] (ho : o.op = .build ty parts) (hpl : places? P ty = some pl)
    (hr : putCells pl (zs.map .lit) (parts.toList.map fun p => (p.1, evA t p.2)) = some rs) (h1 : (parts.toList.all fun p => litBs (evA t p.2)) = true) : Quiet P C t h o (.agg rs) :=
  Quiet.build ho ZC.eq hpl hr fun p hp => One.litBs (List.all_eq_true.1 h1 p hp)
theorem Fit.agg {α : Type} {T : Ty α} {enc : α → List AV} {x : α} (hp : ∀ w S cs ψ, AV.relL w S h ψ (enc x) cs → T.RS w S cs x) : Fit h T (.agg (enc x)) x := fun C S ψ w v H hv => by
  unfold AV.rel at hv
  obtain ⟨cs, rfl, hl⟩ := hv
  exact hp w S cs ψ hl
end
def encIns0 (x : Ins) : List AV := [.lit (.int .u8 x.op), .lit (.int .i64 x.d), .lit (.int .i64 x.a), .lit (.int .i64 x.b), .lit (.int .u32 x.n), .lit (.int .i64 x.f), .lit (.slice none 0 0), .lit (.int .i64 x.l1), .lit (.int .i64 x.l2)]
theorem put_ins0 {w : World} {S : Nat → Prop} {cs : List Value} {h : List ABlk} {ψ : Nat → Value} {x : Ins} (ho : okIns x) (ha : x.args = []) (H : AV.relL w S h ψ (encIns0 x) cs) : tIns.RS w S cs x := by
  refine put_ins (h := h) (ψ := ψ) ho ?_
  simp only [encIns0, encIns, AV.relL, AV.rel] at H ⊢
  obtain ⟨_, _, rfl, rfl, _, _, rfl, rfl, _, _, rfl, rfl, _, _, rfl, rfl, _, _, rfl, rfl, _, _, rfl, rfl, _, _, rfl, rfl, _, _, rfl, rfl, _, _, rfl, rfl, rfl⟩ := H
  rw [ha]
  exact ⟨_, _, rfl, rfl, _, _, rfl, rfl, _, _, rfl, rfl, _, _, rfl, rfl, _, _, rfl, rfl, _, _, rfl, rfl, _, _, rfl, tInt.slice_nilS _ _, _, _, rfl, rfl, _, _, rfl, rfl, rfl⟩
theorem plIns : places? Try.prog 39 = some [(0, 1), (1, 1), (2, 1), (3, 1), (4, 1), (5, 1), (6, 1), (7, 1), (8, 1)] := by kernel_rfl
theorem plBlock : places? Try.prog 42 = some [(0, 1), (1, 1)] := by kernel_rfl
theorem plFunc : places? Try.prog 31 = some [(0, 1), (1, 1), (2, 1), (3, 1)] := by kernel_rfl

set_option maxRecDepth 100000 in
set_option maxHeartbeats 4000000 in
theorem example17_fn : Fn Try.prog 49 [] (.agg (encFunc exF)) := by
  refine Fn.of_awpC Try.func49 rfl (by kernel_rfl) rfl (show aggT Try.prog 31 = some (true, 4) by kernel_rfl) Try.ntmps49 fun C hC => ?_
  simp only [List.length_nil, Nat.sub_zero, List.replicate_succ, List.replicate_zero, List.nil_append]
  refine Awp.seq fun K1 h1 => ?_
  (refine Awp.region ?_; (repeat (first | refine sQ (hk := ?_) | refine sSkip (hk := ?_) | refine sOwn (hk := ?_))); refine aSeq_nil ?_)
  refine h1 _ ?_
  refine nT (hk := ?_)
  refine Awp.seq fun K2 h2 => ?_
  refine Awp.region ?_
  refine aSeq_t rfl (AOp.q (r := .agg (encIns0 exI0)) (Quiet.bld rfl plIns rfl rfl) ?_)
  refine sNt (hk := ?_)
  refine aSeq_t rfl (AOp.q (r := .agg (encIns0 exI1)) (Quiet.bld rfl plIns rfl rfl) ?_)
  refine sNt (hk := ?_)
  refine aSeq_t rfl (AOp.q (Quiet.lt (xs := [.tmp 1, .tmp 2]) (T := tIns) (ds := [exI0, exI1]) rfl rfl rfl (by rfl) (by decide) (.cons (Fit.agg fun _ _ _ _ h => put_ins0 ok0 rfl h) (.cons (Fit.agg fun _ _ _ _ h => put_ins0 ok1 rfl h) .nil))) ?_)
  refine sNt (hk := ?_)
  refine aSeq_t rfl (AOp.q (r := .agg (encBlock exB0)) (Quiet.bld rfl plBlock rfl rfl) ?_)
  refine sNt (hk := ?_)
  refine aSeq_t rfl (AOp.q (r := .agg (encIns0 exI2)) (Quiet.bld rfl plIns rfl rfl) ?_)
  refine sNt (hk := ?_)
  refine aSeq_t rfl (AOp.q (r := .agg (encIns0 exI3)) (Quiet.bld rfl plIns rfl rfl) ?_)
  refine sNt (hk := ?_)
  refine aSeq_t rfl (AOp.q (Quiet.lt (xs := [.tmp 5, .tmp 6]) (T := tIns) (ds := [exI2, exI3]) rfl rfl rfl (by rfl) (by decide) (.cons (Fit.agg fun _ _ _ _ h => put_ins0 ok2 rfl h) (.cons (Fit.agg fun _ _ _ _ h => put_ins0 ok3 rfl h) .nil))) ?_)
  refine sNt (hk := ?_)
  refine aSeq_t rfl (AOp.q (r := .agg (encBlock exB1)) (Quiet.bld rfl plBlock rfl rfl) ?_)
  refine sNt (hk := ?_)
  refine aSeq_t rfl (AOp.q (r := .agg (encIns0 exI4)) (Quiet.bld rfl plIns rfl rfl) ?_)
  refine sNt (hk := ?_)
  refine aSeq_t rfl (AOp.q (Quiet.lt (xs := [.tmp 9]) (T := tIns) (ds := [exI4]) rfl rfl rfl (by rfl) (by decide) (.cons (Fit.agg fun _ _ _ _ h => put_ins0 ok4 rfl h) .nil)) ?_)
  refine sNt (hk := ?_)
  refine aSeq_t rfl (AOp.q (r := .agg (encBlock exB2)) (Quiet.bld rfl plBlock rfl rfl) ?_)
  refine sNt (hk := ?_)
  refine aSeq_t rfl (AOp.q (Quiet.lt (xs := [.tmp 4, .tmp 8, .tmp 11]) (T := tBlock) (ds := [exB0, exB1, exB2]) rfl rfl rfl (by rfl) (by decide) (.cons (Fit.agg fun _ _ _ _ h => put_block noName_ok h) (.cons (Fit.agg fun _ _ _ _ h => put_block noName_ok h) (.cons (Fit.agg fun _ _ _ _ h => put_block noName_ok h) .nil)))) ?_)
  refine sNt (hk := ?_)
  refine aSeq_t rfl (AOp.q (r := .agg (encFunc exF)) (Quiet.bld rfl plFunc rfl rfl) ?_)
  refine sNt (hk := ?_)
  (first | refine sQ (hk := ?_) | refine sSkip (hk := ?_) | refine sOwn (hk := ?_))
  refine aSeq_nil ?_
  refine h2 _ ?_
  refine nT (hk := ?_)
  refine Awp.ret ?_
  refine ⟨⟨.inr rfl, 0, _, rfl, rfl, Fin.cl rfl⟩, fun i cells h1 h2 => ?_⟩
  have : i = 0 := by injection h1 with h1; exact h1.symm
  subst this
  injection h2 with h2
  injection h2 with h2
  rw [← h2]
  rfl
end Mu
end
section
/-
  muntinlaw17: head, LiveTells, walked.
  Conditions: at most 2^21 of everything.
-/
namespace Mu
open Go Go.RowKit Go.Proofs
instance : AG Try.prog 46 false 1 := ⟨by kernel_rfl⟩
instance : SZ Try.prog 46 1 := ⟨by kernel_rfl⟩
instance : ES Try.prog 46 1 := ⟨by kernel_rfl⟩
instance : SL Try.prog 46 := ⟨by kernel_rfl⟩
instance : RT Try.prog 46 48 1 24 := ⟨by kernel_rfl⟩

theorem same15_self (xs : List (List Int)) (hx : xs.length ≤ 2097152) (hxs : ∀ l ∈ xs, l.length ≤ 2097152) : Fn Try.prog 31 [.bs tInt.slice xs, .bs tInt.slice xs] (.lit (.bool true)) := by
  have := same15_fn xs xs hx hxs
  rwa [decide_eq_true rfl] at this
theorem same_self (xs : List Int) (hx : xs.length ≤ 2097152) : Fn Try.prog 16 [.bs tInt xs, .bs tInt xs] (.lit (.bool true)) := by
  have := same_fn xs xs hx
  rwa [decide_eq_true rfl] at this
theorem inF_eq (f : Func) : inF f = (List.range f.blocks.length).map fun b => (blockL f b).getD 0 [] := by
  unfold inF
  refine List.map_congr_left fun b _ => ?_
  rw [List.getD_eq_getElem?_getD, blockL_first]
  rfl
theorem outF_eq (f : Func) : outF f = (List.range f.blocks.length).map fun b => (blockL f b).getD (insOf f b).length [] := by
  unfold outF
  refine List.map_congr_left fun b _ => ?_
  rw [List.getD_eq_getElem?_getD, blockL_last]
  rfl
theorem exIn : inF exF = [[], [0], [0]] := by rw [inF_eq]; decide +kernel
theorem exOut : outF exF = [[0], [0], []] := by rw [outF_eq]; decide +kernel
theorem exAt1 : atF exF 1 = [[0], [0, 1], [0]] := by decide +kernel
theorem exAt3 : atF exF 3 = [] := by decide +kernel
theorem exMost : mostF exF = 2 := by decide +kernel
theorem exReads : (allReads exF).length ≤ 2097152 := by decide +kernel

set_option maxRecDepth 100000 in
set_option maxHeartbeats 4000000 in
theorem head17_fn : Fn Try.prog 26 [] (.lit (.bool true)) := by
  have hIn := in_fn exF okF smF exReads
  have hOut := out_fn exF okF smF exReads
  have hAt1 := at_fn exF 1 okF smF exReads
  have hAt3 := at_fn exF 3 okF smF exReads
  have hMost := most_fn exF okF smF exReads
  rw [exIn] at hIn
  rw [exOut] at hOut
  rw [exAt1] at hAt1
  rw [exAt3] at hAt3
  rw [exMost] at hMost
  have hs1 := same15_self [[], [0], [0]] (by decide) (by decide)
  have hs2 := same15_self [[0], [0], []] (by decide) (by decide)
  have hs3 := same15_self [[0], [0, 1], [0]] (by decide) (by decide)
  have hw0 : wfI .i64 0 := (by decide : (Lit.int .i64 (0 : Int)).wf = true)
  have hw1 : wfI .i64 1 := (by decide : (Lit.int .i64 (1 : Int)).wf = true)
  refine Fn.of_awp Try.func26 rfl (by kernel_rfl) rfl Try.ntmps26 fun C hC => ?_
  simp only [List.length_nil, Nat.sub_zero, List.replicate_succ, List.replicate_zero, List.nil_append]
  refine Awp.seq fun K1 h1 => ?_
  (refine Awp.region ?_; (repeat (first | refine sQ (hk := ?_) | refine sSkip (hk := ?_) | refine sOwn (hk := ?_))); refine aSeq_nil ?_)
  refine h1 _ ?_
  refine nT (hk := ?_)
  refine Awp.seq fun K2 h2 => ?_
  (refine Awp.region ?_; (repeat (first | refine sQ (hq := Quiet.call rfl example17_fn rfl rfl rfl) (hk := ?_) | refine sQ (hk := ?_) | refine sSkip (hk := ?_) | refine sOwn (hk := ?_))); refine aSeq_nil ?_)
  refine h2 _ ?_
  refine nT (hk := ?_)
  refine Awp.seq fun K3 h3 => ?_
  (refine Awp.region ?_; (repeat (first | refine sQ (hq := Quiet.call rfl hIn rfl rfl rfl) (hk := ?_) | refine sQ (hq := Quiet.call rfl hOut rfl rfl rfl) (hk := ?_) | refine sQ (hq := Quiet.call rfl hAt1 rfl rfl rfl) (hk := ?_) | refine sQ (hq := Quiet.call rfl hAt3 rfl rfl rfl) (hk := ?_) | refine sQ (hq := Quiet.call rfl hMost rfl rfl rfl) (hk := ?_) | refine sQ (hq := Quiet.call rfl hs1 rfl rfl rfl) (hk := ?_) | refine sQ (hq := Quiet.call rfl hs2 rfl rfl rfl) (hk := ?_) | refine sQ (hq := Quiet.call rfl hs3 rfl rfl rfl) (hk := ?_) | refine sQ (hq := Quiet.lt (xs := [.const (.slice none 0 0), .tmp 5, .tmp 6]) (T := tInt.slice) (ds := [[], [0], [0]]) rfl rfl rfl (by rfl) (by decide) (.cons Fit.nil (.cons Fit.bs (.cons Fit.bs .nil)))) (hk := ?_) | refine sQ (hq := Quiet.lt (xs := [.tmp 12, .tmp 13, .const (.slice none 0 0)]) (T := tInt.slice) (ds := [[0], [0], []]) rfl rfl rfl (by rfl) (by decide) (.cons Fit.bs (.cons Fit.bs (.cons Fit.nil .nil)))) (hk := ?_) | refine sQ (hq := Quiet.lt (xs := [.tmp 20, .tmp 21, .tmp 22]) (T := tInt.slice) (ds := [[0], [0, 1], [0]]) rfl rfl rfl (by rfl) (by decide) (.cons Fit.bs (.cons Fit.bs (.cons Fit.bs .nil)))) (hk := ?_) | refine sQ (hq := Quiet.lt (xs := [.const (.int .i64 0), .const (.int .i64 1)]) (T := tInt) (ds := [0, 1]) rfl rfl rfl (by rfl) (by decide) (.cons (Fit.int hw0) (.cons (Fit.int hw1) .nil))) (hk := ?_) | refine sQ (hk := ?_) | refine sSkip (hk := ?_) | refine sOwn (hk := ?_))); refine aSeq_nil ?_)
  refine h3 _ ?_
  refine nT (hk := ?_)
  refine Awp.ret ?_
  exact ⟨.inr rfl, Fin.cl rfl⟩

set_option maxRecDepth 100000 in
set_option maxHeartbeats 4000000 in
theorem tells17_fn (f : Func) (ho : okFunc f) (hs : smallF f) (hT : (allReads f).length ≤ 2097152) (hi1 : ∀ b ∈ f.blocks, b.ins.length + 1 ≤ 2097152) : Fn Try.prog 7 [.agg (encFunc f)] (.lit (.bool true)) := by
  have hbl := hs.blocks
  have hLl : (regsL f).length ≤ 2097152 := Nat.le_trans (regsOf_le _) hT
  have hgr := great17_fn f hs
  have hatm : atF f (-1) = [] := by unfold atF; rw [if_neg (by omega)]
  have hAm := at_fn f (-1) ho hs hT
  rw [hatm] at hAm
  have hil : (inF f).length = f.blocks.length := by simp [inF]
  have hol : (outF f).length = f.blocks.length := by simp [outF]
  have hal := allL_len f
  have e1 : (((inF f).length : Int) != ((allL f).length : Int)) = false := by rw [hil, hal]; simp
  have e2 : (((outF f).length : Int) != ((allL f).length : Int)) = false := by rw [hol, hal]; simp
  refine Fn.of_awp Try.func7 rfl (by kernel_rfl) rfl Try.ntmps7 fun C hC => ?_
  simp only [List.length_cons, List.length_nil, Nat.reduceAdd, Nat.reduceSub, List.replicate_succ, List.replicate_zero, List.cons_append, List.nil_append]
  refine Awp.seq fun K1 h1 => ?_
  (refine Awp.region ?_; (repeat (first | refine sQ (hk := ?_) | refine sSkip (hk := ?_) | refine sOwn (hk := ?_))); refine aSeq_nil ?_)
  refine h1 _ ?_
  refine nT (hk := ?_)
  refine Awp.seq fun K2 h2 => ?_
  refine Awp.seq fun K3 h3 => ?_
  rcases hg : great17 f with _ | _
  · rw [hg] at hgr
    (refine Awp.region ?_; (repeat (first | refine sQ (hq := Quiet.call rfl hgr rfl rfl rfl) (hk := ?_) | refine sQ (hk := ?_) | refine sSkip (hk := ?_) | refine sOwn (hk := ?_))); refine aSeq_nil ?_)
    refine h3 _ ?_
    refine nT (hk := ?_)
    refine Awp.cond rfl (fun hb4 => by cases hb4) (fun hb4 => ?_)
    refine Awp.skip ?_
    refine h2 _ ?_
    refine nT (hk := ?_)
    refine Awp.seq fun K6 h6 => ?_
    (refine drawD 9 (hh := ?_); (repeat (first | refine qQ (hq := Quiet.call rfl (all17_fn f ho hs hT) rfl rfl rfl) (hk := ?_) | refine qQ (hq := Quiet.call rfl (in_fn f ho hs hT) rfl rfl rfl) (hk := ?_) | refine qQ (hq := Quiet.call rfl (out_fn f ho hs hT) rfl rfl rfl) (hk := ?_) | refine qQ (hk := ?_) | refine qSkip (hk := ?_))); refine aQ_nil ?_; (repeat (first | refine sQ (hq := Quiet.call rfl (all17_fn f ho hs hT) rfl rfl rfl) (hk := ?_) | refine sQ (hq := Quiet.call rfl (in_fn f ho hs hT) rfl rfl rfl) (hk := ?_) | refine sQ (hq := Quiet.call rfl (out_fn f ho hs hT) rfl rfl rfl) (hk := ?_) | refine sQ (hk := ?_) | refine sSkip (hk := ?_) | refine sOwn (hk := ?_))); refine aSeq_nil ?_)
    refine h6 _ ?_
    refine nT (hk := ?_)
    refine Awp.seq fun K7 h7 => ?_
    refine Awp.seq fun K8 h8 => ?_
    (refine Awp.region ?_; (repeat (first | refine sQ (hq := Quiet.call rfl hAm rfl rfl rfl) (hk := ?_) | refine sQ (hk := ?_) | refine sSkip (hk := ?_) | refine sOwn (hk := ?_))); refine aSeq_nil ?_)
    refine h8 _ ?_
    refine nT (hk := ?_)
    refine Awp.cond rfl (fun hb9 => by cases hb9) (fun hb9 => ?_)
    refine Awp.skip ?_
    refine h7 _ ?_
    refine nT (hk := ?_)
    refine Awp.seq fun K11 h11 => ?_
    (refine Awp.region ?_; (repeat (first | refine sQ (hk := ?_) | refine sSkip (hk := ?_) | refine sOwn (hk := ?_))); refine aSeq_nil ?_)
    refine h11 _ ?_
    refine nT (hk := ?_)
    refine Awp.seq fun K12 h12 => ?_
    refine Awp.seq fun K13 h13 => ?_
    (refine Awp.region ?_; (repeat (first | refine sQ (hk := ?_) | refine sSkip (hk := ?_) | refine sOwn (hk := ?_))); refine aSeq_nil ?_)
    refine h13 _ ?_
    refine nT (hk := ?_)
    refine Awp.block ?_
    refine Awp.loopF (fun p : Nat => ⟨[.any, .ptr 0 0, .any, .bs tInt.slice.slice (allL f), .bs tInt.slice (inF f), .bs tInt.slice (outF f), .lit (.int .i64 (((allL f).take p).foldl mxB 0)), .lit (.int .i64 (p : Int)), .any, .any, .any, .any, .any, .any, .any, .any, .any, .any, .any, .any, .any, .any, .any, .any, .any, .any, .any, .any, .any, .any, .any, .any, .any, .any, .any, .any, .any, .any, .any, .any, .any, .any, .any, .any, .any, .any, .any, .any, .any, .any, .any, .any, .any, .any, .any, .any, .any, .any, .any, .any, .any, .any, .any, .any, .any, .any, .any, .any, .any, .any, .any, .any, .any, .any, .any, .any, .any, .any, .any, .any, .any, .any, .any, .any, .any, .any, .any, .any, .any, .any, .any, .any, .any, .any, .any, .any, .any, .any], [.box (encFunc f)]⟩) (fun p => p ≤ f.blocks.length) (fun p => f.blocks.length - p) 0 (Nat.zero_le _) (le_T) ?_
    intro b hbn
    dsimp only at hbn ⊢
    refine Awp.seq fun K15 h15 => ?_
    refine Awp.seq fun K16 h16 => ?_
    (refine Awp.region ?_; (repeat (first | refine sQ (hk := ?_) | refine sSkip (hk := ?_) | refine sOwn (hk := ?_))); refine aSeq_nil ?_)
    refine h16 _ ?_
    refine nT (hk := ?_)
    refine Awp.cond rfl (fun hb17 => ?_) (fun hb17 => ?_)
    · have hlt : b < f.blocks.length := by rw [hal] at hb17; simpa using hb17
      obtain ⟨bl, hblk⟩ : ∃ bl, f.blocks[b]? = some bl := ⟨_, List.getElem?_eq_getElem hlt⟩
      have hmem := List.mem_of_getElem? hblk
      have hins : insOf f b = bl.ins := by unfold insOf; rw [hblk]
      have hall : (allL f)[b]? = some (blockL f b) := by unfold allL; rw [List.getElem?_map, List.getElem?_range hlt]; rfl
      have hbe := fold_take_succ mxB 0 hall
      have hb2 : (blockL f b).length = bl.ins.length + 1 := by rw [blockL_len, hins]
      have hb3 : (blockL f b).length ≤ 2097152 := by have := hi1 bl hmem; omega
      have hatb : atF f (b : Int) = blockL f b := by unfold atF; rw [if_pos ⟨by omega, by omega⟩, Int.toNat_natCast]
      have hA := at_fn f (b : Int) ho hs hT
      rw [hatb] at hA
      have hfl : ∀ p : Int → Bool, ((regsL f).filter p).length ≤ 2097152 := fun p => Nat.le_trans (List.length_filter_le _ _) hLl
      have hs1 := same15_self (blockL f b) hb3 (fun l hl => by
        unfold blockL placeL at hl
        obtain ⟨i, _, rfl⟩ := List.mem_map.1 hl
        exact hfl _)
      have hs2 := same_self (inL f b) (hfl _)
      have hs3 := same_self (outL f b) (hfl _)
      have hx1 : (inF f)[b]? = some (inL f b) := by unfold inF; rw [List.getElem?_map, List.getElem?_range hlt]; rfl
      have hx2 : (outF f)[b]? = some (outL f b) := by unfold outF; rw [List.getElem?_map, List.getElem?_range hlt]; rfl
      have hx3 : (blockL f b)[(0 : Int).toNat]? = some (inL f b) := blockL_first f b
      have hx4 : (blockL f b)[(((blockL f b).length : Int) - 1).toNat]? = some (outL f b) := by
        rw [show (((blockL f b).length : Int) - 1).toNat = (insOf f b).length by rw [blockL_len]; omega]
        exact blockL_last f b
      generalize hn0 : ((allL f).take b).foldl mxB 0 = n0 at hbe ⊢
      refine Awp.skip ?_
      refine h15 _ ?_
      refine nT (hk := ?_)
      refine Awp.seq fun K18 h18 => ?_
      refine Awp.block ?_
      refine Awp.seq fun K19 h19 => ?_
      (refine Awp.region ?_; (repeat (first | refine sQ (hk := ?_) | refine sSkip (hk := ?_) | refine sOwn (hk := ?_))); refine aSeq_nil ?_)
      refine h19 _ ?_
      refine nT (hk := ?_)
      refine Awp.seq fun K20 h20 => ?_
      refine Awp.seq fun K21 h21 => ?_
      (refine drawD 31 (hh := ?_); (repeat (first | refine qQ (hq := Quiet.call rfl hA rfl rfl rfl) (hk := ?_) | refine qQ (hq := Quiet.call rfl hs1 rfl rfl rfl) (hk := ?_) | refine qQ (hq := Quiet.call rfl hs2 rfl rfl rfl) (hk := ?_) | refine qQ (hq := Quiet.call rfl hs3 rfl rfl rfl) (hk := ?_) | refine qQ (hk := ?_) | refine qSkip (hk := ?_))); refine aQ_nil ?_; (repeat (first | refine sQ (hq := Quiet.call rfl hA rfl rfl rfl) (hk := ?_) | refine sQ (hq := Quiet.call rfl hs1 rfl rfl rfl) (hk := ?_) | refine sQ (hq := Quiet.call rfl hs2 rfl rfl rfl) (hk := ?_) | refine sQ (hq := Quiet.call rfl hs3 rfl rfl rfl) (hk := ?_) | refine sQ (hk := ?_) | refine sSkip (hk := ?_) | refine sOwn (hk := ?_))); refine aSeq_nil ?_)
      refine h21 _ ?_
      refine nT (hk := ?_)
      refine Awp.cond rfl (fun hb22 => by cases hb22) (fun hb22 => ?_)
      refine Awp.skip ?_
      refine h20 _ ?_
      refine nT (hk := ?_)
      refine Awp.seq fun K24 h24 => ?_
      (refine Awp.region ?_; (repeat (first | refine sQ (hk := ?_) | refine sSkip (hk := ?_) | refine sOwn (hk := ?_))); refine aSeq_nil ?_)
      refine h24 _ ?_
      refine nT (hk := ?_)
      refine Awp.block ?_
      refine Awp.loopF (fun p : Nat => ⟨[.any, .ptr 0 0, .any, .bs tInt.slice.slice (allL f), .bs tInt.slice (inF f), .bs tInt.slice (outF f), .lit (.int .i64 (mxB n0 ((blockL f b).take p))), .lit (.int .i64 (b : Int)), .bs tInt.slice (blockL f b), .lit (.int .i64 (p : Int)), .any, .any, .any, .any, .any, .any, .any, .any, .any, .any, .any, .any, .any, .any, .any, .any, .any, .any, .any, .any, .any, .any, .any, .any, .any, .any, .any, .any, .any, .any, .any, .any, .any, .any, .any, .any, .any, .any, .any, .any, .any, .any, .any, .any, .any, .any, .any, .any, .any, .any, .any, .any, .any, .any, .any, .any, .any, .any, .any, .any, .any, .any, .any, .any, .any, .any, .any, .any, .any, .any, .any, .any, .any, .any, .any, .any, .any, .any, .any, .any, .any, .any, .any, .any, .any, .any, .any, .any], [.box (encFunc f)]⟩) (fun p => p ≤ (blockL f b).length) (fun p => (blockL f b).length - p) 0 (Nat.zero_le _) (le_T) ?_
      intro i hil2
      dsimp only at hil2 ⊢
      refine Awp.seq fun K26 h26 => ?_
      refine Awp.seq fun K27 h27 => ?_
      (refine Awp.region ?_; (repeat (first | refine sQ (hk := ?_) | refine sSkip (hk := ?_) | refine sOwn (hk := ?_))); refine aSeq_nil ?_)
      refine h27 _ ?_
      refine nT (hk := ?_)
      refine Awp.cond rfl (fun hb28 => ?_) (fun hb28 => ?_)
      · have hlt2 : i < (blockL f b).length := by simpa using hb28
        obtain ⟨l, hl⟩ : ∃ l, (blockL f b)[i]? = some l := ⟨_, List.getElem?_eq_getElem hlt2⟩
        have hst : mxB n0 ((blockL f b).take (i + 1)) = mxI (mxB n0 ((blockL f b).take i)) l := fold_take_succ mxI n0 hl
        refine Awp.skip ?_
        refine h26 _ ?_
        refine nT (hk := ?_)
        refine Awp.seq fun K29 h29 => ?_
        refine Awp.block ?_
        (refine Awp.region ?_; (repeat (first | refine sQ (hk := ?_) | refine sSkip (hk := ?_) | refine sOwn (hk := ?_))); refine aSeq_nil ?_)
        refine h29 _ ?_
        refine nT (hk := ?_)
        (refine Awp.region ?_; (repeat (first | refine sQ (hk := ?_) | refine sSkip (hk := ?_) | refine sOwn (hk := ?_))); refine aSeq_nil ?_)
        refine athen_n ⟨i + 1, by omega, by omega, ?_⟩
        rw [hst]
        exact le_T
      · refine Awp.exit ?_
        have hie : i = (blockL f b).length := by have : ¬ i < (blockL f b).length := by simpa using hb28
                                                 omega
        subst hie
        refine h18 _ ?_
        refine nT (hk := ?_)
        (refine Awp.region ?_; (repeat (first | refine sQ (hk := ?_) | refine sSkip (hk := ?_) | refine sOwn (hk := ?_))); refine aSeq_nil ?_)
        refine athen_n ⟨b + 1, by omega, by omega, ?_⟩
        rw [hbe, List.take_length]
        exact le_T
    · refine Awp.exit ?_
      have hbe : b = f.blocks.length := by have : ¬ b < f.blocks.length := by rw [hal] at hb17; simpa using hb17
                                           omega
      subst hbe
      have htk : (allL f).take f.blocks.length = allL f := by rw [← allL_len f, List.take_length]
      have hme : (mostF f == ((allL f).take f.blocks.length).foldl mxB 0) = true := by rw [htk]; simp [mostF]
      refine h12 _ ?_
      refine nT (hk := ?_)
      refine Awp.seq fun K30 h30 => ?_
      (refine Awp.region ?_; (repeat (first | refine sQ (hq := Quiet.call rfl (most_fn f ho hs hT) rfl rfl rfl) (hk := ?_) | refine sQ (hq := Quiet.call rfl head17_fn rfl rfl rfl) (hk := ?_) | refine sQ (hk := ?_) | refine sSkip (hk := ?_) | refine sOwn (hk := ?_))); refine aSeq_nil ?_)
      refine h30 _ ?_
      refine nT (hk := ?_)
      refine Awp.ret ?_
      exact ⟨.inr rfl, Fin.cl rfl⟩
  · rw [hg] at hgr
    (refine Awp.region ?_; (repeat (first | refine sQ (hq := Quiet.call rfl hgr rfl rfl rfl) (hk := ?_) | refine sQ (hk := ?_) | refine sSkip (hk := ?_) | refine sOwn (hk := ?_))); refine aSeq_nil ?_)
    refine h3 _ ?_
    refine nT (hk := ?_)
    refine Awp.cond rfl (fun hb4 => ?_) (fun hb4 => by cases hb4)
    refine Awp.seq fun K5 h5 => ?_
    (refine Awp.region ?_; (repeat (first | refine sQ (hq := Quiet.call rfl head17_fn rfl rfl rfl) (hk := ?_) | refine sQ (hk := ?_) | refine sSkip (hk := ?_) | refine sOwn (hk := ?_))); refine aSeq_nil ?_)
    refine h5 _ ?_
    refine nT (hk := ?_)
    refine Awp.ret ?_
    exact ⟨.inr rfl, Fin.cl rfl⟩
end Mu
end
section
/-
  muntinlaw17: steps, LiveSteps, walked.
  Conditions: at most 2^21 of everything.
-/
namespace Mu
open Go Go.RowKit Go.Proofs

section
variable {P : Program} {C : Ctx} {t : List AV} {h : List ABlk} {o : Oper}
theorem Quiet.bneb {xt yt : TypeId} {x y : Operand} {a b q : Bool} (hu : P.underlying xt = some .bool) (ho : o.op = .binOp .neq xt x y yt) (hx : evA t x = .lit (.bool a)) (hy : evA t y = .lit (.bool b)) (hq : (a != b) = q) : Quiet P C t h o (.lit (.bool q)) :=
  Quiet.of_run fun S ψ w ρ _ hρ => by
    have h1 := hρ x (by simp [ho, Op.operands])
    have h2 := hρ y (by simp [ho, Op.operands])
    rw [hx] at h1
    rw [hy] at h2
    unfold AV.rel at h1 h2
    refine ⟨.bool (a != b), ?_, by rw [hq]; unfold AV.rel; rfl⟩
    simp [execOp, ho, h1, h2, eqGuard, binOp, run_equal_bool _ _ _ _ hu, bne]
end
theorem undBool : Try.prog.underlying 4 = some .bool := by kernel_rfl
theorem filter_contains {R : List Int} {S : Int → Bool} (h : Sub R S) (r : Int) : (R.filter S).contains r = S r := by
  rw [Bool.eq_iff_iff]
  rw [List.contains_iff_mem, List.mem_filter]
  exact ⟨fun h => h.2, fun hs => ⟨h r hs, hs⟩⟩
theorem has17_set {R : List Int} {S : Int → Bool} (h : Sub R S) (hl : R.length ≤ 2097152) (r : Int) {q : Bool} (hq : S r = q) : Fn Try.prog 34 [.bs tInt (R.filter S), .lit (.int .i64 r)] (.lit (.bool q)) := by
  have := has17_fn (R.filter S) r (Nat.le_trans (List.length_filter_le _ _) hl)
  rwa [filter_contains h, hq] at this

set_option maxRecDepth 100000 in
set_option maxHeartbeats 4000000 in
theorem steps17_fn (b : Block) (S : Int → Bool) (R : List Int) (r : Int) (ho : okBlock b) (hs : smallB b) (hR : R.length ≤ 2097152) (hsub : Sub R S) (hx : ∀ x ∈ b.ins, ∀ r ∈ readsC x, r ∈ R) :
    Fn Try.prog 36 [.agg (encBlock b), .bs tInt.slice (placesL R b.ins S), .lit (.int .i64 r)] (.lit (.bool true)) := by
  have hil := hs.ins
  refine Fn.of_awp Try.func36 rfl (by kernel_rfl) rfl Try.ntmps36 fun C hC => ?_
  simp only [List.length_cons, List.length_nil, Nat.reduceAdd, Nat.reduceSub, List.replicate_succ, List.replicate_zero, List.cons_append, List.nil_append]
  refine Awp.seq fun K1 h1 => ?_
  (refine Awp.region ?_; (repeat (first | refine sQ (hk := ?_) | refine sSkip (hk := ?_) | refine sOwn (hk := ?_))); refine aSeq_nil ?_)
  refine h1 _ ?_
  refine nT (hk := ?_)
  refine Awp.seq fun K2 h2 => ?_
  refine Awp.seq fun K3 h3 => ?_
  (refine Awp.region ?_; (repeat (first | refine sQ (hk := ?_) | refine sSkip (hk := ?_) | refine sOwn (hk := ?_))); refine aSeq_nil ?_)
  refine h3 _ ?_
  refine nT (hk := ?_)
  refine Awp.block ?_
  refine Awp.loopF (fun p : Nat => ⟨[.any, .bs tInt.slice (placesL R b.ins S), .lit (.int .i64 r), .ptr 0 0, .any, .any, .any, .lit (.int .i64 (p : Int)), .any, .any, .any, .any, .any, .any, .any, .any, .any, .any, .any, .any, .any, .any, .any, .any, .any, .any, .any, .any, .any, .any, .any, .any, .any, .any, .any, .any, .any, .any, .any, .any, .any, .any, .any, .any, .any, .any, .any, .any, .any, .any, .any, .any, .any, .any, .any, .any, .any, .any, .any, .any, .any], [.box (encBlock b)]⟩) (fun p => p ≤ b.ins.length) (fun p => b.ins.length - p) 0 (Nat.zero_le _) (le_T) ?_
  intro i hi
  dsimp only at hi ⊢
  refine Awp.seq fun K5 h5 => ?_
  refine Awp.seq fun K6 h6 => ?_
  (refine Awp.region ?_; (repeat (first | refine sQ (hk := ?_) | refine sSkip (hk := ?_) | refine sOwn (hk := ?_))); refine aSeq_nil ?_)
  refine h6 _ ?_
  refine nT (hk := ?_)
  refine Awp.cond rfl (fun hb7 => ?_) (fun hb7 => ?_)
  · have hlt : i < b.ins.length := by simpa using hb7
    obtain ⟨x, hxi⟩ : ∃ x, b.ins[i]? = some x := ⟨_, List.getElem?_eq_getElem hlt⟩
    have hmx := List.mem_of_getElem? hxi
    have hox := ho.ins x hmx
    have hax := hs.all x hmx
    have hT0 : Sub R (inS (b.ins.drop i) S) := hsub.inS fun y hy => hx y (List.mem_of_mem_drop hy)
    have hT1 : Sub R (inS (b.ins.drop (i + 1)) S) := hsub.inS fun y hy => hx y (List.mem_of_mem_drop hy)
    have hp0 : (placesL R b.ins S)[i]? = some (R.filter (inS (b.ins.drop i) S)) := by rw [placesL_eq, List.getElem?_map, List.getElem?_range (by omega)]; rfl
    have hp1 : (placesL R b.ins S)[i + 1]? = some (R.filter (inS (b.ins.drop (i + 1)) S)) := by rw [placesL_eq, List.getElem?_map, List.getElem?_range (by omega)]; rfl
    have hp2 : (placesL R b.ins S)[((i : Int) + 1).toNat]? = some (R.filter (inS (b.ins.drop (i + 1)) S)) := by rw [show ((i : Int) + 1).toNat = i + 1 by omega]; exact hp1
    have hbk : inS (b.ins.drop i) S r = ((readsC x).contains r || (!(writesB x && x.d == r) && inS (b.ins.drop (i + 1)) S r)) := by
      rw [List.drop_eq_getElem_cons hlt]
      have : b.ins[i] = x := by
        rw [List.getElem?_eq_getElem hlt] at hxi
        exact Option.some.inj hxi
      rw [this]
      exact backS_eq x _ r
    have hrl : (readsC x).length ≤ 2097152 := by have := readsC_len2 x; omega
    have hrd := ref_reads_fn x hox (by omega)
    have hwr := ref_writes_fn x hox
    have hhr := has17_fn (readsC x) r hrl
    refine Awp.skip ?_
    refine h5 _ ?_
    refine nT (hk := ?_)
    refine Awp.seq fun K8 h8 => ?_
    refine Awp.block ?_
    refine Awp.seq fun K9 h9 => ?_
    (refine Awp.region ?_; (repeat (first | refine sQ (hq := Quiet.call rfl hwr rfl rfl rfl) (hk := ?_) | refine sQ (hk := ?_) | refine sSkip (hk := ?_) | refine sOwn (hk := ?_))); refine aSeq_nil ?_)
    refine h9 _ ?_
    refine nT (hk := ?_)
    refine Awp.seq fun K10 h10 => ?_
    have key : ∀ q : Bool, inS (b.ins.drop i) S r = q → ∀ s' : St, St.le C s' ⟨[.any, .bs tInt.slice (placesL R b.ins S), .lit (.int .i64 r), .ptr 0 0, .any, .any, .any, .lit (.int .i64 (i : Int)), .any, .any, .lit (.bool q), .any, .any, .any, .any, .any, .any, .any, .any, .any, .any, .any, .any, .any, .any, .any, .any, .any, .any, .any, .any, .any, .any, .any, .any, .any, .any, .any, .any, .any, .any, .any, .any, .any, .any, .any, .any, .any, .any, .any, .any, .any, .any, .any, .any, .any, .any, .any, .any, .any, .any], [.box (encBlock b)]⟩ → K10 s' := fun q hq s' hle => by
      have hh0 := has17_set hT0 hR r hq
      have hqq : (q != q) = false := by simp
      refine h10 _ (Awp.via _ hle ?_)
      refine Awp.seq fun K11 h11 => ?_
      (refine Awp.region ?_; (repeat (first | refine sQ (hq := Quiet.call rfl hh0 rfl rfl rfl) (hk := ?_) | refine sQ (hq := Quiet.bneb undBool rfl rfl rfl hqq) (hk := ?_) | refine sQ (hk := ?_) | refine sSkip (hk := ?_) | refine sOwn (hk := ?_))); refine aSeq_nil ?_)
      refine h11 _ ?_
      refine nT (hk := ?_)
      refine Awp.cond rfl (fun hb12 => by cases hb12) (fun hb12 => ?_)
      refine Awp.skip ?_
      refine h8 _ ?_
      refine nT (hk := ?_)
      (refine Awp.region ?_; (repeat (first | refine sQ (hk := ?_) | refine sSkip (hk := ?_) | refine sOwn (hk := ?_))); refine aSeq_nil ?_)
      refine athen_n ⟨i + 1, by omega, by omega, ?_⟩
      exact le_T
    rcases hc1 : (readsC x).contains r with _ | _
    · rw [hc1] at hhr hbk
      rcases hc2 : inS (b.ins.drop (i + 1)) S r with _ | _
      · rw [hc2] at hbk
        have hh1 := has17_set hT1 hR r hc2
        (refine Awp.region ?_; (repeat (first | refine sQ (hq := Quiet.call rfl hrd rfl rfl rfl) (hk := ?_) | refine sQ (hq := Quiet.call rfl hhr rfl rfl rfl) (hk := ?_) | refine sQ (hq := Quiet.call rfl hh1 rfl rfl rfl) (hk := ?_) | refine sQ (hk := ?_) | refine sSkip (hk := ?_) | refine sOwn (hk := ?_))); refine aSeq_nil ?_)
        exact key false (by rw [hbk]; simp) _ (le_T)
      · rw [hc2] at hbk
        have hh1 := has17_set hT1 hR r hc2
        rcases hc3 : writesB x with _ | _
        · rw [hc3] at hbk
          (refine Awp.region ?_; (repeat (first | refine sQ (hq := Quiet.call rfl hrd rfl rfl rfl) (hk := ?_) | refine sQ (hq := Quiet.call rfl hhr rfl rfl rfl) (hk := ?_) | refine sQ (hq := Quiet.call rfl hh1 rfl rfl rfl) (hk := ?_) | refine sQ (hk := ?_) | refine sSkip (hk := ?_) | refine sOwn (hk := ?_))); refine aSeq_nil ?_)
          exact key true (by rw [hbk]; rfl) _ (le_T)
        · rw [hc3] at hbk
          (refine Awp.region ?_; (repeat (first | refine sQ (hq := Quiet.call rfl hrd rfl rfl rfl) (hk := ?_) | refine sQ (hq := Quiet.call rfl hhr rfl rfl rfl) (hk := ?_) | refine sQ (hq := Quiet.call rfl hh1 rfl rfl rfl) (hk := ?_) | refine sQ (hk := ?_) | refine sSkip (hk := ?_) | refine sOwn (hk := ?_))); refine aSeq_nil ?_)
          exact key (!(x.d == r)) (by rw [hbk]; simp) _ (le_T)
    · rw [hc1] at hhr hbk
      (refine Awp.region ?_; (repeat (first | refine sQ (hq := Quiet.call rfl hrd rfl rfl rfl) (hk := ?_) | refine sQ (hq := Quiet.call rfl hhr rfl rfl rfl) (hk := ?_) | refine sQ (hk := ?_) | refine sSkip (hk := ?_) | refine sOwn (hk := ?_))); refine aSeq_nil ?_)
      exact key true (by rw [hbk]; rfl) _ (le_T)
  · refine Awp.exit ?_
    refine h2 _ ?_
    refine nT (hk := ?_)
    refine Awp.seq fun K14 h14 => ?_
    (refine Awp.region ?_; (repeat (first | refine sQ (hk := ?_) | refine sSkip (hk := ?_) | refine sOwn (hk := ?_))); refine aSeq_nil ?_)
    refine h14 _ ?_
    refine nT (hk := ?_)
    refine Awp.ret ?_
    exact ⟨.inr rfl, Fin.cl rfl⟩

/-- what is live behind a block is live ahead of one behind it -/
theorem nextL_any (f : Func) (b : Nat) (r : Int) : ((nextL f (b : Int)).any fun c => (inL f c.toNat).contains r) = outS f b r := by
  have hs : ∀ b, Sub (regsL f) (outS f b) := fun b => outS_sub (fun b hb x hx r hr => regsL_mem.2 ⟨b, hb, x, hx, hr⟩) b
  have hin : ∀ c, (inL f c).contains r = inS (insOf f c) (outS f c) r := fun c => filter_contains ((hs c).inS (insOf_in (fun b hb x hx r hr => regsL_mem.2 ⟨b, hb, x, hx, hr⟩) c)) r
  rw [Bool.eq_iff_iff, List.any_eq_true, outS_iff, lout_iff]
  constructor
  · rintro ⟨c, hc, hr⟩
    unfold nextL at hc
    obtain ⟨y, hy, rfl⟩ := List.mem_map.1 hc
    refine ⟨y.1, ⟨y, hy, rfl⟩, ?_⟩
    rw [show (blkI y).toNat = y.1 from Int.toNat_natCast _, hin, inS_eq] at hr
    simp only [Bool.or_eq_true, Bool.and_eq_true] at hr
    rcases hr with hr | ⟨h1, h2⟩
    · exact .inl hr
    · exact .inr ⟨h1, outS_iff.1 h2⟩
  · rintro ⟨c, ⟨y, hy, rfl⟩, hr⟩
    refine ⟨blkI y, List.mem_map.2 ⟨y, hy, rfl⟩, ?_⟩
    rw [show (blkI y).toNat = y.1 from Int.toNat_natCast _, hin, inS_eq]
    simp only [Bool.or_eq_true, Bool.and_eq_true]
    rcases hr with hr | ⟨h1, h2⟩
    · exact .inl hr
    · exact .inr ⟨h1, outS_iff.2 h2⟩

set_option maxRecDepth 100000 in
set_option maxHeartbeats 4000000 in
theorem liveSteps17_fn (f : Func) (ho : okFunc f) (hs : smallF f) (hT : (allReads f).length ≤ 2097152) (hi1 : ∀ b ∈ f.blocks, b.ins.length + 1 ≤ 2097152) : Fn Try.prog 11 [.agg (encFunc f)] (.lit (.bool true)) := by
  have hbl := hs.blocks
  have hLl : (regsL f).length ≤ 2097152 := Nat.le_trans (regsOf_le _) hT
  have hLr : ∀ b ∈ f.blocks, ∀ x ∈ b.ins, ∀ r ∈ readsC x, r ∈ regsL f := fun b hb x hx r hr => regsL_mem.2 ⟨b, hb, x, hx, hr⟩
  have hgr := great17_fn f hs
  have hil : (inF f).length = f.blocks.length := by simp [inF]
  have hol : (outF f).length = f.blocks.length := by simp [outF]
  have e1 : (((inF f).length : Int) != (f.blocks.length : Int)) = false := by rw [hil]; simp
  have e2 : (((outF f).length : Int) != (f.blocks.length : Int)) = false := by rw [hol]; simp
  refine Fn.of_awp Try.func11 rfl (by kernel_rfl) rfl Try.ntmps11 fun C hC => ?_
  simp only [List.length_cons, List.length_nil, Nat.reduceAdd, Nat.reduceSub, List.replicate_succ, List.replicate_zero, List.cons_append, List.nil_append]
  refine Awp.seq fun K1 h1 => ?_
  (refine Awp.region ?_; (repeat (first | refine sQ (hk := ?_) | refine sSkip (hk := ?_) | refine sOwn (hk := ?_))); refine aSeq_nil ?_)
  refine h1 _ ?_
  refine nT (hk := ?_)
  refine Awp.seq fun K2 h2 => ?_
  refine Awp.seq fun K3 h3 => ?_
  rcases hg : great17 f with _ | _
  · rw [hg] at hgr
    (refine Awp.region ?_; (repeat (first | refine sQ (hq := Quiet.call rfl hgr rfl rfl rfl) (hk := ?_) | refine sQ (hk := ?_) | refine sSkip (hk := ?_) | refine sOwn (hk := ?_))); refine aSeq_nil ?_)
    refine h3 _ ?_
    refine nT (hk := ?_)
    refine Awp.cond rfl (fun hb4 => by cases hb4) (fun hb4 => ?_)
    refine Awp.skip ?_
    refine h2 _ ?_
    refine nT (hk := ?_)
    refine Awp.seq fun K6 h6 => ?_
    (refine drawD 6 (hh := ?_); (repeat (first | refine qQ (hq := Quiet.call rfl (in_fn f ho hs hT) rfl rfl rfl) (hk := ?_) | refine qQ (hq := Quiet.call rfl (out_fn f ho hs hT) rfl rfl rfl) (hk := ?_) | refine qQ (hk := ?_) | refine qSkip (hk := ?_))); refine aQ_nil ?_; (repeat (first | refine sQ (hq := Quiet.call rfl (in_fn f ho hs hT) rfl rfl rfl) (hk := ?_) | refine sQ (hq := Quiet.call rfl (out_fn f ho hs hT) rfl rfl rfl) (hk := ?_) | refine sQ (hk := ?_) | refine sSkip (hk := ?_) | refine sOwn (hk := ?_))); refine aSeq_nil ?_)
    refine h6 _ ?_
    refine nT (hk := ?_)
    refine Awp.seq fun K7 h7 => ?_
    refine Awp.seq fun K8 h8 => ?_
    (refine Awp.region ?_; (repeat (first | refine sQ (hk := ?_) | refine sSkip (hk := ?_) | refine sOwn (hk := ?_))); refine aSeq_nil ?_)
    refine h8 _ ?_
    refine nT (hk := ?_)
    refine Awp.cond rfl (fun hb9 => by cases hb9) (fun hb9 => ?_)
    refine Awp.skip ?_
    refine h7 _ ?_
    refine nT (hk := ?_)
    refine Awp.seq fun K11 h11 => ?_
    refine Awp.seq fun K12 h12 => ?_
    (refine Awp.region ?_; (repeat (first | refine sQ (hk := ?_) | refine sSkip (hk := ?_) | refine sOwn (hk := ?_))); refine aSeq_nil ?_)
    refine h12 _ ?_
    refine nT (hk := ?_)
    refine Awp.block ?_
    refine Awp.loopF (fun p : Nat => ⟨[.any, .ptr 0 0, .any, .bs tInt.slice (inF f), .bs tInt.slice (outF f), .lit (.int .i64 (p : Int)), .any, .any, .any, .any, .any, .any, .any, .any, .any, .any, .any, .any, .any, .any, .any, .any, .any, .any, .any, .any, .any, .any, .any, .any, .any, .any, .any, .any, .any, .any, .any, .any, .any, .any, .any, .any, .any, .any, .any, .any, .any, .any, .any, .any, .any, .any, .any, .any, .any, .any, .any, .any, .any, .any, .any, .any, .any, .any, .any, .any, .any, .any, .any, .any, .any, .any, .any, .any, .any, .any, .any, .any, .any, .any, .any, .any, .any, .any, .any, .any, .any, .any, .any, .any, .any, .any, .any, .any, .any, .any, .any, .any, .any, .any, .any, .any, .any, .any, .any, .any, .any, .any, .any, .any, .any, .any, .any, .any, .any, .any, .any, .any, .any, .any, .any, .any, .any], [.box (encFunc f)]⟩) (fun p => p ≤ f.blocks.length) (fun p => f.blocks.length - p) 0 (Nat.zero_le _) (le_T) ?_
    intro b hbn
    dsimp only at hbn ⊢
    refine Awp.seq fun K14 h14 => ?_
    refine Awp.seq fun K15 h15 => ?_
    (refine Awp.region ?_; (repeat (first | refine sQ (hk := ?_) | refine sSkip (hk := ?_) | refine sOwn (hk := ?_))); refine aSeq_nil ?_)
    refine h15 _ ?_
    refine nT (hk := ?_)
    refine Awp.cond rfl (fun hb16 => ?_) (fun hb16 => ?_)
    · have hlt : b < f.blocks.length := by simpa using hb16
      obtain ⟨bl, hblk⟩ : ∃ bl, f.blocks[b]? = some bl := ⟨_, List.getElem?_eq_getElem hlt⟩
      have hmem := List.mem_of_getElem? hblk
      have hins : insOf f b = bl.ins := by unfold insOf; rw [hblk]
      have hb2 : (blockL f b).length = bl.ins.length + 1 := by rw [blockL_len, hins]
      have hb3 : (blockL f b).length ≤ 2097152 := by have := hi1 bl hmem; omega
      have hatb : atF f (b : Int) = blockL f b := by unfold atF; rw [if_pos ⟨by omega, by omega⟩, Int.toNat_natCast]
      have hA := at_fn f (b : Int) ho hs hT
      rw [hatb] at hA
      have hfl : ∀ p : Int → Bool, ((regsL f).filter p).length ≤ 2097152 := fun p => Nat.le_trans (List.length_filter_le _ _) hLl
      have hs2 := same_self (inL f b) (hfl _)
      have hs3 := same_self (outL f b) (hfl _)
      have hx1 : (inF f)[b]? = some (inL f b) := by unfold inF; rw [List.getElem?_map, List.getElem?_range hlt]; rfl
      have hx2 : (outF f)[b]? = some (outL f b) := by unfold outF; rw [List.getElem?_map, List.getElem?_range hlt]; rfl
      have hx3 : (blockL f b)[(0 : Int).toNat]? = some (inL f b) := blockL_first f b
      have hx4 : (blockL f b)[(((blockL f b).length : Int) - 1).toNat]? = some (outL f b) := by
        rw [show (((blockL f b).length : Int) - 1).toNat = (insOf f b).length by rw [blockL_len]; omega]
        exact blockL_last f b
      have e3 : (((blockL f b).length : Int) != ((bl.ins.length : Int) + 1)) = false := by rw [hb2]; simp
      have hnl : (nextL f (b : Int)).length ≤ 2 := by unfold nextL; rw [List.length_map]; exact nextS_len f b
      have hpl : placesL (regsL f) bl.ins (outS f b) = blockL f b := by rw [← hins, atL_eq]
      have hst : ∀ r : Int, Fn Try.prog 36 [.agg (encBlock bl), .bs tInt.slice (blockL f b), .lit (.int .i64 r)] (.lit (.bool true)) := fun r => by
        have := steps17_fn bl (outS f b) (regsL f) r (ho.blocks bl hmem) (hs.all bl hmem) hLl (outS_sub hLr b) (hLr bl hmem)
        rwa [hpl] at this
      refine Awp.skip ?_
      refine h14 _ ?_
      refine nT (hk := ?_)
      refine Awp.seq fun K17 h17 => ?_
      refine Awp.block ?_
      refine Awp.seq fun K18 h18 => ?_
      (refine drawD 8 (hh := ?_); (repeat (first | refine qQ (hq := Quiet.call rfl hA rfl rfl rfl) (hk := ?_) | refine qQ (hq := Quiet.call rfl (flow_next_fn f (b : Int) ho hbl fun b hb => (hs.all b hb).ins) rfl rfl rfl) (hk := ?_) | refine qQ (hk := ?_) | refine qSkip (hk := ?_))); refine aQ_nil ?_; (repeat (first | refine sQ (hq := Quiet.call rfl hA rfl rfl rfl) (hk := ?_) | refine sQ (hq := Quiet.call rfl (flow_next_fn f (b : Int) ho hbl fun b hb => (hs.all b hb).ins) rfl rfl rfl) (hk := ?_) | refine sQ (hk := ?_) | refine sSkip (hk := ?_) | refine sOwn (hk := ?_))); refine aSeq_nil ?_)
      refine h18 _ ?_
      refine nT (hk := ?_)
      refine Awp.seq fun K19 h19 => ?_
      refine Awp.seq fun K20 h20 => ?_
      (refine drawD 36 (hh := ?_); (repeat (first | refine qQ (hq := Quiet.call rfl hs2 rfl rfl rfl) (hk := ?_) | refine qQ (hq := Quiet.call rfl hs3 rfl rfl rfl) (hk := ?_) | refine qQ (hk := ?_) | refine qSkip (hk := ?_))); refine aQ_nil ?_; (repeat (first | refine sQ (hq := Quiet.call rfl hs2 rfl rfl rfl) (hk := ?_) | refine sQ (hq := Quiet.call rfl hs3 rfl rfl rfl) (hk := ?_) | refine sQ (hk := ?_) | refine sSkip (hk := ?_) | refine sOwn (hk := ?_))); refine aSeq_nil ?_)
      refine h20 _ ?_
      refine nT (hk := ?_)
      refine Awp.cond rfl (fun hb21 => by cases hb21) (fun hb21 => ?_)
      refine Awp.skip ?_
      refine h19 _ ?_
      refine nT (hk := ?_)
      refine Awp.seq fun K23 h23 => ?_
      (refine Awp.region ?_; (repeat (first | refine sQ (hk := ?_) | refine sSkip (hk := ?_) | refine sOwn (hk := ?_))); refine aSeq_nil ?_)
      refine h23 _ ?_
      refine nT (hk := ?_)
      refine Awp.block ?_
      refine Awp.loopF (fun r : Nat => ⟨[.any, .ptr 0 0, .any, .bs tInt.slice (inF f), .bs tInt.slice (outF f), .lit (.int .i64 (b : Int)), .bs tInt.slice (blockL f b), .bs tInt (nextL f (b : Int)), .lit (.int .i64 (r : Int)), .any, .any, .any, .any, .any, .any, .any, .any, .any, .any, .any, .any, .any, .any, .any, .any, .any, .any, .any, .any, .any, .any, .any, .any, .any, .any, .any, .any, .any, .any, .any, .any, .any, .any, .any, .any, .any, .any, .any, .any, .any, .any, .any, .any, .any, .any, .any, .any, .any, .any, .any, .any, .any, .any, .any, .any, .any, .any, .any, .any, .any, .any, .any, .any, .any, .any, .any, .any, .any, .any, .any, .any, .any, .any, .any, .any, .any, .any, .any, .any, .any, .any, .any, .any, .any, .any, .any, .any, .any, .any, .any, .any, .any, .any, .any, .any, .any, .any, .any, .any, .any, .any, .any, .any, .any, .any, .any, .any, .any, .any, .any, .any, .any, .any], [.box (encFunc f)]⟩) (fun r => r ≤ 100) (fun r => 100 - r) 0 (Nat.zero_le _) (le_T) ?_
      intro r hr
      dsimp only at hr ⊢
      refine Awp.seq fun K25 h25 => ?_
      refine Awp.seq fun K26 h26 => ?_
      (refine Awp.region ?_; (repeat (first | refine sQ (hk := ?_) | refine sSkip (hk := ?_) | refine sOwn (hk := ?_))); refine aSeq_nil ?_)
      refine h26 _ ?_
      refine nT (hk := ?_)
      refine Awp.cond rfl (fun hb27 => ?_) (fun hb27 => ?_)
      · have hr1 : r < 100 := by have : (r : Int) < 100 := by simpa using hb27
                                 omega
        refine Awp.skip ?_
        refine h25 _ ?_
        refine nT (hk := ?_)
        refine Awp.seq fun K28 h28 => ?_
        refine Awp.block ?_
        refine Awp.seq fun K29 h29 => ?_
        (refine Awp.region ?_; (repeat (first | refine sQ (hk := ?_) | refine sSkip (hk := ?_) | refine sOwn (hk := ?_))); refine aSeq_nil ?_)
        refine h29 _ ?_
        refine nT (hk := ?_)
        refine Awp.seq fun K30 h30 => ?_
        refine Awp.seq fun K31 h31 => ?_
        (refine Awp.region ?_; (repeat (first | refine sQ (hk := ?_) | refine sSkip (hk := ?_) | refine sOwn (hk := ?_))); refine aSeq_nil ?_)
        refine h31 _ ?_
        refine nT (hk := ?_)
        refine Awp.block ?_
        refine Awp.loopF (fun k : Nat => ⟨[.any, .ptr 0 0, .any, .bs tInt.slice (inF f), .bs tInt.slice (outF f), .lit (.int .i64 (b : Int)), .bs tInt.slice (blockL f b), .bs tInt (nextL f (b : Int)), .lit (.int .i64 (r : Int)), .lit (.bool (((nextL f (b : Int)).take k).any fun c => (inL f c.toNat).contains (r : Int))), .lit (.int .i64 (k : Int)), .any, .any, .any, .any, .any, .any, .any, .any, .any, .any, .any, .any, .any, .any, .any, .any, .any, .any, .any, .any, .any, .any, .any, .any, .any, .any, .any, .any, .any, .any, .any, .any, .any, .any, .any, .any, .any, .any, .any, .any, .any, .any, .any, .any, .any, .any, .any, .any, .any, .any, .any, .any, .any, .any, .any, .any, .any, .any, .any, .any, .any, .any, .any, .any, .any, .any, .any, .any, .any, .any, .any, .any, .any, .any, .any, .any, .any, .any, .any, .any, .any, .any, .any, .any, .any, .any, .any, .any, .any, .any, .any, .any, .any, .any, .any, .any, .any, .any, .any, .any, .any, .any, .any, .any, .any, .any, .any, .any, .any, .any, .any, .any], [.box (encFunc f)]⟩) (fun k => k ≤ (nextL f (b : Int)).length) (fun k => (nextL f (b : Int)).length - k) 0 (Nat.zero_le _) (le_T) ?_
        intro k hk
        dsimp only at hk ⊢
        refine Awp.seq fun K33 h33 => ?_
        refine Awp.seq fun K34 h34 => ?_
        (refine Awp.region ?_; (repeat (first | refine sQ (hk := ?_) | refine sSkip (hk := ?_) | refine sOwn (hk := ?_))); refine aSeq_nil ?_)
        refine h34 _ ?_
        refine nT (hk := ?_)
        refine Awp.cond rfl (fun hb35 => ?_) (fun hb35 => ?_)
        · have hk1 : k < (nextL f (b : Int)).length := by simpa using hb35
          obtain ⟨c, hc⟩ : ∃ c, (nextL f (b : Int))[k]? = some c := ⟨_, List.getElem?_eq_getElem hk1⟩
          have hcin := nextL_in (List.mem_of_getElem? hc)
          have hc0 := hcin.1
          have hci : (inF f)[c.toNat]? = some (inL f c.toNat) := by unfold inF; rw [List.getElem?_map, List.getElem?_range hcin.2]; rfl
          have hstep : ((nextL f (b : Int)).take (k + 1)).any (fun c => (inL f c.toNat).contains (r : Int)) = (((nextL f (b : Int)).take k).any (fun c => (inL f c.toNat).contains (r : Int)) || (inL f c.toNat).contains (r : Int)) := by
            rw [List.take_add_one, hc, List.any_append]
            simp
          have hhc := has17_fn (inL f c.toNat) (r : Int) (hfl _)
          refine Awp.skip ?_
          refine h33 _ ?_
          refine nT (hk := ?_)
          refine Awp.seq fun K36 h36 => ?_
          refine Awp.block ?_
          rcases hac : ((nextL f (b : Int)).take k).any (fun c => (inL f c.toNat).contains (r : Int)) with _ | _
          · rw [hac] at hstep
            (refine Awp.region ?_; (repeat (first | refine sQ (hq := Quiet.call rfl hhc rfl rfl rfl) (hk := ?_) | refine sQ (hk := ?_) | refine sSkip (hk := ?_) | refine sOwn (hk := ?_))); refine aSeq_nil ?_)
            refine h36 _ ?_
            refine nT (hk := ?_)
            (refine Awp.region ?_; (repeat (first | refine sQ (hk := ?_) | refine sSkip (hk := ?_) | refine sOwn (hk := ?_))); refine aSeq_nil ?_)
            refine athen_n ⟨k + 1, by omega, by omega, ?_⟩
            rw [hstep, Bool.false_or]
            exact le_T
          · rw [hac] at hstep
            (refine Awp.region ?_; (repeat (first | refine sQ (hk := ?_) | refine sSkip (hk := ?_) | refine sOwn (hk := ?_))); refine aSeq_nil ?_)
            refine h36 _ ?_
            refine nT (hk := ?_)
            (refine Awp.region ?_; (repeat (first | refine sQ (hk := ?_) | refine sSkip (hk := ?_) | refine sOwn (hk := ?_))); refine aSeq_nil ?_)
            refine athen_n ⟨k + 1, by omega, by omega, ?_⟩
            rw [hstep, Bool.true_or]
            exact le_T
        · refine Awp.exit ?_
          have hke : k = (nextL f (b : Int)).length := by have : ¬ k < (nextL f (b : Int)).length := by simpa using hb35
                                                          omega
          subst hke
          have hq : (((nextL f (b : Int)).take (nextL f (b : Int)).length).any fun c => (inL f c.toNat).contains (r : Int)) = outS f b (r : Int) := by rw [List.take_length]; exact nextL_any f b r
          rw [hq]
          have hho : Fn Try.prog 34 [.bs tInt (outL f b), .lit (.int .i64 (r : Int))] (.lit (.bool (outS f b (r : Int)))) := has17_set (outS_sub hLr b) hLl (r : Int) rfl
          have hqq : (outS f b (r : Int) != outS f b (r : Int)) = false := by simp
          have hst' := hst (r : Int)
          refine h30 _ ?_
          refine nT (hk := ?_)
          refine Awp.seq fun K37 h37 => ?_
          (refine Awp.region ?_; (repeat (first | refine sQ (hq := Quiet.call rfl hho rfl rfl rfl) (hk := ?_) | refine sQ (hq := Quiet.bneb undBool rfl rfl rfl hqq) (hk := ?_) | refine sQ (hq := Quiet.call rfl hst' rfl rfl rfl) (hk := ?_) | refine sQ (hk := ?_) | refine sSkip (hk := ?_) | refine sOwn (hk := ?_))); refine aSeq_nil ?_)
          refine h37 _ ?_
          refine nT (hk := ?_)
          refine Awp.cond rfl (fun hb38 => by cases hb38) (fun hb38 => ?_)
          refine Awp.skip ?_
          refine h28 _ ?_
          refine nT (hk := ?_)
          (refine Awp.region ?_; (repeat (first | refine sQ (hk := ?_) | refine sSkip (hk := ?_) | refine sOwn (hk := ?_))); refine aSeq_nil ?_)
          refine athen_n ⟨r + 1, by omega, by omega, ?_⟩
          exact le_T
      · refine Awp.exit ?_
        refine h17 _ ?_
        refine nT (hk := ?_)
        (refine Awp.region ?_; (repeat (first | refine sQ (hk := ?_) | refine sSkip (hk := ?_) | refine sOwn (hk := ?_))); refine aSeq_nil ?_)
        refine athen_n ⟨b + 1, by omega, by omega, ?_⟩
        exact le_T
    · refine Awp.exit ?_
      refine h11 _ ?_
      refine nT (hk := ?_)
      refine Awp.seq fun K40 h40 => ?_
      (refine Awp.region ?_; (repeat (first | refine sQ (hq := Quiet.call rfl head17_fn rfl rfl rfl) (hk := ?_) | refine sQ (hk := ?_) | refine sSkip (hk := ?_) | refine sOwn (hk := ?_))); refine aSeq_nil ?_)
      refine h40 _ ?_
      refine nT (hk := ?_)
      refine Awp.ret ?_
      exact ⟨.inr rfl, Fin.cl rfl⟩
  · rw [hg] at hgr
    (refine Awp.region ?_; (repeat (first | refine sQ (hq := Quiet.call rfl hgr rfl rfl rfl) (hk := ?_) | refine sQ (hk := ?_) | refine sSkip (hk := ?_) | refine sOwn (hk := ?_))); refine aSeq_nil ?_)
    refine h3 _ ?_
    refine nT (hk := ?_)
    refine Awp.cond rfl (fun hb4 => ?_) (fun hb4 => by cases hb4)
    refine Awp.seq fun K5 h5 => ?_
    (refine Awp.region ?_; (repeat (first | refine sQ (hq := Quiet.call rfl head17_fn rfl rfl rfl) (hk := ?_) | refine sQ (hk := ?_) | refine sSkip (hk := ?_) | refine sOwn (hk := ?_))); refine aSeq_nil ?_)
    refine h5 _ ?_
    refine nT (hk := ?_)
    refine Awp.ret ?_
    exact ⟨.inr rfl, Fin.cl rfl⟩
end Mu
end
