/-
  Own texts laid together, part 1: MuRef18A, MuRef18B, MuKeptP, MuLaw21K.
  Conditions: as each part says.
-/
import Derived.Test.YteeekjidkjdpjaaDoorBh5
section
/-
  muntinref18: in, with, Regs, Great, walked.
  Conditions: data of at most 2^21 everywhere.
-/
namespace Mu
open Go Go.RowKit Go.Proofs

set_option maxRecDepth 100000 in
theorem in18_fn (l : List Int) (n : Int) (hl : l.length ≤ 2097152) : Fn Tryd.prog 55 [.bs tInt l, .lit (.int .i64 n)] (.lit (.bool (l.contains n))) := by
  refine Fn.of_awp Tryd.func55 rfl (by kernel_rfl) rfl Tryd.ntmps55 fun C hC => ?_
  simp only [List.length_cons, List.length_nil, Nat.reduceAdd, Nat.reduceSub, List.replicate_succ, List.replicate_zero, List.cons_append, List.nil_append]
  refine Awp.seq fun K1 h1 => ?_
  (refine Awp.region ?_; (repeat (first | refine sQ (hq := Quiet.pickOr rfl rfl rfl rfl) (hk := ?_) | refine sQ (hq := Quiet.pickAnd rfl rfl rfl rfl) (hk := ?_) | refine sQ (hk := ?_) | refine sSkip (hk := ?_) | refine sG (hk := ?_) | refine sOwn (hk := ?_))); refine aSeq_nil ?_)
  refine h1 _ ?_
  refine nT (hk := ?_)
  refine Awp.seq fun K2 h2 => ?_
  refine Awp.seq fun K3 h3 => ?_
  (refine Awp.region ?_; (repeat (first | refine sQ (hq := Quiet.pickOr rfl rfl rfl rfl) (hk := ?_) | refine sQ (hq := Quiet.pickAnd rfl rfl rfl rfl) (hk := ?_) | refine sQ (hk := ?_) | refine sSkip (hk := ?_) | refine sG (hk := ?_) | refine sOwn (hk := ?_))); refine aSeq_nil ?_)
  refine h3 _ ?_
  refine nT (hk := ?_)
  refine Awp.block ?_
  refine Awp.loopF (fun i : Nat => ⟨[.bs tInt l, .lit (.int .i64 n), .any, .any, .any, .lit (.int .i64 (i : Int)), .any, .any, .any, .any, .any, .any, .any, .any, .any, .any, .any, .any], []⟩) (fun i => i ≤ l.length ∧ (l.take i).contains n = false) (fun i => l.length - i) 0 ⟨Nat.zero_le _, rfl⟩ (le_T) ?_
  rintro i ⟨hi, hc⟩
  refine Awp.seq fun K4 h4 => ?_
  refine Awp.seq fun K5 h5 => ?_
  (refine Awp.region ?_; (repeat (first | refine sQ (hq := Quiet.pickOr rfl rfl rfl rfl) (hk := ?_) | refine sQ (hq := Quiet.pickAnd rfl rfl rfl rfl) (hk := ?_) | refine sQ (hk := ?_) | refine sSkip (hk := ?_) | refine sG (hk := ?_) | refine sOwn (hk := ?_))); refine aSeq_nil ?_)
  refine h5 _ ?_
  refine nT (hk := ?_)
  refine Awp.cond rfl (fun hb => ?_) (fun hb => ?_)
  · have hlt : i < l.length := by simpa using hb
    obtain ⟨x, hx⟩ : ∃ x, l[i]? = some x := ⟨_, List.getElem?_eq_getElem hlt⟩
    refine Awp.skip ?_
    refine h4 _ ?_
    refine nT (hk := ?_)
    refine Awp.seq fun K6 h6 => ?_
    refine Awp.block ?_
    refine Awp.seq fun K7 h7 => ?_
    (refine Awp.region ?_; (repeat (first | refine sQ (hq := Quiet.pickOr rfl rfl rfl rfl) (hk := ?_) | refine sQ (hq := Quiet.pickAnd rfl rfl rfl rfl) (hk := ?_) | refine sQ (hk := ?_) | refine sSkip (hk := ?_) | refine sG (hk := ?_) | refine sOwn (hk := ?_))); refine aSeq_nil ?_)
    refine h7 _ ?_
    refine nT (hk := ?_)
    refine Awp.cond rfl (fun hb2 => ?_) (fun hb2 => ?_)
    · have hxn : x = n := by simpa using hb2
      have hcn : l.contains n = true := by rw [← hxn]; exact List.contains_iff_mem.2 (List.mem_of_getElem? hx)
      refine Awp.seq fun K8 h8 => ?_
      (refine Awp.region ?_; (repeat (first | refine sQ (hq := Quiet.pickOr rfl rfl rfl rfl) (hk := ?_) | refine sQ (hq := Quiet.pickAnd rfl rfl rfl rfl) (hk := ?_) | refine sQ (hk := ?_) | refine sSkip (hk := ?_) | refine sG (hk := ?_) | refine sOwn (hk := ?_))); refine aSeq_nil ?_)
      refine h8 _ ?_
      refine nT (hk := ?_)
      refine Awp.ret ?_
      rw [hcn]
      exact ⟨.inr rfl, Fin.cl rfl⟩
    · have hxn : ¬ x = n := by simpa using hb2
      refine Awp.skip ?_
      refine h6 _ ?_
      refine nT (hk := ?_)
      (refine Awp.region ?_; (repeat (first | refine sQ (hq := Quiet.pickOr rfl rfl rfl rfl) (hk := ?_) | refine sQ (hq := Quiet.pickAnd rfl rfl rfl rfl) (hk := ?_) | refine sQ (hk := ?_) | refine sSkip (hk := ?_) | refine sG (hk := ?_) | refine sOwn (hk := ?_))); refine aSeq_nil ?_)
      refine athen_n ⟨i + 1, ⟨by omega, ?_⟩, by omega, le_T⟩
      rw [List.take_add_one, hx, List.contains_eq_mem] at *
      simp only [Option.toList_some, List.mem_append, List.mem_cons, List.not_mem_nil, or_false, decide_eq_false_iff_not, not_or] at hc ⊢
      exact ⟨by simpa [List.contains_eq_mem] using hc, fun e => hxn e.symm⟩
  · have hie : i = l.length := by have : ¬ i < l.length := by simpa using hb
                                  omega
    rw [hie, List.take_length] at hc
    refine Awp.exit ?_
    refine h2 _ ?_
    refine nT (hk := ?_)
    refine Awp.seq fun K9 h9 => ?_
    (refine Awp.region ?_; (repeat (first | refine sQ (hq := Quiet.pickOr rfl rfl rfl rfl) (hk := ?_) | refine sQ (hq := Quiet.pickAnd rfl rfl rfl rfl) (hk := ?_) | refine sQ (hk := ?_) | refine sSkip (hk := ?_) | refine sG (hk := ?_) | refine sOwn (hk := ?_))); refine aSeq_nil ?_)
    refine h9 _ ?_
    refine nT (hk := ?_)
    refine Awp.ret ?_
    rw [hc]
    exact ⟨.inr rfl, Fin.cl rfl⟩

/-! ### a number is put into a rising row -/
def stepW (n : Int) (s : List Int × Bool) (x : Int) : List Int × Bool := if (!s.2 && decide (x > n)) = true then (s.1 ++ [n] ++ [x], true) else (s.1 ++ [x], s.2)
def foldW (n : Int) (l : List Int) : List Int × Bool := l.foldl (stepW n) ([], false)
def withL (l : List Int) (n : Int) : List Int := if l.contains n then l else if (!(foldW n l).2) = true then (foldW n l).1 ++ [n] else (foldW n l).1
theorem foldW_next {n : Int} {l : List Int} {i : Nat} {x : Int} (h : l[i]? = some x) : foldW n (l.take (i + 1)) = stepW n (foldW n (l.take i)) x := by
  unfold foldW
  rw [List.take_add_one, h, List.foldl_append]
  rfl
theorem foldW_len (n : Int) (l : List Int) : (foldW n l).1.length + (if (foldW n l).2 then 0 else 1) = l.length + 1 ∧ (wfI .i64 n → okInts l → okInts (foldW n l).1) := by
  suffices h : ∀ (l : List Int) (s : List Int × Bool), (l.foldl (stepW n) s).1.length + (if (l.foldl (stepW n) s).2 then 0 else 1) = s.1.length + (if s.2 then 0 else 1) + l.length ∧ (wfI .i64 n → okInts s.1 → okInts l → okInts (l.foldl (stepW n) s).1) by
    obtain ⟨h1, h2⟩ := h l ([], false)
    refine ⟨?_, fun a b => h2 a (fun r hr => by cases hr) b⟩
    unfold foldW
    rw [h1]
    simp
    omega
  intro l
  induction l with
  | nil => exact fun s => ⟨rfl, fun _ h _ => h⟩
  | cons x l ih =>
    intro s
    obtain ⟨h1, h2⟩ := ih (stepW n s x)
    rw [List.foldl_cons]
    refine ⟨?_, fun a b c => h2 a ?_ fun r hr => c r (List.mem_cons_of_mem _ hr)⟩
    · rw [h1]
      unfold stepW
      obtain ⟨o, d⟩ := s
      cases d
      · by_cases hx : x > n <;> simp [hx] <;> omega
      · simp; omega
    · unfold stepW
      have hx := c x (List.mem_cons_self ..)
      split
      · intro r hr
        simp only [List.mem_append, List.mem_cons, List.not_mem_nil, or_false] at hr
        rcases hr with (hr | rfl) | rfl
        · exact b r hr
        · exact a
        · exact hx
      · intro r hr
        simp only [List.mem_append, List.mem_cons, List.not_mem_nil, or_false] at hr
        rcases hr with hr | rfl
        · exact b r hr
        · exact hx
theorem withL_len (l : List Int) (n : Int) : (withL l n).length ≤ l.length + 1 ∧ (wfI .i64 n → okInts l → okInts (withL l n)) := by
  have h := foldW_len n l
  unfold withL
  split
  · exact ⟨by omega, fun _ h => h⟩
  · split
    · rename_i hd
      have hd : (foldW n l).2 = false := by simpa using hd
      rw [hd] at h
      have h1 := h.1
      simp only [Bool.false_eq_true, if_false] at h1
      refine ⟨by simp; omega, fun a b r hr => ?_⟩
      rcases List.mem_append.1 hr with hr | hr
      · exact h.2 a b r hr
      · rw [List.mem_singleton.1 hr]; exact a
    · refine ⟨?_, fun a b => h.2 a b⟩
      have h1 := h.1
      omega
set_option maxRecDepth 100000 in
set_option maxHeartbeats 1000000 in
theorem with18_fn (l : List Int) (n : Int) (hl : l.length ≤ 2097152) (ho : okInts l) (hn : wfI .i64 n) : Fn Tryd.prog 36 [.bs tInt l, .lit (.int .i64 n)] (.bs tInt (withL l n)) := by
  have hin := in18_fn l n hl
  refine Fn.of_awp Tryd.func36 rfl (by kernel_rfl) rfl Tryd.ntmps36 fun C hC => ?_
  simp only [List.length_cons, List.length_nil, Nat.reduceAdd, Nat.reduceSub, List.replicate_succ, List.replicate_zero, List.cons_append, List.nil_append]
  refine Awp.seq fun K1 h1 => ?_
  (refine Awp.region ?_; (repeat (first | refine sQ (hq := Quiet.pickOr rfl rfl rfl rfl) (hk := ?_) | refine sQ (hq := Quiet.pickAnd rfl rfl rfl rfl) (hk := ?_) | refine sQ (hk := ?_) | refine sSkip (hk := ?_) | refine sG (hk := ?_) | refine sOwn (hk := ?_))); refine aSeq_nil ?_)
  refine h1 _ ?_
  refine nT (hk := ?_)
  refine Awp.seq fun K2 h2 => ?_
  refine Awp.seq fun K3 h3 => ?_
  (refine Awp.region ?_; (repeat (first | refine sQ (hq := Quiet.call rfl hin rfl rfl rfl) (hk := ?_) | refine sQ (hq := Quiet.pickOr rfl rfl rfl rfl) (hk := ?_) | refine sQ (hq := Quiet.pickAnd rfl rfl rfl rfl) (hk := ?_) | refine sQ (hk := ?_) | refine sSkip (hk := ?_) | refine sG (hg := by first | rfl | exact gA_c rfl rfl) (hq := by (intro hg; (try simp only [Bool.and_eq_true, beq_iff_eq] at hg); (try simp only [hg, cond_true, Bool.true_and, beq_self_eq_true]); exact Quiet.call rfl hin rfl rfl rfl)) (hk := ?_) | refine sG (hk := ?_) | refine sOwn (hk := ?_))); refine aSeq_nil ?_)
  refine h3 _ ?_
  refine nT (hk := ?_)
  refine Awp.cond rfl (fun hb4 => ?_) (fun hb4 => ?_)
  · refine Awp.seq fun K5 h5 => ?_
    (refine Awp.region ?_; (repeat (first | refine sQ (hq := Quiet.pickOr rfl rfl rfl rfl) (hk := ?_) | refine sQ (hq := Quiet.pickAnd rfl rfl rfl rfl) (hk := ?_) | refine sQ (hk := ?_) | refine sSkip (hk := ?_) | refine sG (hk := ?_) | refine sOwn (hk := ?_))); refine aSeq_nil ?_)
    refine h5 _ ?_
    refine nT (hk := ?_)
    refine Awp.ret ?_
    rw [show withL l n = l from by unfold withL; rw [hb4]; rfl]
    exact ⟨.inr rfl, Fin.cl rfl⟩
  · refine Awp.skip ?_
    refine h2 _ ?_
    refine nT (hk := ?_)
    refine Awp.seq fun K6 h6 => ?_
    (refine Awp.region ?_; (repeat (first | refine sQ (hq := Quiet.pickOr rfl rfl rfl rfl) (hk := ?_) | refine sQ (hq := Quiet.pickAnd rfl rfl rfl rfl) (hk := ?_) | refine sQ (hk := ?_) | refine sSkip (hk := ?_) | refine sG (hk := ?_) | refine sOwn (hk := ?_))); refine aSeq_nil ?_)
    refine h6 _ ?_
    refine nT (hk := ?_)
    refine Awp.seq fun K7 h7 => ?_
    (refine Awp.region ?_; (repeat (first | refine sQ (hq := Quiet.pickOr rfl rfl rfl rfl) (hk := ?_) | refine sQ (hq := Quiet.pickAnd rfl rfl rfl rfl) (hk := ?_) | refine sQ (hk := ?_) | refine sSkip (hk := ?_) | refine sG (hk := ?_) | refine sOwn (hk := ?_))); refine aSeq_nil ?_)
    refine h7 _ ?_
    refine nT (hk := ?_)
    refine Awp.seq fun K8 h8 => ?_
    refine Awp.seq fun K9 h9 => ?_
    (refine Awp.region ?_; (repeat (first | refine sQ (hq := Quiet.pickOr rfl rfl rfl rfl) (hk := ?_) | refine sQ (hq := Quiet.pickAnd rfl rfl rfl rfl) (hk := ?_) | refine sQ (hk := ?_) | refine sSkip (hk := ?_) | refine sG (hk := ?_) | refine sOwn (hk := ?_))); refine aSeq_nil ?_)
    refine h9 _ ?_
    refine nT (hk := ?_)
    refine Awp.block ?_
    refine Awp.loopF (fun p : Nat × Nat => ⟨[.bs tInt l, .lit (.int .i64 n), .any, .any, .any, .own 0 p.2, .lit (.bool (foldW n (l.take p.1)).2), .lit (.int .i64 (p.1 : Int)), .any, .any, .any, .any, .any, .any, .any, .any, .any, .any, .any, .any, .any, .any, .any, .any, .any, .any, .any, .any, .any, .any, .any, .any, .any, .any, .any, .any, .any, .any, .any, .any, .any, .any, .any, .any, .any, .any], [.row p.2 3 tInt (foldW n (l.take p.1)).1]⟩) (fun p => p.1 ≤ l.length) (fun p => l.length - p.1) (0, 0) (Nat.zero_le _) ((St.le_nil 5 3 tInt rfl (by decide)).trans (le_T)) ?_
    rintro ⟨i, ver⟩ hi
    dsimp only at hi ⊢
    have hfl := (foldW_len n (l.take i)).1
    rw [List.length_take] at hfl
    have hnx : ∀ x, l[i]? = some x → foldW n (l.take (i + 1)) = stepW n (foldW n (l.take i)) x := fun x hx => foldW_next hx
    have hfin : i = l.length → foldW n l = foldW n (l.take i) := fun e => by rw [e, List.take_length]
    generalize foldW n (l.take i) = s at hfl hnx hfin ⊢
    obtain ⟨o, d⟩ := s
    dsimp only at hfl hnx hfin ⊢
    have hol : o.length ≤ 2097154 := by omega
    refine Awp.seq fun K11 h11 => ?_
    refine Awp.seq fun K12 h12 => ?_
    (refine Awp.region ?_; (repeat (first | refine sQ (hq := Quiet.pickOr rfl rfl rfl rfl) (hk := ?_) | refine sQ (hq := Quiet.pickAnd rfl rfl rfl rfl) (hk := ?_) | refine sQ (hk := ?_) | refine sSkip (hk := ?_) | refine sG (hk := ?_) | refine sOwn (hk := ?_))); refine aSeq_nil ?_)
    refine h12 _ ?_
    refine nT (hk := ?_)
    refine Awp.cond rfl (fun hb13 => ?_) (fun hb13 => ?_)
    · have hlt : i < l.length := by simpa using hb13
      obtain ⟨x, hx⟩ : ∃ x, l[i]? = some x := ⟨_, List.getElem?_eq_getElem hlt⟩
      have hxw := ho x (List.mem_of_getElem? hx)
      have hnx := hnx x hx
      refine Awp.skip ?_
      refine h11 _ ?_
      refine nT (hk := ?_)
      refine Awp.seq fun K14 h14 => ?_
      refine Awp.block ?_
      refine Awp.seq fun K15 h15 => ?_
      refine Awp.seq fun K16 h16 => ?_
      (refine Awp.region ?_; (repeat (first | refine sQ (hq := Quiet.pickOr rfl rfl rfl rfl) (hk := ?_) | refine sQ (hq := Quiet.pickAnd rfl rfl rfl rfl) (hk := ?_) | refine sQ (hk := ?_) | refine sSkip (hk := ?_) | refine sG (hk := ?_) | refine sOwn (hk := ?_))); refine aSeq_nil ?_)
      refine h16 _ ?_
      refine nT (hk := ?_)
      refine Awp.cond rfl (fun hb17 => ?_) (fun hb17 => ?_)
      · have e1 : stepW n (o, d) x = (o ++ [n] ++ [x], true) := if_pos hb17
        rw [e1] at hnx
        refine Awp.seq fun K18 h18 => ?_
        (refine Awp.region ?_; (repeat (first | refine sQ (hq := Quiet.pickOr rfl rfl rfl rfl) (hk := ?_) | refine sQ (hq := Quiet.pickAnd rfl rfl rfl rfl) (hk := ?_) | refine sQ (hk := ?_) | refine sSkip (hk := ?_) | refine sG (hk := ?_) | refine sOwn (hk := ?_))); refine aSeq_nil ?_)
        refine h18 _ ?_
        refine nT (hk := ?_)
        (refine Awp.region ?_; (repeat (first | refine sQ (hq := Quiet.pickOr rfl rfl rfl rfl) (hk := ?_) | refine sQ (hq := Quiet.pickAnd rfl rfl rfl rfl) (hk := ?_) | refine sQ (hk := ?_) | refine sSkip (hk := ?_) | refine sG (hk := ?_) | refine sOwn (hk := ?_))); refine aSeq_nil ?_)
        refine h15 _ ?_
        refine nT (hk := ?_)
        (refine Awp.region ?_; (repeat (first | refine sQ (hq := Quiet.pickOr rfl rfl rfl rfl) (hk := ?_) | refine sQ (hq := Quiet.pickAnd rfl rfl rfl rfl) (hk := ?_) | refine sQ (hk := ?_) | refine sSkip (hk := ?_) | refine sG (hk := ?_) | refine sOwn (hk := ?_))); refine aSeq_nil ?_)
        refine h14 _ ?_
        refine nT (hk := ?_)
        (refine Awp.region ?_; (repeat (first | refine sQ (hq := Quiet.pickOr rfl rfl rfl rfl) (hk := ?_) | refine sQ (hq := Quiet.pickAnd rfl rfl rfl rfl) (hk := ?_) | refine sQ (hk := ?_) | refine sSkip (hk := ?_) | refine sG (hk := ?_) | refine sOwn (hk := ?_))); refine aSeq_nil ?_)
        refine athen_n ⟨(i + 1, ver + 2), by dsimp only; omega, by dsimp only; omega, ?_⟩
        dsimp only
        rw [hnx]
        exact le_T
      · have e1 : stepW n (o, d) x = (o ++ [x], d) := if_neg (by rw [show (!(o, d).2 && decide (x > n)) = false from hb17]; simp)
        rw [e1] at hnx
        refine Awp.skip ?_
        refine h15 _ ?_
        refine nT (hk := ?_)
        (refine Awp.region ?_; (repeat (first | refine sQ (hq := Quiet.pickOr rfl rfl rfl rfl) (hk := ?_) | refine sQ (hq := Quiet.pickAnd rfl rfl rfl rfl) (hk := ?_) | refine sQ (hk := ?_) | refine sSkip (hk := ?_) | refine sG (hk := ?_) | refine sOwn (hk := ?_))); refine aSeq_nil ?_)
        refine h14 _ ?_
        refine nT (hk := ?_)
        (refine Awp.region ?_; (repeat (first | refine sQ (hq := Quiet.pickOr rfl rfl rfl rfl) (hk := ?_) | refine sQ (hq := Quiet.pickAnd rfl rfl rfl rfl) (hk := ?_) | refine sQ (hk := ?_) | refine sSkip (hk := ?_) | refine sG (hk := ?_) | refine sOwn (hk := ?_))); refine aSeq_nil ?_)
        refine athen_n ⟨(i + 1, ver + 1), by dsimp only; omega, by dsimp only; omega, ?_⟩
        dsimp only
        rw [hnx]
        exact le_T
    · have hie : i = l.length := by have : ¬ i < l.length := by simpa using hb13
                                    omega
      have hfin := hfin hie
      have hc : l.contains n = false := hb4
      refine Awp.exit ?_
      refine h8 _ ?_
      refine nT (hk := ?_)
      refine Awp.seq fun K19 h19 => ?_
      refine Awp.seq fun K20 h20 => ?_
      (refine Awp.region ?_; (repeat (first | refine sQ (hq := Quiet.pickOr rfl rfl rfl rfl) (hk := ?_) | refine sQ (hq := Quiet.pickAnd rfl rfl rfl rfl) (hk := ?_) | refine sQ (hk := ?_) | refine sSkip (hk := ?_) | refine sG (hk := ?_) | refine sOwn (hk := ?_))); refine aSeq_nil ?_)
      refine h20 _ ?_
      refine nT (hk := ?_)
      refine Awp.cond rfl (fun hb21 => ?_) (fun hb21 => ?_)
      · have e2 : withL l n = o ++ [n] := by unfold withL; rw [hc, if_neg (by simp), hfin, if_pos hb21]
        (refine Awp.region ?_; (repeat (first | refine sQ (hq := Quiet.pickOr rfl rfl rfl rfl) (hk := ?_) | refine sQ (hq := Quiet.pickAnd rfl rfl rfl rfl) (hk := ?_) | refine sQ (hk := ?_) | refine sSkip (hk := ?_) | refine sG (hk := ?_) | refine sOwn (hk := ?_))); refine aSeq_nil ?_)
        refine h19 _ ?_
        refine nT (hk := ?_)
        refine Awp.seq fun K22 h22 => ?_
        (refine Awp.region ?_; (repeat (first | refine sQ (hq := Quiet.pickOr rfl rfl rfl rfl) (hk := ?_) | refine sQ (hq := Quiet.pickAnd rfl rfl rfl rfl) (hk := ?_) | refine sQ (hk := ?_) | refine sSkip (hk := ?_) | refine sG (hk := ?_) | refine sOwn (hk := ?_))); refine aSeq_nil ?_)
        refine h22 _ ?_
        refine nT (hk := ?_)
        refine Awp.ret ?_
        rw [e2]
        exact ⟨.inr rfl, Fin.own rfl⟩
      · have e2 : withL l n = o := by unfold withL; rw [hc, if_neg (by simp), hfin, if_neg (by rw [show (!(o, d).2) = false from hb21]; simp)]
        refine Awp.skip ?_
        refine h19 _ ?_
        refine nT (hk := ?_)
        refine Awp.seq fun K23 h23 => ?_
        (refine Awp.region ?_; (repeat (first | refine sQ (hq := Quiet.pickOr rfl rfl rfl rfl) (hk := ?_) | refine sQ (hq := Quiet.pickAnd rfl rfl rfl rfl) (hk := ?_) | refine sQ (hk := ?_) | refine sSkip (hk := ?_) | refine sG (hk := ?_) | refine sOwn (hk := ?_))); refine aSeq_nil ?_)
        refine h23 _ ?_
        refine nT (hk := ?_)
        refine Awp.ret ?_
        rw [e2]
        exact ⟨.inr rfl, Fin.own rfl⟩
end Mu
end
section
/-
  muntinref18: Regs, Great, walked.
  Conditions: data of at most 2^21 everywhere.
-/
namespace Mu
open Go Go.RowKit Go.Proofs

def regs18L (f : Func) : List Int := (allX f).foldl withL []
theorem foldWL_len (l : List Int) : (l.foldl withL []).length ≤ l.length ∧ (okInts l → okInts (l.foldl withL [])) := by
  suffices h : ∀ (l s : List Int), (l.foldl withL s).length ≤ s.length + l.length ∧ (okInts s → okInts l → okInts (l.foldl withL s)) by
    obtain ⟨h1, h2⟩ := h l []
    exact ⟨by simpa using h1, fun a => h2 (fun r hr => by cases hr) a⟩
  intro l
  induction l with
  | nil => exact fun s => ⟨Nat.le_refl _, fun h _ => h⟩
  | cons x l ih =>
    intro s
    obtain ⟨h1, h2⟩ := ih (withL s x)
    have h3 := withL_len s x
    rw [List.foldl_cons, List.length_cons]
    exact ⟨by omega, fun a b => h2 (h3.2 (b x (List.mem_cons_self ..)) a) fun r hr => b r (List.mem_cons_of_mem _ hr)⟩
theorem foldWL_next {l : List Int} {k : Nat} {r : Int} (P : List Int) (h : l[k]? = some r) : (P ++ l.take (k + 1)).foldl withL [] = withL ((P ++ l.take k).foldl withL []) r := by
  rw [List.take_add_one, h, ← List.append_assoc, List.foldl_append]
  rfl

set_option maxRecDepth 100000 in
set_option maxHeartbeats 4000000 in
theorem regs18_fn (f : Func) (ho : okFunc f) (hs : smallF f) (hX : (allX f).length ≤ 2097152) : Fn Tryd.prog 16 [.agg (encFunc f)] (.bs tInt (regs18L f)) := by
  have hbl := hs.blocks
  refine Fn.of_awp Tryd.func16 rfl (by kernel_rfl) rfl Tryd.ntmps16 fun C hC => ?_
  simp only [List.length_cons, List.length_nil, Nat.reduceAdd, Nat.reduceSub, List.replicate_succ, List.replicate_zero, List.cons_append, List.nil_append]
  refine Awp.seq fun K1 h1 => ?_
  (refine Awp.region ?_; (repeat (first | refine sQ (hq := Quiet.pickOr rfl rfl rfl rfl) (hk := ?_) | refine sQ (hq := Quiet.pickAnd rfl rfl rfl rfl) (hk := ?_) | refine sQ (hk := ?_) | refine sSkip (hk := ?_) | refine sG (hk := ?_) | refine sOwn (hk := ?_))); refine aSeq_nil ?_)
  refine h1 _ ?_
  refine nT (hk := ?_)
  refine Awp.seq fun K2 h2 => ?_
  (refine Awp.region ?_; (repeat (first | refine sQ (hq := Quiet.pickOr rfl rfl rfl rfl) (hk := ?_) | refine sQ (hq := Quiet.pickAnd rfl rfl rfl rfl) (hk := ?_) | refine sQ (hk := ?_) | refine sSkip (hk := ?_) | refine sG (hk := ?_) | refine sOwn (hk := ?_))); refine aSeq_nil ?_)
  refine h2 _ ?_
  refine nT (hk := ?_)
  refine Awp.seq fun K3 h3 => ?_
  refine Awp.seq fun K4 h4 => ?_
  (refine Awp.region ?_; (repeat (first | refine sQ (hq := Quiet.pickOr rfl rfl rfl rfl) (hk := ?_) | refine sQ (hq := Quiet.pickAnd rfl rfl rfl rfl) (hk := ?_) | refine sQ (hk := ?_) | refine sSkip (hk := ?_) | refine sG (hk := ?_) | refine sOwn (hk := ?_))); refine aSeq_nil ?_)
  refine h4 _ ?_
  refine nT (hk := ?_)
  refine Awp.block ?_
  refine Awp.loopF (fun b : Nat => ⟨[.any, .ptr 0 0, .any, .bs tInt (((f.blocks.take b).flatMap blkX).foldl withL []), .lit (.int .i64 (b : Int)), .any, .any, .any, .any, .any, .any, .any, .any, .any, .any, .any, .any, .any, .any, .any, .any, .any, .any, .any, .any, .any, .any, .any, .any, .any, .any, .any, .any, .any, .any, .any, .any, .any, .any, .any, .any, .any, .any, .any, .any, .any, .any, .any, .any, .any, .any, .any, .any, .any, .any, .any, .any, .any, .any, .any, .any, .any, .any, .any, .any], [.box (encFunc f)]⟩) (fun b => b ≤ f.blocks.length) (fun b => f.blocks.length - b) 0 (Nat.zero_le _) ((St.le_nilbs 3 tInt rfl).trans (le_T)) ?_
  intro b hb
  dsimp only at hb ⊢
  refine Awp.seq fun K6 h6 => ?_
  refine Awp.seq fun K7 h7 => ?_
  (refine Awp.region ?_; (repeat (first | refine sQ (hq := Quiet.pickOr rfl rfl rfl rfl) (hk := ?_) | refine sQ (hq := Quiet.pickAnd rfl rfl rfl rfl) (hk := ?_) | refine sQ (hk := ?_) | refine sSkip (hk := ?_) | refine sG (hk := ?_) | refine sOwn (hk := ?_))); refine aSeq_nil ?_)
  refine h7 _ ?_
  refine nT (hk := ?_)
  refine Awp.cond rfl (fun hb8 => ?_) (fun hb8 => ?_)
  · have hlt : b < f.blocks.length := by simpa using hb8
    obtain ⟨bl, hblk⟩ : ∃ bl, f.blocks[b]? = some bl := ⟨_, List.getElem?_eq_getElem hlt⟩
    have hmem := List.mem_of_getElem? hblk
    have hob := ho.blocks bl hmem
    have hsb := hs.all bl hmem
    have hil := hsb.ins
    have hfn := flat_next (g := blkX) hblk
    refine Awp.skip ?_
    refine h6 _ ?_
    refine nT (hk := ?_)
    refine Awp.seq fun K9 h9 => ?_
    refine Awp.block ?_
    refine Awp.seq fun K10 h10 => ?_
    (refine Awp.region ?_; (repeat (first | refine sQ (hq := Quiet.pickOr rfl rfl rfl rfl) (hk := ?_) | refine sQ (hq := Quiet.pickAnd rfl rfl rfl rfl) (hk := ?_) | refine sQ (hk := ?_) | refine sSkip (hk := ?_) | refine sG (hk := ?_) | refine sOwn (hk := ?_))); refine aSeq_nil ?_)
    refine h10 _ ?_
    refine nT (hk := ?_)
    refine Awp.block ?_
    refine Awp.loopF (fun i : Nat => ⟨[.any, .ptr 0 0, .any, .bs tInt (((f.blocks.take b).flatMap blkX ++ (bl.ins.take i).flatMap regsX).foldl withL []), .lit (.int .i64 (b : Int)), .lit (.int .i64 (i : Int)), .any, .any, .any, .any, .any, .any, .any, .any, .any, .any, .any, .any, .any, .any, .any, .any, .any, .any, .any, .any, .any, .any, .any, .any, .any, .any, .any, .any, .any, .any, .any, .any, .any, .any, .any, .any, .any, .any, .any, .any, .any, .any, .any, .any, .any, .any, .any, .any, .any, .any, .any, .any, .any, .any, .any, .any, .any, .any, .any], [.box (encFunc f)]⟩) (fun i => i ≤ bl.ins.length) (fun i => bl.ins.length - i) 0 (Nat.zero_le _) (by rw [show (f.blocks.take b).flatMap blkX ++ (bl.ins.take 0).flatMap regsX = (f.blocks.take b).flatMap blkX by simp]; exact le_T) ?_
    intro i hi
    dsimp only at hi ⊢
    refine Awp.seq fun K12 h12 => ?_
    refine Awp.seq fun K13 h13 => ?_
    (refine Awp.region ?_; (repeat (first | refine sQ (hq := Quiet.pickOr rfl rfl rfl rfl) (hk := ?_) | refine sQ (hq := Quiet.pickAnd rfl rfl rfl rfl) (hk := ?_) | refine sQ (hk := ?_) | refine sSkip (hk := ?_) | refine sG (hk := ?_) | refine sOwn (hk := ?_))); refine aSeq_nil ?_)
    refine h13 _ ?_
    refine nT (hk := ?_)
    refine Awp.cond rfl (fun hb14 => ?_) (fun hb14 => ?_)
    · have hil2 : i < bl.ins.length := by simpa using hb14
      obtain ⟨x, hx⟩ : ∃ x, bl.ins[i]? = some x := ⟨_, List.getElem?_eq_getElem hil2⟩
      have hxm := List.mem_of_getElem? hx
      have hox := hob.ins x hxm
      have hxl : x.args.length ≤ 2097152 := by have := hsb.all x hxm; omega
      have hxn := flat_next (g := regsX) hx
      have hle := flat2_le (g := regsX) hblk hx
      have hX' : (f.blocks.flatMap fun c => c.ins.flatMap regsX).length ≤ 2097152 := hX
      obtain ⟨P, hP⟩ : ∃ P, (f.blocks.take b).flatMap blkX ++ (bl.ins.take i).flatMap regsX = P := ⟨_, rfl⟩
      have hPl : P.length + (regsX x).length ≤ 2097152 := by
        rw [← hP, List.length_append]
        have : ((f.blocks.take b).flatMap blkX).length = ((f.blocks.take b).flatMap fun c => c.ins.flatMap regsX).length := rfl
        omega
      have hPo : okInts P := by
        rw [← hP]
        intro r hr
        rcases List.mem_append.1 hr with hr | hr
        · obtain ⟨c, hc, hr⟩ := List.mem_flatMap.1 hr
          obtain ⟨y, hy, hr⟩ := List.mem_flatMap.1 hr
          exact regsX_ok ((ho.blocks c (List.mem_of_mem_take hc)).ins y hy) r hr
        · obtain ⟨y, hy, hr⟩ := List.mem_flatMap.1 hr
          exact regsX_ok (hob.ins y (List.mem_of_mem_take hy)) r hr
      have hnx : (f.blocks.take b).flatMap blkX ++ (bl.ins.take (i + 1)).flatMap regsX = P ++ regsX x := by rw [hxn, ← hP, List.append_assoc]
      rw [hP]
      have hrx : regsX x = readsC x ++ if writesB x then [x.d] else [] := rfl
      have hxo := regsX_ok hox
      have hrl : (readsC x).length ≤ (regsX x).length := by rw [hrx, List.length_append]; omega
      have hn1 : ([] : List Int).length + (readsC x).length ≤ maxLen := by simp [maxLen]; omega
      have hn2 : (([] : List Int).length + (readsC x).length) * 8 ≤ 140737488355328 := by simp; omega
      refine Awp.skip ?_
      refine h12 _ ?_
      refine nT (hk := ?_)
      refine Awp.seq fun K15 h15 => ?_
      refine Awp.block ?_
      refine Awp.seq fun K16 h16 => ?_
      (refine Awp.region ?_; (repeat (first | refine sQ (hq := Quiet.pickOr rfl rfl rfl rfl) (hk := ?_) | refine sQ (hq := Quiet.pickAnd rfl rfl rfl rfl) (hk := ?_) | refine sQ (hk := ?_) | refine sSkip (hk := ?_) | refine sG (hk := ?_) | refine sOwn (hk := ?_))); refine aSeq_nil ?_)
      refine h16 _ ?_
      refine nT (hk := ?_)
      refine Awp.seq fun K17 h17 => ?_
      (refine Awp.region ?_; (repeat (first | (refine aSeq_t rfl (AOp.lit (s := ⟨_, _⟩) (T := tInt) (xs := []) (ds := []) (e := 3) (bytes := 8) rfl rfl rfl (by kernel_rfl) (by decide) (by decide) .nil ?_); refine sNt (hk := ?_)) | refine sQ (hq := Quiet.call rfl (ref_reads_fn x hox hxl) rfl rfl rfl) (hk := ?_) | refine sQ (hq := Quiet.pickOr rfl rfl rfl rfl) (hk := ?_) | refine sQ (hq := Quiet.pickAnd rfl rfl rfl rfl) (hk := ?_) | refine sQ (hk := ?_) | refine sSkip (hk := ?_) | refine sG (hg := by first | rfl | exact gA_c rfl rfl) (hq := by (intro hg; (try simp only [] at hg); (try simp only [hg, cond_true, Bool.true_and, beq_self_eq_true]); exact Quiet.call rfl (ref_reads_fn x hox hxl) rfl rfl rfl)) (hk := ?_) | refine sG (hk := ?_) | refine sOwn (hk := ?_))); refine aSeq_nil ?_)
      refine h17 _ ?_
      refine nT (hk := ?_)
      refine Awp.seq fun K18 h18 => ?_
      (refine Awp.region ?_; (repeat (first | refine sQ (hq := Quiet.call rfl (ref_writes_fn x hox) rfl rfl rfl) (hk := ?_) | refine sQ (hq := Quiet.pickOr rfl rfl rfl rfl) (hk := ?_) | refine sQ (hq := Quiet.pickAnd rfl rfl rfl rfl) (hk := ?_) | refine sQ (hk := ?_) | refine sSkip (hk := ?_) | refine sG (hg := by first | rfl | exact gA_c rfl rfl) (hq := by (intro hg; (try simp only [Bool.and_eq_true, beq_iff_eq] at hg); (try simp only [hg, cond_true, Bool.true_and, beq_self_eq_true]); exact Quiet.call rfl (ref_writes_fn x hox) rfl rfl rfl)) (hk := ?_) | refine sG (hk := ?_) | refine sOwn (hk := ?_))); refine aSeq_nil ?_)
      refine h18 _ ?_
      refine nT (hk := ?_)
      refine Awp.seq fun K19 h19 => ?_
      refine Awp.seq fun K20 h20 => ?_
      (refine Awp.region ?_; (repeat (first | refine sQ (hq := Quiet.pickOr rfl rfl rfl rfl) (hk := ?_) | refine sQ (hq := Quiet.pickAnd rfl rfl rfl rfl) (hk := ?_) | refine sQ (hk := ?_) | refine sSkip (hk := ?_) | refine sG (hk := ?_) | refine sOwn (hk := ?_))); refine aSeq_nil ?_)
      refine h20 _ ?_
      refine nT (hk := ?_)
      refine Awp.cond rfl (fun hb21 => ?_) (fun hb21 => ?_)
      · rw [hb21, if_pos rfl] at hrx
        have e1 : (if writesB x = true then x.d else 0) = x.d := if_pos hb21
        have hwd := hox.d
        rw [e1]
        have hn3 : (readsC x).length + [x.d].length ≤ maxLen := by simp [maxLen]; omega
        have hn4 : ((readsC x).length + [x.d].length) * 8 ≤ 140737488355328 := by simp; omega
        (refine Awp.region ?_; (repeat (first | refine sQ (hq := Quiet.pickOr rfl rfl rfl rfl) (hk := ?_) | refine sQ (hq := Quiet.pickAnd rfl rfl rfl rfl) (hk := ?_) | refine sQ (hk := ?_) | refine sSkip (hk := ?_) | refine sG (hk := ?_) | refine sOwn (hk := ?_))); refine aSeq_nil ?_)
        refine h19 _ ?_
        refine nT (hk := ?_)
        refine Awp.seq fun K22 h22 => ?_
        (refine Awp.region ?_; (repeat (first | refine sQ (hq := Quiet.pickOr rfl rfl rfl rfl) (hk := ?_) | refine sQ (hq := Quiet.pickAnd rfl rfl rfl rfl) (hk := ?_) | refine sQ (hk := ?_) | refine sSkip (hk := ?_) | refine sG (hk := ?_) | refine sOwn (hk := ?_))); refine aSeq_nil ?_)
        refine h22 _ ?_
        refine nT (hk := ?_)
        refine Awp.block ?_
        refine Awp.loopF (fun k : Nat => ⟨[.any, .ptr 0 0, .any, .bs tInt ((P ++ (regsX x).take k).foldl withL []), .lit (.int .i64 (b : Int)), .lit (.int .i64 (i : Int)), .any, .own 2 2, .any, .any, .lit (.int .i64 (k : Int)), .any, .any, .any, .any, .any, .any, .any, .any, .any, .any, .any, .any, .any, .any, .any, .any, .any, .any, .any, .any, .any, .any, .any, .any, .any, .any, .any, .any, .any, .any, .any, .any, .any, .any, .any, .any, .any, .any, .any, .any, .any, .any, .any, .any, .any, .any, .any, .any, .any, .any, .any, .any, .any, .any], [.box (encFunc f), .dead, .row 2 3 tInt (regsX x)]⟩) (fun k => k ≤ (regsX x).length) (fun k => (regsX x).length - k) 0 (Nat.zero_le _) (by rw [show P ++ (regsX x).take 0 = P by simp, hrx]; exact le_C (.cons (.dead (.cons (Cut.nil _))))) ?_
        intro k hk
        have hkl : (P ++ (regsX x).take k).length ≤ 2097152 := by rw [List.length_append, List.length_take]; omega
        have hko : okInts (P ++ (regsX x).take k) := fun r hr => by
          rcases List.mem_append.1 hr with hr | hr
          · exact hPo r hr
          · exact hxo r (List.mem_of_mem_take hr)
        obtain ⟨hl1, hl2⟩ := foldWL_len (P ++ (regsX x).take k)
        have hl2 := hl2 hko
        have hknx : ∀ r, (regsX x)[k]? = some r → (P ++ (regsX x).take (k + 1)).foldl withL [] = withL ((P ++ (regsX x).take k).foldl withL []) r := fun r hr => foldWL_next P hr
        have hkfin : k = (regsX x).length → (P ++ (regsX x).take k).foldl withL [] = (P ++ regsX x).foldl withL [] := fun e => by rw [e, List.take_length]
        dsimp only at hk ⊢
        generalize (P ++ (regsX x).take k).foldl withL [] = O at hl1 hl2 hknx hkfin ⊢
        refine Awp.seq fun K24 h24 => ?_
        refine Awp.seq fun K25 h25 => ?_
        (refine Awp.region ?_; (repeat (first | refine sQ (hq := Quiet.pickOr rfl rfl rfl rfl) (hk := ?_) | refine sQ (hq := Quiet.pickAnd rfl rfl rfl rfl) (hk := ?_) | refine sQ (hk := ?_) | refine sSkip (hk := ?_) | refine sG (hk := ?_) | refine sOwn (hk := ?_))); refine aSeq_nil ?_)
        refine h25 _ ?_
        refine nT (hk := ?_)
        refine Awp.cond rfl (fun hb26 => ?_) (fun hb26 => ?_)
        · have hklt : k < (regsX x).length := by simpa using hb26
          obtain ⟨r, hr⟩ : ∃ r, (regsX x)[k]? = some r := ⟨_, List.getElem?_eq_getElem hklt⟩
          have hrw := hxo r (List.mem_of_getElem? hr)
          have hknx := hknx r hr
          refine Awp.skip ?_
          refine h24 _ ?_
          refine nT (hk := ?_)
          refine Awp.seq fun K27 h27 => ?_
          refine Awp.block ?_
          (refine Awp.region ?_; (repeat (first | refine sQ (hq := Quiet.call rfl (with18_fn O r (by omega) hl2 hrw) rfl rfl rfl) (hk := ?_) | refine sQ (hq := Quiet.pickOr rfl rfl rfl rfl) (hk := ?_) | refine sQ (hq := Quiet.pickAnd rfl rfl rfl rfl) (hk := ?_) | refine sQ (hk := ?_) | refine sSkip (hk := ?_) | refine sG (hg := by first | rfl | exact gA_c rfl rfl) (hq := by (intro hg; (try simp only [Bool.and_eq_true, beq_iff_eq] at hg); (try simp only [hg, cond_true, Bool.true_and, beq_self_eq_true]); exact Quiet.call rfl (with18_fn O r (by omega) hl2 hrw) rfl rfl rfl)) (hk := ?_) | refine sG (hk := ?_) | refine sOwn (hk := ?_))); refine aSeq_nil ?_)
          refine h27 _ ?_
          refine nT (hk := ?_)
          (refine Awp.region ?_; (repeat (first | refine sQ (hq := Quiet.pickOr rfl rfl rfl rfl) (hk := ?_) | refine sQ (hq := Quiet.pickAnd rfl rfl rfl rfl) (hk := ?_) | refine sQ (hk := ?_) | refine sSkip (hk := ?_) | refine sG (hk := ?_) | refine sOwn (hk := ?_))); refine aSeq_nil ?_)
          refine athen_n ⟨k + 1, by omega, by omega, ?_⟩
          rw [hknx]
          exact le_T
        · have hke : k = (regsX x).length := by have : ¬ k < (regsX x).length := by simpa using hb26
                                                omega
          have hkfin := hkfin hke
          refine Awp.exit ?_
          refine h15 _ ?_
          refine nT (hk := ?_)
          (refine Awp.region ?_; (repeat (first | refine sQ (hq := Quiet.pickOr rfl rfl rfl rfl) (hk := ?_) | refine sQ (hq := Quiet.pickAnd rfl rfl rfl rfl) (hk := ?_) | refine sQ (hk := ?_) | refine sSkip (hk := ?_) | refine sG (hk := ?_) | refine sOwn (hk := ?_))); refine aSeq_nil ?_)
          refine athen_n ⟨i + 1, by omega, by omega, ?_⟩
          rw [hnx, ← hkfin]
          exact le_C (.cons (Cut.nil _))
      · rw [hb21, if_neg (by simp), List.append_nil] at hrx
        refine Awp.skip ?_
        refine h19 _ ?_
        refine nT (hk := ?_)
        refine Awp.seq fun K22 h22 => ?_
        (refine Awp.region ?_; (repeat (first | refine sQ (hq := Quiet.pickOr rfl rfl rfl rfl) (hk := ?_) | refine sQ (hq := Quiet.pickAnd rfl rfl rfl rfl) (hk := ?_) | refine sQ (hk := ?_) | refine sSkip (hk := ?_) | refine sG (hk := ?_) | refine sOwn (hk := ?_))); refine aSeq_nil ?_)
        refine h22 _ ?_
        refine nT (hk := ?_)
        refine Awp.block ?_
        refine Awp.loopF (fun k : Nat => ⟨[.any, .ptr 0 0, .any, .bs tInt ((P ++ (regsX x).take k).foldl withL []), .lit (.int .i64 (b : Int)), .lit (.int .i64 (i : Int)), .any, .own 2 1, .any, .any, .lit (.int .i64 (k : Int)), .any, .any, .any, .any, .any, .any, .any, .any, .any, .any, .any, .any, .any, .any, .any, .any, .any, .any, .any, .any, .any, .any, .any, .any, .any, .any, .any, .any, .any, .any, .any, .any, .any, .any, .any, .any, .any, .any, .any, .any, .any, .any, .any, .any, .any, .any, .any, .any, .any, .any, .any, .any, .any, .any], [.box (encFunc f), .dead, .row 1 3 tInt (regsX x)]⟩) (fun k => k ≤ (regsX x).length) (fun k => (regsX x).length - k) 0 (Nat.zero_le _) (by rw [show P ++ (regsX x).take 0 = P by simp, hrx]; exact le_C (.cons (.dead (.cons (Cut.nil _))))) ?_
        intro k hk
        have hkl : (P ++ (regsX x).take k).length ≤ 2097152 := by rw [List.length_append, List.length_take]; omega
        have hko : okInts (P ++ (regsX x).take k) := fun r hr => by
          rcases List.mem_append.1 hr with hr | hr
          · exact hPo r hr
          · exact hxo r (List.mem_of_mem_take hr)
        obtain ⟨hl1, hl2⟩ := foldWL_len (P ++ (regsX x).take k)
        have hl2 := hl2 hko
        have hknx : ∀ r, (regsX x)[k]? = some r → (P ++ (regsX x).take (k + 1)).foldl withL [] = withL ((P ++ (regsX x).take k).foldl withL []) r := fun r hr => foldWL_next P hr
        have hkfin : k = (regsX x).length → (P ++ (regsX x).take k).foldl withL [] = (P ++ regsX x).foldl withL [] := fun e => by rw [e, List.take_length]
        dsimp only at hk ⊢
        generalize (P ++ (regsX x).take k).foldl withL [] = O at hl1 hl2 hknx hkfin ⊢
        refine Awp.seq fun K24 h24 => ?_
        refine Awp.seq fun K25 h25 => ?_
        (refine Awp.region ?_; (repeat (first | refine sQ (hq := Quiet.pickOr rfl rfl rfl rfl) (hk := ?_) | refine sQ (hq := Quiet.pickAnd rfl rfl rfl rfl) (hk := ?_) | refine sQ (hk := ?_) | refine sSkip (hk := ?_) | refine sG (hk := ?_) | refine sOwn (hk := ?_))); refine aSeq_nil ?_)
        refine h25 _ ?_
        refine nT (hk := ?_)
        refine Awp.cond rfl (fun hb26 => ?_) (fun hb26 => ?_)
        · have hklt : k < (regsX x).length := by simpa using hb26
          obtain ⟨r, hr⟩ : ∃ r, (regsX x)[k]? = some r := ⟨_, List.getElem?_eq_getElem hklt⟩
          have hrw := hxo r (List.mem_of_getElem? hr)
          have hknx := hknx r hr
          refine Awp.skip ?_
          refine h24 _ ?_
          refine nT (hk := ?_)
          refine Awp.seq fun K27 h27 => ?_
          refine Awp.block ?_
          (refine Awp.region ?_; (repeat (first | refine sQ (hq := Quiet.call rfl (with18_fn O r (by omega) hl2 hrw) rfl rfl rfl) (hk := ?_) | refine sQ (hq := Quiet.pickOr rfl rfl rfl rfl) (hk := ?_) | refine sQ (hq := Quiet.pickAnd rfl rfl rfl rfl) (hk := ?_) | refine sQ (hk := ?_) | refine sSkip (hk := ?_) | refine sG (hg := by first | rfl | exact gA_c rfl rfl) (hq := by (intro hg; (try simp only [Bool.and_eq_true, beq_iff_eq] at hg); (try simp only [hg, cond_true, Bool.true_and, beq_self_eq_true]); exact Quiet.call rfl (with18_fn O r (by omega) hl2 hrw) rfl rfl rfl)) (hk := ?_) | refine sG (hk := ?_) | refine sOwn (hk := ?_))); refine aSeq_nil ?_)
          refine h27 _ ?_
          refine nT (hk := ?_)
          (refine Awp.region ?_; (repeat (first | refine sQ (hq := Quiet.pickOr rfl rfl rfl rfl) (hk := ?_) | refine sQ (hq := Quiet.pickAnd rfl rfl rfl rfl) (hk := ?_) | refine sQ (hk := ?_) | refine sSkip (hk := ?_) | refine sG (hk := ?_) | refine sOwn (hk := ?_))); refine aSeq_nil ?_)
          refine athen_n ⟨k + 1, by omega, by omega, ?_⟩
          rw [hknx]
          exact le_T
        · have hke : k = (regsX x).length := by have : ¬ k < (regsX x).length := by simpa using hb26
                                                omega
          have hkfin := hkfin hke
          refine Awp.exit ?_
          refine h15 _ ?_
          refine nT (hk := ?_)
          (refine Awp.region ?_; (repeat (first | refine sQ (hq := Quiet.pickOr rfl rfl rfl rfl) (hk := ?_) | refine sQ (hq := Quiet.pickAnd rfl rfl rfl rfl) (hk := ?_) | refine sQ (hk := ?_) | refine sSkip (hk := ?_) | refine sG (hk := ?_) | refine sOwn (hk := ?_))); refine aSeq_nil ?_)
          refine athen_n ⟨i + 1, by omega, by omega, ?_⟩
          rw [hnx, ← hkfin]
          exact le_C (.cons (Cut.nil _))
    · have hie : i = bl.ins.length := by have : ¬ i < bl.ins.length := by simpa using hb14
                                         omega
      subst hie
      refine Awp.exit ?_
      refine h9 _ ?_
      refine nT (hk := ?_)
      (refine Awp.region ?_; (repeat (first | refine sQ (hq := Quiet.pickOr rfl rfl rfl rfl) (hk := ?_) | refine sQ (hq := Quiet.pickAnd rfl rfl rfl rfl) (hk := ?_) | refine sQ (hk := ?_) | refine sSkip (hk := ?_) | refine sG (hk := ?_) | refine sOwn (hk := ?_))); refine aSeq_nil ?_)
      refine athen_n ⟨b + 1, by omega, by omega, ?_⟩
      rw [hfn, show (bl.ins.take bl.ins.length).flatMap regsX = blkX bl by rw [List.take_length]; rfl]
      exact le_T
  · have hbe : b = f.blocks.length := by have : ¬ b < f.blocks.length := by simpa using hb8
                                         omega
    subst hbe
    rw [List.take_length]
    refine Awp.exit ?_
    refine h3 _ ?_
    refine nT (hk := ?_)
    refine Awp.seq fun K34 h34 => ?_
    (refine Awp.region ?_; (repeat (first | refine sQ (hq := Quiet.pickOr rfl rfl rfl rfl) (hk := ?_) | refine sQ (hq := Quiet.pickAnd rfl rfl rfl rfl) (hk := ?_) | refine sQ (hk := ?_) | refine sSkip (hk := ?_) | refine sG (hk := ?_) | refine sOwn (hk := ?_))); refine aSeq_nil ?_)
    refine h34 _ ?_
    refine nT (hk := ?_)
    refine Awp.ret ?_
    exact ⟨.inr rfl, Fin.cl rfl⟩

def great18 (f : Func) : Bool := great17 f || decide (((regs18L f).length : Int) > 60)
set_option maxRecDepth 100000 in
theorem great18_fn (f : Func) (ho : okFunc f) (hs : smallF f) (hX : (allX f).length ≤ 2097152) : Fn Tryd.prog 5 [.agg (encFunc f)] (.lit (.bool (great18 f))) := by
  have hgr := great17_fn f hs
  have hrg := regs18_fn f ho hs hX
  refine Fn.of_awp Tryd.func5 rfl (by kernel_rfl) rfl Tryd.ntmps5 fun C hC => ?_
  simp only [List.length_cons, List.length_nil, Nat.reduceAdd, Nat.reduceSub, List.replicate_succ, List.replicate_zero, List.cons_append, List.nil_append]
  refine Awp.seq fun K1 h1 => ?_
  (refine Awp.region ?_; (repeat (first | refine sQ (hq := Quiet.pickOr rfl rfl rfl rfl) (hk := ?_) | refine sQ (hq := Quiet.pickAnd rfl rfl rfl rfl) (hk := ?_) | refine sQ (hk := ?_) | refine sSkip (hk := ?_) | refine sG (hk := ?_) | refine sOwn (hk := ?_))); refine aSeq_nil ?_)
  refine h1 _ ?_
  refine nT (hk := ?_)
  refine Awp.seq fun K2 h2 => ?_
  (refine Awp.region ?_; (repeat (first | refine sQ (hq := Quiet.call rfl hgr rfl rfl rfl) (hk := ?_) | refine sQ (hq := Quiet.call rfl hrg rfl rfl rfl) (hk := ?_) | refine sQ (hq := Quiet.pickOr rfl rfl rfl rfl) (hk := ?_) | refine sQ (hq := Quiet.pickAnd rfl rfl rfl rfl) (hk := ?_) | refine sQ (hk := ?_) | refine sSkip (hk := ?_) | refine sG (hg := by first | rfl | exact gA_c rfl rfl) (hq := by (intro hg; (try simp only [beq_iff_eq] at hg); (try simp only [hg, cond_true, beq_self_eq_true]); exact Quiet.call rfl hgr rfl rfl rfl)) (hk := ?_) | refine sG (hg := by first | rfl | exact gA_c rfl rfl) (hq := by (intro hg; (try simp only [beq_iff_eq] at hg); (try simp only [hg, cond_true, beq_self_eq_true]); exact Quiet.call rfl hrg rfl rfl rfl)) (hk := ?_) | refine sG (hk := ?_) | refine sOwn (hk := ?_))); refine aSeq_nil ?_)
  refine h2 _ ?_
  refine nT (hk := ?_)
  refine Awp.ret ?_
  exact ⟨.inr rfl, Fin.cl rfl⟩
end Mu
end
section
/-
  Places and hints, in plain terms, of any function.
  Conditions: none.
-/
namespace Mu
open Go Go.RowKit Go.Proofs

theorem anyN_next {l : List Int} {k : Nat} {r q : Int} (h : l[k]? = some r) : (l.take (k + 1)).any (· == q) = ((l.take k).any (· == q) || (r == q)) := by
  rw [List.take_add_one, h, List.any_append]
  simp
theorem anyN_mem {l : List Int} {q : Int} (h : q ∈ l) : l.any (· == q) = true := List.any_eq_true.2 ⟨q, h, by simp⟩
theorem anyN_has (l : List Int) (q : Int) : l.any (· == q) = l.contains q := by
  rw [Bool.eq_iff_iff, List.any_eq_true, List.contains_iff_mem]
  constructor
  · rintro ⟨x, hx, e⟩
    rw [← (by simpa using e : x = q)]
    exact hx
  · exact fun h => ⟨q, h, by simp⟩
theorem hint_in {f : Func} {leaf : Bool} {q : Hint} (hq : q ∈ hintsL f leaf) : q.r ∈ regsB f ∧ ∃ n : Nat, q.at_ = (n : Int) ∧ n < 30 ∧ (8 ≤ n ∧ n ≤ 13 ∨ 24 ≤ n ∧ n ≤ 29) := by
  have h6 := (argsK_eq f).2
  have hown : ∀ k : Nat, k ≤ 5 → ∃ n : Nat, ownP leaf + (k : Int) = (n : Int) ∧ n < 30 ∧ (8 ≤ n ∧ n ≤ 13 ∨ 24 ≤ n ∧ n ≤ 29) := fun k hk => by
    unfold ownP
    cases leaf
    · exact ⟨24 + k, by simp, by omega, by omega⟩
    · exact ⟨8 + k, by simp, by omega, by omega⟩
  unfold hintsL at hq
  rcases List.mem_append.1 hq with hm | hm
  · unfold argH at hm
    obtain ⟨k, hk, rfl⟩ := List.mem_map.1 hm
    have hk := List.mem_range.1 hk
    exact ⟨regsB_mem.2 (List.mem_append_left _ (List.mem_map.2 ⟨k, List.mem_range.2 hk, rfl⟩)), hown k (by omega)⟩
  · obtain ⟨b, hb, hm⟩ := List.mem_flatMap.1 hm
    obtain ⟨x, hx, hm⟩ := List.mem_flatMap.1 hm
    have hreg : ∀ r ∈ regsX x, r ∈ regsB f := fun r hr => regsB_mem.2 (List.mem_append_right _ (List.mem_flatMap.2 ⟨b, hb, List.mem_flatMap.2 ⟨x, hx, hr⟩⟩))
    suffices hs : q.r ∈ regsX x ∧ ∃ n : Nat, q.at_ = (n : Int) ∧ n < 30 ∧ (8 ≤ n ∧ n ≤ 13 ∨ 24 ≤ n ∧ n ≤ 29) from ⟨hreg _ hs.1, hs.2⟩
    unfold hintX at hm
    split at hm
    · rename_i h10
      have h10 : x.op = 10 := by simpa using h10
      simp only [List.mem_cons, List.not_mem_nil, or_false] at hm
      subst hm
      refine ⟨?_, ?_⟩
      · unfold regsX readsC
        rw [h10]
        exact List.mem_append_left _ (by simp [hasS])
      · have := hown 0 (by omega)
        simpa using this
    · split at hm
      · rename_i h5
        have h5 : x.op = 5 := by simpa using h5
        rcases List.mem_cons.1 hm with hm | hm
        · subst hm
          refine ⟨?_, 8, rfl, by omega, by omega⟩
          unfold regsX writesB
          rw [h5]
          exact List.mem_append_right _ (by simp [hasS])
        · unfold callH at hm
          obtain ⟨j, hj, rfl⟩ := List.mem_map.1 hm
          have hj := List.mem_range.1 hj
          rw [List.length_take] at hj
          refine ⟨?_, 8 + j, by dsimp only; omega, by omega, by omega⟩
          have hjl : j < x.args.length := by omega
          show x.args.getD j 0 ∈ regsX x
          rw [List.getD_eq_getElem?_getD, List.getElem?_eq_getElem hjl]
          unfold regsX readsC
          rw [h5]
          exact List.mem_append_left _ (List.mem_append_right _ (by simp [hasS]))
      · cases hm
theorem nameP_ne : ∀ n, n < 30 → (nameP n == (⟨#[]⟩ : ByteArray)) = false := by decide +kernel
def badP (p : Int) : Bool := p != 4 && (((decide (p < 8) || decide (p > 29)) || p == 14) || p == 15)
theorem place_row (cross : List Int) (r : Int) (leaf : Bool) : (leaf = true ∧ placesP cross r leaf = someP [0]) ∨ (leaf = false ∧ cross.contains r = true ∧ placesP cross r leaf = someP [1, 2]) ∨ (leaf = false ∧ cross.contains r = false ∧ placesP cross r leaf = someP [0, 1, 2]) := by
  unfold placesP
  cases leaf
  · cases cross.contains r
    · exact .inr (.inr ⟨rfl, rfl, rfl⟩)
    · exact .inr (.inl ⟨rfl, rfl, rfl⟩)
  · exact .inl ⟨rfl, rfl⟩
theorem place_fact {cross : List Int} {r p : Int} {leaf : Bool} (hp : p ∈ placesP cross r leaf) : badP p = false ∧ (leaf && keptB p) = false ∧ ((!leaf && cross.contains r) && !(keptB p)) = false := by
  rcases place_row cross r leaf with ⟨h1, h2⟩ | ⟨h1, h2, h3⟩ | ⟨h1, h2, h3⟩
  · rw [h2] at hp
    subst h1
    have : ∀ p ∈ someP [0], badP p = false ∧ (true && keptB p) = false := by decide
    obtain ⟨h3, h4⟩ := this p hp
    exact ⟨h3, h4, by simp⟩
  · rw [h3] at hp
    subst h1
    have : ∀ p ∈ someP [1, 2], badP p = false ∧ keptB p = true := by decide
    obtain ⟨h4, h5⟩ := this p hp
    exact ⟨h4, by simp, by rw [h5]; simp⟩
  · rw [h3] at hp
    subst h1
    have : ∀ p ∈ someP [0, 1, 2], badP p = false := by decide
    exact ⟨this p hp, by simp, by rw [h2]; simp⟩
theorem place_len (cross : List Int) (r : Int) (leaf : Bool) : 7 ≤ (placesP cross r leaf).length ∧ (placesP cross r leaf).length ≤ 24 ∧ (placesP cross r leaf).Nodup := by
  rcases place_row cross r leaf with ⟨_, h2⟩ | ⟨_, _, h2⟩ | ⟨_, _, h2⟩ <;> rw [h2] <;> decide
theorem place_apart {cross : List Int} {r : Int} {leaf : Bool} {j k : Nat} {p q : Int} (hk : (placesP cross r leaf)[k]? = some p) (hj : (placesP cross r leaf)[j]? = some q) (hjk : j < k) : (q == p) = false := by
  have hn := (place_len cross r leaf).2.2
  have hkl := (List.getElem?_eq_some_iff.1 hk).1
  have hjl := (List.getElem?_eq_some_iff.1 hj).1
  have := List.pairwise_iff_getElem.1 hn j k hjl hkl hjk
  rw [List.getElem?_eq_getElem hjl] at hj
  rw [List.getElem?_eq_getElem hkl] at hk
  cases hj
  cases hk
  simpa using this
theorem asc_apart {l : List Int} (ha : Asc l) {i : Nat} {a b : Int} (h1 : l[i]? = some a) (h2 : l[i + 1]? = some b) : decide (a ≥ b) = false := by
  have h1l := (List.getElem?_eq_some_iff.1 h1).1
  have h2l := (List.getElem?_eq_some_iff.1 h2).1
  have := List.pairwise_iff_getElem.1 ha i (i + 1) h1l h2l (by omega)
  rw [List.getElem?_eq_getElem h1l] at h1
  rw [List.getElem?_eq_getElem h2l] at h2
  cases h1
  cases h2
  simpa using this
end Mu
end
section
/-
  muntinlaw21.BoundKept, walked: it answers true of any function.
  Conditions: data of at most 2^21 everywhere.
-/
namespace Mu
open Go Go.RowKit Go.Proofs

set_option maxRecDepth 100000 in
set_option maxHeartbeats 4000000 in
theorem boundKept21_fn (f : Func) (leaf : Bool) (ho : okFunc f) (hs : smallF f) (hT : (allReads f).length ≤ 2097152) (hi1 : ∀ b ∈ f.blocks, b.ins.length + 1 ≤ 2097152) (hX : (allX f).length ≤ 2097152) (hI : (allIns f).length ≤ 2097152) : Fn Tryd.prog 3 [.agg (encFunc f), .lit (.bool leaf)] (.lit (.bool true)) := by
  have hgr := great18_fn f ho hs hX
  have hrl : (regsB f).length ≤ 2097158 := by
    have h1 := regsB_len f
    have h2 := natI_len (argsK f)
    have h3 := (argsK_eq f).2
    unfold rawB at h1
    rw [List.length_append] at h1
    omega
  have hll : (hintsL f leaf).length ≤ 20000000 := by
    have h1 := hint_total (ownP leaf) f
    have h2 := argH_len (ownP leaf) (argsK f)
    have h3 := (argsK_eq f).2
    unfold hintsL
    rw [List.length_append]
    omega
  have hcl : (crossL f).length ≤ 2097152 := by have := crossL_len f; have := Nat.le_trans (regsOf_le _) hT; unfold regsL at *; omega
  have hasc := regsB_asc f
  refine Fn.of_awp Tryd.func3 rfl (by kernel_rfl) rfl Tryd.ntmps3 fun C hC => ?_
  simp only [List.length_cons, List.length_nil, Nat.reduceAdd, Nat.reduceSub, List.replicate_succ, List.replicate_zero, List.cons_append, List.nil_append]
  refine Awp.seq fun K1 h1 => ?_
  (refine Awp.region ?_; (repeat (first | refine sQ (hq := Quiet.pickOr rfl rfl rfl rfl) (hk := ?_) | refine sQ (hq := Quiet.pickAnd rfl rfl rfl rfl) (hk := ?_) | refine sQ (hk := ?_) | refine sSkip (hk := ?_) | refine sG (hk := ?_) | refine sOwn (hk := ?_))); refine aSeq_nil ?_)
  refine h1 _ ?_
  refine nT (hk := ?_)
  refine Awp.seq fun K2 h2 => ?_
  refine Awp.seq fun K3 h3 => ?_
  (refine Awp.region ?_; (repeat (first | refine sQ (hq := Quiet.call rfl hgr rfl rfl rfl) (hk := ?_) | refine sQ (hq := Quiet.pickOr rfl rfl rfl rfl) (hk := ?_) | refine sQ (hq := Quiet.pickAnd rfl rfl rfl rfl) (hk := ?_) | refine sQ (hk := ?_) | refine sSkip (hk := ?_) | refine sG (hg := by first | rfl | exact gA_c rfl rfl) (hq := by (intro hg; (try simp only [Bool.and_eq_true, beq_iff_eq] at hg); (try simp only [hg, cond_true, Bool.true_and, beq_self_eq_true]); exact Quiet.call rfl hgr rfl rfl rfl)) (hk := ?_) | refine sG (hk := ?_) | refine sOwn (hk := ?_))); refine aSeq_nil ?_)
  refine h3 _ ?_
  refine nT (hk := ?_)
  refine Awp.cond rfl (fun hb4 => ?_) (fun hb4 => ?_)
  · refine Awp.seq fun K5 h5 => ?_
    (refine Awp.region ?_; (repeat (first | refine sQ (hq := Quiet.call rfl head21_fn rfl rfl rfl) (hk := ?_) | refine sQ (hq := Quiet.pickOr rfl rfl rfl rfl) (hk := ?_) | refine sQ (hq := Quiet.pickAnd rfl rfl rfl rfl) (hk := ?_) | refine sQ (hk := ?_) | refine sSkip (hk := ?_) | refine sG (hg := by first | rfl | exact gA_c rfl rfl) (hq := by (intro hg; (try simp only [Bool.and_eq_true, beq_iff_eq] at hg); (try simp only [hg, cond_true, Bool.true_and, beq_self_eq_true]); exact Quiet.call rfl head21_fn rfl rfl rfl)) (hk := ?_) | refine sG (hk := ?_) | refine sOwn (hk := ?_))); refine aSeq_nil ?_)
    refine h5 _ ?_
    refine nT (hk := ?_)
    refine Awp.ret ?_
    exact ⟨.inr rfl, Fin.cl rfl⟩
  · refine Awp.skip ?_
    refine h2 _ ?_
    refine nT (hk := ?_)
    refine Awp.seq fun K6 h6 => ?_
    (refine drawD 10 (hh := ?_); (repeat (first | refine qQ (hq := Quiet.call rfl (hints21_fn f leaf ho hs hI) rfl rfl rfl) (hk := ?_) | refine qQ (hq := Quiet.call rfl (regs21_fn f ho hs hX) rfl rfl rfl) (hk := ?_) | refine qQ (hq := Quiet.call rfl (cross_fn f ho hs hT hi1) rfl rfl rfl) (hk := ?_) | refine qQ (hq := Quiet.pickOr rfl rfl rfl rfl) (hk := ?_) | refine qQ (hq := Quiet.pickAnd rfl rfl rfl rfl) (hk := ?_) | refine qQ (hk := ?_) | refine qSkip (hk := ?_) | refine qG (hg := by first | rfl | exact gA_c rfl rfl) (hq := by (intro hg; (try simp only [Bool.and_eq_true, beq_iff_eq] at hg); (try simp only [hg, cond_true, Bool.true_and, beq_self_eq_true]); exact Quiet.call rfl (hints21_fn f leaf ho hs hI) rfl rfl rfl)) (hk := ?_) | refine qG (hg := by first | rfl | exact gA_c rfl rfl) (hq := by (intro hg; (try simp only [Bool.and_eq_true, beq_iff_eq] at hg); (try simp only [hg, cond_true, Bool.true_and, beq_self_eq_true]); exact Quiet.call rfl (regs21_fn f ho hs hX) rfl rfl rfl)) (hk := ?_) | refine qG (hg := by first | rfl | exact gA_c rfl rfl) (hq := by (intro hg; (try simp only [Bool.and_eq_true, beq_iff_eq] at hg); (try simp only [hg, cond_true, Bool.true_and, beq_self_eq_true]); exact Quiet.call rfl (cross_fn f ho hs hT hi1) rfl rfl rfl)) (hk := ?_) | refine qG (hk := ?_))); refine aQ_nil ?_; (repeat (first | refine sQ (hq := Quiet.call rfl (hints21_fn f leaf ho hs hI) rfl rfl rfl) (hk := ?_) | refine sQ (hq := Quiet.call rfl (regs21_fn f ho hs hX) rfl rfl rfl) (hk := ?_) | refine sQ (hq := Quiet.call rfl (cross_fn f ho hs hT hi1) rfl rfl rfl) (hk := ?_) | refine sQ (hq := Quiet.pickOr rfl rfl rfl rfl) (hk := ?_) | refine sQ (hq := Quiet.pickAnd rfl rfl rfl rfl) (hk := ?_) | refine sQ (hk := ?_) | refine sSkip (hk := ?_) | refine sG (hg := by first | rfl | exact gA_c rfl rfl) (hq := by (intro hg; (try simp only [Bool.and_eq_true, beq_iff_eq] at hg); (try simp only [hg, cond_true, Bool.true_and, beq_self_eq_true]); exact Quiet.call rfl (hints21_fn f leaf ho hs hI) rfl rfl rfl)) (hk := ?_) | refine sG (hg := by first | rfl | exact gA_c rfl rfl) (hq := by (intro hg; (try simp only [Bool.and_eq_true, beq_iff_eq] at hg); (try simp only [hg, cond_true, Bool.true_and, beq_self_eq_true]); exact Quiet.call rfl (regs21_fn f ho hs hX) rfl rfl rfl)) (hk := ?_) | refine sG (hg := by first | rfl | exact gA_c rfl rfl) (hq := by (intro hg; (try simp only [Bool.and_eq_true, beq_iff_eq] at hg); (try simp only [hg, cond_true, Bool.true_and, beq_self_eq_true]); exact Quiet.call rfl (cross_fn f ho hs hT hi1) rfl rfl rfl)) (hk := ?_) | refine sG (hk := ?_) | refine sOwn (hk := ?_))); refine aSeq_nil ?_)
    refine h6 _ ?_
    refine nT (hk := ?_)
    refine Awp.seq fun K7 h7 => ?_
    refine Awp.seq fun K8 h8 => ?_
    (refine Awp.region ?_; (repeat (first | refine sQ (hq := Quiet.pickOr rfl rfl rfl rfl) (hk := ?_) | refine sQ (hq := Quiet.pickAnd rfl rfl rfl rfl) (hk := ?_) | refine sQ (hk := ?_) | refine sSkip (hk := ?_) | refine sG (hk := ?_) | refine sOwn (hk := ?_))); refine aSeq_nil ?_)
    refine h8 _ ?_
    refine nT (hk := ?_)
    refine Awp.block ?_
    refine Awp.loopF (fun i : Nat => ⟨[.any, .lit (.bool leaf), .ptr 0 0, .any, .any, .bs tInt (regsB f), .bs tInt (crossL f), .bs tHint (hintsL f leaf), .lit (.int .i64 (i : Int)), .any, .any, .any, .any, .any, .any, .any, .any, .any, .any, .any, .any, .any, .any, .any, .any, .any, .any, .any, .any, .any, .any, .any, .any, .any, .any, .any, .any, .any, .any, .any, .any, .any, .any, .any, .any, .any, .any, .any, .any, .any, .any, .any, .any, .any, .any, .any, .any, .any, .any, .any, .any, .any, .any, .any, .any, .any, .any, .any, .any, .any, .any, .any, .any, .any, .any, .any, .any, .any, .any, .any, .any, .any, .any, .any, .any, .any, .any, .any, .any, .any, .any, .any, .any, .any, .any, .any, .any, .any, .any, .any, .any, .any, .any, .any, .any, .any, .any, .any, .any, .any, .any, .any, .any, .any, .any, .any, .any, .any, .any, .any, .any, .any, .any, .any, .any, .any, .any, .any, .any, .any, .any, .any, .any, .any, .any, .any, .any, .any, .any, .any, .any, .any, .any, .any, .any, .any, .any, .any, .any, .any, .any, .any, .any, .any, .any, .any, .any, .any, .any, .any, .any, .any, .any, .any, .any, .any, .any, .any, .any, .any, .any, .any, .any], [.box (encFunc f)]⟩) (fun i => i ≤ (regsB f).length) (fun i => (regsB f).length - i) 0 (Nat.zero_le _) (le_T) ?_
    intro i hi
    refine Awp.seq fun K10 h10 => ?_
    refine Awp.seq fun K11 h11 => ?_
    (refine Awp.region ?_; (repeat (first | refine sQ (hq := Quiet.pickOr rfl rfl rfl rfl) (hk := ?_) | refine sQ (hq := Quiet.pickAnd rfl rfl rfl rfl) (hk := ?_) | refine sQ (hk := ?_) | refine sSkip (hk := ?_) | refine sG (hk := ?_) | refine sOwn (hk := ?_))); refine aSeq_nil ?_)
    refine h11 _ ?_
    refine nT (hk := ?_)
    refine Awp.cond rfl (fun hb12 => ?_) (fun hb12 => ?_)
    · have hilt : i < (regsB f).length := by simpa using hb12
      obtain ⟨r, hr⟩ : ∃ r, (regsB f)[i]? = some r := ⟨_, List.getElem?_eq_getElem hilt⟩
      obtain ⟨hp7, hp24, _⟩ := place_len (crossL f) r leaf
      refine Awp.skip ?_
      refine h10 _ ?_
      refine nT (hk := ?_)
      refine Awp.seq fun K13 h13 => ?_
      refine Awp.block ?_
      refine Awp.seq fun K14 h14 => ?_
      (refine drawD 8 (hh := ?_); (repeat (first | refine qQ (hq := Quiet.call rfl (Places21_fn f r leaf ho hs hT hi1) rfl rfl rfl) (hk := ?_) | refine qQ (hq := Quiet.pickOr rfl rfl rfl rfl) (hk := ?_) | refine qQ (hq := Quiet.pickAnd rfl rfl rfl rfl) (hk := ?_) | refine qQ (hk := ?_) | refine qSkip (hk := ?_) | refine qG (hg := by first | rfl | exact gA_c rfl rfl) (hq := by (intro hg; (try simp only [Bool.and_eq_true, beq_iff_eq] at hg); (try simp only [hg, cond_true, Bool.true_and, beq_self_eq_true]); exact Quiet.call rfl (Places21_fn f r leaf ho hs hT hi1) rfl rfl rfl)) (hk := ?_) | refine qG (hk := ?_))); refine aQ_nil ?_; (repeat (first | refine sQ (hq := Quiet.call rfl (Places21_fn f r leaf ho hs hT hi1) rfl rfl rfl) (hk := ?_) | refine sQ (hq := Quiet.pickOr rfl rfl rfl rfl) (hk := ?_) | refine sQ (hq := Quiet.pickAnd rfl rfl rfl rfl) (hk := ?_) | refine sQ (hk := ?_) | refine sSkip (hk := ?_) | refine sG (hg := by first | rfl | exact gA_c rfl rfl) (hq := by (intro hg; (try simp only [Bool.and_eq_true, beq_iff_eq] at hg); (try simp only [hg, cond_true, Bool.true_and, beq_self_eq_true]); exact Quiet.call rfl (Places21_fn f r leaf ho hs hT hi1) rfl rfl rfl)) (hk := ?_) | refine sG (hk := ?_) | refine sOwn (hk := ?_))); refine aSeq_nil ?_)
      refine h14 _ ?_
      refine nT (hk := ?_)
      refine Awp.seq fun K15 h15 => ?_
      (refine Awp.region ?_; (repeat (first | refine sQ (hq := Quiet.pickOr rfl rfl rfl rfl) (hk := ?_) | refine sQ (hq := Quiet.pickAnd rfl rfl rfl rfl) (hk := ?_) | refine sQ (hk := ?_) | refine sSkip (hk := ?_) | refine sG (hk := ?_) | refine sOwn (hk := ?_))); refine aSeq_nil ?_)
      refine h15 _ ?_
      refine nT (hk := ?_)
      refine Awp.seq fun K16 h16 => ?_
      refine Awp.seq fun K17 h17 => ?_
      (refine Awp.region ?_; (repeat (first | refine sQ (hq := Quiet.pickOr rfl rfl rfl rfl) (hk := ?_) | refine sQ (hq := Quiet.pickAnd rfl rfl rfl rfl) (hk := ?_) | refine sQ (hk := ?_) | refine sSkip (hk := ?_) | refine sG (hk := ?_) | refine sOwn (hk := ?_))); refine aSeq_nil ?_)
      refine h17 _ ?_
      refine nT (hk := ?_)
      refine Awp.block ?_
      refine Awp.loopF (fun k : Nat => ⟨[.any, .lit (.bool leaf), .ptr 0 0, .any, .any, .bs tInt (regsB f), .bs tInt (crossL f), .bs tHint (hintsL f leaf), .lit (.int .i64 (i : Int)), .bs tInt (placesP (crossL f) r leaf), .lit (.bool (((crossL f).take k).any (· == r))), .lit (.int .i64 (k : Int)), .any, .any, .any, .any, .any, .any, .any, .any, .any, .any, .any, .any, .any, .any, .any, .any, .any, .any, .any, .any, .any, .any, .any, .any, .any, .any, .any, .any, .any, .any, .any, .any, .any, .any, .any, .any, .any, .any, .any, .any, .any, .any, .any, .any, .any, .any, .any, .any, .any, .any, .any, .any, .any, .any, .any, .any, .any, .any, .any, .any, .any, .any, .any, .any, .any, .any, .any, .any, .any, .any, .any, .any, .any, .any, .any, .any, .any, .any, .any, .any, .any, .any, .any, .any, .any, .any, .any, .any, .any, .any, .any, .any, .any, .any, .any, .any, .any, .any, .any, .any, .any, .any, .any, .any, .any, .any, .any, .any, .any, .any, .any, .any, .any, .any, .any, .any, .any, .any, .any, .any, .any, .any, .any, .any, .any, .any, .any, .any, .any, .any, .any, .any, .any, .any, .any, .any, .any, .any, .any, .any, .any, .any, .any, .any, .any, .any, .any, .any, .any, .any, .any, .any, .any, .any, .any, .any, .any, .any, .any, .any, .any], [.box (encFunc f)]⟩) (fun k => k ≤ (crossL f).length) (fun k => (crossL f).length - k) 0 (Nat.zero_le _) (le_T) ?_
      intro k hk
      refine Awp.seq fun K19 h19 => ?_
      refine Awp.seq fun K20 h20 => ?_
      (refine Awp.region ?_; (repeat (first | refine sQ (hq := Quiet.pickOr rfl rfl rfl rfl) (hk := ?_) | refine sQ (hq := Quiet.pickAnd rfl rfl rfl rfl) (hk := ?_) | refine sQ (hk := ?_) | refine sSkip (hk := ?_) | refine sG (hk := ?_) | refine sOwn (hk := ?_))); refine aSeq_nil ?_)
      refine h20 _ ?_
      refine nT (hk := ?_)
      refine Awp.cond rfl (fun hb21 => ?_) (fun hb21 => ?_)
      · have hklt : k < (crossL f).length := by simpa using hb21
        obtain ⟨c, hc⟩ : ∃ c, (crossL f)[k]? = some c := ⟨_, List.getElem?_eq_getElem hklt⟩
        have han := anyN_next (q := r) hc
        generalize hB0 : ((crossL f).take k).any (· == r) = B0 at han ⊢
        refine Awp.skip ?_
        refine h19 _ ?_
        refine nT (hk := ?_)
        refine Awp.seq fun K22 h22 => ?_
        refine Awp.block ?_
        (refine drawD 13 (hh := ?_); (repeat (first | refine qQ (hq := Quiet.pickOr rfl rfl rfl rfl) (hk := ?_) | refine qQ (hq := Quiet.pickAnd rfl rfl rfl rfl) (hk := ?_) | refine qQ (hk := ?_) | refine qSkip (hk := ?_) | refine qG (hk := ?_))); refine aQ_nil ?_; (repeat (first | refine sQ (hq := Quiet.pickOr rfl rfl rfl rfl) (hk := ?_) | refine sQ (hq := Quiet.pickAnd rfl rfl rfl rfl) (hk := ?_) | refine sQ (hk := ?_) | refine sSkip (hk := ?_) | refine sG (hk := ?_) | refine sOwn (hk := ?_))); refine aSeq_nil ?_)
        refine h22 _ ?_
        refine nT (hk := ?_)
        (refine Awp.region ?_; (repeat (first | refine sQ (hq := Quiet.pickOr rfl rfl rfl rfl) (hk := ?_) | refine sQ (hq := Quiet.pickAnd rfl rfl rfl rfl) (hk := ?_) | refine sQ (hk := ?_) | refine sSkip (hk := ?_) | refine sG (hk := ?_) | refine sOwn (hk := ?_))); refine aSeq_nil ?_)
        refine athen_n ⟨k + 1, by omega, by omega, ?_⟩
        rw [han]
        exact le_T
      · have hke : k = (crossL f).length := by have : ¬ k < (crossL f).length := (by simpa using hb21); omega
        subst hke
        rw [List.take_length, anyN_has]
        refine Awp.exit ?_
        refine h16 _ ?_
        refine nT (hk := ?_)
        refine Awp.seq fun K23 h23 => ?_
        refine Awp.seq fun K24 h24 => ?_
        (refine Awp.region ?_; (repeat (first | refine sQ (hq := Quiet.pickOr rfl rfl rfl rfl) (hk := ?_) | refine sQ (hq := Quiet.pickAnd rfl rfl rfl rfl) (hk := ?_) | refine sQ (hk := ?_) | refine sSkip (hk := ?_) | refine sG (hk := ?_) | refine sOwn (hk := ?_))); refine aSeq_nil ?_)
        refine h24 _ ?_
        refine nT (hk := ?_)
        refine Awp.block ?_
        refine Awp.loopF (fun k : Nat => ⟨[.any, .lit (.bool leaf), .ptr 0 0, .any, .any, .bs tInt (regsB f), .bs tInt (crossL f), .bs tHint (hintsL f leaf), .lit (.int .i64 (i : Int)), .bs tInt (placesP (crossL f) r leaf), .lit (.bool ((crossL f).contains r)), .any, .lit (.int .i64 (k : Int)), .any, .any, .any, .any, .any, .any, .any, .any, .any, .any, .any, .any, .any, .any, .any, .any, .any, .any, .any, .any, .any, .any, .any, .any, .any, .any, .any, .any, .any, .any, .any, .any, .any, .any, .any, .any, .any, .any, .any, .any, .any, .any, .any, .any, .any, .any, .any, .any, .any, .any, .any, .any, .any, .any, .any, .any, .any, .any, .any, .any, .any, .any, .any, .any, .any, .any, .any, .any, .any, .any, .any, .any, .any, .any, .any, .any, .any, .any, .any, .any, .any, .any, .any, .any, .any, .any, .any, .any, .any, .any, .any, .any, .any, .any, .any, .any, .any, .any, .any, .any, .any, .any, .any, .any, .any, .any, .any, .any, .any, .any, .any, .any, .any, .any, .any, .any, .any, .any, .any, .any, .any, .any, .any, .any, .any, .any, .any, .any, .any, .any, .any, .any, .any, .any, .any, .any, .any, .any, .any, .any, .any, .any, .any, .any, .any, .any, .any, .any, .any, .any, .any, .any, .any, .any, .any, .any, .any, .any, .any, .any], [.box (encFunc f)]⟩) (fun k => k ≤ (placesP (crossL f) r leaf).length) (fun k => (placesP (crossL f) r leaf).length - k) 0 (Nat.zero_le _) (le_T) ?_
        intro k hk
        refine Awp.seq fun K26 h26 => ?_
        refine Awp.seq fun K27 h27 => ?_
        (refine Awp.region ?_; (repeat (first | refine sQ (hq := Quiet.pickOr rfl rfl rfl rfl) (hk := ?_) | refine sQ (hq := Quiet.pickAnd rfl rfl rfl rfl) (hk := ?_) | refine sQ (hk := ?_) | refine sSkip (hk := ?_) | refine sG (hk := ?_) | refine sOwn (hk := ?_))); refine aSeq_nil ?_)
        refine h27 _ ?_
        refine nT (hk := ?_)
        refine Awp.cond rfl (fun hb28 => ?_) (fun hb28 => ?_)
        · have hklt : k < (placesP (crossL f) r leaf).length := by simpa using hb28
          obtain ⟨p, hp⟩ : ∃ p, (placesP (crossL f) r leaf)[k]? = some p := ⟨_, List.getElem?_eq_getElem hklt⟩
          obtain ⟨g1, g2, g3⟩ := place_fact (List.mem_of_getElem? hp)
          refine Awp.skip ?_
          refine h26 _ ?_
          refine nT (hk := ?_)
          refine Awp.seq fun K29 h29 => ?_
          refine Awp.block ?_
          refine Awp.seq fun K30 h30 => ?_
          (refine Awp.region ?_; (repeat (first | refine sQ (hq := Quiet.pickOr rfl rfl rfl rfl) (hk := ?_) | refine sQ (hq := Quiet.pickAnd rfl rfl rfl rfl) (hk := ?_) | refine sQ (hk := ?_) | refine sSkip (hk := ?_) | refine sG (hk := ?_) | refine sOwn (hk := ?_))); refine aSeq_nil ?_)
          refine h30 _ ?_
          refine nT (hk := ?_)
          refine Awp.seq fun K31 h31 => ?_
          refine Awp.seq fun K32 h32 => ?_
          (refine Awp.region ?_; (repeat (first | refine sQ (hq := Quiet.call rfl (kept21_fn p) rfl rfl rfl) (hk := ?_) | refine sQ (hq := Quiet.pickOr rfl rfl rfl rfl) (hk := ?_) | refine sQ (hq := Quiet.pickAnd rfl rfl rfl rfl) (hk := ?_) | refine sQ (hk := ?_) | refine sSkip (hk := ?_) | refine sG (hg := by first | rfl | exact gA_c rfl rfl) (hq := by (intro hg; (try simp only [Bool.and_eq_true, beq_iff_eq] at hg); (try simp only [hg, cond_true, Bool.true_and, beq_self_eq_true]); exact Quiet.call rfl (kept21_fn p) rfl rfl rfl)) (hk := ?_) | refine sG (hk := ?_) | refine sOwn (hk := ?_))); refine aSeq_nil ?_)
          refine h32 _ ?_
          refine nT (hk := ?_)
          refine Awp.cond rfl (fun hb33 => ?_) (fun hb33 => ?_)
          · exfalso
            have hb33 : ((badP p || (leaf && keptB p)) || ((!leaf && (crossL f).contains r) && !(keptB p))) = true := hb33
            rw [g1, g2, g3] at hb33
            cases hb33
          · refine Awp.skip ?_
            refine h31 _ ?_
            refine nT (hk := ?_)
            refine Awp.seq fun K35 h35 => ?_
            (refine Awp.region ?_; (repeat (first | refine sQ (hq := Quiet.pickOr rfl rfl rfl rfl) (hk := ?_) | refine sQ (hq := Quiet.pickAnd rfl rfl rfl rfl) (hk := ?_) | refine sQ (hk := ?_) | refine sSkip (hk := ?_) | refine sG (hk := ?_) | refine sOwn (hk := ?_))); refine aSeq_nil ?_)
            refine h35 _ ?_
            refine nT (hk := ?_)
            refine Awp.block ?_
            refine Awp.loopF (fun j : Nat => ⟨[.any, .lit (.bool leaf), .ptr 0 0, .any, .any, .bs tInt (regsB f), .bs tInt (crossL f), .bs tHint (hintsL f leaf), .lit (.int .i64 (i : Int)), .bs tInt (placesP (crossL f) r leaf), .lit (.bool ((crossL f).contains r)), .any, .lit (.int .i64 (k : Int)), .lit (.int .i64 p), .lit (.int .i64 (j : Int)), .any, .any, .any, .any, .any, .any, .any, .any, .any, .any, .any, .any, .any, .any, .any, .any, .any, .any, .any, .any, .any, .any, .any, .any, .any, .any, .any, .any, .any, .any, .any, .any, .any, .any, .any, .any, .any, .any, .any, .any, .any, .any, .any, .any, .any, .any, .any, .any, .any, .any, .any, .any, .any, .any, .any, .any, .any, .any, .any, .any, .any, .any, .any, .any, .any, .any, .any, .any, .any, .any, .any, .any, .any, .any, .any, .any, .any, .any, .any, .any, .any, .any, .any, .any, .any, .any, .any, .any, .any, .any, .any, .any, .any, .any, .any, .any, .any, .any, .any, .any, .any, .any, .any, .any, .any, .any, .any, .any, .any, .any, .any, .any, .any, .any, .any, .any, .any, .any, .any, .any, .any, .any, .any, .any, .any, .any, .any, .any, .any, .any, .any, .any, .any, .any, .any, .any, .any, .any, .any, .any, .any, .any, .any, .any, .any, .any, .any, .any, .any, .any, .any, .any, .any, .any, .any, .any, .any, .any], [.box (encFunc f)]⟩) (fun j => j ≤ k) (fun j => k - j) 0 (Nat.zero_le _) (le_T) ?_
            intro j hj
            refine Awp.seq fun K37 h37 => ?_
            refine Awp.seq fun K38 h38 => ?_
            (refine Awp.region ?_; (repeat (first | refine sQ (hq := Quiet.pickOr rfl rfl rfl rfl) (hk := ?_) | refine sQ (hq := Quiet.pickAnd rfl rfl rfl rfl) (hk := ?_) | refine sQ (hk := ?_) | refine sSkip (hk := ?_) | refine sG (hk := ?_) | refine sOwn (hk := ?_))); refine aSeq_nil ?_)
            refine h38 _ ?_
            refine nT (hk := ?_)
            refine Awp.cond rfl (fun hb39 => ?_) (fun hb39 => ?_)
            · have hjlt : j < k := by simpa using hb39
              obtain ⟨q, hq⟩ : ∃ q, (placesP (crossL f) r leaf)[j]? = some q := ⟨_, List.getElem?_eq_getElem (by omega)⟩
              have hqp := place_apart hp hq hjlt
              refine Awp.skip ?_
              refine h37 _ ?_
              refine nT (hk := ?_)
              refine Awp.seq fun K40 h40 => ?_
              refine Awp.block ?_
              refine Awp.seq fun K41 h41 => ?_
              (refine Awp.region ?_; (repeat (first | refine sQ (hq := Quiet.pickOr rfl rfl rfl rfl) (hk := ?_) | refine sQ (hq := Quiet.pickAnd rfl rfl rfl rfl) (hk := ?_) | refine sQ (hk := ?_) | refine sSkip (hk := ?_) | refine sG (hk := ?_) | refine sOwn (hk := ?_))); refine aSeq_nil ?_)
              refine h41 _ ?_
              refine nT (hk := ?_)
              refine Awp.cond rfl (fun hb42 => ?_) (fun hb42 => ?_)
              · first | cases hb42 | (rw [hqp] at hb42; cases hb42)
              · refine Awp.skip ?_
                refine h40 _ ?_
                refine nT (hk := ?_)
                (refine Awp.region ?_; (repeat (first | refine sQ (hq := Quiet.pickOr rfl rfl rfl rfl) (hk := ?_) | refine sQ (hq := Quiet.pickAnd rfl rfl rfl rfl) (hk := ?_) | refine sQ (hk := ?_) | refine sSkip (hk := ?_) | refine sG (hk := ?_) | refine sOwn (hk := ?_))); refine aSeq_nil ?_)
                refine athen_n ⟨j + 1, by omega, by omega, le_T⟩
            · refine Awp.exit ?_
              refine h29 _ ?_
              refine nT (hk := ?_)
              (refine Awp.region ?_; (repeat (first | refine sQ (hq := Quiet.pickOr rfl rfl rfl rfl) (hk := ?_) | refine sQ (hq := Quiet.pickAnd rfl rfl rfl rfl) (hk := ?_) | refine sQ (hk := ?_) | refine sSkip (hk := ?_) | refine sG (hk := ?_) | refine sOwn (hk := ?_))); refine aSeq_nil ?_)
              refine athen_n ⟨k + 1, by omega, by omega, le_T⟩
        · refine Awp.exit ?_
          refine h23 _ ?_
          refine nT (hk := ?_)
          have hl7 : decide (((placesP (crossL f) r leaf).length : Int) < 7) = false := decide_eq_false (by omega)
          refine Awp.seq fun K44 h44 => ?_
          rcases i with _ | i
          · (refine drawD 19 (hh := ?_); (repeat (first | refine qQ (hq := Quiet.pickOr rfl rfl rfl rfl) (hk := ?_) | refine qQ (hq := Quiet.pickAnd rfl rfl rfl rfl) (hk := ?_) | refine qQ (hk := ?_) | refine qSkip (hk := ?_) | refine qG (hk := ?_))); refine aQ_nil ?_; (repeat (first | refine sQ (hq := Quiet.pickOr rfl rfl rfl rfl) (hk := ?_) | refine sQ (hq := Quiet.pickAnd rfl rfl rfl rfl) (hk := ?_) | refine sQ (hk := ?_) | refine sSkip (hk := ?_) | refine sG (hk := ?_) | refine sOwn (hk := ?_))); refine aSeq_nil ?_)
            refine h44 _ ?_
            refine nT (hk := ?_)
            refine Awp.cond rfl (fun hb45 => ?_) (fun hb45 => ?_)
            · cases hb45
            · refine Awp.skip ?_
              refine h13 _ ?_
              refine nT (hk := ?_)
              (refine Awp.region ?_; (repeat (first | refine sQ (hq := Quiet.pickOr rfl rfl rfl rfl) (hk := ?_) | refine sQ (hq := Quiet.pickAnd rfl rfl rfl rfl) (hk := ?_) | refine sQ (hk := ?_) | refine sSkip (hk := ?_) | refine sG (hk := ?_) | refine sOwn (hk := ?_))); refine aSeq_nil ?_)
              refine athen_n ⟨0 + 1, by omega, by omega, le_T⟩
          · obtain ⟨r0, hr0⟩ : ∃ r0, (regsB f)[i]? = some r0 := ⟨_, List.getElem?_eq_getElem (by omega)⟩
            have hrr := asc_apart hasc hr0 hr
            have hpos : decide (((i + 1 : Nat) : Int) > 0) = true := decide_eq_true (by omega)
            have hpre : (regsB f)[(((i + 1 : Nat) : Int) - 1).toNat]? = some r0 := by rw [show (((i + 1 : Nat) : Int) - 1).toNat = i by omega]; exact hr0
            (refine drawD 19 (hh := ?_); (repeat (first | refine qQ (hq := Quiet.pickOr rfl rfl rfl rfl) (hk := ?_) | refine qQ (hq := Quiet.pickAnd rfl rfl rfl rfl) (hk := ?_) | refine qQ (hk := ?_) | refine qSkip (hk := ?_) | refine qG (hk := ?_))); refine aQ_nil ?_; (repeat (first | refine sQ (hq := Quiet.pickOr rfl rfl rfl rfl) (hk := ?_) | refine sQ (hq := Quiet.pickAnd rfl rfl rfl rfl) (hk := ?_) | refine sQ (hk := ?_) | refine sSkip (hk := ?_) | refine sG (hk := ?_) | refine sOwn (hk := ?_))); refine aSeq_nil ?_)
            refine h44 _ ?_
            refine nT (hk := ?_)
            refine Awp.cond rfl (fun hb45 => ?_) (fun hb45 => ?_)
            · cases hb45
            · refine Awp.skip ?_
              refine h13 _ ?_
              refine nT (hk := ?_)
              (refine Awp.region ?_; (repeat (first | refine sQ (hq := Quiet.pickOr rfl rfl rfl rfl) (hk := ?_) | refine sQ (hq := Quiet.pickAnd rfl rfl rfl rfl) (hk := ?_) | refine sQ (hk := ?_) | refine sSkip (hk := ?_) | refine sG (hk := ?_) | refine sOwn (hk := ?_))); refine aSeq_nil ?_)
              refine athen_n ⟨i + 1 + 1, by omega, by omega, le_T⟩
    · refine Awp.exit ?_
      refine h7 _ ?_
      refine nT (hk := ?_)
      refine Awp.seq fun K47 h47 => ?_
      refine Awp.seq fun K48 h48 => ?_
      (refine Awp.region ?_; (repeat (first | refine sQ (hq := Quiet.pickOr rfl rfl rfl rfl) (hk := ?_) | refine sQ (hq := Quiet.pickAnd rfl rfl rfl rfl) (hk := ?_) | refine sQ (hk := ?_) | refine sSkip (hk := ?_) | refine sG (hk := ?_) | refine sOwn (hk := ?_))); refine aSeq_nil ?_)
      refine h48 _ ?_
      refine nT (hk := ?_)
      refine Awp.block ?_
      refine Awp.loopF (fun i : Nat => ⟨[.any, .lit (.bool leaf), .ptr 0 0, .any, .any, .bs tInt (regsB f), .any, .bs tHint (hintsL f leaf), .any, .any, .any, .any, .any, .any, .any, .lit (.int .i64 (i : Int)), .any, .any, .any, .any, .any, .any, .any, .any, .any, .any, .any, .any, .any, .any, .any, .any, .any, .any, .any, .any, .any, .any, .any, .any, .any, .any, .any, .any, .any, .any, .any, .any, .any, .any, .any, .any, .any, .any, .any, .any, .any, .any, .any, .any, .any, .any, .any, .any, .any, .any, .any, .any, .any, .any, .any, .any, .any, .any, .any, .any, .any, .any, .any, .any, .any, .any, .any, .any, .any, .any, .any, .any, .any, .any, .any, .any, .any, .any, .any, .any, .any, .any, .any, .any, .any, .any, .any, .any, .any, .any, .any, .any, .any, .any, .any, .any, .any, .any, .any, .any, .any, .any, .any, .any, .any, .any, .any, .any, .any, .any, .any, .any, .any, .any, .any, .any, .any, .any, .any, .any, .any, .any, .any, .any, .any, .any, .any, .any, .any, .any, .any, .any, .any, .any, .any, .any, .any, .any, .any, .any, .any, .any, .any, .any, .any, .any, .any, .any, .any, .any, .any, .any, .any, .any, .any, .any, .any], [.box (encFunc f)]⟩) (fun i => i ≤ (hintsL f leaf).length) (fun i => (hintsL f leaf).length - i) 0 (Nat.zero_le _) (le_T) ?_
      intro i hi
      refine Awp.seq fun K50 h50 => ?_
      refine Awp.seq fun K51 h51 => ?_
      (refine Awp.region ?_; (repeat (first | refine sQ (hq := Quiet.pickOr rfl rfl rfl rfl) (hk := ?_) | refine sQ (hq := Quiet.pickAnd rfl rfl rfl rfl) (hk := ?_) | refine sQ (hk := ?_) | refine sSkip (hk := ?_) | refine sG (hk := ?_) | refine sOwn (hk := ?_))); refine aSeq_nil ?_)
      refine h51 _ ?_
      refine nT (hk := ?_)
      refine Awp.cond rfl (fun hb52 => ?_) (fun hb52 => ?_)
      · have hlt : i < (hintsL f leaf).length := by simpa using hb52
        obtain ⟨q, hq⟩ : ∃ q, (hintsL f leaf)[i]? = some q := ⟨_, List.getElem?_eq_getElem hlt⟩
        obtain ⟨hq1, n, hn, hn30, _⟩ := hint_in (List.mem_of_getElem? hq)
        refine Awp.skip ?_
        refine h50 _ ?_
        refine nT (hk := ?_)
        refine Awp.seq fun K53 h53 => ?_
        refine Awp.block ?_
        refine Awp.seq fun K54 h54 => ?_
        (refine Awp.region ?_; (repeat (first | refine sQ (hq := Quiet.pickOr rfl rfl rfl rfl) (hk := ?_) | refine sQ (hq := Quiet.pickAnd rfl rfl rfl rfl) (hk := ?_) | refine sQ (hk := ?_) | refine sSkip (hk := ?_) | refine sG (hk := ?_) | refine sOwn (hk := ?_))); refine aSeq_nil ?_)
        refine h54 _ ?_
        refine nT (hk := ?_)
        refine Awp.seq fun K55 h55 => ?_
        refine Awp.seq fun K56 h56 => ?_
        (refine Awp.region ?_; (repeat (first | refine sQ (hq := Quiet.pickOr rfl rfl rfl rfl) (hk := ?_) | refine sQ (hq := Quiet.pickAnd rfl rfl rfl rfl) (hk := ?_) | refine sQ (hk := ?_) | refine sSkip (hk := ?_) | refine sG (hk := ?_) | refine sOwn (hk := ?_))); refine aSeq_nil ?_)
        refine h56 _ ?_
        refine nT (hk := ?_)
        refine Awp.block ?_
        refine Awp.loopF (fun k : Nat => ⟨[.any, .lit (.bool leaf), .ptr 0 0, .any, .any, .bs tInt (regsB f), .any, .bs tHint (hintsL f leaf), .any, .any, .any, .any, .any, .any, .any, .lit (.int .i64 (i : Int)), .lit (.bool (((regsB f).take k).any (· == q.r))), .lit (.int .i64 (k : Int)), .any, .any, .any, .any, .any, .any, .any, .any, .any, .any, .any, .any, .any, .any, .any, .any, .any, .any, .any, .any, .any, .any, .any, .any, .any, .any, .any, .any, .any, .any, .any, .any, .any, .any, .any, .any, .any, .any, .any, .any, .any, .any, .any, .any, .any, .any, .any, .any, .any, .any, .any, .any, .any, .any, .any, .any, .any, .any, .any, .any, .any, .any, .any, .any, .any, .any, .any, .any, .any, .any, .any, .any, .any, .any, .any, .any, .any, .any, .any, .any, .any, .any, .any, .any, .any, .any, .any, .any, .any, .any, .any, .any, .any, .any, .any, .any, .any, .any, .any, .any, .any, .any, .any, .any, .any, .any, .any, .any, .any, .any, .any, .any, .any, .any, .any, .any, .any, .any, .any, .any, .any, .any, .any, .any, .any, .any, .any, .any, .any, .any, .any, .any, .any, .any, .any, .any, .any, .any, .any, .any, .any, .any, .any, .any, .any, .any, .any, .any, .any, .any, .any, .any, .any, .any, .any], [.box (encFunc f)]⟩) (fun k => k ≤ (regsB f).length) (fun k => (regsB f).length - k) 0 (Nat.zero_le _) (le_T) ?_
        intro k hk
        refine Awp.seq fun K58 h58 => ?_
        refine Awp.seq fun K59 h59 => ?_
        (refine Awp.region ?_; (repeat (first | refine sQ (hq := Quiet.pickOr rfl rfl rfl rfl) (hk := ?_) | refine sQ (hq := Quiet.pickAnd rfl rfl rfl rfl) (hk := ?_) | refine sQ (hk := ?_) | refine sSkip (hk := ?_) | refine sG (hk := ?_) | refine sOwn (hk := ?_))); refine aSeq_nil ?_)
        refine h59 _ ?_
        refine nT (hk := ?_)
        refine Awp.cond rfl (fun hb60 => ?_) (fun hb60 => ?_)
        · have hklt : k < (regsB f).length := by simpa using hb60
          obtain ⟨r, hr⟩ : ∃ r, (regsB f)[k]? = some r := ⟨_, List.getElem?_eq_getElem hklt⟩
          have han := anyN_next (q := q.r) hr
          generalize hB0 : ((regsB f).take k).any (· == q.r) = B0 at han ⊢
          refine Awp.skip ?_
          refine h58 _ ?_
          refine nT (hk := ?_)
          refine Awp.seq fun K61 h61 => ?_
          refine Awp.block ?_
          (refine drawD 14 (hh := ?_); (repeat (first | refine qQ (hq := Quiet.pickOr rfl rfl rfl rfl) (hk := ?_) | refine qQ (hq := Quiet.pickAnd rfl rfl rfl rfl) (hk := ?_) | refine qQ (hk := ?_) | refine qSkip (hk := ?_) | refine qG (hk := ?_))); refine aQ_nil ?_; (repeat (first | refine sQ (hq := Quiet.pickOr rfl rfl rfl rfl) (hk := ?_) | refine sQ (hq := Quiet.pickAnd rfl rfl rfl rfl) (hk := ?_) | refine sQ (hk := ?_) | refine sSkip (hk := ?_) | refine sG (hk := ?_) | refine sOwn (hk := ?_))); refine aSeq_nil ?_)
          refine h61 _ ?_
          refine nT (hk := ?_)
          (refine Awp.region ?_; (repeat (first | refine sQ (hq := Quiet.pickOr rfl rfl rfl rfl) (hk := ?_) | refine sQ (hq := Quiet.pickAnd rfl rfl rfl rfl) (hk := ?_) | refine sQ (hk := ?_) | refine sSkip (hk := ?_) | refine sG (hk := ?_) | refine sOwn (hk := ?_))); refine aSeq_nil ?_)
          refine athen_n ⟨k + 1, by omega, by omega, ?_⟩
          rw [han]
          exact le_T
        · have hke : k = (regsB f).length := by have : ¬ k < (regsB f).length := (by simpa using hb60); omega
          subst hke
          rw [List.take_length, anyN_mem hq1]
          obtain ⟨q0, q1⟩ := q
          have hn : q1 = (n : Int) := hn
          subst hn
          have hnm : (nameP n == (⟨#[]⟩ : ByteArray)) = false := nameP_ne n hn30
          refine Awp.exit ?_
          refine h55 _ ?_
          refine nT (hk := ?_)
          refine Awp.seq fun K62 h62 => ?_
          (refine Awp.region ?_; (repeat (first | refine sQ (hq := Quiet.call rfl (name21_fn n (by omega)) rfl rfl rfl) (hk := ?_) | refine sQ (hq := Quiet.eqS rfl rfl rfl) (hk := ?_) | refine sQ (hq := Quiet.pickOr rfl rfl rfl rfl) (hk := ?_) | refine sQ (hq := Quiet.pickAnd rfl rfl rfl rfl) (hk := ?_) | refine sQ (hk := ?_) | refine sSkip (hk := ?_) | refine sG (hg := by first | rfl | exact gA_c rfl rfl) (hq := by (intro hg; (try simp only [Bool.and_eq_true, beq_iff_eq] at hg); (try simp only [hg, cond_true, Bool.true_and, beq_self_eq_true]); exact Quiet.call rfl (name21_fn n (by omega)) rfl rfl rfl)) (hk := ?_) | refine sG (hg := by first | rfl | exact gA_c rfl rfl) (hq := by (intro hg; (try simp only [Bool.and_eq_true, beq_iff_eq] at hg); (try simp only [hg, cond_true, Bool.true_and, beq_self_eq_true]); exact Quiet.eqS rfl rfl rfl)) (hk := ?_) | refine sG (hk := ?_) | refine sOwn (hk := ?_))); refine aSeq_nil ?_)
          refine h62 _ ?_
          refine nT (hk := ?_)
          refine Awp.cond rfl (fun hb63 => ?_) (fun hb63 => ?_)
          · exfalso
            have hb63 : (nameP n == (⟨#[]⟩ : ByteArray)) = true := hb63
            rw [hnm] at hb63
            cases hb63
          · refine Awp.skip ?_
            refine h53 _ ?_
            refine nT (hk := ?_)
            (refine Awp.region ?_; (repeat (first | refine sQ (hq := Quiet.pickOr rfl rfl rfl rfl) (hk := ?_) | refine sQ (hq := Quiet.pickAnd rfl rfl rfl rfl) (hk := ?_) | refine sQ (hk := ?_) | refine sSkip (hk := ?_) | refine sG (hk := ?_) | refine sOwn (hk := ?_))); refine aSeq_nil ?_)
            refine athen_n ⟨i + 1, by omega, by omega, le_T⟩
      · refine Awp.exit ?_
        refine h47 _ ?_
        refine nT (hk := ?_)
        refine Awp.seq fun K65 h65 => ?_
        (refine Awp.region ?_; (repeat (first | refine sQ (hq := Quiet.call rfl head21_fn rfl rfl rfl) (hk := ?_) | refine sQ (hq := Quiet.pickOr rfl rfl rfl rfl) (hk := ?_) | refine sQ (hq := Quiet.pickAnd rfl rfl rfl rfl) (hk := ?_) | refine sQ (hk := ?_) | refine sSkip (hk := ?_) | refine sG (hg := by first | rfl | exact gA_c rfl rfl) (hq := by (intro hg; (try simp only [Bool.and_eq_true, beq_iff_eq] at hg); (try simp only [hg, cond_true, Bool.true_and, beq_self_eq_true]); exact Quiet.call rfl head21_fn rfl rfl rfl)) (hk := ?_) | refine sG (hk := ?_) | refine sOwn (hk := ?_))); refine aSeq_nil ?_)
        refine h65 _ ?_
        refine nT (hk := ?_)
        refine Awp.ret ?_
        exact ⟨.inr rfl, Fin.cl rfl⟩
end Mu
end
