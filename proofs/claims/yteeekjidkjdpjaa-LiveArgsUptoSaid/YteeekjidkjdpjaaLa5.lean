/-
  Own texts laid together, part 5: MuRef14D, MuRef14E, MuRef14P, MuChkP, MuRowP, MuLaw17P, MuChkQ, MuFnC2, MuRef14F, MuRef14G, MuLaw17F, MuOpen.
  Conditions: as each part says.
-/
import Derived.Test.YteeekjidkjdpjaaLa4
import Derived.Test.YteeekjidkjdpjaaRows
import Derived.Carry
import Derived.OpenShut
import Derived.ProofKit
section
/-
  muntinref14: function, block, walked.
  Conditions: data of at most 2^21 everywhere.
-/
namespace Mu
open Go Go.RowKit Go.Proofs

def badF (f : Func) : Bool := ((!(nameB f.name) || decide (f.args < 0)) || decide (f.args > 6)) || ((f.blocks.length : Int) == 0)
def fitF (f : Func) : Bool := (f.regs == (if regsI f > f.args then regsI f else f.args)) && decide (f.regs ≤ 4096)
def fitF2 (f : Func) : Bool := (f.regs == (if regsI f > f.args then regsI f else f.args)) && decide ((if regsI f > f.args then regsI f else f.args) ≤ 4096)
theorem fitF_alt (f : Func) : fitF f = fitF2 f := by
  unfold fitF fitF2
  generalize (if regsI f > f.args then regsI f else f.args) = m
  by_cases h : f.regs = m
  · rw [h]
  · have : (f.regs == m) = false := by simpa using h
    rw [this]
    rfl
def funcB (p : Prog) (n : Nat) (f : Func) : Bool := !((p.funcs.take n).any fun g => g.name == f.name) && (!(badF f) && fitF f)
def badB (b : Block) : Bool := !(nameB b.name) || ((b.ins.length : Int) == 0)
def badI (p : Prog) (f : Func) (b : Block) (i : Nat) (x : Ins) : Bool := (endsB x != (((i : Int) + 1) == (b.ins.length : Int))) || !(oneB p f x)
def badAt (p : Prog) (f : Func) (b : Block) (i : Nat) : Bool := b.ins[i]?.elim false (badI p f b i)
def blockB (p : Prog) (f : Func) (n : Nat) (b : Block) : Bool := !((f.blocks.take n).any fun c => c.name == b.name) && (!(badB b) && !((List.range b.ins.length).any (badAt p f b)))
theorem take_any {α : Type} {l : List α} {q : α → Bool} {k n : Nat} {x : α} (hx : l[k]? = some x) (hk : k < n) (hq : q x = true) : (l.take n).any q = true :=
  List.any_eq_true.2 ⟨x, List.mem_of_getElem? (i := k) (by rw [List.getElem?_take_of_lt hk]; exact hx), hq⟩

set_option maxRecDepth 100000 in
set_option maxHeartbeats 4000000 in
theorem function14_fn (p : Prog) (n : Nat) (f : Func) (hpl : p.funcs.length ≤ 2097152) (hok : ∀ f ∈ p.funcs, okFunc f) (hsm : ∀ f ∈ p.funcs, smallF f) (hf : p.funcs[n]? = some f) :
    Fn Try.prog 56 [.agg (encProg p), .lit (.int .i64 (n : Int))] (.lit (.bool (funcB p n f))) := by
  have hfm := List.mem_of_getElem? hf
  have ho := hok f hfm
  have hs := hsm f hfm
  have hbl := hs.blocks
  have hnl : n < p.funcs.length := (List.getElem?_eq_some_iff.1 hf).1
  have hnm := name12_fn f.name ho.name
  have hrg := regs14_fn f ho hs
  refine Fn.of_awp Try.func56 rfl (by kernel_rfl) rfl Try.ntmps56 fun C hC => ?_
  simp only [List.length_cons, List.length_nil, Nat.reduceAdd, Nat.reduceSub, List.replicate_succ, List.replicate_zero, List.cons_append, List.nil_append]
  refine Awp.seq fun K1 h1 => ?_
  (refine Awp.region ?_; (repeat (first | refine sQ (hq := Quiet.pickOr rfl rfl rfl rfl) (hk := ?_) | refine sQ (hq := Quiet.pickAnd rfl rfl rfl rfl) (hk := ?_) | refine sQ (hk := ?_) | refine sSkip (hk := ?_) | refine sG (hk := ?_) | refine sOwn (hk := ?_))); refine aSeq_nil ?_)
  refine h1 _ ?_
  refine nT (hk := ?_)
  refine Awp.seq fun K2 h2 => ?_
  (refine Awp.region ?_; (repeat (first | refine sQ (hq := Quiet.pickOr rfl rfl rfl rfl) (hk := ?_) | refine sQ (hq := Quiet.pickAnd rfl rfl rfl rfl) (hk := ?_) | refine sQ (hk := ?_) | refine sSkip (hk := ?_) | refine sG (hk := ?_) | refine sOwn (hk := ?_))); refine aSeq_nil ?_)
  refine h2 _ ?_
  refine nT (hk := ?_)
  refine Awp.seq fun K3 h3 => ?_
  refine Awp.seq fun K4 h4 => ?_
  (refine Awp.region ?_; (repeat (first | refine sQ (hq := Quiet.pickOr rfl rfl rfl rfl) (hk := ?_) | refine sQ (hq := Quiet.pickAnd rfl rfl rfl rfl) (hk := ?_) | refine sQ (hk := ?_) | refine sSkip (hk := ?_) | refine sG (hk := ?_) | refine sOwn (hk := ?_))); refine aSeq_nil ?_)
  refine h4 _ ?_
  refine nT (hk := ?_)
  refine Awp.block ?_
  refine Awp.loopF (fun i : Nat => ⟨[.any, .lit (.int .i64 (n : Int)), .ptr 0 0, .any, .any, .ptr 1 0, .lit (.int .i64 (i : Int)), .any, .any, .any, .any, .any, .any, .any, .any, .any, .any, .any, .any, .any, .any, .any, .any, .any, .any, .any, .any, .any, .any, .any, .any, .any, .any, .any, .any, .any, .any, .any, .any, .any, .any, .any, .any, .any, .any, .any, .any, .any, .any, .any, .any, .any, .any, .any, .any, .any, .any, .any, .any], [.box (encProg p), .box (encFunc f)]⟩) (fun i => i ≤ n ∧ ((p.funcs.take i).any fun g => g.name == f.name) = false) (fun i => n - i) 0 ⟨Nat.zero_le _, by simp⟩ (le_T) ?_
  rintro i ⟨hi, hno⟩
  refine Awp.seq fun K6 h6 => ?_
  refine Awp.seq fun K7 h7 => ?_
  (refine Awp.region ?_; (repeat (first | refine sQ (hq := Quiet.pickOr rfl rfl rfl rfl) (hk := ?_) | refine sQ (hq := Quiet.pickAnd rfl rfl rfl rfl) (hk := ?_) | refine sQ (hk := ?_) | refine sSkip (hk := ?_) | refine sG (hk := ?_) | refine sOwn (hk := ?_))); refine aSeq_nil ?_)
  refine h7 _ ?_
  refine nT (hk := ?_)
  refine Awp.cond rfl (fun hb8 => ?_) (fun hb8 => ?_)
  · have hlt : i < n := by simpa using hb8
    obtain ⟨g, hg⟩ : ∃ g, p.funcs[i]? = some g := ⟨_, List.getElem?_eq_getElem (by omega)⟩
    refine Awp.skip ?_
    refine h6 _ ?_
    refine nT (hk := ?_)
    refine Awp.seq fun K9 h9 => ?_
    refine Awp.block ?_
    refine Awp.seq fun K10 h10 => ?_
    (refine drawD 9 (hh := ?_); (repeat (first | refine qQ (hq := Quiet.eqS rfl rfl rfl) (hk := ?_) | refine qQ (hq := Quiet.pickOr rfl rfl rfl rfl) (hk := ?_) | refine qQ (hq := Quiet.pickAnd rfl rfl rfl rfl) (hk := ?_) | refine qQ (hk := ?_) | refine qSkip (hk := ?_) | refine qG (hg := by first | rfl | exact gA_c rfl rfl) (hq := by (intro hg; (try simp only [Bool.and_eq_true, beq_iff_eq] at hg); (try simp only [hg, cond_true, Bool.true_and, beq_self_eq_true]); exact Quiet.eqS rfl rfl rfl)) (hk := ?_) | refine qG (hk := ?_))); refine aQ_nil ?_; (repeat (first | refine sQ (hq := Quiet.eqS rfl rfl rfl) (hk := ?_) | refine sQ (hq := Quiet.pickOr rfl rfl rfl rfl) (hk := ?_) | refine sQ (hq := Quiet.pickAnd rfl rfl rfl rfl) (hk := ?_) | refine sQ (hk := ?_) | refine sSkip (hk := ?_) | refine sG (hg := by first | rfl | exact gA_c rfl rfl) (hq := by (intro hg; (try simp only [Bool.and_eq_true, beq_iff_eq] at hg); (try simp only [hg, cond_true, Bool.true_and, beq_self_eq_true]); exact Quiet.eqS rfl rfl rfl)) (hk := ?_) | refine sG (hk := ?_) | refine sOwn (hk := ?_))); refine aSeq_nil ?_)
    refine h10 _ ?_
    refine nT (hk := ?_)
    refine Awp.cond rfl (fun hb11 => ?_) (fun hb11 => ?_)
    · have e : funcB p n f = false := by
        unfold funcB
        rw [take_any (q := fun g => g.name == f.name) hg hlt hb11]
        rfl
      refine Awp.seq fun K12 h12 => ?_
      (refine Awp.region ?_; (repeat (first | refine sQ (hq := Quiet.pickOr rfl rfl rfl rfl) (hk := ?_) | refine sQ (hq := Quiet.pickAnd rfl rfl rfl rfl) (hk := ?_) | refine sQ (hk := ?_) | refine sSkip (hk := ?_) | refine sG (hk := ?_) | refine sOwn (hk := ?_))); refine aSeq_nil ?_)
      refine h12 _ ?_
      refine nT (hk := ?_)
      refine Awp.ret ?_
      rw [e]
      exact ⟨.inr rfl, Fin.cl rfl⟩
    · refine Awp.skip ?_
      refine h9 _ ?_
      refine nT (hk := ?_)
      (refine Awp.region ?_; (repeat (first | refine sQ (hq := Quiet.pickOr rfl rfl rfl rfl) (hk := ?_) | refine sQ (hq := Quiet.pickAnd rfl rfl rfl rfl) (hk := ?_) | refine sQ (hk := ?_) | refine sSkip (hk := ?_) | refine sG (hk := ?_) | refine sOwn (hk := ?_))); refine aSeq_nil ?_)
      refine athen_n ⟨i + 1, ⟨by omega, any_takeG hg hno hb11⟩, by omega, ?_⟩
      exact le_T
  · have hin : i = n := by have : ¬ i < n := by simpa using hb8
                           omega
    subst hin
    refine Awp.exit ?_
    refine h3 _ ?_
    refine nT (hk := ?_)
    refine Awp.seq fun K13 h13 => ?_
    refine Awp.seq fun K14 h14 => ?_
    (refine Awp.region ?_; (repeat (first | refine sQ (hq := Quiet.call rfl hnm rfl rfl rfl) (hk := ?_) | refine sQ (hq := Quiet.pickOr rfl rfl rfl rfl) (hk := ?_) | refine sQ (hq := Quiet.pickAnd rfl rfl rfl rfl) (hk := ?_) | refine sQ (hk := ?_) | refine sSkip (hk := ?_) | refine sG (hg := by first | rfl | exact gA_c rfl rfl) (hq := by (intro hg; (try simp only [Bool.and_eq_true, beq_iff_eq] at hg); (try simp only [hg, cond_true, Bool.true_and, beq_self_eq_true]); exact Quiet.call rfl hnm rfl rfl rfl)) (hk := ?_) | refine sG (hk := ?_) | refine sOwn (hk := ?_))); refine aSeq_nil ?_)
    refine h14 _ ?_
    refine nT (hk := ?_)
    refine Awp.cond rfl (fun hb15 => ?_) (fun hb15 => ?_)
    · have e1 : badF f = true := hb15
      have e : funcB p i f = false := by unfold funcB; rw [hno, e1]; rfl
      refine Awp.seq fun K16 h16 => ?_
      (refine Awp.region ?_; (repeat (first | refine sQ (hq := Quiet.pickOr rfl rfl rfl rfl) (hk := ?_) | refine sQ (hq := Quiet.pickAnd rfl rfl rfl rfl) (hk := ?_) | refine sQ (hk := ?_) | refine sSkip (hk := ?_) | refine sG (hk := ?_) | refine sOwn (hk := ?_))); refine aSeq_nil ?_)
      refine h16 _ ?_
      refine nT (hk := ?_)
      refine Awp.ret ?_
      rw [e]
      exact ⟨.inr rfl, Fin.cl rfl⟩
    · have e1 : badF f = false := hb15
      have e : funcB p i f = fitF2 f := by unfold funcB; rw [hno, e1, fitF_alt]; rfl
      refine Awp.skip ?_
      refine h13 _ ?_
      refine nT (hk := ?_)
      refine Awp.seq fun K17 h17 => ?_
      (refine drawD 14 (hh := ?_); (repeat (first | refine qQ (hq := Quiet.call rfl hrg rfl rfl rfl) (hk := ?_) | refine qQ (hq := Quiet.pickOr rfl rfl rfl rfl) (hk := ?_) | refine qQ (hq := Quiet.pickAnd rfl rfl rfl rfl) (hk := ?_) | refine qQ (hk := ?_) | refine qSkip (hk := ?_) | refine qG (hg := by first | rfl | exact gA_c rfl rfl) (hq := by (intro hg; (try simp only [Bool.and_eq_true, beq_iff_eq] at hg); (try simp only [hg, cond_true, Bool.true_and, beq_self_eq_true]); exact Quiet.call rfl hrg rfl rfl rfl)) (hk := ?_) | refine qG (hk := ?_))); refine aQ_nil ?_; (repeat (first | refine sQ (hq := Quiet.call rfl hrg rfl rfl rfl) (hk := ?_) | refine sQ (hq := Quiet.pickOr rfl rfl rfl rfl) (hk := ?_) | refine sQ (hq := Quiet.pickAnd rfl rfl rfl rfl) (hk := ?_) | refine sQ (hk := ?_) | refine sSkip (hk := ?_) | refine sG (hg := by first | rfl | exact gA_c rfl rfl) (hq := by (intro hg; (try simp only [Bool.and_eq_true, beq_iff_eq] at hg); (try simp only [hg, cond_true, Bool.true_and, beq_self_eq_true]); exact Quiet.call rfl hrg rfl rfl rfl)) (hk := ?_) | refine sG (hk := ?_) | refine sOwn (hk := ?_))); refine aSeq_nil ?_)
      refine h17 _ ?_
      refine nT (hk := ?_)
      refine Awp.ret ?_
      rw [e]
      exact ⟨.inr rfl, Fin.cl rfl⟩

set_option maxRecDepth 100000 in
set_option maxHeartbeats 4000000 in
theorem block14_fn (p : Prog) (f : Func) (n : Nat) (b : Block) (hpl : p.funcs.length ≤ 2097152) (ho : okFunc f) (hs : smallF f) (hb : f.blocks[n]? = some b) :
    Fn Try.prog 57 [.agg (encProg p), .agg (encFunc f), .lit (.int .i64 (n : Int))] (.lit (.bool (blockB p f n b))) := by
  have hbm := List.mem_of_getElem? hb
  have hob := ho.blocks b hbm
  have hsb := hs.all b hbm
  have hbl := hs.blocks
  have hil := hsb.ins
  have hnl : n < f.blocks.length := (List.getElem?_eq_some_iff.1 hb).1
  have hnm := name12_fn b.name hob.name
  have hbo : Try.prog.underlying 4 = some .bool := by kernel_rfl
  refine Fn.of_awp Try.func57 rfl (by kernel_rfl) rfl Try.ntmps57 fun C hC => ?_
  simp only [List.length_cons, List.length_nil, Nat.reduceAdd, Nat.reduceSub, List.replicate_succ, List.replicate_zero, List.cons_append, List.nil_append]
  refine Awp.seq fun K1 h1 => ?_
  (refine Awp.region ?_; (repeat (first | refine sQ (hq := Quiet.pickOr rfl rfl rfl rfl) (hk := ?_) | refine sQ (hq := Quiet.pickAnd rfl rfl rfl rfl) (hk := ?_) | refine sQ (hk := ?_) | refine sSkip (hk := ?_) | refine sG (hk := ?_) | refine sOwn (hk := ?_))); refine aSeq_nil ?_)
  refine h1 _ ?_
  refine nT (hk := ?_)
  refine Awp.seq fun K2 h2 => ?_
  (refine Awp.region ?_; (repeat (first | refine sQ (hq := Quiet.pickOr rfl rfl rfl rfl) (hk := ?_) | refine sQ (hq := Quiet.pickAnd rfl rfl rfl rfl) (hk := ?_) | refine sQ (hk := ?_) | refine sSkip (hk := ?_) | refine sG (hk := ?_) | refine sOwn (hk := ?_))); refine aSeq_nil ?_)
  refine h2 _ ?_
  refine nT (hk := ?_)
  refine Awp.seq fun K3 h3 => ?_
  refine Awp.seq fun K4 h4 => ?_
  (refine Awp.region ?_; (repeat (first | refine sQ (hq := Quiet.pickOr rfl rfl rfl rfl) (hk := ?_) | refine sQ (hq := Quiet.pickAnd rfl rfl rfl rfl) (hk := ?_) | refine sQ (hk := ?_) | refine sSkip (hk := ?_) | refine sG (hk := ?_) | refine sOwn (hk := ?_))); refine aSeq_nil ?_)
  refine h4 _ ?_
  refine nT (hk := ?_)
  refine Awp.block ?_
  refine Awp.loopF (fun i : Nat => ⟨[.any, .any, .lit (.int .i64 (n : Int)), .ptr 0 0, .ptr 1 0, .any, .any, .ptr 2 0, .lit (.int .i64 (i : Int)), .any, .any, .any, .any, .any, .any, .any, .any, .any, .any, .any, .any, .any, .any, .any, .any, .any, .any, .any, .any, .any, .any, .any, .any, .any, .any, .any, .any, .any, .any, .any, .any, .any, .any, .any, .any, .any, .any, .any, .any, .any, .any, .any, .any, .any, .any, .any, .any, .any, .any, .any, .any, .any, .any, .any, .any, .any, .any, .any, .any, .any], [.box (encProg p), .box (encFunc f), .box (encBlock b)]⟩) (fun i => i ≤ n ∧ ((f.blocks.take i).any fun c => c.name == b.name) = false) (fun i => n - i) 0 ⟨Nat.zero_le _, by simp⟩ (le_T) ?_
  rintro i ⟨hi, hno⟩
  refine Awp.seq fun K6 h6 => ?_
  refine Awp.seq fun K7 h7 => ?_
  (refine Awp.region ?_; (repeat (first | refine sQ (hq := Quiet.pickOr rfl rfl rfl rfl) (hk := ?_) | refine sQ (hq := Quiet.pickAnd rfl rfl rfl rfl) (hk := ?_) | refine sQ (hk := ?_) | refine sSkip (hk := ?_) | refine sG (hk := ?_) | refine sOwn (hk := ?_))); refine aSeq_nil ?_)
  refine h7 _ ?_
  refine nT (hk := ?_)
  refine Awp.cond rfl (fun hb8 => ?_) (fun hb8 => ?_)
  · have hlt : i < n := by simpa using hb8
    obtain ⟨g, hg⟩ : ∃ g, f.blocks[i]? = some g := ⟨_, List.getElem?_eq_getElem (by omega)⟩
    refine Awp.skip ?_
    refine h6 _ ?_
    refine nT (hk := ?_)
    refine Awp.seq fun K9 h9 => ?_
    refine Awp.block ?_
    refine Awp.seq fun K10 h10 => ?_
    (refine drawD 9 (hh := ?_); (repeat (first | refine qQ (hq := Quiet.eqS rfl rfl rfl) (hk := ?_) | refine qQ (hq := Quiet.pickOr rfl rfl rfl rfl) (hk := ?_) | refine qQ (hq := Quiet.pickAnd rfl rfl rfl rfl) (hk := ?_) | refine qQ (hk := ?_) | refine qSkip (hk := ?_) | refine qG (hg := by first | rfl | exact gA_c rfl rfl) (hq := by (intro hg; (try simp only [Bool.and_eq_true, beq_iff_eq] at hg); (try simp only [hg, cond_true, Bool.true_and, beq_self_eq_true]); exact Quiet.eqS rfl rfl rfl)) (hk := ?_) | refine qG (hk := ?_))); refine aQ_nil ?_; (repeat (first | refine sQ (hq := Quiet.eqS rfl rfl rfl) (hk := ?_) | refine sQ (hq := Quiet.pickOr rfl rfl rfl rfl) (hk := ?_) | refine sQ (hq := Quiet.pickAnd rfl rfl rfl rfl) (hk := ?_) | refine sQ (hk := ?_) | refine sSkip (hk := ?_) | refine sG (hg := by first | rfl | exact gA_c rfl rfl) (hq := by (intro hg; (try simp only [Bool.and_eq_true, beq_iff_eq] at hg); (try simp only [hg, cond_true, Bool.true_and, beq_self_eq_true]); exact Quiet.eqS rfl rfl rfl)) (hk := ?_) | refine sG (hk := ?_) | refine sOwn (hk := ?_))); refine aSeq_nil ?_)
    refine h10 _ ?_
    refine nT (hk := ?_)
    refine Awp.cond rfl (fun hb11 => ?_) (fun hb11 => ?_)
    · have e : blockB p f n b = false := by
        unfold blockB
        rw [take_any (q := fun c => c.name == b.name) hg hlt hb11]
        rfl
      refine Awp.seq fun K12 h12 => ?_
      (refine Awp.region ?_; (repeat (first | refine sQ (hq := Quiet.pickOr rfl rfl rfl rfl) (hk := ?_) | refine sQ (hq := Quiet.pickAnd rfl rfl rfl rfl) (hk := ?_) | refine sQ (hk := ?_) | refine sSkip (hk := ?_) | refine sG (hk := ?_) | refine sOwn (hk := ?_))); refine aSeq_nil ?_)
      refine h12 _ ?_
      refine nT (hk := ?_)
      refine Awp.ret ?_
      rw [e]
      exact ⟨.inr rfl, Fin.cl rfl⟩
    · refine Awp.skip ?_
      refine h9 _ ?_
      refine nT (hk := ?_)
      (refine Awp.region ?_; (repeat (first | refine sQ (hq := Quiet.pickOr rfl rfl rfl rfl) (hk := ?_) | refine sQ (hq := Quiet.pickAnd rfl rfl rfl rfl) (hk := ?_) | refine sQ (hk := ?_) | refine sSkip (hk := ?_) | refine sG (hk := ?_) | refine sOwn (hk := ?_))); refine aSeq_nil ?_)
      refine athen_n ⟨i + 1, ⟨by omega, any_takeG hg hno hb11⟩, by omega, ?_⟩
      exact le_T
  · have hin : i = n := by have : ¬ i < n := by simpa using hb8
                           omega
    subst hin
    refine Awp.exit ?_
    refine h3 _ ?_
    refine nT (hk := ?_)
    refine Awp.seq fun K13 h13 => ?_
    refine Awp.seq fun K14 h14 => ?_
    (refine Awp.region ?_; (repeat (first | refine sQ (hq := Quiet.call rfl hnm rfl rfl rfl) (hk := ?_) | refine sQ (hq := Quiet.pickOr rfl rfl rfl rfl) (hk := ?_) | refine sQ (hq := Quiet.pickAnd rfl rfl rfl rfl) (hk := ?_) | refine sQ (hk := ?_) | refine sSkip (hk := ?_) | refine sG (hg := by first | rfl | exact gA_c rfl rfl) (hq := by (intro hg; (try simp only [Bool.and_eq_true, beq_iff_eq] at hg); (try simp only [hg, cond_true, Bool.true_and, beq_self_eq_true]); exact Quiet.call rfl hnm rfl rfl rfl)) (hk := ?_) | refine sG (hk := ?_) | refine sOwn (hk := ?_))); refine aSeq_nil ?_)
    refine h14 _ ?_
    refine nT (hk := ?_)
    refine Awp.cond rfl (fun hb15 => ?_) (fun hb15 => ?_)
    · have e1 : badB b = true := hb15
      have e : blockB p f i b = false := by unfold blockB; rw [hno, e1]; rfl
      refine Awp.seq fun K16 h16 => ?_
      (refine Awp.region ?_; (repeat (first | refine sQ (hq := Quiet.pickOr rfl rfl rfl rfl) (hk := ?_) | refine sQ (hq := Quiet.pickAnd rfl rfl rfl rfl) (hk := ?_) | refine sQ (hk := ?_) | refine sSkip (hk := ?_) | refine sG (hk := ?_) | refine sOwn (hk := ?_))); refine aSeq_nil ?_)
      refine h16 _ ?_
      refine nT (hk := ?_)
      refine Awp.ret ?_
      rw [e]
      exact ⟨.inr rfl, Fin.cl rfl⟩
    · have e1 : badB b = false := hb15
      refine Awp.skip ?_
      refine h13 _ ?_
      refine nT (hk := ?_)
      refine Awp.seq fun K17 h17 => ?_
      refine Awp.seq fun K18 h18 => ?_
      (refine Awp.region ?_; (repeat (first | refine sQ (hq := Quiet.pickOr rfl rfl rfl rfl) (hk := ?_) | refine sQ (hq := Quiet.pickAnd rfl rfl rfl rfl) (hk := ?_) | refine sQ (hk := ?_) | refine sSkip (hk := ?_) | refine sG (hk := ?_) | refine sOwn (hk := ?_))); refine aSeq_nil ?_)
      refine h18 _ ?_
      refine nT (hk := ?_)
      refine Awp.block ?_
      refine Awp.loopF (fun k : Nat => ⟨[.any, .any, .any, .ptr 0 0, .ptr 1 0, .any, .any, .ptr 2 0, .any, .lit (.int .i64 (k : Int)), .any, .any, .any, .any, .any, .any, .any, .any, .any, .any, .any, .any, .any, .any, .any, .any, .any, .any, .any, .any, .any, .any, .any, .any, .any, .any, .any, .any, .any, .any, .any, .any, .any, .any, .any, .any, .any, .any, .any, .any, .any, .any, .any, .any, .any, .any, .any, .any, .any, .any, .any, .any, .any, .any, .any, .any, .any, .any, .any, .any], [.box (encProg p), .box (encFunc f), .box (encBlock b)]⟩) (fun k => k ≤ b.ins.length ∧ (((List.range b.ins.length).take k).any (badAt p f b)) = false) (fun k => b.ins.length - k) 0 ⟨Nat.zero_le _, by simp⟩ (le_T) ?_
      rintro k ⟨hk, hnk⟩
      refine Awp.seq fun K20 h20 => ?_
      refine Awp.seq fun K21 h21 => ?_
      (refine Awp.region ?_; (repeat (first | refine sQ (hq := Quiet.pickOr rfl rfl rfl rfl) (hk := ?_) | refine sQ (hq := Quiet.pickAnd rfl rfl rfl rfl) (hk := ?_) | refine sQ (hk := ?_) | refine sSkip (hk := ?_) | refine sG (hk := ?_) | refine sOwn (hk := ?_))); refine aSeq_nil ?_)
      refine h21 _ ?_
      refine nT (hk := ?_)
      refine Awp.cond rfl (fun hb22 => ?_) (fun hb22 => ?_)
      · have hkl : k < b.ins.length := by simpa using hb22
        obtain ⟨x, hx⟩ : ∃ x, b.ins[k]? = some x := ⟨_, List.getElem?_eq_getElem hkl⟩
        have hxm := List.mem_of_getElem? hx
        have hox := hob.ins x hxm
        have hxl : x.args.length ≤ 2097152 := by have := hsb.all x hxm; omega
        have hrk : (List.range b.ins.length)[k]? = some k := List.getElem?_range hkl
        have hba : badAt p f b k = badI p f b k x := by unfold badAt; rw [hx]; rfl
        have hend := ends14_fn x
        have hone := one14_fn p f x hox hxl hpl hbl
        refine Awp.skip ?_
        refine h20 _ ?_
        refine nT (hk := ?_)
        refine Awp.seq fun K23 h23 => ?_
        refine Awp.block ?_
        refine Awp.seq fun K24 h24 => ?_
        (refine drawD 24 (hh := ?_); (repeat (first | refine qQ (hq := Quiet.bneb hbo rfl rfl rfl rfl) (hk := ?_) | refine qQ (hq := Quiet.call rfl hend rfl rfl rfl) (hk := ?_) | refine qQ (hq := Quiet.call rfl hone rfl rfl rfl) (hk := ?_) | refine qQ (hq := Quiet.pickOr rfl rfl rfl rfl) (hk := ?_) | refine qQ (hq := Quiet.pickAnd rfl rfl rfl rfl) (hk := ?_) | refine qQ (hk := ?_) | refine qSkip (hk := ?_) | refine qG (hg := by first | rfl | exact gA_c rfl rfl) (hq := by (intro hg; (try simp only [Bool.and_eq_true, beq_iff_eq] at hg); (try simp only [hg, cond_true, Bool.true_and, beq_self_eq_true]); exact Quiet.bneb hbo rfl rfl rfl rfl)) (hk := ?_) | refine qG (hg := by first | rfl | exact gA_c rfl rfl) (hq := by (intro hg; (try simp only [Bool.and_eq_true, beq_iff_eq] at hg); (try simp only [hg, cond_true, Bool.true_and, beq_self_eq_true]); exact Quiet.call rfl hend rfl rfl rfl)) (hk := ?_) | refine qG (hg := by first | rfl | exact gA_c rfl rfl) (hq := by (intro hg; (try simp only [Bool.and_eq_true, beq_iff_eq] at hg); (try simp only [hg, cond_true, Bool.true_and, beq_self_eq_true]); exact Quiet.call rfl hone rfl rfl rfl)) (hk := ?_) | refine qG (hk := ?_))); refine aQ_nil ?_; (repeat (first | refine sQ (hq := Quiet.bneb hbo rfl rfl rfl rfl) (hk := ?_) | refine sQ (hq := Quiet.call rfl hend rfl rfl rfl) (hk := ?_) | refine sQ (hq := Quiet.call rfl hone rfl rfl rfl) (hk := ?_) | refine sQ (hq := Quiet.pickOr rfl rfl rfl rfl) (hk := ?_) | refine sQ (hq := Quiet.pickAnd rfl rfl rfl rfl) (hk := ?_) | refine sQ (hk := ?_) | refine sSkip (hk := ?_) | refine sG (hg := by first | rfl | exact gA_c rfl rfl) (hq := by (intro hg; (try simp only [Bool.and_eq_true, beq_iff_eq] at hg); (try simp only [hg, cond_true, Bool.true_and, beq_self_eq_true]); exact Quiet.bneb hbo rfl rfl rfl rfl)) (hk := ?_) | refine sG (hg := by first | rfl | exact gA_c rfl rfl) (hq := by (intro hg; (try simp only [Bool.and_eq_true, beq_iff_eq] at hg); (try simp only [hg, cond_true, Bool.true_and, beq_self_eq_true]); exact Quiet.call rfl hend rfl rfl rfl)) (hk := ?_) | refine sG (hg := by first | rfl | exact gA_c rfl rfl) (hq := by (intro hg; (try simp only [Bool.and_eq_true, beq_iff_eq] at hg); (try simp only [hg, cond_true, Bool.true_and, beq_self_eq_true]); exact Quiet.call rfl hone rfl rfl rfl)) (hk := ?_) | refine sG (hk := ?_) | refine sOwn (hk := ?_))); refine aSeq_nil ?_)
        refine h24 _ ?_
        refine nT (hk := ?_)
        refine Awp.cond rfl (fun hb25 => ?_) (fun hb25 => ?_)
        · have e2 : badAt p f b k = true := by rw [hba]; exact hb25
          have e : blockB p f i b = false := by
            unfold blockB
            rw [List.any_eq_true.2 ⟨k, List.mem_of_getElem? hrk, e2⟩, hno, e1]
            rfl
          refine Awp.seq fun K26 h26 => ?_
          (refine Awp.region ?_; (repeat (first | refine sQ (hq := Quiet.pickOr rfl rfl rfl rfl) (hk := ?_) | refine sQ (hq := Quiet.pickAnd rfl rfl rfl rfl) (hk := ?_) | refine sQ (hk := ?_) | refine sSkip (hk := ?_) | refine sG (hk := ?_) | refine sOwn (hk := ?_))); refine aSeq_nil ?_)
          refine h26 _ ?_
          refine nT (hk := ?_)
          refine Awp.ret ?_
          rw [e]
          exact ⟨.inr rfl, Fin.cl rfl⟩
        · have e2 : badAt p f b k = false := by rw [hba]; exact hb25
          refine Awp.skip ?_
          refine h23 _ ?_
          refine nT (hk := ?_)
          (refine Awp.region ?_; (repeat (first | refine sQ (hq := Quiet.pickOr rfl rfl rfl rfl) (hk := ?_) | refine sQ (hq := Quiet.pickAnd rfl rfl rfl rfl) (hk := ?_) | refine sQ (hk := ?_) | refine sSkip (hk := ?_) | refine sG (hk := ?_) | refine sOwn (hk := ?_))); refine aSeq_nil ?_)
          refine athen_n ⟨k + 1, ⟨by omega, any_takeG hrk hnk e2⟩, by omega, ?_⟩
          exact le_T
      · have hkl : ¬ k < b.ins.length := by simpa using hb22
        have hno2 := any_all hnk (by rw [List.length_range]; exact hkl)
        have e : blockB p f i b = true := by unfold blockB; rw [hno, e1, hno2]; rfl
        refine Awp.exit ?_
        refine h17 _ ?_
        refine nT (hk := ?_)
        refine Awp.seq fun K27 h27 => ?_
        (refine Awp.region ?_; (repeat (first | refine sQ (hq := Quiet.pickOr rfl rfl rfl rfl) (hk := ?_) | refine sQ (hq := Quiet.pickAnd rfl rfl rfl rfl) (hk := ?_) | refine sQ (hk := ?_) | refine sSkip (hk := ?_) | refine sG (hk := ?_) | refine sOwn (hk := ?_))); refine aSeq_nil ?_)
        refine h27 _ ?_
        refine nT (hk := ?_)
        refine Awp.ret ?_
        rw [e]
        exact ⟨.inr rfl, Fin.cl rfl⟩
end Mu
end
section
/-
  muntinref14: Lacks, missing, walked.
  Conditions: data of at most 2^21 everywhere; the function's blocks end well.
-/
namespace Mu
open Go Go.RowKit Go.Proofs

def lastO (b : Block) : List Int := b.ins[b.ins.length - 1]?.elim [] nextO
def putK (out : List Bool) (k : Int) : List Bool := out.set k.toNat true
def stepK (f : Func) (r : Int) (out : List Bool) (i : Nat) : List Bool :=
  f.blocks[i]?.elim out fun b => if !(out.getD i false) || writesR b.ins r then out else (lastO b).foldl putK out
def roundK (f : Func) (r : Int) (out : List Bool) (m : Nat) : List Bool := (List.range m).foldl (stepK f r) out
def lacksK (f : Func) (r : Int) : Nat → List Bool
  | 0 => (List.replicate f.blocks.length false).set 0 (decide (r ≥ f.args))
  | m + 1 => roundK f r (lacksK f r m) f.blocks.length
def lacksL (f : Func) (r : Int) : List Bool := lacksK f r f.blocks.length
theorem roundK_succ (f : Func) (r : Int) (out : List Bool) (m : Nat) : roundK f r out (m + 1) = stepK f r (roundK f r out m) m := by unfold roundK; rw [List.range_succ, List.foldl_append]; rfl
theorem putsK_len (l : List Int) : ∀ out : List Bool, (l.foldl putK out).length = out.length := by
  induction l with
  | nil => intro out; rfl
  | cons x l ih => intro out; rw [List.foldl_cons, ih]; simp [putK]
theorem stepK_len (f : Func) (r : Int) (out : List Bool) (b : Nat) : (stepK f r out b).length = out.length := by
  unfold stepK
  cases f.blocks[b]? with
  | none => rfl
  | some b =>
    simp only [Option.elim]
    split
    · rfl
    · exact putsK_len _ _
theorem roundK_len (f : Func) (r : Int) (out : List Bool) (m : Nat) : (roundK f r out m).length = out.length := by
  induction m with
  | zero => rfl
  | succ m ih => rw [roundK_succ, stepK_len, ih]
theorem lacksK_len (f : Func) (r : Int) (m : Nat) : (lacksK f r m).length = f.blocks.length := by
  induction m with
  | zero => simp [lacksK]
  | succ m ih => unfold lacksK; rw [roundK_len, ih]
/-- the blocks of a function end well -/
structure Ended (f : Func) : Prop where
  ne : 0 < f.blocks.length
  last : ∀ b ∈ f.blocks, ∃ x, b.ins[b.ins.length - 1]? = some x ∧ ∀ k ∈ nextO x, 0 ≤ k ∧ k < (f.blocks.length : Int)

set_option maxRecDepth 100000 in
set_option maxHeartbeats 4000000 in
theorem lacks14_fn (f : Func) (r : Int) (ho : okFunc f) (hs : smallF f) (he : Ended f) : Fn Try.prog 58 [.agg (encFunc f), .lit (.int .i64 r)] (.bs Ty.bool (lacksL f r)) := by
  have hbl := hs.blocks
  have hne := he.ne
  have hmk : 1 * f.blocks.length ≤ 281474976710656 := by omega
  have hmx : f.blocks.length ≤ maxLen := by unfold maxLen; omega
  have hrl : 0 < (List.replicate f.blocks.length false).length := by simp; omega
  obtain ⟨q00, hq00⟩ : ∃ q, (List.replicate f.blocks.length false)[0]? = some q := ⟨_, List.getElem?_eq_getElem hrl⟩
  refine Fn.of_awp Try.func58 rfl (by kernel_rfl) rfl Try.ntmps58 fun C hC => ?_
  simp only [List.length_cons, List.length_nil, Nat.reduceAdd, Nat.reduceSub, List.replicate_succ, List.replicate_zero, List.cons_append, List.nil_append]
  refine Awp.seq fun K1 h1 => ?_
  (refine Awp.region ?_; (repeat (first | refine sQ (hq := Quiet.pickOr rfl rfl rfl rfl) (hk := ?_) | refine sQ (hq := Quiet.pickAnd rfl rfl rfl rfl) (hk := ?_) | refine sQ (hk := ?_) | refine sSkip (hk := ?_) | refine sG (hk := ?_) | refine sOwn (hk := ?_))); refine aSeq_nil ?_)
  refine h1 _ ?_
  refine nT (hk := ?_)
  refine Awp.seq fun K2 h2 => ?_
  (refine Awp.region ?_; (repeat (first | refine sQ (hq := Quiet.pickOr rfl rfl rfl rfl) (hk := ?_) | refine sQ (hq := Quiet.pickAnd rfl rfl rfl rfl) (hk := ?_) | refine sQ (hk := ?_) | refine sSkip (hk := ?_) | refine sG (hk := ?_) | refine sOwn (hk := ?_))))
  (repeat (first | (refine aSeq_t rfl (AOp.mk1 (e := 4) (z := .bool false) (bytes := 1) (T := Ty.bool) false rfl (by kernel_rfl) rfl (fun _ _ => rfl) rfl rfl hmk hmx ?_); refine sNt (hk := ?_)) | refine sQ (hq := Quiet.pickOr rfl rfl rfl rfl) (hk := ?_) | refine sQ (hq := Quiet.pickAnd rfl rfl rfl rfl) (hk := ?_) | refine sQ (hk := ?_) | refine sSkip (hk := ?_) | refine sG (hk := ?_) | refine sOwn (hk := ?_)))
  refine aSeq_nil ?_
  refine h2 _ ?_
  refine nT (hk := ?_)
  refine Awp.seq fun K3 h3 => ?_
  (refine Awp.region ?_; (repeat (first | refine sQ (hq := Quiet.pickOr rfl rfl rfl rfl) (hk := ?_) | refine sQ (hq := Quiet.pickAnd rfl rfl rfl rfl) (hk := ?_) | refine sQ (hk := ?_) | refine sSkip (hk := ?_) | refine sG (hk := ?_) | refine sOwn (hk := ?_))); refine aSeq_nil ?_)
  refine h3 _ ?_
  refine nT (hk := ?_)
  refine Awp.seq fun K4 h4 => ?_
  refine Awp.seq fun K5 h5 => ?_
  (refine Awp.region ?_; (repeat (first | refine sQ (hq := Quiet.pickOr rfl rfl rfl rfl) (hk := ?_) | refine sQ (hq := Quiet.pickAnd rfl rfl rfl rfl) (hk := ?_) | refine sQ (hk := ?_) | refine sSkip (hk := ?_) | refine sG (hk := ?_) | refine sOwn (hk := ?_))); refine aSeq_nil ?_)
  refine h5 _ ?_
  refine nT (hk := ?_)
  refine Awp.block ?_
  refine Awp.loopF (fun m : Nat => ⟨[.any, .lit (.int .i64 r), .ptr 0 0, .any, .any, .own 1 0, .lit (.int .i64 (m : Int)), .any, .any, .any, .any, .any, .any, .any, .any, .any, .any, .any, .any, .any, .any, .any, .any, .any, .any, .any, .any, .any, .any, .any, .any, .any, .any, .any, .any, .any, .any, .any, .any, .any, .any, .any, .any, .any, .any, .any, .any, .any, .any, .any, .any, .any, .any, .any, .any, .any, .any, .any, .any, .any, .any, .any, .any, .any, .any, .any, .any, .any], [.box (encFunc f), .row 0 4 Ty.bool (lacksK f r m)]⟩) (fun m => m ≤ f.blocks.length) (fun m => f.blocks.length - m) 0 (Nat.zero_le _) (le_T) ?_
  intro m hm
  dsimp only at hm ⊢
  refine Awp.seq fun K7 h7 => ?_
  refine Awp.seq fun K8 h8 => ?_
  (refine Awp.region ?_; (repeat (first | refine sQ (hq := Quiet.pickOr rfl rfl rfl rfl) (hk := ?_) | refine sQ (hq := Quiet.pickAnd rfl rfl rfl rfl) (hk := ?_) | refine sQ (hk := ?_) | refine sSkip (hk := ?_) | refine sG (hk := ?_) | refine sOwn (hk := ?_))); refine aSeq_nil ?_)
  refine h8 _ ?_
  refine nT (hk := ?_)
  refine Awp.cond rfl (fun hb9 => ?_) (fun hb9 => ?_)
  · have hml : m < f.blocks.length := by simpa using hb9
    have hll := lacksK_len f r m
    have hlk : lacksK f r (m + 1) = roundK f r (lacksK f r m) f.blocks.length := rfl
    generalize hL0 : lacksK f r m = L0 at hll hlk ⊢
    refine Awp.skip ?_
    refine h7 _ ?_
    refine nT (hk := ?_)
    refine Awp.seq fun K10 h10 => ?_
    refine Awp.block ?_
    refine Awp.seq fun K11 h11 => ?_
    (refine Awp.region ?_; (repeat (first | refine sQ (hq := Quiet.pickOr rfl rfl rfl rfl) (hk := ?_) | refine sQ (hq := Quiet.pickAnd rfl rfl rfl rfl) (hk := ?_) | refine sQ (hk := ?_) | refine sSkip (hk := ?_) | refine sG (hk := ?_) | refine sOwn (hk := ?_))); refine aSeq_nil ?_)
    refine h11 _ ?_
    refine nT (hk := ?_)
    refine Awp.block ?_
    refine Awp.loopF (fun k : Nat => ⟨[.any, .lit (.int .i64 r), .ptr 0 0, .any, .any, .own 1 0, .lit (.int .i64 (m : Int)), .lit (.int .i64 (k : Int)), .any, .any, .any, .any, .any, .any, .any, .any, .any, .any, .any, .any, .any, .any, .any, .any, .any, .any, .any, .any, .any, .any, .any, .any, .any, .any, .any, .any, .any, .any, .any, .any, .any, .any, .any, .any, .any, .any, .any, .any, .any, .any, .any, .any, .any, .any, .any, .any, .any, .any, .any, .any, .any, .any, .any, .any, .any, .any, .any, .any], [.box (encFunc f), .row 0 4 Ty.bool (roundK f r L0 k)]⟩) (fun k => k ≤ f.blocks.length) (fun k => f.blocks.length - k) 0 (Nat.zero_le _) (le_T) ?_
    intro k hk
    dsimp only at hk ⊢
    refine Awp.seq fun K13 h13 => ?_
    refine Awp.seq fun K14 h14 => ?_
    (refine Awp.region ?_; (repeat (first | refine sQ (hq := Quiet.pickOr rfl rfl rfl rfl) (hk := ?_) | refine sQ (hq := Quiet.pickAnd rfl rfl rfl rfl) (hk := ?_) | refine sQ (hk := ?_) | refine sSkip (hk := ?_) | refine sG (hk := ?_) | refine sOwn (hk := ?_))); refine aSeq_nil ?_)
    refine h14 _ ?_
    refine nT (hk := ?_)
    refine Awp.cond rfl (fun hb15 => ?_) (fun hb15 => ?_)
    · have hkl : k < f.blocks.length := by simpa using hb15
      obtain ⟨b, hb⟩ : ∃ b, f.blocks[k]? = some b := ⟨_, List.getElem?_eq_getElem hkl⟩
      have hbm := List.mem_of_getElem? hb
      have hob := ho.blocks b hbm
      have hsb := hs.all b hbm
      have hil := hsb.ins
      obtain ⟨x, hx, hxn⟩ := he.last b hbm
      have hox := hob.ins x (List.mem_of_getElem? hx)
      have hlo : lastO b = nextO x := by unfold lastO; rw [hx]; rfl
      have hRl : (roundK f r L0 k).length = f.blocks.length := by rw [roundK_len, hll]
      have hRs : roundK f r L0 (k + 1) = if !((roundK f r L0 k).getD k false) || writesR b.ins r then roundK f r L0 k else (nextO x).foldl putK (roundK f r L0 k) := by
        rw [roundK_succ]
        unfold stepK
        rw [hb, ← hlo]
        rfl
      generalize hL1 : roundK f r L0 k = L1 at hRl hRs ⊢
      have hkL : k < L1.length := by omega
      obtain ⟨q, hq⟩ : ∃ q, L1[k]? = some q := ⟨_, List.getElem?_eq_getElem hkL⟩
      have hqd : L1.getD k false = q := by rw [List.getD_eq_getElem?_getD, hq]; rfl
      rw [hqd] at hRs
      have hwr : Fn Try.prog 87 [.agg (encBlock b), .lit (.int .i64 r), .lit (.int .i64 (b.ins.length : Int))] (.lit (.bool (writesR b.ins r))) := by
        have := writes14_fn b r b.ins.length hob hil (Nat.le_refl _)
        rw [List.take_length] at this
        exact this
      refine Awp.skip ?_
      refine h13 _ ?_
      refine nT (hk := ?_)
      refine Awp.seq fun K16 h16 => ?_
      refine Awp.block ?_
      refine Awp.seq fun K17 h17 => ?_
      (refine Awp.region ?_; (repeat (first | refine sQ (hq := Quiet.pickOr rfl rfl rfl rfl) (hk := ?_) | refine sQ (hq := Quiet.pickAnd rfl rfl rfl rfl) (hk := ?_) | refine sQ (hk := ?_) | refine sSkip (hk := ?_) | refine sG (hk := ?_) | refine sOwn (hk := ?_))); refine aSeq_nil ?_)
      refine h17 _ ?_
      refine nT (hk := ?_)
      refine Awp.seq fun K18 h18 => ?_
      refine Awp.seq fun K19 h19 => ?_
      (refine Awp.region ?_; (repeat (first | refine sQ (hq := Quiet.call rfl hwr rfl rfl rfl) (hk := ?_) | refine sQ (hq := Quiet.pickOr rfl rfl rfl rfl) (hk := ?_) | refine sQ (hq := Quiet.pickAnd rfl rfl rfl rfl) (hk := ?_) | refine sQ (hk := ?_) | refine sSkip (hk := ?_) | refine sG (hg := by first | rfl | exact gA_c rfl rfl) (hq := by (intro hg; (try simp only [Bool.and_eq_true, beq_iff_eq] at hg); (try simp only [hg, cond_true, Bool.true_and, beq_self_eq_true]); exact Quiet.call rfl hwr rfl rfl rfl)) (hk := ?_) | refine sG (hk := ?_) | refine sOwn (hk := ?_))); refine aSeq_nil ?_)
      refine h19 _ ?_
      refine nT (hk := ?_)
      refine Awp.cond rfl (fun hb20 => ?_) (fun hb20 => ?_)
      · have hb : (!q || writesR b.ins r) = true := hb20
        rw [hb] at hRs
        refine Awp.exit ?_
        refine h16 _ ?_
        refine nT (hk := ?_)
        (refine Awp.region ?_; (repeat (first | refine sQ (hq := Quiet.pickOr rfl rfl rfl rfl) (hk := ?_) | refine sQ (hq := Quiet.pickAnd rfl rfl rfl rfl) (hk := ?_) | refine sQ (hk := ?_) | refine sSkip (hk := ?_) | refine sG (hk := ?_) | refine sOwn (hk := ?_))); refine aSeq_nil ?_)
        refine athen_n ⟨k + 1, by omega, by omega, ?_⟩
        rw [hRs, if_pos rfl]
        exact le_C (.cons (.cons (Cut.nil _)))
      · have hb : (!q || writesR b.ins r) = false := hb20
        rw [hb] at hRs
        refine Awp.skip ?_
        refine h18 _ ?_
        refine nT (hk := ?_)
        refine Awp.seq fun K21 h21 => ?_
        (refine Awp.region ?_; (repeat (first | refine sQ (hq := Quiet.call rfl (next14_fn b x hil hx hox) rfl rfl rfl) (hk := ?_) | refine sQ (hq := Quiet.pickOr rfl rfl rfl rfl) (hk := ?_) | refine sQ (hq := Quiet.pickAnd rfl rfl rfl rfl) (hk := ?_) | refine sQ (hk := ?_) | refine sSkip (hk := ?_) | refine sG (hg := by first | rfl | exact gA_c rfl rfl) (hq := by (intro hg; (try simp only [Bool.and_eq_true, beq_iff_eq] at hg); (try simp only [hg, cond_true, Bool.true_and, beq_self_eq_true]); exact Quiet.call rfl (next14_fn b x hil hx hox) rfl rfl rfl)) (hk := ?_) | refine sG (hk := ?_) | refine sOwn (hk := ?_))); refine aSeq_nil ?_)
        refine h21 _ ?_
        refine nT (hk := ?_)
        refine Awp.seq fun K22 h22 => ?_
        (refine Awp.region ?_; (repeat (first | refine sQ (hq := Quiet.pickOr rfl rfl rfl rfl) (hk := ?_) | refine sQ (hq := Quiet.pickAnd rfl rfl rfl rfl) (hk := ?_) | refine sQ (hk := ?_) | refine sSkip (hk := ?_) | refine sG (hk := ?_) | refine sOwn (hk := ?_))); refine aSeq_nil ?_)
        refine h22 _ ?_
        refine nT (hk := ?_)
        refine Awp.block ?_
        have hnl : (nextO x).length ≤ 2 := by
          unfold nextO
          split
          · simp
          · split <;> simp
        refine Awp.loopF (fun j : Nat => ⟨[.any, .lit (.int .i64 r), .ptr 0 0, .any, .any, .own 1 0, .lit (.int .i64 (m : Int)), .lit (.int .i64 (k : Int)), .any, .bs tInt (nextO x), .lit (.int .i64 (j : Int)), .any, .any, .any, .any, .any, .any, .any, .any, .any, .any, .any, .any, .any, .any, .any, .any, .any, .any, .any, .any, .any, .any, .any, .any, .any, .any, .any, .any, .any, .any, .any, .any, .any, .any, .any, .any, .any, .any, .any, .any, .any, .any, .any, .any, .any, .any, .any, .any, .any, .any, .any, .any, .any, .any, .any, .any, .any], [.box (encFunc f), .row 0 4 Ty.bool (((nextO x).take j).foldl putK L1)]⟩) (fun j => j ≤ (nextO x).length) (fun j => (nextO x).length - j) 0 (Nat.zero_le _) (le_C (.cons (.cons (Cut.nil _)))) ?_
        intro j hj
        dsimp only at hj ⊢
        refine Awp.seq fun K24 h24 => ?_
        refine Awp.seq fun K25 h25 => ?_
        (refine Awp.region ?_; (repeat (first | refine sQ (hq := Quiet.pickOr rfl rfl rfl rfl) (hk := ?_) | refine sQ (hq := Quiet.pickAnd rfl rfl rfl rfl) (hk := ?_) | refine sQ (hk := ?_) | refine sSkip (hk := ?_) | refine sG (hk := ?_) | refine sOwn (hk := ?_))); refine aSeq_nil ?_)
        refine h25 _ ?_
        refine nT (hk := ?_)
        refine Awp.cond rfl (fun hb26 => ?_) (fun hb26 => ?_)
        · have hjl : j < (nextO x).length := by simpa using hb26
          obtain ⟨y, hy⟩ : ∃ y, (nextO x)[j]? = some y := ⟨_, List.getElem?_eq_getElem hjl⟩
          have hyn := hxn y (List.mem_of_getElem? hy)
          have hy0 := hyn.1
          have hpl := putsK_len ((nextO x).take j) L1
          have hps := fold_take_succ putK L1 hy
          generalize hL2 : ((nextO x).take j).foldl putK L1 = L2 at hpl hps ⊢
          have hyl : y.toNat < L2.length := by omega
          obtain ⟨q2, hq2⟩ : ∃ q, L2[y.toNat]? = some q := ⟨_, List.getElem?_eq_getElem hyl⟩
          refine Awp.skip ?_
          refine h24 _ ?_
          refine nT (hk := ?_)
          refine Awp.seq fun K27 h27 => ?_
          refine Awp.block ?_
          (refine Awp.region ?_; (repeat (first | refine sQ (hq := Quiet.pickOr rfl rfl rfl rfl) (hk := ?_) | refine sQ (hq := Quiet.pickAnd rfl rfl rfl rfl) (hk := ?_) | refine sQ (hk := ?_) | refine sSkip (hk := ?_) | refine sG (hk := ?_) | refine sOwn (hk := ?_))); refine aSeq_nil ?_)
          refine h27 _ ?_
          refine nT (hk := ?_)
          (refine Awp.region ?_; (repeat (first | refine sQ (hq := Quiet.pickOr rfl rfl rfl rfl) (hk := ?_) | refine sQ (hq := Quiet.pickAnd rfl rfl rfl rfl) (hk := ?_) | refine sQ (hk := ?_) | refine sSkip (hk := ?_) | refine sG (hk := ?_) | refine sOwn (hk := ?_))); refine aSeq_nil ?_)
          refine athen_n ⟨j + 1, by omega, by omega, ?_⟩
          rw [hps]
          exact le_T
        · have : j = (nextO x).length := by have : ¬ j < (nextO x).length := by simpa using hb26
                                            omega
          subst this
          rw [List.take_length]
          refine Awp.exit ?_
          refine h16 _ ?_
          refine nT (hk := ?_)
          (refine Awp.region ?_; (repeat (first | refine sQ (hq := Quiet.pickOr rfl rfl rfl rfl) (hk := ?_) | refine sQ (hq := Quiet.pickAnd rfl rfl rfl rfl) (hk := ?_) | refine sQ (hk := ?_) | refine sSkip (hk := ?_) | refine sG (hk := ?_) | refine sOwn (hk := ?_))); refine aSeq_nil ?_)
          refine athen_n ⟨k + 1, by omega, by omega, ?_⟩
          rw [hRs, if_neg (by simp)]
          exact le_T
    · have : k = f.blocks.length := by have : ¬ k < f.blocks.length := by simpa using hb15
                                       omega
      subst this
      refine Awp.exit ?_
      refine h10 _ ?_
      refine nT (hk := ?_)
      (refine Awp.region ?_; (repeat (first | refine sQ (hq := Quiet.pickOr rfl rfl rfl rfl) (hk := ?_) | refine sQ (hq := Quiet.pickAnd rfl rfl rfl rfl) (hk := ?_) | refine sQ (hk := ?_) | refine sSkip (hk := ?_) | refine sG (hk := ?_) | refine sOwn (hk := ?_))); refine aSeq_nil ?_)
      refine athen_n ⟨m + 1, by omega, by omega, ?_⟩
      rw [hlk]
      exact le_T
  · have : m = f.blocks.length := by have : ¬ m < f.blocks.length := by simpa using hb9
                                     omega
    subst this
    refine Awp.exit ?_
    refine h4 _ ?_
    refine nT (hk := ?_)
    refine Awp.seq fun K28 h28 => ?_
    (refine Awp.region ?_; (repeat (first | refine sQ (hq := Quiet.pickOr rfl rfl rfl rfl) (hk := ?_) | refine sQ (hq := Quiet.pickAnd rfl rfl rfl rfl) (hk := ?_) | refine sQ (hk := ?_) | refine sSkip (hk := ?_) | refine sG (hk := ?_) | refine sOwn (hk := ?_))); refine aSeq_nil ?_)
    refine h28 _ ?_
    refine nT (hk := ?_)
    refine Awp.ret ?_
    exact ⟨.inr rfl, Fin.own rfl⟩

def lackAt (ls : List (List Bool)) (n : Nat) (r : Int) : Bool := (ls[r.toNat]?.bind (·[n]?)).getD false
def missR (ls : List (List Bool)) (n : Nat) (b : Block) (i : Nat) (r : Int) : Bool := lackAt ls n r && !(writesR (b.ins.take i) r)
def missI (ls : List (List Bool)) (n : Nat) (b : Block) (i : Nat) : Bool := b.ins[i]?.elim false fun x => (readsC x).any (missR ls n b i)
def missB (ls : List (List Bool)) (n : Nat) (b : Block) : Bool := (List.range b.ins.length).any (missI ls n b)
set_option maxRecDepth 100000 in
set_option maxHeartbeats 4000000 in
theorem missing14_fn (f : Func) (ls : List (List Bool)) (n : Nat) (b : Block) (ho : okFunc f) (hs : smallF f) (hb : f.blocks[n]? = some b) (hin : ∀ x ∈ b.ins, ∀ r ∈ readsC x, 0 ≤ r ∧ ∃ row q, ls[r.toNat]? = some row ∧ row[n]? = some q) :
    Fn Try.prog 59 [.agg (encFunc f), .bs Ty.bool.slice ls, .lit (.int .i64 (n : Int))] (.lit (.bool (missB ls n b))) := by
  have hbl := hs.blocks
  have hbm := List.mem_of_getElem? hb
  have hob := ho.blocks b hbm
  have hsb := hs.all b hbm
  have hil := hsb.ins
  refine Fn.of_awp Try.func59 rfl (by kernel_rfl) rfl Try.ntmps59 fun C hC => ?_
  simp only [List.length_cons, List.length_nil, Nat.reduceAdd, Nat.reduceSub, List.replicate_succ, List.replicate_zero, List.cons_append, List.nil_append]
  refine Awp.seq fun K1 h1 => ?_
  (refine Awp.region ?_; (repeat (first | refine sQ (hq := Quiet.pickOr rfl rfl rfl rfl) (hk := ?_) | refine sQ (hq := Quiet.pickAnd rfl rfl rfl rfl) (hk := ?_) | refine sQ (hk := ?_) | refine sSkip (hk := ?_) | refine sG (hk := ?_) | refine sOwn (hk := ?_))); refine aSeq_nil ?_)
  refine h1 _ ?_
  refine nT (hk := ?_)
  refine Awp.seq fun K2 h2 => ?_
  (refine Awp.region ?_; (repeat (first | refine sQ (hq := Quiet.pickOr rfl rfl rfl rfl) (hk := ?_) | refine sQ (hq := Quiet.pickAnd rfl rfl rfl rfl) (hk := ?_) | refine sQ (hk := ?_) | refine sSkip (hk := ?_) | refine sG (hk := ?_) | refine sOwn (hk := ?_))); refine aSeq_nil ?_)
  refine h2 _ ?_
  refine nT (hk := ?_)
  refine Awp.seq fun K3 h3 => ?_
  refine Awp.seq fun K4 h4 => ?_
  (refine Awp.region ?_; (repeat (first | refine sQ (hq := Quiet.pickOr rfl rfl rfl rfl) (hk := ?_) | refine sQ (hq := Quiet.pickAnd rfl rfl rfl rfl) (hk := ?_) | refine sQ (hk := ?_) | refine sSkip (hk := ?_) | refine sG (hk := ?_) | refine sOwn (hk := ?_))); refine aSeq_nil ?_)
  refine h4 _ ?_
  refine nT (hk := ?_)
  refine Awp.block ?_
  refine Awp.loopF (fun i : Nat => ⟨[.any, .bs Ty.bool.slice ls, .lit (.int .i64 (n : Int)), .ptr 0 0, .any, .any, .any, .ptr 1 0, .lit (.int .i64 (i : Int)), .any, .any, .any, .any, .any, .any, .any, .any, .any, .any, .any, .any, .any, .any, .any, .any, .any, .any, .any, .any, .any, .any, .any, .any, .any, .any, .any, .any, .any, .any, .any, .any, .any, .any, .any, .any, .any, .any, .any, .any, .any, .any, .any, .any, .any, .any], [.box (encFunc f), .box (encBlock b)]⟩) (fun i => i ≤ b.ins.length ∧ ((List.range b.ins.length).take i).any (missI ls n b) = false) (fun i => b.ins.length - i) 0 ⟨Nat.zero_le _, by simp⟩ (le_T) ?_
  rintro i ⟨hi, hno⟩
  refine Awp.seq fun K6 h6 => ?_
  refine Awp.seq fun K7 h7 => ?_
  (refine Awp.region ?_; (repeat (first | refine sQ (hq := Quiet.pickOr rfl rfl rfl rfl) (hk := ?_) | refine sQ (hq := Quiet.pickAnd rfl rfl rfl rfl) (hk := ?_) | refine sQ (hk := ?_) | refine sSkip (hk := ?_) | refine sG (hk := ?_) | refine sOwn (hk := ?_))); refine aSeq_nil ?_)
  refine h7 _ ?_
  refine nT (hk := ?_)
  refine Awp.cond rfl (fun hb8 => ?_) (fun hb8 => ?_)
  · have hlt : i < b.ins.length := by simpa using hb8
    obtain ⟨x, hx⟩ : ∃ x, b.ins[i]? = some x := ⟨_, List.getElem?_eq_getElem hlt⟩
    have hxm := List.mem_of_getElem? hx
    have hox := hob.ins x hxm
    have hxl : x.args.length ≤ 2097152 := by have := hsb.all x hxm; omega
    have hrl := readsC_le hxl
    have hri : (List.range b.ins.length)[i]? = some i := List.getElem?_range hlt
    have hmi : missI ls n b i = (readsC x).any (missR ls n b i) := by unfold missI; rw [hx]; rfl
    refine Awp.skip ?_
    refine h6 _ ?_
    refine nT (hk := ?_)
    refine Awp.seq fun K9 h9 => ?_
    refine Awp.block ?_
    refine Awp.seq fun K10 h10 => ?_
    (refine Awp.region ?_; (repeat (first | refine sQ (hq := Quiet.call rfl (ref_reads_fn x hox hxl) rfl rfl rfl) (hk := ?_) | refine sQ (hq := Quiet.pickOr rfl rfl rfl rfl) (hk := ?_) | refine sQ (hq := Quiet.pickAnd rfl rfl rfl rfl) (hk := ?_) | refine sQ (hk := ?_) | refine sSkip (hk := ?_) | refine sG (hg := by first | rfl | exact gA_c rfl rfl) (hq := by (intro hg; (try simp only [Bool.and_eq_true, beq_iff_eq] at hg); (try simp only [hg, cond_true, Bool.true_and, beq_self_eq_true]); exact Quiet.call rfl (ref_reads_fn x hox hxl) rfl rfl rfl)) (hk := ?_) | refine sG (hk := ?_) | refine sOwn (hk := ?_))); refine aSeq_nil ?_)
    refine h10 _ ?_
    refine nT (hk := ?_)
    refine Awp.seq fun K11 h11 => ?_
    (refine Awp.region ?_; (repeat (first | refine sQ (hq := Quiet.pickOr rfl rfl rfl rfl) (hk := ?_) | refine sQ (hq := Quiet.pickAnd rfl rfl rfl rfl) (hk := ?_) | refine sQ (hk := ?_) | refine sSkip (hk := ?_) | refine sG (hk := ?_) | refine sOwn (hk := ?_))); refine aSeq_nil ?_)
    refine h11 _ ?_
    refine nT (hk := ?_)
    refine Awp.block ?_
    refine Awp.loopF (fun k : Nat => ⟨[.any, .bs Ty.bool.slice ls, .lit (.int .i64 (n : Int)), .ptr 0 0, .any, .any, .any, .ptr 1 0, .lit (.int .i64 (i : Int)), .bs tInt (readsC x), .lit (.int .i64 (k : Int)), .any, .any, .any, .any, .any, .any, .any, .any, .any, .any, .any, .any, .any, .any, .any, .any, .any, .any, .any, .any, .any, .any, .any, .any, .any, .any, .any, .any, .any, .any, .any, .any, .any, .any, .any, .any, .any, .any, .any, .any, .any, .any, .any, .any], [.box (encFunc f), .box (encBlock b)]⟩) (fun k => k ≤ (readsC x).length ∧ ((readsC x).take k).any (missR ls n b i) = false) (fun k => (readsC x).length - k) 0 ⟨Nat.zero_le _, by simp⟩ (le_T) ?_
    rintro k ⟨hk, hnk⟩
    refine Awp.seq fun K13 h13 => ?_
    refine Awp.seq fun K14 h14 => ?_
    (refine Awp.region ?_; (repeat (first | refine sQ (hq := Quiet.pickOr rfl rfl rfl rfl) (hk := ?_) | refine sQ (hq := Quiet.pickAnd rfl rfl rfl rfl) (hk := ?_) | refine sQ (hk := ?_) | refine sSkip (hk := ?_) | refine sG (hk := ?_) | refine sOwn (hk := ?_))); refine aSeq_nil ?_)
    refine h14 _ ?_
    refine nT (hk := ?_)
    refine Awp.cond rfl (fun hb15 => ?_) (fun hb15 => ?_)
    · have hkl : k < (readsC x).length := by simpa using hb15
      obtain ⟨r, hr⟩ : ∃ r, (readsC x)[k]? = some r := ⟨_, List.getElem?_eq_getElem hkl⟩
      obtain ⟨hr0, row, q, hrow, hq⟩ := hin x hxm r (List.mem_of_getElem? hr)
      have hla : lackAt ls n r = q := by unfold lackAt; rw [hrow]; simp only [Option.bind_some]; rw [hq]; rfl
      have hwr := writes14_fn b r i hob hil hi
      refine Awp.skip ?_
      refine h13 _ ?_
      refine nT (hk := ?_)
      refine Awp.seq fun K16 h16 => ?_
      refine Awp.block ?_
      refine Awp.seq fun K17 h17 => ?_
      (refine drawD 20 (hh := ?_); (repeat (first | refine qQ (hq := Quiet.call rfl hwr rfl rfl rfl) (hk := ?_) | refine qQ (hq := Quiet.pickOr rfl rfl rfl rfl) (hk := ?_) | refine qQ (hq := Quiet.pickAnd rfl rfl rfl rfl) (hk := ?_) | refine qQ (hk := ?_) | refine qSkip (hk := ?_) | refine qG (hg := by first | rfl | exact gA_c rfl rfl) (hq := by (intro hg; (try simp only [Bool.and_eq_true, beq_iff_eq] at hg); (try simp only [hg, cond_true, Bool.true_and, beq_self_eq_true]); exact Quiet.call rfl hwr rfl rfl rfl)) (hk := ?_) | refine qG (hk := ?_))); refine aQ_nil ?_; (repeat (first | refine sQ (hq := Quiet.call rfl hwr rfl rfl rfl) (hk := ?_) | refine sQ (hq := Quiet.pickOr rfl rfl rfl rfl) (hk := ?_) | refine sQ (hq := Quiet.pickAnd rfl rfl rfl rfl) (hk := ?_) | refine sQ (hk := ?_) | refine sSkip (hk := ?_) | refine sG (hg := by first | rfl | exact gA_c rfl rfl) (hq := by (intro hg; (try simp only [Bool.and_eq_true, beq_iff_eq] at hg); (try simp only [hg, cond_true, Bool.true_and, beq_self_eq_true]); exact Quiet.call rfl hwr rfl rfl rfl)) (hk := ?_) | refine sG (hk := ?_) | refine sOwn (hk := ?_))); refine aSeq_nil ?_)
      refine h17 _ ?_
      refine nT (hk := ?_)
      refine Awp.cond rfl (fun hb18 => ?_) (fun hb18 => ?_)
      · have hb : missR ls n b i r = true := by unfold missR; rw [hla]; exact hb18
        have e : missB ls n b = true := by
          unfold missB
          refine List.any_eq_true.2 ⟨i, List.mem_of_getElem? hri, ?_⟩
          rw [hmi]
          exact List.any_eq_true.2 ⟨r, List.mem_of_getElem? hr, hb⟩
        refine Awp.seq fun K19 h19 => ?_
        (refine Awp.region ?_; (repeat (first | refine sQ (hq := Quiet.pickOr rfl rfl rfl rfl) (hk := ?_) | refine sQ (hq := Quiet.pickAnd rfl rfl rfl rfl) (hk := ?_) | refine sQ (hk := ?_) | refine sSkip (hk := ?_) | refine sG (hk := ?_) | refine sOwn (hk := ?_))); refine aSeq_nil ?_)
        refine h19 _ ?_
        refine nT (hk := ?_)
        refine Awp.ret ?_
        rw [e]
        exact ⟨.inr rfl, Fin.cl rfl⟩
      · have hb : missR ls n b i r = false := by unfold missR; rw [hla]; exact hb18
        refine Awp.skip ?_
        refine h16 _ ?_
        refine nT (hk := ?_)
        (refine Awp.region ?_; (repeat (first | refine sQ (hq := Quiet.pickOr rfl rfl rfl rfl) (hk := ?_) | refine sQ (hq := Quiet.pickAnd rfl rfl rfl rfl) (hk := ?_) | refine sQ (hk := ?_) | refine sSkip (hk := ?_) | refine sG (hk := ?_) | refine sOwn (hk := ?_))); refine aSeq_nil ?_)
        refine athen_n ⟨k + 1, ⟨by omega, any_takeG hr hnk hb⟩, by omega, ?_⟩
        exact le_T
    · have hkl : ¬ k < (readsC x).length := by simpa using hb15
      have hm : missI ls n b i = false := by rw [hmi]; exact any_all hnk hkl
      refine Awp.exit ?_
      refine h9 _ ?_
      refine nT (hk := ?_)
      (refine Awp.region ?_; (repeat (first | refine sQ (hq := Quiet.pickOr rfl rfl rfl rfl) (hk := ?_) | refine sQ (hq := Quiet.pickAnd rfl rfl rfl rfl) (hk := ?_) | refine sQ (hk := ?_) | refine sSkip (hk := ?_) | refine sG (hk := ?_) | refine sOwn (hk := ?_))); refine aSeq_nil ?_)
      refine athen_n ⟨i + 1, ⟨by omega, any_takeG hri hno hm⟩, by omega, ?_⟩
      exact le_T
  · have hlt : ¬ i < b.ins.length := by simpa using hb8
    have e : missB ls n b = false := any_all hno (by rw [List.length_range]; exact hlt)
    refine Awp.exit ?_
    refine h3 _ ?_
    refine nT (hk := ?_)
    refine Awp.seq fun K20 h20 => ?_
    (refine Awp.region ?_; (repeat (first | refine sQ (hq := Quiet.pickOr rfl rfl rfl rfl) (hk := ?_) | refine sQ (hq := Quiet.pickAnd rfl rfl rfl rfl) (hk := ?_) | refine sQ (hk := ?_) | refine sSkip (hk := ?_) | refine sG (hk := ?_) | refine sOwn (hk := ?_))); refine aSeq_nil ?_)
    refine h20 _ ?_
    refine nT (hk := ?_)
    refine Awp.ret ?_
    rw [e]
    exact ⟨.inr rfl, Fin.cl rfl⟩
end Mu
end
section
/-
  What muntinref14's answer means, in plain terms.
  Conditions: none.
-/
namespace Mu
open Go Go.RowKit Go.Proofs

theorem stepReg_le (n r : Int) : n ≤ stepReg n r ∧ (if (4096 : Int) < r then 4096 else r) + 1 ≤ stepReg n r := by
  unfold stepReg
  split <;> omega
theorem foldReg_le (l : List Int) : ∀ n : Int, n ≤ l.foldl stepReg n ∧ ∀ r ∈ l, (if (4096 : Int) < r then 4096 else r) + 1 ≤ l.foldl stepReg n := by
  induction l with
  | nil => intro n; exact ⟨Int.le_refl _, fun r hr => by cases hr⟩
  | cons x l ih =>
    intro n
    have h1 := ih (stepReg n x)
    have h2 := stepReg_le n x
    refine ⟨Int.le_trans h2.1 h1.1, fun r hr => ?_⟩
    rcases List.mem_cons.1 hr with rfl | hr
    · exact Int.le_trans h2.2 h1.1
    · exact h1.2 r hr
theorem foldIns_le (l : List Ins) : ∀ n : Int, n ≤ l.foldl insReg n ∧ ∀ x ∈ l, ∀ r ∈ regsX x, (if (4096 : Int) < r then 4096 else r) + 1 ≤ l.foldl insReg n := by
  induction l with
  | nil => intro n; exact ⟨Int.le_refl _, fun r hr => by cases hr⟩
  | cons x l ih =>
    intro n
    have h1 := ih (insReg n x)
    have h2 := foldReg_le (regsX x) n
    refine ⟨Int.le_trans h2.1 h1.1, fun y hy => ?_⟩
    rcases List.mem_cons.1 hy with rfl | hy
    · exact fun r hr => Int.le_trans (h2.2 r hr) h1.1
    · exact h1.2 y hy
theorem foldBlk_le (l : List Block) : ∀ n : Int, n ≤ l.foldl blkReg n ∧ ∀ b ∈ l, ∀ x ∈ b.ins, ∀ r ∈ regsX x, (if (4096 : Int) < r then 4096 else r) + 1 ≤ l.foldl blkReg n := by
  induction l with
  | nil => intro n; exact ⟨Int.le_refl _, fun r hr => by cases hr⟩
  | cons b l ih =>
    intro n
    have h1 := ih (blkReg n b)
    have h2 := foldIns_le b.ins n
    refine ⟨Int.le_trans h2.1 h1.1, fun y hy => ?_⟩
    rcases List.mem_cons.1 hy with rfl | hy
    · exact fun x hx r hr => Int.le_trans (h2.2 x hx r hr) h1.1
    · exact h1.2 y hy
/-- a register of a function whose count fits is below the count -/
theorem reg_lt {f : Func} (h : fitF f = true) {b : Block} (hb : b ∈ f.blocks) {x : Ins} (hx : x ∈ b.ins) {r : Int} (hr : r ∈ regsX x) : r < f.regs ∧ f.regs ≤ 4096 := by
  unfold fitF at h
  simp only [Bool.and_eq_true, beq_iff_eq, decide_eq_true_eq] at h
  have h1 := (foldBlk_le f.blocks 0).2 b hb x hx r hr
  have h2 : regsI f ≤ f.regs := by rw [h.1]; split <;> omega
  have h3 : (if (4096 : Int) < r then 4096 else r) + 1 ≤ regsI f := h1
  refine ⟨?_, h.2⟩
  split at h3 <;> omega
theorem readsC_pos {p : Prog} {f : Func} {x : Ins} (h : oneB p f x = true) : ∀ r ∈ readsC x, 0 ≤ r := by
  unfold oneB bad1 at h
  simp only [Bool.and_eq_true, Bool.not_eq_true', Bool.or_eq_false_iff, decide_eq_false_iff_not, List.any_eq_false, decide_eq_true_eq] at h
  obtain ⟨⟨⟨⟨_, _⟩, ha⟩, hb⟩, hx, _⟩ := h
  intro r hr
  unfold readsC at hr
  rcases List.mem_append.1 hr with hr | hr
  · rcases List.mem_append.1 hr with hr | hr
    · split at hr
      · simp only [List.mem_singleton] at hr; omega
      · cases hr
    · split at hr
      · simp only [List.mem_singleton] at hr; omega
      · cases hr
  · split at hr
    · have := hx r hr; omega
    · cases hr
theorem ended_of {p : Prog} {f : Func} (h : badF f = false) (hb : ∀ n b, f.blocks[n]? = some b → blockB p f n b = true) : Ended f := by
  refine ⟨?_, fun b hbm => ?_⟩
  · unfold badF at h
    simp only [Bool.or_eq_false_iff] at h
    have := h.2
    simp at this
    exact List.length_pos_iff.2 this
  · obtain ⟨n, hn⟩ := List.mem_iff_getElem?.1 hbm
    have h1 := hb n b hn
    unfold blockB badB at h1
    simp only [Bool.and_eq_true, Bool.not_eq_true', Bool.or_eq_false_iff] at h1
    obtain ⟨_, ⟨_, h2⟩, h3⟩ := h1
    have hl : 0 < b.ins.length := by
      simp at h2
      exact List.length_pos_iff.2 h2
    obtain ⟨x, hx⟩ : ∃ x, b.ins[b.ins.length - 1]? = some x := ⟨_, List.getElem?_eq_getElem (by omega)⟩
    refine ⟨x, hx, ?_⟩
    have h4 := List.any_eq_false.1 h3 (b.ins.length - 1) (List.mem_range.2 (by omega))
    unfold badAt badI at h4
    rw [hx] at h4
    simp only [Option.elim, Bool.or_eq_true, not_or, Bool.not_eq_true, Bool.not_eq_false'] at h4
    have h5 := h4.2
    unfold oneB okL at h5
    simp only [Bool.and_eq_true, Bool.or_eq_true, Bool.not_eq_true', decide_eq_true_eq] at h5
    obtain ⟨_, _, _, _, h6⟩ := h5
    intro k hk
    unfold nextO at hk
    split at hk
    · rename_i h8
      simp only [List.mem_singleton] at hk
      rcases h6 with h6 | h6
      · simp [h8] at h6
      · omega
    · split at hk
      · rename_i h8 h9
        rcases h6 with h6 | h6
        · simp [h9] at h6
        · simp only [List.mem_cons, List.not_mem_nil, or_false] at hk
          omega
      · cases hk
end Mu
end
section
/-
  muntinref14.Check's answer, in plain terms: the first place at which something is wrong.
  Conditions: none.
-/
namespace Mu
open Go Go.RowKit Go.Proofs

/-- the first one of the first n that has an answer -/
def firstN {α : Type} (n : Nat) (g : Nat → Option α) : Option α := (List.range n).findSome? g
theorem firstN_zero {α : Type} (g : Nat → Option α) : firstN 0 g = none := rfl
theorem firstN_succ {α : Type} {g : Nat → Option α} {k : Nat} (h : firstN k g = none) : firstN (k + 1) g = g k := by
  unfold firstN at h ⊢
  rw [List.range_succ, List.findSome?_append, h]
  simp
theorem firstN_found {α : Type} {g : Nat → Option α} {k n : Nat} {v : α} (h : firstN k g = none) (hk : k < n) (hv : g k = some v) : firstN n g = some v := by
  induction n with
  | zero => omega
  | succ n ih =>
    by_cases e : k = n
    · subst e; rw [firstN_succ h, hv]
    · have h1 := ih (by omega)
      unfold firstN at h1 ⊢
      rw [List.range_succ, List.findSome?_append, h1]
      rfl
theorem firstN_none {α : Type} {g : Nat → Option α} {n : Nat} (h : firstN n g = none) : ∀ k, k < n → g k = none := fun k hk => List.findSome?_eq_none_iff.1 h k (List.mem_range.2 hk)
def bad0 (p : Prog) : Bool := ((((decide (p.heap < 0) || decide (p.heap > 1024)) || decide ((p.funcs.length : Int) < 1)) || decide ((p.funcs.length : Int) > 64)) || decide ((p.threads.length : Int) < 1)) || decide ((p.threads.length : Int) > 4)
def badT (p : Prog) (t : Int) : Bool := (decide (t < 0) || decide (t ≥ (p.funcs.length : Int))) || (argsN p t != 0)
def chk1 (p : Prog) (n : Nat) : Option (Int × Int) := p.funcs[n]?.bind fun f => if funcB p n f then none else some (n, -1)
def chk2b (p : Prog) (n : Nat) (f : Func) (i : Nat) : Option (Int × Int) := f.blocks[i]?.bind fun b => if blockB p f i b then none else some (n, i)
def chk2 (p : Prog) (n : Nat) : Option (Int × Int) := p.funcs[n]?.bind fun f => firstN f.blocks.length (chk2b p n f)
def lacksA (f : Func) : List (List Bool) := (List.range f.regs.toNat).map fun (r : Nat) => lacksL f (r : Int)
def chk3b (n : Nat) (f : Func) (i : Nat) : Option (Int × Int) := f.blocks[i]?.bind fun b => if missB (lacksA f) i b then some (n, i) else none
def chk3 (p : Prog) (n : Nat) : Option (Int × Int) := p.funcs[n]?.bind fun f => firstN f.blocks.length (chk3b n f)
def checkO (p : Prog) : Option (Int × Int) :=
  if bad0 p then some (-1, -1)
  else if p.threads.any (badT p) then some (-1, -1)
  else ((firstN p.funcs.length (chk1 p)).or (firstN p.funcs.length (chk2 p))).or (firstN p.funcs.length (chk3 p))
end Mu
end
section
/-
  What a bulk of at most 2^21 gives; contracts over abstract values as rows use them.
  Conditions: none.
-/
namespace Mu
open Go Go.RowKit Go.Proofs

theorem small_block {b : Block} (h : tBlock.bulk b ≤ 2097152) : smallB b := ⟨Nat.le_trans (block_ins_le b) h, fun x hx => by
  have h1 := block_in_le hx
  have h2 := bulk_ins x
  have h3 := bulkL_length one_int x.args
  omega⟩
theorem small_func {f : Func} (h : tFunc.bulk f ≤ 2097152) : smallF f := ⟨Nat.le_trans (func_blocks_le f) h, fun _b hb => small_block (Nat.le_trans (func_block_le hb) h)⟩
theorem ins1_func {f : Func} (h : tFunc.bulk f ≤ 2097152) : ∀ b ∈ f.blocks, b.ins.length + 1 ≤ 2097152 := fun b hb => by
  have h1 := func_block_le hb
  have h2 := bulk_block b
  have h3 := bulkL_length one_ins b.ins
  omega
theorem reads_ins (l : List Ins) : (l.flatMap readsC).length ≤ bulkL tIns.bulk l := by
  induction l with
  | nil => simp [bulkL]
  | cons x l ih =>
    have h1 := readsC_len2 x
    have h2 := bulk_ins x
    have h3 := bulkL_length one_int x.args
    simp only [List.flatMap_cons, List.length_append, bulkL]
    omega
theorem reads_blocks (l : List Block) : (l.flatMap fun b => b.ins.flatMap readsC).length ≤ bulkL tBlock.bulk l := by
  induction l with
  | nil => simp [bulkL]
  | cons b l ih =>
    have h1 := reads_ins b.ins
    have h2 := bulk_block b
    simp only [List.flatMap_cons, List.length_append, bulkL]
    omega
theorem reads_func {f : Func} (h : tFunc.bulk f ≤ 2097152) : (allReads f).length ≤ 2097152 := by
  have h1 := reads_blocks f.blocks
  have h2 := bulk_func f
  unfold allReads
  omega
theorem u8_range {n : Int} (h : wfI .u8 n) : 0 ≤ n ∧ n ≤ 255 := by simpa [wfI, Lit.wf, IntKind.min, IntKind.max, IntKind.signed, IntKind.bits] using h
theorem fn_calls {P : Program} {f : FuncId} {args : List AV} {u : Value} {W : World} {vs : List Value} (h : Fn P f args (.lit u)) (hr : AV.relL W (fun k => k < W.heap.size) [] ψ0 args vs) : Calls P f vs.toArray W fun e W' => e = .returned u ∧ Below W.heap.size W W' :=
  (h.2 W _ vs (fun _ h => h) hr).mono fun e W' ⟨v, he, hb, _, _, _, _, hv⟩ => by
    unfold AV.rel at hv
    exact ⟨by rw [he, hv], hb⟩
theorem rel_func {W : World} {S : Nat → Prop} {h : List ABlk} {ψ : Nat → Value} {cs : List Value} {f : Func} (hR : tFunc.RS W S cs f) : AV.rel W S h ψ (.agg (encFunc f)) (.agg cs.toArray) := by
  unfold AV.rel
  exact ⟨cs, rfl, EncOf.ok (T := tFunc) W S h ψ cs f hR⟩
theorem rel_litv {W : World} {S : Nat → Prop} {h : List ABlk} {ψ : Nat → Value} (v : Value) : AV.rel W S h ψ (.lit v) v := by
  unfold AV.rel
  rfl
theorem relL_one {W : World} {S : Nat → Prop} {h : List ABlk} {ψ : Nat → Value} {x : AV} {v : Value} (hv : AV.rel W S h ψ x v) : AV.relL W S h ψ [x] [v] := by
  unfold AV.relL
  exact ⟨v, [], rfl, hv, by unfold AV.relL; rfl⟩
theorem relL_more {W : World} {S : Nat → Prop} {h : List ABlk} {ψ : Nat → Value} {x : AV} {v : Value} {l : List AV} {vs : List Value} (hv : AV.rel W S h ψ x v) (hl : AV.relL W S h ψ l vs) : AV.relL W S h ψ (x :: l) (v :: vs) := by
  unfold AV.relL
  exact ⟨v, vs, rfl, hv, hl⟩
end Mu
end
section
/-
  An instruction more at a block's beginning: what is live then. Plain.
  Conditions: none.
-/
namespace Mu
open Go

def putB (bl : Block) (x : Ins) : Block := ⟨bl.name, x :: bl.ins⟩
def putIns (f : Func) (b : Nat) (bl : Block) (x : Ins) : Func := ⟨f.name, f.args, f.regs, f.blocks.set b (putB bl x)⟩
theorem edge_iff {f : Func} {k c : Nat} : Edge f k c ↔ ∃ bl x, f.blocks[k]? = some bl ∧ bl.ins.getLast? = some x ∧ c < f.blocks.length ∧ (c : Int) ∈ rawWays x := by
  unfold Edge nextS
  rw [if_pos (by omega), Int.toNat_natCast]
  constructor
  · rintro ⟨y, hy, rfl⟩
    split at hy
    · cases hy
    · rename_i bl hbl
      unfold nextB at hy
      split at hy
      · cases hy
      · rename_i x hx
        unfold filtB at hy
        obtain ⟨w, hw, hty⟩ := List.mem_filterMap.1 hy
        unfold toBlk at hty
        split at hty
        · rename_i hr
          cases hty
          refine ⟨bl, x, hbl, hx, (show w.toNat < f.blocks.length by omega), ?_⟩
          rw [show ((w.toNat : Nat) : Int) = w by omega]
          exact hw
        · cases hty
  · rintro ⟨bl, x, hbl, hx, hc, hm⟩
    refine ⟨⟨c, hc⟩, ?_, rfl⟩
    rw [hbl]
    show (⟨c, hc⟩ : Blk f) ∈ nextB f bl
    unfold nextB
    rw [hx]
    exact List.mem_filterMap.2 ⟨(c : Int), hm, toBlk_yes hc⟩
section
variable {f : Func} {b : Nat} {bl : Block} {x : Ins} (hb : f.blocks[b]? = some bl)
include hb
theorem insOf_put (c : Nat) : insOf (putIns f b bl x) c = if c = b then x :: bl.ins else insOf f c := by
  unfold insOf putIns
  by_cases hc : c = b
  · subst hc
    rw [if_pos rfl]
    simp only
    rw [List.getElem?_set_self (List.getElem?_eq_some_iff.1 hb).1]
    rfl
  · rw [if_neg hc]
    simp only
    rw [List.getElem?_set_ne (Ne.symm hc)]
theorem edge_put (hne : bl.ins ≠ []) {k c : Nat} : Edge (putIns f b bl x) k c ↔ Edge f k c := by
  rw [edge_iff, edge_iff]
  have hl : (putIns f b bl x).blocks.length = f.blocks.length := by simp [putIns]
  rw [hl]
  have hlast : (putB bl x).ins.getLast? = bl.ins.getLast? := by
    unfold putB
    simp only
    rw [List.getLast?_cons]
    cases h : bl.ins.getLast? with
    | none => exact absurd (List.getLast?_eq_none_iff.1 h) hne
    | some y => rfl
  by_cases hk : k = b
  · subst hk
    have hs : (putIns f k bl x).blocks[k]? = some (putB bl x) := List.getElem?_set_self (List.getElem?_eq_some_iff.1 hb).1
    rw [hs, hb]
    constructor
    · rintro ⟨bl', y, e, h1, h2⟩
      cases e
      exact ⟨bl, y, rfl, by rw [← hlast]; exact h1, h2⟩
    · rintro ⟨bl', y, e, h1, h2⟩
      cases e
      exact ⟨_, y, rfl, by rw [hlast]; exact h1, h2⟩
  · have hs : (putIns f b bl x).blocks[k]? = f.blocks[k]? := List.getElem?_set_ne (Ne.symm hk)
    rw [hs]
theorem rdB_put {q : Int} (hq : (writesB x && x.d == q) = false) {c : Nat} (h : rdB q (insOf f c) = true) : rdB q (insOf (putIns f b bl x) c) = true := by
  rw [insOf_put hb]
  split
  · rename_i hc
    subst hc
    have : insOf f c = bl.ins := by unfold insOf; rw [hb]
    rw [this] at h
    unfold rdB
    rw [hq, h]
    simp
  · exact h
theorem thru_put {q : Int} (hq : (writesB x && x.d == q) = false) {c : Nat} (h : thru q (insOf f c) = true) : thru q (insOf (putIns f b bl x) c) = true := by
  rw [insOf_put hb]
  split
  · rename_i hc
    subst hc
    have : insOf f c = bl.ins := by unfold insOf; rw [hb]
    rw [this] at h
    unfold thru
    rw [hq, h]
    rfl
  · exact h
theorem rdB_back {q : Int} (hq : (readsC x).contains q = false) {c : Nat} (h : rdB q (insOf (putIns f b bl x) c) = true) : rdB q (insOf f c) = true := by
  rw [insOf_put hb] at h
  split at h
  · rename_i hc
    subst hc
    have : insOf f c = bl.ins := by unfold insOf; rw [hb]
    rw [this]
    unfold rdB at h
    rw [hq, Bool.false_or, Bool.and_eq_true] at h
    exact h.2
  · exact h
theorem thru_back {q : Int} {c : Nat} (h : thru q (insOf (putIns f b bl x) c) = true) : thru q (insOf f c) = true := by
  rw [insOf_put hb] at h
  split at h
  · rename_i hc
    subst hc
    have : insOf f c = bl.ins := by unfold insOf; rw [hb]
    rw [this]
    unfold thru at h
    rw [Bool.and_eq_true] at h
    exact h.2
  · exact h
theorem lout_put (hne : bl.ins ≠ []) {q : Int} (hq : (writesB x && x.d == q) = false) {k : Nat} (h : LOut f k q) : LOut (putIns f b bl x) k q := by
  induction h with
  | read he h1 => exact .read ((edge_put hb hne).2 he) (rdB_put hb hq h1)
  | pass he h1 _ ih => exact .pass ((edge_put hb hne).2 he) (thru_put hb hq h1) (ih hq)
theorem lout_back (hne : bl.ins ≠ []) {q : Int} (hq : (readsC x).contains q = false) {k : Nat} (h : LOut (putIns f b bl x) k q) : LOut f k q := by
  induction h with
  | read he h1 => exact .read ((edge_put hb hne).1 he) (rdB_back hb hq h1)
  | pass he h1 _ ih => exact .pass ((edge_put hb hne).1 he) (thru_back hb h1) (ih hq)
theorem lin_put (hne : bl.ins ≠ []) {q : Int} (hq : (writesB x && x.d == q) = false) {k : Nat} (h : LIn f k q) : LIn (putIns f b bl x) k q := by
  rcases h with h | ⟨h1, h2⟩
  · exact .inl (rdB_put hb hq h)
  · exact .inr ⟨thru_put hb hq h1, lout_put hb hne hq h2⟩
theorem lin_back (hne : bl.ins ≠ []) {q : Int} (hq : (readsC x).contains q = false) {k : Nat} (h : LIn (putIns f b bl x) k q) : LIn f k q := by
  rcases h with h | ⟨h1, h2⟩
  · exact .inl (rdB_back hb hq h)
  · exact .inr ⟨thru_back hb h1, lout_back hb hne hq h2⟩
end
theorem outS_subR (f : Func) (b : Nat) : Sub (regsL f) (outS f b) := outS_sub (fun _ hb x hx _ hr => regsL_mem.2 ⟨_, hb, x, hx, hr⟩) b
theorem inS_subR (f : Func) (b i : Nat) : Sub (regsL f) (inS ((insOf f b).drop i) (outS f b)) :=
  (outS_subR f b).inS fun x hx => insOf_in (fun _ hb x hx _ hr => regsL_mem.2 ⟨_, hb, x, hx, hr⟩) b x (List.mem_of_mem_drop hx)
theorem mem_outL {f : Func} {b : Nat} {q : Int} : q ∈ outL f b ↔ LOut f b q := by
  unfold outL
  rw [List.mem_filter, outS_iff]
  exact ⟨fun h => h.2, fun h => ⟨outS_subR f b q (outS_iff.2 h), h⟩⟩
theorem mem_inL {f : Func} {b : Nat} {q : Int} : q ∈ inL f b ↔ LIn f b q := by
  have e : inS (insOf f b) (outS f b) q = true ↔ LIn f b q := by
    rw [inS_eq]
    simp only [Bool.or_eq_true, Bool.and_eq_true]
    unfold LIn
    rw [outS_iff]
  unfold inL
  rw [List.mem_filter, e]
  exact ⟨fun h => h.2, fun h => ⟨inS_subR f b 0 q (by rw [List.drop_zero]; exact e.2 h), h⟩⟩
theorem nodup_le : ∀ {l m : List Int}, l.Nodup → (∀ x ∈ l, x ∈ m) → l.length ≤ m.length
  | [], _, _, _ => Nat.zero_le _
  | x :: l, m, hn, h => by
    rw [List.nodup_cons] at hn
    have hx := h x (by simp)
    have := nodup_le (m := m.erase x) hn.2 fun y hy => (List.mem_erase_of_ne (fun e => hn.1 (by subst e; exact hy))).2 (h y (by simp [hy]))
    rw [List.length_erase_of_mem hx] at this
    have : 0 < m.length := List.length_pos_of_mem hx
    simp only [List.length_cons]
    omega
theorem mxB_ge (n : Int) : ∀ (ls : List (List Int)) (m : Int), m ≤ n → (∀ l ∈ ls, (l.length : Int) ≤ n) → mxB m ls ≤ n
  | [], m, h, _ => h
  | l :: ls, m, h, hl => mxB_ge n ls (mxI m l) (by unfold mxI; split <;> first | exact hl l (by simp) | exact h) fun l' h' => hl l' (by simp [h'])
theorem mxB_le : ∀ (ls : List (List Int)) (m : Int), m ≤ mxB m ls ∧ ∀ l ∈ ls, (l.length : Int) ≤ mxB m ls
  | [], m => ⟨Int.le_refl _, fun l hl => by cases hl⟩
  | l :: ls, m => by
    have h1 : m ≤ mxI m l := by unfold mxI; split <;> omega
    have h2 : (l.length : Int) ≤ mxI m l := by unfold mxI; split <;> omega
    obtain ⟨h3, h4⟩ := mxB_le ls (mxI m l)
    have e : mxB m (l :: ls) = mxB (mxI m l) ls := rfl
    rw [e]
    refine ⟨by omega, fun l' hl' => ?_⟩
    rcases List.mem_cons.1 hl' with rfl | hl'
    · omega
    · exact h4 l' hl'
theorem most_ge (n : Int) : ∀ (bs : List (List (List Int))) (m : Int), m ≤ n → (∀ ls ∈ bs, ∀ l ∈ ls, (l.length : Int) ≤ n) → bs.foldl mxB m ≤ n
  | [], m, h, _ => h
  | ls :: bs, m, h, hl => most_ge n bs (mxB m ls) (mxB_ge n ls m h (hl ls (by simp))) fun l' h' => hl l' (by simp [h'])
theorem most_le : ∀ (bs : List (List (List Int))) (m : Int), m ≤ bs.foldl mxB m ∧ ∀ ls ∈ bs, ∀ l ∈ ls, (l.length : Int) ≤ bs.foldl mxB m
  | [], m => ⟨Int.le_refl _, fun l hl => by cases hl⟩
  | ls :: bs, m => by
    obtain ⟨h1, h2⟩ := mxB_le ls m
    obtain ⟨h3, h4⟩ := most_le bs (mxB m ls)
    have e : (ls :: bs).foldl mxB m = bs.foldl mxB (mxB m ls) := rfl
    rw [e]
    refine ⟨by omega, fun l' hl' l hl => ?_⟩
    rcases List.mem_cons.1 hl' with rfl | hl'
    · have := h2 l hl; omega
    · exact h4 l' hl' l hl
theorem most_put {f : Func} {b : Nat} {bl : Block} {x : Ins} (hb : f.blocks[b]? = some bl) (hne : bl.ins ≠ []) (hw : writesB x = false) : mostF f ≤ mostF (putIns f b bl x) := by
  unfold mostF
  obtain ⟨h0, h1⟩ := most_le (allL (putIns f b bl x)) 0
  refine most_ge _ _ _ h0 fun ls hls l hl => ?_
  unfold allL at hls
  obtain ⟨c, hc, rfl⟩ := List.mem_map.1 hls
  have hc := List.mem_range.1 hc
  unfold blockL at hl
  obtain ⟨i, hi, rfl⟩ := List.mem_map.1 hl
  have hi := List.mem_range.1 hi
  have hbl : (putIns f b bl x).blocks.length = f.blocks.length := by simp [putIns]
  obtain ⟨j, hj, hd⟩ : ∃ j, j < (insOf (putIns f b bl x) c).length + 1 ∧ (insOf (putIns f b bl x) c).drop j = (insOf f c).drop i := by
    rw [insOf_put hb]
    split
    · rename_i hcb
      subst hcb
      have : insOf f c = bl.ins := by unfold insOf; rw [hb]
      rw [this] at hi ⊢
      exact ⟨i + 1, by simp; omega, rfl⟩
    · exact ⟨i, hi, rfl⟩
  have hm : placeL (putIns f b bl x) (regsL (putIns f b bl x)) c j ∈ blockL (putIns f b bl x) c := List.mem_map.2 ⟨j, List.mem_range.2 hj, rfl⟩
  have hm2 := h1 (blockL (putIns f b bl x) c) (by unfold allL; exact List.mem_map.2 ⟨c, List.mem_range.2 (by rw [hbl]; exact hc), rfl⟩) _ hm
  refine Int.le_trans ?_ hm2
  have hle : (placeL f (regsL f) c i).length ≤ (placeL (putIns f b bl x) (regsL (putIns f b bl x)) c j).length := by
    refine nodup_le ((regsL_asc f).filter _).nodup fun q hq => ?_
    unfold placeL at hq ⊢
    rw [List.mem_filter] at hq ⊢
    have hq2 := hq.2
    rw [liveAt_eq f (outS f c) c i (fun r => outS_iff) q] at hq2
    have hq3 : inS ((insOf (putIns f b bl x) c).drop j) (outS (putIns f b bl x) c) q = true := by
      rw [hd]
      exact inS_mono (fun r hr => outS_iff.2 (lout_put hb hne (by rw [hw]; rfl) (outS_iff.1 hr))) q hq2
    refine ⟨inS_subR _ c j q hq3, ?_⟩
    rw [liveAt_eq _ (outS (putIns f b bl x) c) c j (fun r => outS_iff) q]
    exact hq3
  omega
theorem bulkL_set {α : Type} {g : α → Nat} : ∀ {l : List α} {k : Nat} {y z : α}, l[k]? = some y → bulkL g (l.set k z) + g y = bulkL g l + g z
  | [], k, y, z, h => by simp at h
  | a :: l, 0, y, z, h => by
    have h : a = y := by simpa using h
    subst h
    simp only [List.set_cons_zero, bulkL]
    omega
  | a :: l, k + 1, y, z, h => by
    have := bulkL_set (g := g) (l := l) (k := k) (z := z) (by simpa using h)
    simp only [List.set_cons_succ, bulkL]
    omega
theorem bulk_put {f : Func} {b : Nat} {bl : Block} {x : Ins} (hb : f.blocks[b]? = some bl) : tFunc.bulk (putIns f b bl x) = tFunc.bulk f + tIns.bulk x := by
  have h1 := bulkL_set (g := tBlock.bulk) (z := putB bl x) hb
  have h2 : tBlock.bulk (putB bl x) = tBlock.bulk bl + tIns.bulk x := by
    rw [bulk_block, bulk_block]
    simp only [putB, bulkL]
    omega
  rw [bulk_func, bulk_func]
  simp only [putIns]
  omega
theorem ok_put {f : Func} {b : Nat} {bl : Block} {x : Ins} (ho : okFunc f) (hb : f.blocks[b]? = some bl) (hx : okIns x) : okFunc (putIns f b bl x) := ⟨ho.name, ho.args, ho.regs, fun y hy => by
  rcases List.mem_or_eq_of_mem_set hy with h | h
  · exact ho.blocks y h
  · rw [h]
    have hbl := ho.blocks bl (List.mem_of_getElem? hb)
    exact ⟨hbl.name, fun z hz => by
      rcases List.mem_cons.1 hz with h | h
      · rw [h]; exact hx
      · exact hbl.ins z h⟩⟩
end Mu
end
section
/-
  What it means that Check finds nothing: nothing but arguments is live at the beginning; no more registers are live than there are.
  Conditions: none.
-/
namespace Mu
open Go

/-- marks that are below others -/
structure LeB (l m : List Bool) : Prop where
  len : l.length = m.length
  le : ∀ i, l.getD i false = true → m.getD i false = true
theorem LeB.refl (l : List Bool) : LeB l l := ⟨rfl, fun _ h => h⟩
theorem LeB.trans {l m k : List Bool} (h : LeB l m) (h' : LeB m k) : LeB l k := ⟨h.len.trans h'.len, fun i hi => h'.le i (h.le i hi)⟩
theorem LeB.count : ∀ {l m : List Bool}, LeB l m → l.count true ≤ m.count true ∧ (m.count true ≤ l.count true → l = m)
  | [], [], _ => ⟨Nat.le_refl _, fun _ => rfl⟩
  | [], b :: m, h => by have := h.len; simp at this
  | a :: l, [], h => by have := h.len; simp at this
  | a :: l, b :: m, h => by
    have ht : LeB l m := ⟨by have := h.len; simpa using this, fun i hi => by have := h.le (i + 1) (by simpa using hi); simpa using this⟩
    have h0 : a = true → b = true := fun e => by have := h.le 0 (by simpa using e); simpa using this
    obtain ⟨h1, h2⟩ := ht.count
    cases a <;> cases b
    · rw [List.count_cons_of_ne (by simp), List.count_cons_of_ne (by simp)]
      exact ⟨h1, fun e => by rw [h2 e]⟩
    · rw [List.count_cons_of_ne (by simp), List.count_cons_self]
      exact ⟨by omega, fun e => by omega⟩
    · exact absurd (h0 rfl) (by simp)
    · rw [List.count_cons_self, List.count_cons_self]
      exact ⟨by omega, fun e => by rw [h2 (by omega)]⟩
theorem LeB.anti {l m : List Bool} (h : LeB l m) (h' : LeB m l) : l = m := h.count.2 h'.count.1
theorem LeB.set (l : List Bool) (j : Nat) : LeB l (l.set j true) := ⟨by simp, fun i hi => by
  by_cases hij : j = i
  · subst hij
    have hl : j < l.length := by
      rcases Nat.lt_or_ge j l.length with h1 | h1
      · exact h1
      · rw [List.getD_eq_getElem?_getD, List.getElem?_eq_none h1] at hi; simp at hi
    rw [List.getD_eq_getElem?_getD, List.getElem?_set_self hl]
    rfl
  · rw [List.getD_eq_getElem?_getD, List.getElem?_set_ne hij, ← List.getD_eq_getElem?_getD]
    exact hi⟩
theorem putsK_leB (l : List Int) : ∀ out : List Bool, LeB out (l.foldl putK out) := by
  induction l with
  | nil => exact fun out => LeB.refl _
  | cons x l ih => exact fun out => (LeB.set out x.toNat).trans (ih _)
theorem putsK_has {c : Int} : ∀ {l : List Int} (out : List Bool), c ∈ l → c.toNat < out.length → (l.foldl putK out).getD c.toNat false = true
  | [], _, h, _ => by cases h
  | x :: l, out, h, hl => by
    rw [List.foldl_cons]
    by_cases hx : c = x
    · subst hx
      refine (putsK_leB l _).le _ ?_
      unfold putK
      rw [List.getD_eq_getElem?_getD, List.getElem?_set_self hl]
      rfl
    · have hc : c ∈ l := by
        rcases List.mem_cons.1 h with h | h
        · exact absurd h hx
        · exact h
      exact putsK_has _ hc (by simpa [putK] using hl)
theorem stepK_leB (f : Func) (r : Int) (out : List Bool) (i : Nat) : LeB out (stepK f r out i) := by
  unfold stepK
  cases f.blocks[i]? with
  | none => exact LeB.refl _
  | some b =>
    simp only [Option.elim]
    split
    · exact LeB.refl _
    · exact putsK_leB _ _
theorem roundK_leB (f : Func) (r : Int) (out : List Bool) (m k : Nat) : LeB (roundK f r out m) (roundK f r out (m + k)) := by
  induction k with
  | zero => exact LeB.refl _
  | succ k ih => rw [← Nat.add_assoc, roundK_succ]; exact ih.trans (stepK_leB _ _ _ _)
theorem roundK_zero (f : Func) (r : Int) (out : List Bool) : roundK f r out 0 = out := rfl
theorem roundK_fixed {f : Func} {r : Int} {out : List Bool} {n : Nat} (h : roundK f r out n = out) {m : Nat} (hm : m ≤ n) : roundK f r out m = out := by
  have h1 := roundK_leB f r out 0 m
  have h2 := roundK_leB f r out m (n - m)
  rw [roundK_zero, Nat.zero_add] at h1
  rw [show m + (n - m) = n by omega, h] at h2
  exact h2.anti h1
theorem lacksL_fixed (f : Func) (r : Int) (hn : 0 < f.blocks.length) (hr : r ≥ f.args) : roundK f r (lacksL f r) f.blocks.length = lacksL f r := by
  have h0 : (lacksK f r 0).getD 0 false = true := by
    unfold lacksK
    rw [List.getD_eq_getElem?_getD, List.getElem?_set_self (by simpa using hn)]
    simpa using hr
  have key : ∀ m, (∃ j, j < m ∧ lacksK f r (j + 1) = lacksK f r j) ∨ m + 1 ≤ (lacksK f r m).count true := by
    intro m
    induction m with
    | zero =>
      refine .inr ?_
      have hm : true ∈ lacksK f r 0 := by
        rw [List.getD_eq_getElem?_getD] at h0
        cases h1 : (lacksK f r 0)[0]? with
        | none => rw [h1] at h0; simp at h0
        | some q =>
          rw [h1] at h0
          have : q = true := by simpa using h0
          subst this
          exact List.mem_of_getElem? h1
      exact List.one_le_count_iff.2 hm
    | succ m ih =>
      rcases ih with ⟨j, hj, he⟩ | h
      · exact .inl ⟨j, by omega, he⟩
      · by_cases he : lacksK f r (m + 1) = lacksK f r m
        · exact .inl ⟨m, by omega, he⟩
        · have h1 : LeB (lacksK f r m) (lacksK f r (m + 1)) := by
            have := roundK_leB f r (lacksK f r m) 0 f.blocks.length
            rwa [roundK_zero, Nat.zero_add] at this
          refine .inr ?_
          by_cases h2 : (lacksK f r (m + 1)).count true ≤ (lacksK f r m).count true
          · exact absurd (h1.count.2 h2).symm he
          · omega
  rcases key f.blocks.length with ⟨j, hj, he⟩ | h
  · have hst : ∀ k, lacksK f r (j + k) = lacksK f r j := by
      intro k
      induction k with
      | zero => rfl
      | succ k ih =>
        show roundK f r (lacksK f r (j + k)) f.blocks.length = _
        rw [ih]
        exact he
    have h1 : lacksL f r = lacksK f r j := by
      unfold lacksL
      rw [show f.blocks.length = j + (f.blocks.length - j) by omega]
      exact hst _
    rw [h1]
    exact he
  · have := List.count_le_length (a := true) (l := lacksK f r f.blocks.length)
    rw [lacksK_len] at this
    omega
theorem lacksL_first (f : Func) (r : Int) (hn : 0 < f.blocks.length) (hr : r ≥ f.args) : (lacksL f r).getD 0 false = true := by
  have h0 : (lacksK f r 0).getD 0 false = true := by
    unfold lacksK
    rw [List.getD_eq_getElem?_getD, List.getElem?_set_self (by simpa using hn)]
    simpa using hr
  have key : ∀ m, LeB (lacksK f r 0) (lacksK f r m) := by
    intro m
    induction m with
    | zero => exact LeB.refl _
    | succ m ih =>
      refine ih.trans ?_
      have := roundK_leB f r (lacksK f r m) 0 f.blocks.length
      rwa [roundK_zero, Nat.zero_add] at this
  exact (key _).le 0 h0
theorem lacksL_edge {f : Func} {r : Int} (hr : r ≥ f.args) {k c : Nat} (hk : (lacksL f r).getD k false = true) (hw : writesR (insOf f k) r = false) (he : Edge f k c) : (lacksL f r).getD c false = true := by
  obtain ⟨bl, x, hb, hx, hc, hm⟩ := edge_iff.1 he
  have hkn : k < f.blocks.length := (List.getElem?_eq_some_iff.1 hb).1
  have hfix := lacksL_fixed f r (by omega) hr
  have h1 : stepK f r (lacksL f r) k = lacksL f r := by
    have h2 := roundK_fixed hfix (m := k + 1) (by omega)
    rwa [roundK_succ, roundK_fixed hfix (m := k) (by omega)] at h2
  have hins : insOf f k = bl.ins := by unfold insOf; rw [hb]
  unfold stepK at h1
  rw [hb] at h1
  simp only [Option.elim] at h1
  rw [hk, ← hins, hw, if_neg (by simp)] at h1
  rw [← h1]
  have hl : (lacksL f r).length = f.blocks.length := lacksK_len f r _
  have hin : (c : Int) ∈ lastO bl := by
    unfold lastO
    rw [← List.getLast?_eq_getElem?, hx]
    show (c : Int) ∈ nextO x
    unfold rawWays at hm
    unfold nextO
    split at hm
    · rename_i h9
      rw [if_neg (by rw [h9]; decide), if_pos (by rw [h9]; rfl)]
      simp only [List.mem_cons, List.not_mem_nil, or_false] at hm ⊢
      rcases hm with hm | hm
      · exact .inl hm
      · split at hm
        · omega
        · exact .inr hm
    · split at hm
      · rename_i h9 h8
        rw [if_pos (by rw [h8]; rfl)]
        simp only [List.mem_cons, List.not_mem_nil, or_false] at hm ⊢
        rcases hm with hm | hm
        · exact hm
        · omega
      · cases hm
  have := putsK_has (c := (c : Int)) (lacksL f r) hin (by omega)
  simpa using this
theorem thru_writes {r : Int} : ∀ {ds : List Ins}, thru r ds = true → writesR ds r = false
  | [], _ => rfl
  | x :: ds, h => by
    simp only [thru, Bool.and_eq_true, Bool.not_eq_true'] at h
    have := thru_writes h.2
    unfold writesR at this ⊢
    rw [List.any_cons, h.1, this]
    rfl
theorem rdB_first {r : Int} : ∀ {ds : List Ins}, rdB r ds = true → ∃ i x, ds[i]? = some x ∧ r ∈ readsC x ∧ writesR (ds.take i) r = false
  | [], h => by simp [rdB] at h
  | x :: ds, h => by
    simp only [rdB, Bool.or_eq_true, Bool.and_eq_true, List.contains_iff_mem, Bool.not_eq_true'] at h
    rcases h with h | ⟨h1, h2⟩
    · exact ⟨0, x, rfl, h, rfl⟩
    · obtain ⟨i, y, h3, h4, h5⟩ := rdB_first h2
      refine ⟨i + 1, y, by simpa using h3, h4, ?_⟩
      rw [List.take_succ_cons]
      unfold writesR at h5 ⊢
      rw [List.any_cons, h1, h5]
      rfl
/-- of what the answer says that nothing is wrong -/
structure Fine (f : Func) : Prop where
  ne : 0 < f.blocks.length
  reg : ∀ b ∈ f.blocks, ∀ x ∈ b.ins, ∀ r ∈ readsC x, 0 ≤ r ∧ r < f.regs
  pos : 0 ≤ f.regs
  miss : ∀ i b, f.blocks[i]? = some b → missB (lacksA f) i b = false
theorem Fine.bnd {f : Func} (h : Fine f) {r : Int} (hr : r ∈ regsL f) : 0 ≤ r ∧ r < f.regs := by
  obtain ⟨b, hb, x, hx, hr⟩ := regsL_mem.1 hr
  exact h.reg b hb x hx r hr
theorem Fine.read {f : Func} (h : Fine f) {r : Int} {k : Nat} (hk : (lacksL f r).getD k false = true) (hd : rdB r (insOf f k) = true) : False := by
  obtain ⟨i, x, hx, hr, hw⟩ := rdB_first hd
  unfold insOf at hx hw
  cases hb : f.blocks[k]? with
  | none => rw [hb] at hx; simp at hx
  | some b =>
    rw [hb] at hx hw
    simp only at hx hw
    obtain ⟨h0, h1⟩ := h.reg b (List.mem_of_getElem? hb) x (List.mem_of_getElem? hx) r hr
    have hm := h.miss k b hb
    unfold missB at hm
    have hil : i < b.ins.length := (List.getElem?_eq_some_iff.1 hx).1
    have h2 := List.any_eq_false.1 hm i (List.mem_range.2 hil)
    unfold missI at h2
    rw [hx] at h2
    simp only [Option.elim, Bool.not_eq_true] at h2
    have h3 := List.any_eq_false.1 h2 r hr
    unfold missR lackAt lacksA at h3
    rw [List.getElem?_map, List.getElem?_range (by omega)] at h3
    simp only [Option.map_some, Option.bind_some] at h3
    rw [show ((r.toNat : Nat) : Int) = r by omega, ← List.getD_eq_getElem?_getD, hk, hw] at h3
    simp at h3
theorem Fine.path {f : Func} (h : Fine f) {r : Int} (hr : r ≥ f.args) {k : Nat} (hl : LOut f k r) : (lacksL f r).getD k false = true → writesR (insOf f k) r = false → False := by
  induction hl with
  | read he h1 => exact fun hk hw => h.read (lacksL_edge hr hk hw he) h1
  | pass he h1 _ ih => exact fun hk hw => ih hr (lacksL_edge hr hk hw he) (thru_writes h1)
theorem Fine.in0 {f : Func} (h : Fine f) {r : Int} (hr : r ∈ inL f 0) : 0 ≤ r ∧ r < f.args := by
  unfold inL at hr
  rw [List.mem_filter] at hr
  refine ⟨(h.bnd hr.1).1, ?_⟩
  by_cases hra : r < f.args
  · exact hra
  · exfalso
    have h1 := hr.2
    have h0 := lacksL_first f r h.ne (by omega)
    rw [inS_eq] at h1
    simp only [Bool.or_eq_true, Bool.and_eq_true] at h1
    rcases h1 with h1 | ⟨h1, h2⟩
    · exact h.read h0 h1
    · exact h.path (by omega) (outS_iff.1 h2) h0 (thru_writes h1)
theorem Fine.most {f : Func} (h : Fine f) : mostF f ≤ f.regs := by
  unfold mostF
  refine most_ge _ _ _ h.pos fun ls hls l hl => ?_
  unfold allL at hls
  obtain ⟨c, hc, rfl⟩ := List.mem_map.1 hls
  unfold blockL at hl
  obtain ⟨i, hi, rfl⟩ := List.mem_map.1 hl
  unfold placeL
  have hle := nodup_le (l := (regsL f).filter (liveAt f c i)) (m := (List.range f.regs.toNat).map fun (n : Nat) => (n : Int)) ((regsL_asc f).filter _).nodup fun q hq => by
    rw [List.mem_filter] at hq
    have := h.bnd hq.1
    exact List.mem_map.2 ⟨q.toNat, List.mem_range.2 (by omega), by omega⟩
  rw [List.length_map, List.length_range] at hle
  have := h.pos
  omega
/-- Check finds nothing -/
theorem chk_ok {p : Prog} (h : checkO p = none) : p.funcs.length ≤ 64 ∧ ∀ n f, p.funcs[n]? = some f → funcB p n f = true ∧ (∀ i b, f.blocks[i]? = some b → blockB p f i b = true) ∧ (∀ i b, f.blocks[i]? = some b → missB (lacksA f) i b = false) := by
  unfold checkO at h
  split at h
  · cases h
  · rename_i h0
    split at h
    · cases h
    · simp only [Option.or_eq_none_iff] at h
      obtain ⟨⟨h1, h2⟩, h3⟩ := h
      refine ⟨?_, fun n f hf => ?_⟩
      · unfold bad0 at h0
        simp only [Bool.or_eq_true, decide_eq_true_eq, not_or] at h0
        omega
      · have hn : n < p.funcs.length := (List.getElem?_eq_some_iff.1 hf).1
        have g1 := firstN_none h1 n hn
        have g2 := firstN_none h2 n hn
        have g3 := firstN_none h3 n hn
        unfold chk1 at g1
        unfold chk2 at g2
        unfold chk3 at g3
        rw [hf] at g1 g2 g3
        simp only [Option.bind_some] at g1 g2 g3
        refine ⟨?_, fun i b hb => ?_, fun i b hb => ?_⟩
        · cases e : funcB p n f
          · rw [e] at g1; cases g1
          · rfl
        · have := firstN_none g2 i (List.getElem?_eq_some_iff.1 hb).1
          unfold chk2b at this
          rw [hb] at this
          simp only [Option.bind_some] at this
          cases e : blockB p f i b
          · rw [e] at this; cases this
          · rfl
        · have := firstN_none g3 i (List.getElem?_eq_some_iff.1 hb).1
          unfold chk3b at this
          rw [hb] at this
          simp only [Option.bind_some] at this
          cases e : missB (lacksA f) i b
          · rfl
          · rw [e] at this; cases this
/-- what two of the three rounds give: registers are in bounds -/
theorem regs_ok {p : Prog} {n : Nat} {f : Func} (h1 : funcB p n f = true) (h2 : ∀ i b, f.blocks[i]? = some b → blockB p f i b = true) : 0 ≤ f.regs ∧ f.regs ≤ 4096 ∧ (∀ b ∈ f.blocks, ∀ x ∈ b.ins, ∀ r ∈ readsC x, 0 ≤ r ∧ r < f.regs) := by
  unfold funcB at h1
  simp only [Bool.and_eq_true, Bool.not_eq_true'] at h1
  have hfit := h1.2.2
  have h3 := hfit
  unfold fitF at h3
  simp only [Bool.and_eq_true, beq_iff_eq, decide_eq_true_eq] at h3
  have h4 := (foldBlk_le f.blocks 0).1
  have h5 : 0 ≤ regsI f := h4
  refine ⟨by rw [h3.1]; split <;> omega, h3.2, fun b hb x hx r hr => ?_⟩
  obtain ⟨i, hi⟩ := List.mem_iff_getElem?.1 hb
  have h6 := h2 i b hi
  unfold blockB at h6
  simp only [Bool.and_eq_true, Bool.not_eq_true'] at h6
  obtain ⟨k, hk⟩ := List.mem_iff_getElem?.1 hx
  have hkl : k < b.ins.length := (List.getElem?_eq_some_iff.1 hk).1
  have h7 := List.any_eq_false.1 h6.2.2 k (List.mem_range.2 hkl)
  unfold badAt badI at h7
  rw [hk] at h7
  simp only [Option.elim, Bool.or_eq_true, not_or, Bool.not_eq_true, Bool.not_eq_false'] at h7
  exact ⟨readsC_pos h7.2 r hr, (reg_lt hfit hb hx (by unfold regsX; exact List.mem_append_left _ hr)).1⟩
theorem fine_of {p : Prog} (h : checkO p = none) {n : Nat} {f : Func} (hf : p.funcs[n]? = some f) : Fine f := by
  obtain ⟨h1, h2, h3⟩ := (chk_ok h).2 n f hf
  obtain ⟨h4, _, h5⟩ := regs_ok h1 h2
  refine ⟨?_, h5, h4, h3⟩
  unfold funcB at h1
  simp only [Bool.and_eq_true, Bool.not_eq_true'] at h1
  exact (ended_of h1.2.1 h2).ne
end Mu
end
section
/-
  A contract of a function with two results: an aggregate that it names, and a value.
  Conditions: none; generic.
-/
namespace Mu
open Go Go.RowKit Go.Proofs

section
variable {P : Program}
def RetsC2 (t u : Tmp) (m : Nat) (r q : AV) : Exit → St → Prop := fun e s => (e = .normal ∨ e = .ret) ∧ ∃ i cells, evA s.t (.tmp t) = .ptr i 0 ∧ s.h[i]? = some (.box cells) ∧ cells.length = m ∧ Fin s.h (.tup [.agg cells, evA s.t (.tmp u)]) (.tup [r, q])
theorem Fn.of_awpC2 {f : FuncId} {fn : Go.Func} {c : Code} {args : List AV} {r q : AV} {t u : Tmp} {ty : TypeId} {n m : Nat} (hf : P.funcs[f]? = some fn) (hb : fn.body = some c) (hE : Enters P f = true) (hres : fn.results = #[.cell t ty, .tmp u]) (ha : aggT P ty = some (true, m)) (hn : fn.ntmps = n)
    (h : ∀ C : Ctx, C.std → Awp P C c (RetsC2 t u m r q) ⟨args ++ List.replicate (n - args.length) (.lit undef), []⟩) : Fn P f args (.tup [r, q]) := by
  refine ⟨hE, fun w S vs hS hr => calls_of_wp hf hb ?_⟩
  rw [hn]
  refine wp_mono ((h ⟨w, S, fun k => k < w.heap.size, none⟩ (fun _ h => h)).wp rfl (start_rel hS hr)) ?_
  rintro e a' w' ⟨s, ⟨he, i, cells, hev, hi, hm, hfin⟩, hd, S1, ψ, H, hl⟩
  rw [hfin.1] at hd
  have hv := ev_rel hl (.tmp t)
  rw [hev] at hv
  unfold AV.rel at hv
  obtain ⟨g, h1, h2⟩ := hv.2 (by rw [hi]; rfl)
  obtain ⟨g', cs, e', h3, _, _, h4, h5⟩ := H.blk i _ hi
  rw [h1] at h3
  cases h3
  have hc : ∀ j v, cs[j]? = some v → w'.cell? ⟨g, 0 + j, none⟩ = some v := fun j v hv => by simp [World.cell?, h4, hv]
  have hload := run_load_agg (P := P) (ty := ty) (b := g) (off := 0) ha (by rw [relL_len h5]; exact hm) hc
  have hres' : (results fn a'.tmps).run P w' = .ok (.tuple #[.agg cs.toArray, a'.eval (.tmp u)]) w' := by
    have e1 : (a'.tmps[t]?).getD undef = .pointer (some ⟨g, 0, none⟩) := by rw [← Array.getD_eq_getD_getElem?]; exact h2
    have e2 : (a'.tmps[u]?).getD undef = a'.eval (.tmp u) := by rw [← Array.getD_eq_getD_getElem?]; rfl
    unfold Instr.loadAt Instr.sureAddr at hload
    simp only [Sem.run_bind, Sem.run_pure, Result.andThen_ok] at hload
    simp [results, hres, e1, e2, asAddr, hload]
  have hrl : AV.rel w' S1 s.h ψ (.tup [.agg cells, evA s.t (.tmp u)]) (.tuple #[.agg cs.toArray, a'.eval (.tmp u)]) := by
    unfold AV.rel
    refine ⟨[.agg cs.toArray, a'.eval (.tmp u)], rfl, ?_⟩
    unfold AV.relL
    refine ⟨_, _, rfl, (by unfold AV.rel; exact ⟨cs, rfl, h5⟩), ?_⟩
    unfold AV.relL
    refine ⟨_, _, rfl, ev_rel hl (.tmp u), ?_⟩
    unfold AV.relL
    rfl
  have hg : Good w S [] ψ0 (.tup [r, q]) (.tuple #[.agg cs.toArray, a'.eval (.tmp u)]) w' := by
    first
      | exact good_final H hfin hrl
      | exact good_final (a' := a') H hfin hrl
  rcases he with rfl | rfl
  · exact ⟨hd, _, hres', _, rfl, hg⟩
  · exact ⟨hd, _, hres', _, rfl, hg⟩
end
end Mu
end
section
/-
  muntinref14: Check, walked.
  Conditions: data of at most 2^21 everywhere.
-/
namespace Mu
open Go Go.RowKit Go.Proofs
instance : AG Try.prog 54 true 2 := ⟨by kernel_rfl⟩
instance : SZ Try.prog 54 2 := ⟨by kernel_rfl⟩
instance : ZC Try.prog 54 [.int .i64 0, .int .i64 0] := ⟨by kernel_rfl⟩
theorem plPos : places? Try.prog 54 = some [(0, 1), (1, 1)] := by kernel_rfl
def posA : Option (Int × Int) → AV
  | none => .agg [.lit (.int .i64 0), .lit (.int .i64 0)]
  | some (l, c) => .agg [.lit (.int .i64 l), .lit (.int .i64 c)]
def errA : Option (Int × Int) → AV
  | none => .lit (.int .i64 0)
  | some _ => .lit (.int .i64 140)
structure smallP (p : Prog) : Prop where
  funcs : p.funcs.length ≤ 2097152
  threads : p.threads.length ≤ 2097152
  ok : ∀ f ∈ p.funcs, okFunc f
  small : ∀ f ∈ p.funcs, smallF f

theorem checkO_1 {p : Prog} (e1 : bad0 p = false) (e2 : p.threads.any (badT p) = false) {v : Int × Int} (h : firstN p.funcs.length (chk1 p) = some v) : checkO p = some v := by unfold checkO; rw [e1, e2, h]; rfl
theorem checkO_2 {p : Prog} (e1 : bad0 p = false) (e2 : p.threads.any (badT p) = false) (h1 : firstN p.funcs.length (chk1 p) = none) {v : Int × Int} (h : firstN p.funcs.length (chk2 p) = some v) : checkO p = some v := by unfold checkO; rw [e1, e2, h1, h]; rfl
theorem checkO_3 {p : Prog} (e1 : bad0 p = false) (e2 : p.threads.any (badT p) = false) (h1 : firstN p.funcs.length (chk1 p) = none) (h2 : firstN p.funcs.length (chk2 p) = none) : checkO p = firstN p.funcs.length (chk3 p) := by unfold checkO; rw [e1, e2, h1, h2]; rfl
theorem firstN_more {α : Type} {g : Nat → Option α} {k : Nat} (h : firstN k g = none) (h' : g k = none) : firstN (k + 1) g = none := by rw [firstN_succ h, h']
theorem chk1_eq {p : Prog} {n : Nat} {f : Func} (hf : p.funcs[n]? = some f) : chk1 p n = if funcB p n f then none else some ((n : Int), (-1 : Int)) := by unfold chk1; rw [hf]; rfl
theorem chk2_eq {p : Prog} {n : Nat} {f : Func} (hf : p.funcs[n]? = some f) : chk2 p n = firstN f.blocks.length (chk2b p n f) := by unfold chk2; rw [hf]; rfl
theorem chk3_eq {p : Prog} {n : Nat} {f : Func} (hf : p.funcs[n]? = some f) : chk3 p n = firstN f.blocks.length (chk3b n f) := by unfold chk3; rw [hf]; rfl
theorem chk2b_eq {p : Prog} {n i : Nat} {f : Func} {b : Block} (hb : f.blocks[i]? = some b) : chk2b p n f i = if blockB p f i b then none else some ((n : Int), (i : Int)) := by unfold chk2b; rw [hb]; rfl
theorem chk3b_eq {n i : Nat} {f : Func} {b : Block} (hb : f.blocks[i]? = some b) : chk3b n f i = if missB (lacksA f) i b then some ((n : Int), (i : Int)) else none := by unfold chk3b; rw [hb]; rfl
theorem chk12 {p : Prog} (h1 : firstN p.funcs.length (chk1 p) = none) (h2 : firstN p.funcs.length (chk2 p) = none) {n : Nat} {f : Func} (hf : p.funcs[n]? = some f) : funcB p n f = true ∧ ∀ i b, f.blocks[i]? = some b → blockB p f i b = true := by
  have hn : n < p.funcs.length := (List.getElem?_eq_some_iff.1 hf).1
  have g1 := firstN_none h1 n hn
  have g2 := firstN_none h2 n hn
  rw [chk1_eq hf] at g1
  rw [chk2_eq hf] at g2
  refine ⟨?_, fun i b hb => ?_⟩
  · cases e : funcB p n f
    · rw [e] at g1; cases g1
    · rfl
  · have := firstN_none g2 i (List.getElem?_eq_some_iff.1 hb).1
    rw [chk2b_eq hb] at this
    cases e : blockB p f i b
    · rw [e] at this; cases this
    · rfl
theorem lacksA_get {f : Func} {r : Int} (h0 : 0 ≤ r) (h1 : r < f.regs) : (lacksA f)[r.toNat]? = some (lacksL f r) := by
  unfold lacksA
  rw [List.getElem?_map, List.getElem?_range (by omega)]
  simp only [Option.map_some]
  rw [show ((r.toNat : Nat) : Int) = r by omega]
def lacksN (f : Func) (n : Nat) : List (List Bool) := (List.range n).map fun (r : Nat) => lacksL f (r : Int)
theorem lacksN_succ (f : Func) (n : Nat) : lacksN f (n + 1) = lacksN f n ++ [lacksL f (n : Int)] := by unfold lacksN; rw [List.range_succ, List.map_append]; rfl
theorem lacksN_len (f : Func) (n : Nat) : (lacksN f n).length = n := by simp [lacksN]

set_option maxRecDepth 100000 in
set_option maxHeartbeats 8000000 in
theorem check14_fn (p : Prog) (hp : smallP p) : Fn Try.prog 33 [.agg (encProg p)] (.tup [posA (checkO p), errA (checkO p)]) := by
  have hpl := hp.funcs
  have htl := hp.threads
  have hagg : aggT Try.prog 54 = some (true, 2) := by kernel_rfl
  refine Fn.of_awpC2 Try.func33 rfl (by kernel_rfl) rfl hagg Try.ntmps33 fun C hC => ?_
  simp only [List.length_cons, List.length_nil, Nat.reduceAdd, Nat.reduceSub, List.replicate_succ, List.replicate_zero, List.cons_append, List.nil_append]
  refine Awp.seq fun K1 h1 => ?_
  (refine Awp.region ?_; (repeat (first | refine sQ (hq := Quiet.pickOr rfl rfl rfl rfl) (hk := ?_) | refine sQ (hq := Quiet.pickAnd rfl rfl rfl rfl) (hk := ?_) | refine sQ (hk := ?_) | refine sSkip (hk := ?_) | refine sG (hk := ?_) | refine sOwn (hk := ?_))); refine aSeq_nil ?_)
  refine h1 _ ?_
  refine nT (hk := ?_)
  refine Awp.seq fun K2 h2 => ?_
  refine Awp.seq fun K3 h3 => ?_
  (refine Awp.region ?_; (repeat (first | refine sQ (hq := Quiet.pickOr rfl rfl rfl rfl) (hk := ?_) | refine sQ (hq := Quiet.pickAnd rfl rfl rfl rfl) (hk := ?_) | refine sQ (hk := ?_) | refine sSkip (hk := ?_) | refine sG (hk := ?_) | refine sOwn (hk := ?_))); refine aSeq_nil ?_)
  refine h3 _ ?_
  refine nT (hk := ?_)
  refine Awp.cond rfl (fun hb4 => ?_) (fun hb4 => ?_)
  · have e1 : bad0 p = true := hb4
    have e : checkO p = some (-1, -1) := by unfold checkO; rw [if_pos e1]
    refine Awp.seq fun K5 h5 => ?_
    (refine Awp.region ?_; (repeat (first | refine sQ (hq := Quiet.bld (rs := [.lit (.int .i64 (-1)), .lit (.int .i64 (-1))]) rfl plPos rfl rfl) (hk := ?_) | refine sQ (hq := Quiet.pickOr rfl rfl rfl rfl) (hk := ?_) | refine sQ (hq := Quiet.pickAnd rfl rfl rfl rfl) (hk := ?_) | refine sQ (hk := ?_) | refine sSkip (hk := ?_) | refine sG (hg := by first | rfl | exact gA_c rfl rfl) (hq := by (intro hg; (try simp only [Bool.and_eq_true, beq_iff_eq] at hg); (try simp only [hg, cond_true, Bool.true_and, beq_self_eq_true]); exact Quiet.bld (rs := [.lit (.int .i64 (-1)), .lit (.int .i64 (-1))]) rfl plPos rfl rfl)) (hk := ?_) | refine sG (hk := ?_) | refine sOwn (hk := ?_))); refine aSeq_nil ?_)
    refine h5 _ ?_
    refine nT (hk := ?_)
    refine Awp.ret ?_
    rw [e]
    exact ⟨.inr rfl, 1, _, rfl, rfl, rfl, Fin.cl rfl⟩
  · have e1 : bad0 p = false := hb4
    refine Awp.skip ?_
    refine h2 _ ?_
    refine nT (hk := ?_)
    refine Awp.seq fun K6 h6 => ?_
    refine Awp.seq fun K7 h7 => ?_
    (refine Awp.region ?_; (repeat (first | refine sQ (hq := Quiet.pickOr rfl rfl rfl rfl) (hk := ?_) | refine sQ (hq := Quiet.pickAnd rfl rfl rfl rfl) (hk := ?_) | refine sQ (hk := ?_) | refine sSkip (hk := ?_) | refine sG (hk := ?_) | refine sOwn (hk := ?_))); refine aSeq_nil ?_)
    refine h7 _ ?_
    refine nT (hk := ?_)
    refine Awp.block ?_
    refine Awp.loopF (fun i : Nat => ⟨[.any, .ptr 0 0, .ptr 1 0, .lit (.int .i64 0), .lit (.int .i64 (i : Int)), .any, .any, .any, .any, .any, .any, .any, .any, .any, .any, .any, .any, .any, .any, .any, .any, .any, .any, .any, .any, .any, .any, .any, .any, .any, .any, .any, .any, .any, .any, .any, .any, .any, .any, .any, .any, .any, .any, .any, .any, .any, .any, .any, .any, .any, .any, .any, .any, .any, .any, .any, .any, .any, .any, .any, .any, .any, .any, .any, .any, .any, .any, .any, .any, .any, .any, .any, .any, .any, .any, .any, .any, .any, .any, .any, .any, .any, .any, .any, .any, .any, .any, .any, .any, .any, .any, .any, .any, .any, .any, .any, .any, .any, .any, .any, .any, .any, .any, .any, .any, .any, .any, .any, .any, .any, .any, .any, .any, .any, .any, .any, .any, .any, .any, .any, .any, .any, .any, .any, .any, .any, .any, .any, .any, .any, .any, .any, .any, .any, .any, .any, .any, .any, .any, .any, .any, .any, .any, .any, .any, .any, .any, .any, .any, .any, .any, .any, .any, .any, .any, .any, .any, .any, .any, .any], [.box (encProg p), .box [.lit (.int .i64 0), .lit (.int .i64 0)]]⟩) (fun i => i ≤ p.threads.length ∧ (p.threads.take i).any (badT p) = false) (fun i => p.threads.length - i) 0 ⟨Nat.zero_le _, by simp⟩ (le_T) ?_
    rintro i ⟨hi, hno⟩
    refine Awp.seq fun K9 h9 => ?_
    refine Awp.seq fun K10 h10 => ?_
    (refine Awp.region ?_; (repeat (first | refine sQ (hq := Quiet.pickOr rfl rfl rfl rfl) (hk := ?_) | refine sQ (hq := Quiet.pickAnd rfl rfl rfl rfl) (hk := ?_) | refine sQ (hk := ?_) | refine sSkip (hk := ?_) | refine sG (hk := ?_) | refine sOwn (hk := ?_))); refine aSeq_nil ?_)
    refine h10 _ ?_
    refine nT (hk := ?_)
    refine Awp.cond rfl (fun hb11 => ?_) (fun hb11 => ?_)
    · have hlt : i < p.threads.length := by simpa using hb11
      obtain ⟨t, ht⟩ : ∃ t, p.threads[i]? = some t := ⟨_, List.getElem?_eq_getElem hlt⟩
      refine Awp.skip ?_
      refine h9 _ ?_
      refine nT (hk := ?_)
      refine Awp.seq fun K12 h12 => ?_
      refine Awp.block ?_
      refine Awp.seq fun K13 h13 => ?_
      (refine Awp.region ?_; (repeat (first | refine sQ (hq := Quiet.pickOr rfl rfl rfl rfl) (hk := ?_) | refine sQ (hq := Quiet.pickAnd rfl rfl rfl rfl) (hk := ?_) | refine sQ (hk := ?_) | refine sSkip (hk := ?_) | refine sG (hk := ?_) | refine sOwn (hk := ?_))); refine aSeq_nil ?_)
      refine h13 _ ?_
      refine nT (hk := ?_)
      refine Awp.via ⟨[.any, .ptr 0 0, .ptr 1 0, .lit (.int .i64 0), .lit (.int .i64 (i : Int)), .lit (.int .i64 t), .any, .any, .any, .any, .any, .any, .any, .any, .any, .any, .any, .any, .any, .any, .any, .any, .any, .any, .any, .any, .any, .any, .any, .any, .any, .any, .any, .any, .any, .any, .any, .any, .any, .any, .any, .any, .any, .any, .any, .any, .any, .any, .any, .any, .any, .any, .any, .any, .any, .any, .any, .any, .any, .any, .any, .any, .any, .any, .any, .any, .any, .any, .any, .any, .any, .any, .any, .any, .any, .any, .any, .any, .any, .any, .any, .any, .any, .any, .any, .any, .any, .any, .any, .any, .any, .any, .any, .any, .any, .any, .any, .any, .any, .any, .any, .any, .any, .any, .any, .any, .any, .any, .any, .any, .any, .any, .any, .any, .any, .any, .any, .any, .any, .any, .any, .any, .any, .any, .any, .any, .any, .any, .any, .any, .any, .any, .any, .any, .any, .any, .any, .any, .any, .any, .any, .any, .any, .any, .any, .any, .any, .any, .any, .any, .any, .any, .any, .any, .any, .any, .any, .any, .any, .any], [.box (encProg p), .box [.lit (.int .i64 0), .lit (.int .i64 0)]]⟩ (le_T) ?_
      refine Awp.seqc ⟨[.any, .ptr 0 0, .ptr 1 0, .lit (.int .i64 0), .lit (.int .i64 (i : Int)), .any, .any, .any, .any, .any, .any, .any, .any, .any, .any, .any, .any, .any, .any, .any, .any, .any, .any, .any, .any, .any, .any, .any, .any, .any, .any, .any, .any, .any, .any, .any, .any, .any, .any, .any, .any, .any, .any, .any, .any, .any, .any, .any, .any, .any, .any, .any, .any, .any, .any, .any, .any, .any, .any, .any, .any, .any, .any, .any, .any, .any, .any, .any, .any, .any, .any, .any, .any, .any, .any, .any, .lit (.bool (badT p t)), .any, .any, .any, .any, .any, .any, .any, .any, .any, .any, .any, .any, .any, .any, .any, .any, .any, .any, .any, .any, .any, .any, .any, .any, .any, .any, .any, .any, .any, .any, .any, .any, .any, .any, .any, .any, .any, .any, .any, .any, .any, .any, .any, .any, .any, .any, .any, .any, .any, .any, .any, .any, .any, .any, .any, .any, .any, .any, .any, .any, .any, .any, .any, .any, .any, .any, .any, .any, .any, .any, .any, .any, .any, .any, .any, .any, .any, .any, .any, .any, .any, .any, .any], [.box (encProg p), .box [.lit (.int .i64 0), .lit (.int .i64 0)]]⟩ ?_ ?_
      · rcases q1 : decide (t < 0) with _ | _
        · rcases q2 : decide (t ≥ (p.funcs.length : Int)) with _ | _
          · have ht0 : 0 ≤ t := by simpa using q1
            have htl' : t < p.funcs.length := by simpa using q2
            obtain ⟨g, hg⟩ : ∃ g, p.funcs[t.toNat]? = some g := ⟨_, List.getElem?_eq_getElem (by omega)⟩
            have eb : badT p t = (g.args != 0) := by unfold badT argsN; rw [q1, q2, hg]; rfl
            rw [eb]
            (refine Awp.region ?_; (repeat (first | refine sQ (hq := Quiet.pickOr rfl rfl rfl rfl) (hk := ?_) | refine sQ (hq := Quiet.pickAnd rfl rfl rfl rfl) (hk := ?_) | refine sQ (hk := ?_) | refine sSkip (hk := ?_) | refine sG (hk := ?_) | refine sOwn (hk := ?_))); refine aSeq_nil ?_)
            refine athen_n ?_
            exact le_T
          · have eb : badT p t = true := by unfold badT; rw [q1, q2]; rfl
            rw [eb]
            (refine Awp.region ?_; (repeat (first | refine sQ (hq := Quiet.pickOr rfl rfl rfl rfl) (hk := ?_) | refine sQ (hq := Quiet.pickAnd rfl rfl rfl rfl) (hk := ?_) | refine sQ (hk := ?_) | refine sSkip (hk := ?_) | refine sG (hk := ?_) | refine sOwn (hk := ?_))); refine aSeq_nil ?_)
            refine athen_n ?_
            exact le_T
        · have eb : badT p t = true := by unfold badT; rw [q1]; rfl
          rw [eb]
          (refine Awp.region ?_; (repeat (first | refine sQ (hq := Quiet.pickOr rfl rfl rfl rfl) (hk := ?_) | refine sQ (hq := Quiet.pickAnd rfl rfl rfl rfl) (hk := ?_) | refine sQ (hk := ?_) | refine sSkip (hk := ?_) | refine sG (hk := ?_) | refine sOwn (hk := ?_))); refine aSeq_nil ?_)
          refine athen_n ?_
          exact le_T
      · refine Awp.cond rfl (fun hb15 => ?_) (fun hb15 => ?_)
        · have e2 : p.threads.any (badT p) = true := List.any_eq_true.2 ⟨t, List.mem_of_getElem? ht, hb15⟩
          have e : checkO p = some (-1, -1) := by unfold checkO; rw [e1, e2]; rfl
          refine Awp.seq fun K16 h16 => ?_
          (refine Awp.region ?_; (repeat (first | refine sQ (hq := Quiet.bld (rs := [.lit (.int .i64 (-1)), .lit (.int .i64 (-1))]) rfl plPos rfl rfl) (hk := ?_) | refine sQ (hq := Quiet.pickOr rfl rfl rfl rfl) (hk := ?_) | refine sQ (hq := Quiet.pickAnd rfl rfl rfl rfl) (hk := ?_) | refine sQ (hk := ?_) | refine sSkip (hk := ?_) | refine sG (hg := by first | rfl | exact gA_c rfl rfl) (hq := by (intro hg; (try simp only [Bool.and_eq_true, beq_iff_eq] at hg); (try simp only [hg, cond_true, Bool.true_and, beq_self_eq_true]); exact Quiet.bld (rs := [.lit (.int .i64 (-1)), .lit (.int .i64 (-1))]) rfl plPos rfl rfl)) (hk := ?_) | refine sG (hk := ?_) | refine sOwn (hk := ?_))); refine aSeq_nil ?_)
          refine h16 _ ?_
          refine nT (hk := ?_)
          refine Awp.ret ?_
          rw [e]
          exact ⟨.inr rfl, 1, _, rfl, rfl, rfl, Fin.cl rfl⟩
        · refine Awp.skip ?_
          refine h12 _ ?_
          refine nT (hk := ?_)
          (refine Awp.region ?_; (repeat (first | refine sQ (hq := Quiet.pickOr rfl rfl rfl rfl) (hk := ?_) | refine sQ (hq := Quiet.pickAnd rfl rfl rfl rfl) (hk := ?_) | refine sQ (hk := ?_) | refine sSkip (hk := ?_) | refine sG (hk := ?_) | refine sOwn (hk := ?_))); refine aSeq_nil ?_)
          refine athen_n ⟨i + 1, ⟨by omega, any_takeG ht hno hb15⟩, by omega, ?_⟩
          exact le_T
    · have e2 : p.threads.any (badT p) = false := any_all hno (by simpa using hb11)
      refine Awp.exit ?_
      refine h6 _ ?_
      refine nT (hk := ?_)
      refine Awp.seq fun K17 h17 => ?_
      refine Awp.seq fun K18 h18 => ?_
      (refine Awp.region ?_; (repeat (first | refine sQ (hq := Quiet.pickOr rfl rfl rfl rfl) (hk := ?_) | refine sQ (hq := Quiet.pickAnd rfl rfl rfl rfl) (hk := ?_) | refine sQ (hk := ?_) | refine sSkip (hk := ?_) | refine sG (hk := ?_) | refine sOwn (hk := ?_))); refine aSeq_nil ?_)
      refine h18 _ ?_
      refine nT (hk := ?_)
      refine Awp.block ?_
      refine Awp.loopF (fun n : Nat => ⟨[.any, .ptr 0 0, .ptr 1 0, .lit (.int .i64 0), .any, .any, .lit (.int .i64 (n : Int)), .any, .any, .any, .any, .any, .any, .any, .any, .any, .any, .any, .any, .any, .any, .any, .any, .any, .any, .any, .any, .any, .any, .any, .any, .any, .any, .any, .any, .any, .any, .any, .any, .any, .any, .any, .any, .any, .any, .any, .any, .any, .any, .any, .any, .any, .any, .any, .any, .any, .any, .any, .any, .any, .any, .any, .any, .any, .any, .any, .any, .any, .any, .any, .any, .any, .any, .any, .any, .any, .any, .any, .any, .any, .any, .any, .any, .any, .any, .any, .any, .any, .any, .any, .any, .any, .any, .any, .any, .any, .any, .any, .any, .any, .any, .any, .any, .any, .any, .any, .any, .any, .any, .any, .any, .any, .any, .any, .any, .any, .any, .any, .any, .any, .any, .any, .any, .any, .any, .any, .any, .any, .any, .any, .any, .any, .any, .any, .any, .any, .any, .any, .any, .any, .any, .any, .any, .any, .any, .any, .any, .any, .any, .any, .any, .any, .any, .any, .any, .any, .any, .any, .any, .any], [.box (encProg p), .box [.lit (.int .i64 0), .lit (.int .i64 0)]]⟩) (fun n => n ≤ p.funcs.length ∧ firstN n (chk1 p) = none) (fun n => p.funcs.length - n) 0 ⟨Nat.zero_le _, rfl⟩ (le_T) ?_
      rintro n ⟨hn, hno1⟩
      refine Awp.seq fun K20 h20 => ?_
      refine Awp.seq fun K21 h21 => ?_
      (refine Awp.region ?_; (repeat (first | refine sQ (hq := Quiet.pickOr rfl rfl rfl rfl) (hk := ?_) | refine sQ (hq := Quiet.pickAnd rfl rfl rfl rfl) (hk := ?_) | refine sQ (hk := ?_) | refine sSkip (hk := ?_) | refine sG (hk := ?_) | refine sOwn (hk := ?_))); refine aSeq_nil ?_)
      refine h21 _ ?_
      refine nT (hk := ?_)
      refine Awp.cond rfl (fun hb22 => ?_) (fun hb22 => ?_)
      · have hlt : n < p.funcs.length := by simpa using hb22
        obtain ⟨f, hf⟩ : ∃ f, p.funcs[n]? = some f := ⟨_, List.getElem?_eq_getElem hlt⟩
        have hfn := function14_fn p n f hpl hp.ok hp.small hf
        have hc1 := chk1_eq hf
        refine Awp.skip ?_
        refine h20 _ ?_
        refine nT (hk := ?_)
        refine Awp.seq fun K23 h23 => ?_
        refine Awp.block ?_
        refine Awp.seq fun K24 h24 => ?_
        (refine Awp.region ?_; (repeat (first | refine sQ (hq := Quiet.call rfl hfn rfl rfl rfl) (hk := ?_) | refine sQ (hq := Quiet.pickOr rfl rfl rfl rfl) (hk := ?_) | refine sQ (hq := Quiet.pickAnd rfl rfl rfl rfl) (hk := ?_) | refine sQ (hk := ?_) | refine sSkip (hk := ?_) | refine sG (hg := by first | rfl | exact gA_c rfl rfl) (hq := by (intro hg; (try simp only [Bool.and_eq_true, beq_iff_eq] at hg); (try simp only [hg, cond_true, Bool.true_and, beq_self_eq_true]); exact Quiet.call rfl hfn rfl rfl rfl)) (hk := ?_) | refine sG (hk := ?_) | refine sOwn (hk := ?_))); refine aSeq_nil ?_)
        refine h24 _ ?_
        refine nT (hk := ?_)
        refine Awp.cond rfl (fun hb25 => ?_) (fun hb25 => ?_)
        · have e3 : funcB p n f = false := by simpa using hb25
          have e : checkO p = some ((n : Int), -1) := checkO_1 e1 e2 (firstN_found hno1 hlt (by rw [hc1, e3]; rfl))
          refine Awp.seq fun K26 h26 => ?_
          (refine Awp.region ?_; (repeat (first | refine sQ (hq := Quiet.bld (rs := [.lit (.int .i64 (n : Int)), .lit (.int .i64 (-1))]) rfl plPos rfl rfl) (hk := ?_) | refine sQ (hq := Quiet.pickOr rfl rfl rfl rfl) (hk := ?_) | refine sQ (hq := Quiet.pickAnd rfl rfl rfl rfl) (hk := ?_) | refine sQ (hk := ?_) | refine sSkip (hk := ?_) | refine sG (hg := by first | rfl | exact gA_c rfl rfl) (hq := by (intro hg; (try simp only [Bool.and_eq_true, beq_iff_eq] at hg); (try simp only [hg, cond_true, Bool.true_and, beq_self_eq_true]); exact Quiet.bld (rs := [.lit (.int .i64 (n : Int)), .lit (.int .i64 (-1))]) rfl plPos rfl rfl)) (hk := ?_) | refine sG (hk := ?_) | refine sOwn (hk := ?_))); refine aSeq_nil ?_)
          refine h26 _ ?_
          refine nT (hk := ?_)
          refine Awp.ret ?_
          rw [e]
          exact ⟨.inr rfl, 1, _, rfl, rfl, rfl, Fin.cl rfl⟩
        · have e3 : funcB p n f = true := by simpa using hb25
          refine Awp.skip ?_
          refine h23 _ ?_
          refine nT (hk := ?_)
          (refine Awp.region ?_; (repeat (first | refine sQ (hq := Quiet.pickOr rfl rfl rfl rfl) (hk := ?_) | refine sQ (hq := Quiet.pickAnd rfl rfl rfl rfl) (hk := ?_) | refine sQ (hk := ?_) | refine sSkip (hk := ?_) | refine sG (hk := ?_) | refine sOwn (hk := ?_))); refine aSeq_nil ?_)
          refine athen_n ⟨n + 1, ⟨by omega, firstN_more hno1 (by rw [hc1, e3]; rfl)⟩, by omega, ?_⟩
          exact le_T
      · have hnn : n = p.funcs.length := by have : ¬ n < p.funcs.length := by simpa using hb22
                                            omega
        subst hnn
        refine Awp.exit ?_
        refine h17 _ ?_
        refine nT (hk := ?_)
        refine Awp.seq fun K27 h27 => ?_
        refine Awp.seq fun K28 h28 => ?_
        (refine Awp.region ?_; (repeat (first | refine sQ (hq := Quiet.pickOr rfl rfl rfl rfl) (hk := ?_) | refine sQ (hq := Quiet.pickAnd rfl rfl rfl rfl) (hk := ?_) | refine sQ (hk := ?_) | refine sSkip (hk := ?_) | refine sG (hk := ?_) | refine sOwn (hk := ?_))); refine aSeq_nil ?_)
        refine h28 _ ?_
        refine nT (hk := ?_)
        refine Awp.block ?_
        refine Awp.loopF (fun n : Nat => ⟨[.any, .ptr 0 0, .ptr 1 0, .lit (.int .i64 0), .any, .any, .any, .lit (.int .i64 (n : Int)), .any, .any, .any, .any, .any, .any, .any, .any, .any, .any, .any, .any, .any, .any, .any, .any, .any, .any, .any, .any, .any, .any, .any, .any, .any, .any, .any, .any, .any, .any, .any, .any, .any, .any, .any, .any, .any, .any, .any, .any, .any, .any, .any, .any, .any, .any, .any, .any, .any, .any, .any, .any, .any, .any, .any, .any, .any, .any, .any, .any, .any, .any, .any, .any, .any, .any, .any, .any, .any, .any, .any, .any, .any, .any, .any, .any, .any, .any, .any, .any, .any, .any, .any, .any, .any, .any, .any, .any, .any, .any, .any, .any, .any, .any, .any, .any, .any, .any, .any, .any, .any, .any, .any, .any, .any, .any, .any, .any, .any, .any, .any, .any, .any, .any, .any, .any, .any, .any, .any, .any, .any, .any, .any, .any, .any, .any, .any, .any, .any, .any, .any, .any, .any, .any, .any, .any, .any, .any, .any, .any, .any, .any, .any, .any, .any, .any, .any, .any, .any, .any, .any, .any], [.box (encProg p), .box [.lit (.int .i64 0), .lit (.int .i64 0)]]⟩) (fun n => n ≤ p.funcs.length ∧ firstN n (chk2 p) = none) (fun n => p.funcs.length - n) 0 ⟨Nat.zero_le _, rfl⟩ (le_T) ?_
        rintro n ⟨hn, hno2⟩
        refine Awp.seq fun K30 h30 => ?_
        refine Awp.seq fun K31 h31 => ?_
        (refine Awp.region ?_; (repeat (first | refine sQ (hq := Quiet.pickOr rfl rfl rfl rfl) (hk := ?_) | refine sQ (hq := Quiet.pickAnd rfl rfl rfl rfl) (hk := ?_) | refine sQ (hk := ?_) | refine sSkip (hk := ?_) | refine sG (hk := ?_) | refine sOwn (hk := ?_))); refine aSeq_nil ?_)
        refine h31 _ ?_
        refine nT (hk := ?_)
        refine Awp.cond rfl (fun hb32 => ?_) (fun hb32 => ?_)
        · have hlt : n < p.funcs.length := by simpa using hb32
          obtain ⟨f, hf⟩ : ∃ f, p.funcs[n]? = some f := ⟨_, List.getElem?_eq_getElem hlt⟩
          have hfm := List.mem_of_getElem? hf
          have ho := hp.ok f hfm
          have hs := hp.small f hfm
          have hbl := hs.blocks
          have hc2 := chk2_eq hf
          refine Awp.skip ?_
          refine h30 _ ?_
          refine nT (hk := ?_)
          refine Awp.seq fun K33 h33 => ?_
          refine Awp.block ?_
          refine Awp.seq fun K34 h34 => ?_
          (refine Awp.region ?_; (repeat (first | refine sQ (hq := Quiet.pickOr rfl rfl rfl rfl) (hk := ?_) | refine sQ (hq := Quiet.pickAnd rfl rfl rfl rfl) (hk := ?_) | refine sQ (hk := ?_) | refine sSkip (hk := ?_) | refine sG (hk := ?_) | refine sOwn (hk := ?_))); refine aSeq_nil ?_)
          refine h34 _ ?_
          refine nT (hk := ?_)
          refine Awp.block ?_
          refine Awp.loopF (fun i : Nat => ⟨[.any, .ptr 0 0, .ptr 1 0, .lit (.int .i64 0), .any, .any, .any, .lit (.int .i64 (n : Int)), .lit (.int .i64 (i : Int)), .any, .any, .any, .any, .any, .any, .any, .any, .any, .any, .any, .any, .any, .any, .any, .any, .any, .any, .any, .any, .any, .any, .any, .any, .any, .any, .any, .any, .any, .any, .any, .any, .any, .any, .any, .any, .any, .any, .any, .any, .any, .any, .any, .any, .any, .any, .any, .any, .any, .any, .any, .any, .any, .any, .any, .any, .any, .any, .any, .any, .any, .any, .any, .any, .any, .any, .any, .any, .any, .any, .any, .any, .any, .any, .any, .any, .any, .any, .any, .any, .any, .any, .any, .any, .any, .any, .any, .any, .any, .any, .any, .any, .any, .any, .any, .any, .any, .any, .any, .any, .any, .any, .any, .any, .any, .any, .any, .any, .any, .any, .any, .any, .any, .any, .any, .any, .any, .any, .any, .any, .any, .any, .any, .any, .any, .any, .any, .any, .any, .any, .any, .any, .any, .any, .any, .any, .any, .any, .any, .any, .any, .any, .any, .any, .any, .any, .any, .any, .any, .any, .any], [.box (encProg p), .box [.lit (.int .i64 0), .lit (.int .i64 0)]]⟩) (fun i => i ≤ f.blocks.length ∧ firstN i (chk2b p n f) = none) (fun i => f.blocks.length - i) 0 ⟨Nat.zero_le _, rfl⟩ (le_T) ?_
          rintro i ⟨hi, hni⟩
          refine Awp.seq fun K36 h36 => ?_
          refine Awp.seq fun K37 h37 => ?_
          (refine Awp.region ?_; (repeat (first | refine sQ (hq := Quiet.pickOr rfl rfl rfl rfl) (hk := ?_) | refine sQ (hq := Quiet.pickAnd rfl rfl rfl rfl) (hk := ?_) | refine sQ (hk := ?_) | refine sSkip (hk := ?_) | refine sG (hk := ?_) | refine sOwn (hk := ?_))); refine aSeq_nil ?_)
          refine h37 _ ?_
          refine nT (hk := ?_)
          refine Awp.cond rfl (fun hb38 => ?_) (fun hb38 => ?_)
          · have hil : i < f.blocks.length := by simpa using hb38
            obtain ⟨b, hb⟩ : ∃ b, f.blocks[i]? = some b := ⟨_, List.getElem?_eq_getElem hil⟩
            have hbk := block14_fn p f i b hpl ho hs hb
            have hc3 := chk2b_eq (p := p) (n := n) hb
            refine Awp.skip ?_
            refine h36 _ ?_
            refine nT (hk := ?_)
            refine Awp.seq fun K39 h39 => ?_
            refine Awp.block ?_
            refine Awp.seq fun K40 h40 => ?_
            (refine drawD 9 (hh := ?_); (repeat (first | refine qQ (hq := Quiet.call rfl hbk rfl rfl rfl) (hk := ?_) | refine qQ (hq := Quiet.pickOr rfl rfl rfl rfl) (hk := ?_) | refine qQ (hq := Quiet.pickAnd rfl rfl rfl rfl) (hk := ?_) | refine qQ (hk := ?_) | refine qSkip (hk := ?_) | refine qG (hg := by first | rfl | exact gA_c rfl rfl) (hq := by (intro hg; (try simp only [Bool.and_eq_true, beq_iff_eq] at hg); (try simp only [hg, cond_true, Bool.true_and, beq_self_eq_true]); exact Quiet.call rfl hbk rfl rfl rfl)) (hk := ?_) | refine qG (hk := ?_))); refine aQ_nil ?_; (repeat (first | refine sQ (hq := Quiet.call rfl hbk rfl rfl rfl) (hk := ?_) | refine sQ (hq := Quiet.pickOr rfl rfl rfl rfl) (hk := ?_) | refine sQ (hq := Quiet.pickAnd rfl rfl rfl rfl) (hk := ?_) | refine sQ (hk := ?_) | refine sSkip (hk := ?_) | refine sG (hg := by first | rfl | exact gA_c rfl rfl) (hq := by (intro hg; (try simp only [Bool.and_eq_true, beq_iff_eq] at hg); (try simp only [hg, cond_true, Bool.true_and, beq_self_eq_true]); exact Quiet.call rfl hbk rfl rfl rfl)) (hk := ?_) | refine sG (hk := ?_) | refine sOwn (hk := ?_))); refine aSeq_nil ?_)
            refine h40 _ ?_
            refine nT (hk := ?_)
            refine Awp.cond rfl (fun hb41 => ?_) (fun hb41 => ?_)
            · have e3 : blockB p f i b = false := by simpa using hb41
              have e : checkO p = some ((n : Int), (i : Int)) := checkO_2 e1 e2 hno1 (firstN_found hno2 hlt (by rw [hc2]; exact firstN_found hni hil (by rw [hc3, e3]; rfl)))
              refine Awp.seq fun K42 h42 => ?_
              (refine Awp.region ?_; (repeat (first | refine sQ (hq := Quiet.bld (rs := [.lit (.int .i64 (n : Int)), .lit (.int .i64 (i : Int))]) rfl plPos rfl rfl) (hk := ?_) | refine sQ (hq := Quiet.pickOr rfl rfl rfl rfl) (hk := ?_) | refine sQ (hq := Quiet.pickAnd rfl rfl rfl rfl) (hk := ?_) | refine sQ (hk := ?_) | refine sSkip (hk := ?_) | refine sG (hg := by first | rfl | exact gA_c rfl rfl) (hq := by (intro hg; (try simp only [Bool.and_eq_true, beq_iff_eq] at hg); (try simp only [hg, cond_true, Bool.true_and, beq_self_eq_true]); exact Quiet.bld (rs := [.lit (.int .i64 (n : Int)), .lit (.int .i64 (i : Int))]) rfl plPos rfl rfl)) (hk := ?_) | refine sG (hk := ?_) | refine sOwn (hk := ?_))); refine aSeq_nil ?_)
              refine h42 _ ?_
              refine nT (hk := ?_)
              refine Awp.ret ?_
              rw [e]
              exact ⟨.inr rfl, 1, _, rfl, rfl, rfl, Fin.cl rfl⟩
            · have e3 : blockB p f i b = true := by simpa using hb41
              refine Awp.skip ?_
              refine h39 _ ?_
              refine nT (hk := ?_)
              (refine Awp.region ?_; (repeat (first | refine sQ (hq := Quiet.pickOr rfl rfl rfl rfl) (hk := ?_) | refine sQ (hq := Quiet.pickAnd rfl rfl rfl rfl) (hk := ?_) | refine sQ (hk := ?_) | refine sSkip (hk := ?_) | refine sG (hk := ?_) | refine sOwn (hk := ?_))); refine aSeq_nil ?_)
              refine athen_n ⟨i + 1, ⟨by omega, firstN_more hni (by rw [hc3, e3]; rfl)⟩, by omega, ?_⟩
              exact le_T
          · have hii : i = f.blocks.length := by have : ¬ i < f.blocks.length := by simpa using hb38
                                                 omega
            subst hii
            refine Awp.exit ?_
            refine h33 _ ?_
            refine nT (hk := ?_)
            (refine Awp.region ?_; (repeat (first | refine sQ (hq := Quiet.pickOr rfl rfl rfl rfl) (hk := ?_) | refine sQ (hq := Quiet.pickAnd rfl rfl rfl rfl) (hk := ?_) | refine sQ (hk := ?_) | refine sSkip (hk := ?_) | refine sG (hk := ?_) | refine sOwn (hk := ?_))); refine aSeq_nil ?_)
            refine athen_n ⟨n + 1, ⟨by omega, firstN_more hno2 (by rw [hc2]; exact hni)⟩, by omega, ?_⟩
            exact le_T
        · have hnn : n = p.funcs.length := by have : ¬ n < p.funcs.length := by simpa using hb32
                                              omega
          subst hnn
          have he3 := checkO_3 e1 e2 hno1 hno2
          refine Awp.exit ?_
          refine h27 _ ?_
          refine nT (hk := ?_)
          refine Awp.seq fun K43 h43 => ?_
          refine Awp.seq fun K44 h44 => ?_
          (refine Awp.region ?_; (repeat (first | refine sQ (hq := Quiet.pickOr rfl rfl rfl rfl) (hk := ?_) | refine sQ (hq := Quiet.pickAnd rfl rfl rfl rfl) (hk := ?_) | refine sQ (hk := ?_) | refine sSkip (hk := ?_) | refine sG (hk := ?_) | refine sOwn (hk := ?_))); refine aSeq_nil ?_)
          refine h44 _ ?_
          refine nT (hk := ?_)
          refine Awp.block ?_
          refine Awp.loopF (fun n : Nat => ⟨[.any, .ptr 0 0, .ptr 1 0, .lit (.int .i64 0), .any, .any, .any, .any, .any, .lit (.int .i64 (n : Int)), .any, .any, .any, .any, .any, .any, .any, .any, .any, .any, .any, .any, .any, .any, .any, .any, .any, .any, .any, .any, .any, .any, .any, .any, .any, .any, .any, .any, .any, .any, .any, .any, .any, .any, .any, .any, .any, .any, .any, .any, .any, .any, .any, .any, .any, .any, .any, .any, .any, .any, .any, .any, .any, .any, .any, .any, .any, .any, .any, .any, .any, .any, .any, .any, .any, .any, .any, .any, .any, .any, .any, .any, .any, .any, .any, .any, .any, .any, .any, .any, .any, .any, .any, .any, .any, .any, .any, .any, .any, .any, .any, .any, .any, .any, .any, .any, .any, .any, .any, .any, .any, .any, .any, .any, .any, .any, .any, .any, .any, .any, .any, .any, .any, .any, .any, .any, .any, .any, .any, .any, .any, .any, .any, .any, .any, .any, .any, .any, .any, .any, .any, .any, .any, .any, .any, .any, .any, .any, .any, .any, .any, .any, .any, .any, .any, .any, .any, .any, .any, .any], [.box (encProg p), .box [.lit (.int .i64 0), .lit (.int .i64 0)]]⟩) (fun n => n ≤ p.funcs.length ∧ firstN n (chk3 p) = none) (fun n => p.funcs.length - n) 0 ⟨Nat.zero_le _, rfl⟩ (le_T) ?_
          rintro n ⟨hn, hno3⟩
          refine Awp.seq fun K46 h46 => ?_
          refine Awp.seq fun K47 h47 => ?_
          (refine Awp.region ?_; (repeat (first | refine sQ (hq := Quiet.pickOr rfl rfl rfl rfl) (hk := ?_) | refine sQ (hq := Quiet.pickAnd rfl rfl rfl rfl) (hk := ?_) | refine sQ (hk := ?_) | refine sSkip (hk := ?_) | refine sG (hk := ?_) | refine sOwn (hk := ?_))); refine aSeq_nil ?_)
          refine h47 _ ?_
          refine nT (hk := ?_)
          refine Awp.cond rfl (fun hb48 => ?_) (fun hb48 => ?_)
          · have hlt : n < p.funcs.length := by simpa using hb48
            obtain ⟨f, hf⟩ : ∃ f, p.funcs[n]? = some f := ⟨_, List.getElem?_eq_getElem hlt⟩
            have hfm := List.mem_of_getElem? hf
            have ho := hp.ok f hfm
            have hs := hp.small f hfm
            have hbl := hs.blocks
            have hc4 := chk3_eq hf
            obtain ⟨hfB, hbB⟩ := chk12 hno1 hno2 hf
            obtain ⟨hr0, hr1, hrr⟩ := regs_ok hfB hbB
            have hE : Ended f := by
              unfold funcB at hfB
              simp only [Bool.and_eq_true, Bool.not_eq_true'] at hfB
              exact ended_of hfB.2.1 hbB
            refine Awp.skip ?_
            refine h46 _ ?_
            refine nT (hk := ?_)
            refine Awp.seq fun K49 h49 => ?_
            refine Awp.block ?_
            refine Awp.seq fun K50 h50 => ?_
            (refine Awp.region ?_; (repeat (first | refine sQ (hq := Quiet.pickOr rfl rfl rfl rfl) (hk := ?_) | refine sQ (hq := Quiet.pickAnd rfl rfl rfl rfl) (hk := ?_) | refine sQ (hk := ?_) | refine sSkip (hk := ?_) | refine sG (hk := ?_) | refine sOwn (hk := ?_))); refine aSeq_nil ?_)
            refine h50 _ ?_
            refine nT (hk := ?_)
            refine Awp.seq fun K51 h51 => ?_
            (refine Awp.region ?_; (repeat (first | refine sQ (hq := Quiet.pickOr rfl rfl rfl rfl) (hk := ?_) | refine sQ (hq := Quiet.pickAnd rfl rfl rfl rfl) (hk := ?_) | refine sQ (hk := ?_) | refine sSkip (hk := ?_) | refine sG (hk := ?_) | refine sOwn (hk := ?_))); refine aSeq_nil ?_)
            refine h51 _ ?_
            refine nT (hk := ?_)
            refine Awp.seq fun K52 h52 => ?_
            refine Awp.seq fun K53 h53 => ?_
            (refine Awp.region ?_; (repeat (first | refine sQ (hq := Quiet.pickOr rfl rfl rfl rfl) (hk := ?_) | refine sQ (hq := Quiet.pickAnd rfl rfl rfl rfl) (hk := ?_) | refine sQ (hk := ?_) | refine sSkip (hk := ?_) | refine sG (hk := ?_) | refine sOwn (hk := ?_))); refine aSeq_nil ?_)
            refine h53 _ ?_
            refine nT (hk := ?_)
            refine Awp.block ?_
            refine Awp.loopF (fun q : Nat × Nat => ⟨[.any, .ptr 0 0, .ptr 1 0, .lit (.int .i64 0), .any, .any, .any, .any, .any, .lit (.int .i64 (n : Int)), .ptr 2 0, .own 3 q.2, .lit (.int .i64 (q.1 : Int)), .any, .any, .any, .any, .any, .any, .any, .any, .any, .any, .any, .any, .any, .any, .any, .any, .any, .any, .any, .any, .any, .any, .any, .any, .any, .any, .any, .any, .any, .any, .any, .any, .any, .any, .any, .any, .any, .any, .any, .any, .any, .any, .any, .any, .any, .any, .any, .any, .any, .any, .any, .any, .any, .any, .any, .any, .any, .any, .any, .any, .any, .any, .any, .any, .any, .any, .any, .any, .any, .any, .any, .any, .any, .any, .any, .any, .any, .any, .any, .any, .any, .any, .any, .any, .any, .any, .any, .any, .any, .any, .any, .any, .any, .any, .any, .any, .any, .any, .any, .any, .any, .any, .any, .any, .any, .any, .any, .any, .any, .any, .any, .any, .any, .any, .any, .any, .any, .any, .any, .any, .any, .any, .any, .any, .any, .any, .any, .any, .any, .any, .any, .any, .any, .any, .any, .any, .any, .any, .any, .any, .any, .any, .any, .any, .any, .any, .any], [.box (encProg p), .box [.lit (.int .i64 0), .lit (.int .i64 0)], .box (encFunc f), .row q.2 69 Ty.bool.slice (lacksN f q.1)]⟩) (fun q => (q.1 : Int) ≤ f.regs) (fun q => f.regs.toNat - q.1) (0, 0) hr0 ((St.le_nil 11 69 Ty.bool.slice rfl (by decide)).trans (le_T)) ?_
            rintro ⟨r, ver⟩ hrI
            dsimp only at hrI ⊢
            have hNl := lacksN_len f r
            refine Awp.seq fun K55 h55 => ?_
            refine Awp.seq fun K56 h56 => ?_
            (refine Awp.region ?_; (repeat (first | refine sQ (hq := Quiet.pickOr rfl rfl rfl rfl) (hk := ?_) | refine sQ (hq := Quiet.pickAnd rfl rfl rfl rfl) (hk := ?_) | refine sQ (hk := ?_) | refine sSkip (hk := ?_) | refine sG (hk := ?_) | refine sOwn (hk := ?_))); refine aSeq_nil ?_)
            refine h56 _ ?_
            refine nT (hk := ?_)
            refine Awp.cond rfl (fun hb57 => ?_) (fun hb57 => ?_)
            · have hrl : (r : Int) < f.regs := by simpa using hb57
              have hLs := lacksN_succ f r
              generalize hL0 : lacksN f r = L0 at hNl hLs ⊢
              have hn1 : L0.length + [lacksL f (r : Int)].length ≤ maxLen := by simp [maxLen]; omega
              have hn2 : (L0.length + [lacksL f (r : Int)].length) * 24 ≤ 140737488355328 := by simp; omega
              refine Awp.skip ?_
              refine h55 _ ?_
              refine nT (hk := ?_)
              refine Awp.seq fun K58 h58 => ?_
              refine Awp.block ?_
              (refine Awp.region ?_; (repeat (first | refine sQ (hq := Quiet.call rfl (lacks14_fn f (r : Int) ho hs hE) rfl rfl rfl) (hk := ?_) | refine sQ (hq := Quiet.pickOr rfl rfl rfl rfl) (hk := ?_) | refine sQ (hq := Quiet.pickAnd rfl rfl rfl rfl) (hk := ?_) | refine sQ (hk := ?_) | refine sSkip (hk := ?_) | refine sG (hg := by first | rfl | exact gA_c rfl rfl) (hq := by (intro hg; (try simp only [Bool.and_eq_true, beq_iff_eq] at hg); (try simp only [hg, cond_true, Bool.true_and, beq_self_eq_true]); exact Quiet.call rfl (lacks14_fn f (r : Int) ho hs hE) rfl rfl rfl)) (hk := ?_) | refine sG (hk := ?_) | refine sOwn (hk := ?_))); refine aSeq_nil ?_)
              refine h58 _ ?_
              refine nT (hk := ?_)
              (refine Awp.region ?_; (repeat (first | refine sQ (hq := Quiet.pickOr rfl rfl rfl rfl) (hk := ?_) | refine sQ (hq := Quiet.pickAnd rfl rfl rfl rfl) (hk := ?_) | refine sQ (hk := ?_) | refine sSkip (hk := ?_) | refine sG (hk := ?_) | refine sOwn (hk := ?_))); refine aSeq_nil ?_)
              refine athen_n ⟨(r + 1, ver + 1), by dsimp only; omega, by dsimp only; omega, ?_⟩
              dsimp only
              rw [hLs]
              exact le_T
            · have hrr2 : r = f.regs.toNat := by have : ¬ (r : Int) < f.regs := by simpa using hb57
                                                 omega
              subst hrr2
              have hLA : lacksN f f.regs.toNat = lacksA f := rfl
              rw [hLA]
              refine Awp.exit ?_
              refine h52 _ ?_
              refine nT (hk := ?_)
              refine Awp.seq fun K59 h59 => ?_
              (refine Awp.region ?_; (repeat (first | refine sQ (hq := Quiet.pickOr rfl rfl rfl rfl) (hk := ?_) | refine sQ (hq := Quiet.pickAnd rfl rfl rfl rfl) (hk := ?_) | refine sQ (hk := ?_) | refine sSkip (hk := ?_) | refine sG (hk := ?_) | refine sOwn (hk := ?_))); refine aSeq_nil ?_)
              refine h59 _ ?_
              refine nT (hk := ?_)
              refine Awp.block ?_
              refine Awp.loopF (fun i : Nat => ⟨[.any, .ptr 0 0, .ptr 1 0, .lit (.int .i64 0), .any, .any, .any, .any, .any, .lit (.int .i64 (n : Int)), .ptr 2 0, .own 3 ver, .any, .lit (.int .i64 (i : Int)), .any, .any, .any, .any, .any, .any, .any, .any, .any, .any, .any, .any, .any, .any, .any, .any, .any, .any, .any, .any, .any, .any, .any, .any, .any, .any, .any, .any, .any, .any, .any, .any, .any, .any, .any, .any, .any, .any, .any, .any, .any, .any, .any, .any, .any, .any, .any, .any, .any, .any, .any, .any, .any, .any, .any, .any, .any, .any, .any, .any, .any, .any, .any, .any, .any, .any, .any, .any, .any, .any, .any, .any, .any, .any, .any, .any, .any, .any, .any, .any, .any, .any, .any, .any, .any, .any, .any, .any, .any, .any, .any, .any, .any, .any, .any, .any, .any, .any, .any, .any, .any, .any, .any, .any, .any, .any, .any, .any, .any, .any, .any, .any, .any, .any, .any, .any, .any, .any, .any, .any, .any, .any, .any, .any, .any, .any, .any, .any, .any, .any, .any, .any, .any, .any, .any, .any, .any, .any, .any, .any, .any, .any, .any, .any, .any, .any], [.box (encProg p), .box [.lit (.int .i64 0), .lit (.int .i64 0)], .box (encFunc f), .row ver 69 Ty.bool.slice (lacksA f)]⟩) (fun i => i ≤ f.blocks.length ∧ firstN i (chk3b n f) = none) (fun i => f.blocks.length - i) 0 ⟨Nat.zero_le _, rfl⟩ (le_T) ?_
              rintro i ⟨hi, hni⟩
              refine Awp.seq fun K61 h61 => ?_
              refine Awp.seq fun K62 h62 => ?_
              (refine Awp.region ?_; (repeat (first | refine sQ (hq := Quiet.pickOr rfl rfl rfl rfl) (hk := ?_) | refine sQ (hq := Quiet.pickAnd rfl rfl rfl rfl) (hk := ?_) | refine sQ (hk := ?_) | refine sSkip (hk := ?_) | refine sG (hk := ?_) | refine sOwn (hk := ?_))); refine aSeq_nil ?_)
              refine h62 _ ?_
              refine nT (hk := ?_)
              refine Awp.cond rfl (fun hb63 => ?_) (fun hb63 => ?_)
              · have hil : i < f.blocks.length := by simpa using hb63
                obtain ⟨b, hb⟩ : ∃ b, f.blocks[i]? = some b := ⟨_, List.getElem?_eq_getElem hil⟩
                have hbm := List.mem_of_getElem? hb
                have hc5 := chk3b_eq (n := n) hb
                have hms := missing14_fn f (lacksA f) i b ho hs hb (fun x hx r hr => by
                  obtain ⟨k0, k1⟩ := hrr b hbm x hx r hr
                  have hll : (lacksL f r).length = f.blocks.length := lacksK_len f r _
                  obtain ⟨q, hq⟩ : ∃ q, (lacksL f r)[i]? = some q := ⟨_, List.getElem?_eq_getElem (hll.symm ▸ hil)⟩
                  exact ⟨k0, _, q, lacksA_get k0 k1, hq⟩)
                refine Awp.skip ?_
                refine h61 _ ?_
                refine nT (hk := ?_)
                refine Awp.seq fun K64 h64 => ?_
                refine Awp.block ?_
                refine Awp.seq fun K65 h65 => ?_
                (refine Awp.region ?_; (repeat (first | refine sQ (hq := Quiet.lend rfl hms (.cl rfl (.own rfl (.cl rfl .nil)))) (hk := ?_) | refine sQ (hq := Quiet.pickOr rfl rfl rfl rfl) (hk := ?_) | refine sQ (hq := Quiet.pickAnd rfl rfl rfl rfl) (hk := ?_) | refine sQ (hk := ?_) | refine sSkip (hk := ?_) | refine sG (hg := by first | rfl | exact gA_c rfl rfl) (hq := by (intro hg; (try simp only [Bool.and_eq_true, beq_iff_eq] at hg); (try simp only [hg, cond_true, Bool.true_and, beq_self_eq_true]); exact Quiet.lend rfl hms (.cl rfl (.own rfl (.cl rfl .nil))))) (hk := ?_) | refine sG (hk := ?_) | refine sOwn (hk := ?_))); refine aSeq_nil ?_)
                refine h65 _ ?_
                refine nT (hk := ?_)
                refine Awp.cond rfl (fun hb66 => ?_) (fun hb66 => ?_)
                · have e3 : missB (lacksA f) i b = true := hb66
                  have e : checkO p = some ((n : Int), (i : Int)) := by
                    rw [he3]
                    exact firstN_found hno3 hlt (by rw [hc4]; exact firstN_found hni hil (by rw [hc5, e3]; rfl))
                  refine Awp.seq fun K67 h67 => ?_
                  (refine Awp.region ?_; (repeat (first | refine sQ (hq := Quiet.bld (rs := [.lit (.int .i64 (n : Int)), .lit (.int .i64 (i : Int))]) rfl plPos rfl rfl) (hk := ?_) | refine sQ (hq := Quiet.pickOr rfl rfl rfl rfl) (hk := ?_) | refine sQ (hq := Quiet.pickAnd rfl rfl rfl rfl) (hk := ?_) | refine sQ (hk := ?_) | refine sSkip (hk := ?_) | refine sG (hg := by first | rfl | exact gA_c rfl rfl) (hq := by (intro hg; (try simp only [Bool.and_eq_true, beq_iff_eq] at hg); (try simp only [hg, cond_true, Bool.true_and, beq_self_eq_true]); exact Quiet.bld (rs := [.lit (.int .i64 (n : Int)), .lit (.int .i64 (i : Int))]) rfl plPos rfl rfl)) (hk := ?_) | refine sG (hk := ?_) | refine sOwn (hk := ?_))); refine aSeq_nil ?_)
                  refine h67 _ ?_
                  refine nT (hk := ?_)
                  refine Awp.ret ?_
                  rw [e]
                  exact ⟨.inr rfl, 1, _, rfl, rfl, rfl, Fin.cl rfl⟩
                · have e3 : missB (lacksA f) i b = false := hb66
                  refine Awp.skip ?_
                  refine h64 _ ?_
                  refine nT (hk := ?_)
                  (refine Awp.region ?_; (repeat (first | refine sQ (hq := Quiet.pickOr rfl rfl rfl rfl) (hk := ?_) | refine sQ (hq := Quiet.pickAnd rfl rfl rfl rfl) (hk := ?_) | refine sQ (hk := ?_) | refine sSkip (hk := ?_) | refine sG (hk := ?_) | refine sOwn (hk := ?_))); refine aSeq_nil ?_)
                  refine athen_n ⟨i + 1, ⟨by omega, firstN_more hni (by rw [hc5, e3]; rfl)⟩, by omega, ?_⟩
                  exact le_T
              · have hii : i = f.blocks.length := by have : ¬ i < f.blocks.length := by simpa using hb63
                                                     omega
                subst hii
                refine Awp.exit ?_
                refine h49 _ ?_
                refine nT (hk := ?_)
                (refine Awp.region ?_; (repeat (first | refine sQ (hq := Quiet.pickOr rfl rfl rfl rfl) (hk := ?_) | refine sQ (hq := Quiet.pickAnd rfl rfl rfl rfl) (hk := ?_) | refine sQ (hk := ?_) | refine sSkip (hk := ?_) | refine sG (hk := ?_) | refine sOwn (hk := ?_))); refine aSeq_nil ?_)
                refine athen_n ⟨n + 1, ⟨by omega, firstN_more hno3 (by rw [hc4]; exact hni)⟩, by omega, ?_⟩
                exact le_C (.cons (.cons (Cut.nil _)))
          · have hnn : n = p.funcs.length := by have : ¬ n < p.funcs.length := by simpa using hb48
                                                omega
            subst hnn
            have e : checkO p = none := by rw [he3]; exact hno3
            refine Awp.exit ?_
            refine h43 _ ?_
            refine nT (hk := ?_)
            refine Awp.seq fun K68 h68 => ?_
            (refine Awp.region ?_; (repeat (first | refine sQ (hq := Quiet.bld (rs := [.lit (.int .i64 0), .lit (.int .i64 0)]) rfl plPos rfl rfl) (hk := ?_) | refine sQ (hq := Quiet.pickOr rfl rfl rfl rfl) (hk := ?_) | refine sQ (hq := Quiet.pickAnd rfl rfl rfl rfl) (hk := ?_) | refine sQ (hk := ?_) | refine sSkip (hk := ?_) | refine sG (hg := by first | rfl | exact gA_c rfl rfl) (hq := by (intro hg; (try simp only [Bool.and_eq_true, beq_iff_eq] at hg); (try simp only [hg, cond_true, Bool.true_and, beq_self_eq_true]); exact Quiet.bld (rs := [.lit (.int .i64 0), .lit (.int .i64 0)]) rfl plPos rfl rfl)) (hk := ?_) | refine sG (hk := ?_) | refine sOwn (hk := ?_))); refine aSeq_nil ?_)
            refine h68 _ ?_
            refine nT (hk := ?_)
            refine Awp.ret ?_
            rw [e]
            exact ⟨.inr rfl, 1, _, rfl, rfl, rfl, Fin.cl rfl⟩
end Mu
end
section
/-
  muntinref14.Great, walked.
  Conditions: data of at most 2^21 everywhere.
-/
namespace Mu
open Go Go.RowKit Go.Proofs

def cntB (b : Block) : Nat := 1 + b.ins.length + sumA b.ins 300
def sumBk (l : List Block) (m : Nat) : Nat := ((l.take m).map cntB).sum
def cntF (f : Func) : Nat := sumBk f.blocks 300
def sumFn (l : List Func) (m : Nat) : Nat := ((l.take m).map cntF).sum
def bigF (f : Func) : Bool := decide (f.regs > 300) || decide ((f.name.size : Int) > 200)
def bigB (b : Block) : Bool := decide ((b.name.size : Int) > 200)
def greatF (f : Func) : Bool := bigF f || ((f.blocks.take 300).any bigB || decide ((f.blocks.length : Int) > 100))
def great14 (p : Prog) : Bool := (p.funcs.take 70).any greatF || (decide ((p.funcs.length : Int) > 66) || decide ((sumFn p.funcs 70 : Int) > 600))
theorem take_sum_succ {α : Type} {g : α → Nat} {l : List α} {m : Nat} {x : α} (hx : l[m]? = some x) : ((l.take (m + 1)).map g).sum = ((l.take m).map g).sum + g x := by
  rw [List.take_add_one, hx, List.map_append, List.sum_append]
  simp
theorem take_sum_le {α : Type} {g : α → Nat} {l : List α} {c : Nat} (h : ∀ x ∈ l, g x ≤ c) (m : Nat) : ((l.take m).map g).sum ≤ m * c := by
  induction m with
  | zero => simp
  | succ m ih =>
    cases hx : l[m]? with
    | none =>
      rw [List.take_add_one, hx]
      simp only [Option.toList_none, List.append_nil]
      refine Nat.le_trans ih (Nat.mul_le_mul_right _ (by omega))
    | some x =>
      rw [take_sum_succ hx, Nat.add_mul, Nat.one_mul]
      have := h x (List.mem_of_getElem? hx)
      omega
/-- a bounded count has come to its end -/
theorem take_end {α : Type} {l : List α} {i N : Nat} (hi : i ≤ l.length) (h : ¬ (i < l.length ∧ i < N)) (h2 : i ≤ N) : l.take i = l.take N := by
  by_cases hl : i < l.length
  · have : i = N := by omega
    rw [this]
  · rw [List.take_of_length_le (by omega), List.take_of_length_le (by omega)]
theorem cntB_le {b : Block} (hs : smallB b) : cntB b ≤ 631242753 := by
  unfold cntB
  have h1 := hs.ins
  have h2 := sumA_le (l := b.ins) (fun y hy => by have := hs.all y hy; omega) 300
  omega
theorem cntF_le {f : Func} (hs : smallF f) : cntF f ≤ 189372825900 := by
  unfold cntF sumBk
  have := take_sum_le (g := cntB) (l := f.blocks) (c := 631242753) (fun b hb => cntB_le (hs.all b hb)) 300
  omega
theorem two_of {a b : Bool} (h : (a && b) = true) : a = true ∧ b = true := by simpa using h
theorem any_step {α : Type} {l : List α} {q : α → Bool} {k : Nat} {x : α} (hx : l[k]? = some x) (h : (l.take k).any q = false) (hq : q x = false) : (l.take (k + 1)).any q = false := any_takeG hx h hq

set_option maxRecDepth 100000 in
set_option maxHeartbeats 8000000 in
theorem great14_fn (p : Prog) (hp : smallP p) : Fn Try.prog 12 [.agg (encProg p)] (.lit (.bool (great14 p))) := by
  have hpl := hp.funcs
  refine Fn.of_awp Try.func12 rfl (by kernel_rfl) rfl Try.ntmps12 fun C hC => ?_
  simp only [List.length_cons, List.length_nil, Nat.reduceAdd, Nat.reduceSub, List.replicate_succ, List.replicate_zero, List.cons_append, List.nil_append]
  refine Awp.seq fun K1 h1 => ?_
  (refine Awp.region ?_; (repeat (first | refine sQ (hq := Quiet.pickOr rfl rfl rfl rfl) (hk := ?_) | refine sQ (hq := Quiet.pickAnd rfl rfl rfl rfl) (hk := ?_) | refine sQ (hk := ?_) | refine sSkip (hk := ?_) | refine sG (hk := ?_) | refine sOwn (hk := ?_))); refine aSeq_nil ?_)
  refine h1 _ ?_
  refine nT (hk := ?_)
  refine Awp.seq fun K2 h2 => ?_
  (refine Awp.region ?_; (repeat (first | refine sQ (hq := Quiet.pickOr rfl rfl rfl rfl) (hk := ?_) | refine sQ (hq := Quiet.pickAnd rfl rfl rfl rfl) (hk := ?_) | refine sQ (hk := ?_) | refine sSkip (hk := ?_) | refine sG (hk := ?_) | refine sOwn (hk := ?_))); refine aSeq_nil ?_)
  refine h2 _ ?_
  refine nT (hk := ?_)
  refine Awp.seq fun K3 h3 => ?_
  refine Awp.seq fun K4 h4 => ?_
  (refine Awp.region ?_; (repeat (first | refine sQ (hq := Quiet.pickOr rfl rfl rfl rfl) (hk := ?_) | refine sQ (hq := Quiet.pickAnd rfl rfl rfl rfl) (hk := ?_) | refine sQ (hk := ?_) | refine sSkip (hk := ?_) | refine sG (hk := ?_) | refine sOwn (hk := ?_))); refine aSeq_nil ?_)
  refine h4 _ ?_
  refine nT (hk := ?_)
  refine Awp.block ?_
  refine Awp.loopF (fun i : Nat => ⟨[.any, .ptr 0 0, .any, .lit (.int .i64 (sumFn p.funcs i : Int)), .lit (.int .i64 (i : Int)), .any, .any, .any, .any, .any, .any, .any, .any, .any, .any, .any, .any, .any, .any, .any, .any, .any, .any, .any, .any, .any, .any, .any, .any, .any, .any, .any, .any, .any, .any, .any, .any, .any, .any, .any, .any, .any, .any, .any, .any, .any, .any, .any, .any, .any, .any, .any, .any, .any, .any, .any, .any, .any, .any, .any, .any, .any, .any, .any, .any, .any, .any, .any, .any, .any, .any, .any, .any, .any, .any, .any, .any, .any, .any, .any, .any, .any, .any, .any, .any, .any, .any, .any, .any, .any, .any, .any, .any, .any, .any, .any, .any, .any, .any, .any, .any, .any, .any, .any, .any, .any, .any, .any, .any, .any, .any, .any, .any, .any, .any, .any, .any, .any, .any, .any, .any, .any, .any, .any, .any, .any, .any, .any], [.box (encProg p)]⟩) (fun i => i ≤ p.funcs.length ∧ i ≤ 70 ∧ (p.funcs.take i).any greatF = false) (fun i => p.funcs.length - i) 0 ⟨Nat.zero_le _, Nat.zero_le _, by simp⟩ (le_T) ?_
  rintro i ⟨hi, hi70, hno⟩
  have hsi := take_sum_le (g := cntF) (l := p.funcs) (c := 189372825900) (fun f hf => cntF_le (hp.small f hf)) i
  have hsi' : sumFn p.funcs i ≤ 13256097813000 := by unfold sumFn; omega
  refine Awp.seq fun K6 h6 => ?_
  refine Awp.seq fun K7 h7 => ?_
  (refine Awp.region ?_; (repeat (first | refine sQ (hq := Quiet.pickOr rfl rfl rfl rfl) (hk := ?_) | refine sQ (hq := Quiet.pickAnd rfl rfl rfl rfl) (hk := ?_) | refine sQ (hk := ?_) | refine sSkip (hk := ?_) | refine sG (hk := ?_) | refine sOwn (hk := ?_))); refine aSeq_nil ?_)
  refine h7 _ ?_
  refine nT (hk := ?_)
  refine Awp.cond rfl (fun hb8 => ?_) (fun hb8 => ?_)
  · have hgo := two_of hb8
    have hlt : i < p.funcs.length := by simpa using hgo.1
    have hlt70 : i < 70 := by have := of_decide_eq_true hgo.2; omega
    obtain ⟨f, hf⟩ : ∃ f, p.funcs[i]? = some f := ⟨_, List.getElem?_eq_getElem hlt⟩
    have hfm := List.mem_of_getElem? hf
    have hs := hp.small f hfm
    have hbl := hs.blocks
    have hsf : sumFn p.funcs (i + 1) = sumFn p.funcs i + sumBk f.blocks 300 := take_sum_succ (g := cntF) hf
    generalize hn0 : sumFn p.funcs i = n0 at hsi' hsf ⊢
    refine Awp.skip ?_
    refine h6 _ ?_
    refine nT (hk := ?_)
    refine Awp.seq fun K9 h9 => ?_
    refine Awp.block ?_
    refine Awp.seq fun K10 h10 => ?_
    refine Awp.seq fun K11 h11 => ?_
    (refine Awp.region ?_; (repeat (first | refine sQ (hq := Quiet.lnS rfl rfl) (hk := ?_) | refine sQ (hq := Quiet.pickOr rfl rfl rfl rfl) (hk := ?_) | refine sQ (hq := Quiet.pickAnd rfl rfl rfl rfl) (hk := ?_) | refine sQ (hk := ?_) | refine sSkip (hk := ?_) | refine sG (hg := by first | rfl | exact gA_c rfl rfl) (hq := by (intro hg; (try simp only [Bool.and_eq_true, beq_iff_eq] at hg); (try simp only [hg, cond_true, Bool.true_and, beq_self_eq_true]); exact Quiet.lnS rfl rfl)) (hk := ?_) | refine sG (hk := ?_) | refine sOwn (hk := ?_))); refine aSeq_nil ?_)
    refine h11 _ ?_
    refine nT (hk := ?_)
    refine Awp.cond rfl (fun hb12 => ?_) (fun hb12 => ?_)
    · have e1 : bigF f = true := hb12
      have e : great14 p = true := by unfold great14; rw [take_any hf hlt70 (show greatF f = true by unfold greatF; rw [e1]; rfl)]; rfl
      refine Awp.seq fun K13 h13 => ?_
      (refine Awp.region ?_; (repeat (first | refine sQ (hq := Quiet.pickOr rfl rfl rfl rfl) (hk := ?_) | refine sQ (hq := Quiet.pickAnd rfl rfl rfl rfl) (hk := ?_) | refine sQ (hk := ?_) | refine sSkip (hk := ?_) | refine sG (hk := ?_) | refine sOwn (hk := ?_))); refine aSeq_nil ?_)
      refine h13 _ ?_
      refine nT (hk := ?_)
      refine Awp.ret ?_
      rw [e]
      exact ⟨.inr rfl, Fin.cl rfl⟩
    · have e1 : bigF f = false := hb12
      refine Awp.skip ?_
      refine h10 _ ?_
      refine nT (hk := ?_)
      refine Awp.seq fun K14 h14 => ?_
      refine Awp.seq fun K15 h15 => ?_
      (refine Awp.region ?_; (repeat (first | refine sQ (hq := Quiet.pickOr rfl rfl rfl rfl) (hk := ?_) | refine sQ (hq := Quiet.pickAnd rfl rfl rfl rfl) (hk := ?_) | refine sQ (hk := ?_) | refine sSkip (hk := ?_) | refine sG (hk := ?_) | refine sOwn (hk := ?_))); refine aSeq_nil ?_)
      refine h15 _ ?_
      refine nT (hk := ?_)
      refine Awp.block ?_
      refine Awp.loopF (fun k : Nat => ⟨[.any, .ptr 0 0, .any, .lit (.int .i64 ((n0 + sumBk f.blocks k : Nat) : Int)), .lit (.int .i64 (i : Int)), .lit (.int .i64 (k : Int)), .any, .any, .any, .any, .any, .any, .any, .any, .any, .any, .any, .any, .any, .any, .any, .any, .any, .any, .any, .any, .any, .any, .any, .any, .any, .any, .any, .any, .any, .any, .any, .any, .any, .any, .any, .any, .any, .any, .any, .any, .any, .any, .any, .any, .any, .any, .any, .any, .any, .any, .any, .any, .any, .any, .any, .any, .any, .any, .any, .any, .any, .any, .any, .any, .any, .any, .any, .any, .any, .any, .any, .any, .any, .any, .any, .any, .any, .any, .any, .any, .any, .any, .any, .any, .any, .any, .any, .any, .any, .any, .any, .any, .any, .any, .any, .any, .any, .any, .any, .any, .any, .any, .any, .any, .any, .any, .any, .any, .any, .any, .any, .any, .any, .any, .any, .any, .any, .any, .any, .any, .any, .any], [.box (encProg p)]⟩) (fun k => k ≤ f.blocks.length ∧ k ≤ 300 ∧ (f.blocks.take k).any bigB = false) (fun k => f.blocks.length - k) 0 ⟨Nat.zero_le _, Nat.zero_le _, by simp⟩ (le_T) ?_
      rintro k ⟨hk, hk300, hnk⟩
      have hsk := take_sum_le (g := cntB) (l := f.blocks) (c := 631242753) (fun b hb => cntB_le (hs.all b hb)) k
      have hsk' : sumBk f.blocks k ≤ 189372825900 := by unfold sumBk; omega
      refine Awp.seq fun K17 h17 => ?_
      refine Awp.seq fun K18 h18 => ?_
      (refine Awp.region ?_; (repeat (first | refine sQ (hq := Quiet.pickOr rfl rfl rfl rfl) (hk := ?_) | refine sQ (hq := Quiet.pickAnd rfl rfl rfl rfl) (hk := ?_) | refine sQ (hk := ?_) | refine sSkip (hk := ?_) | refine sG (hk := ?_) | refine sOwn (hk := ?_))); refine aSeq_nil ?_)
      refine h18 _ ?_
      refine nT (hk := ?_)
      refine Awp.cond rfl (fun hb19 => ?_) (fun hb19 => ?_)
      · have hgk := two_of hb19
        have hkl : k < f.blocks.length := by simpa using hgk.1
        have hkl300 : k < 300 := by have := of_decide_eq_true hgk.2; omega
        obtain ⟨b, hb⟩ : ∃ b, f.blocks[k]? = some b := ⟨_, List.getElem?_eq_getElem hkl⟩
        have hbs := hs.all b (List.mem_of_getElem? hb)
        have hil := hbs.ins
        have hsb : sumBk f.blocks (k + 1) = sumBk f.blocks k + cntB b := take_sum_succ (g := cntB) hb
        generalize hm0 : n0 + sumBk f.blocks k = m0
        have hm0' : m0 ≤ 13445470638900 := by omega
        refine Awp.skip ?_
        refine h17 _ ?_
        refine nT (hk := ?_)
        refine Awp.seq fun K20 h20 => ?_
        refine Awp.block ?_
        refine Awp.seq fun K21 h21 => ?_
        (refine Awp.region ?_; (repeat (first | refine sQ (hq := Quiet.pickOr rfl rfl rfl rfl) (hk := ?_) | refine sQ (hq := Quiet.pickAnd rfl rfl rfl rfl) (hk := ?_) | refine sQ (hk := ?_) | refine sSkip (hk := ?_) | refine sG (hk := ?_) | refine sOwn (hk := ?_))); refine aSeq_nil ?_)
        refine h21 _ ?_
        refine nT (hk := ?_)
        refine Awp.seq fun K22 h22 => ?_
        refine Awp.seq fun K23 h23 => ?_
        (refine Awp.region ?_; (repeat (first | refine sQ (hq := Quiet.lnS rfl rfl) (hk := ?_) | refine sQ (hq := Quiet.pickOr rfl rfl rfl rfl) (hk := ?_) | refine sQ (hq := Quiet.pickAnd rfl rfl rfl rfl) (hk := ?_) | refine sQ (hk := ?_) | refine sSkip (hk := ?_) | refine sG (hg := by first | rfl | exact gA_c rfl rfl) (hq := by (intro hg; (try simp only [Bool.and_eq_true, beq_iff_eq] at hg); (try simp only [hg, cond_true, Bool.true_and, beq_self_eq_true]); exact Quiet.lnS rfl rfl)) (hk := ?_) | refine sG (hk := ?_) | refine sOwn (hk := ?_))); refine aSeq_nil ?_)
        refine h23 _ ?_
        refine nT (hk := ?_)
        refine Awp.cond rfl (fun hb24 => ?_) (fun hb24 => ?_)
        · have e2 : bigB b = true := hb24
          have e : great14 p = true := by
            unfold great14
            rw [take_any hf hlt70 (show greatF f = true by unfold greatF; rw [take_any hb hkl300 e2, Bool.true_or, Bool.or_true])]
            rfl
          refine Awp.seq fun K25 h25 => ?_
          (refine Awp.region ?_; (repeat (first | refine sQ (hq := Quiet.pickOr rfl rfl rfl rfl) (hk := ?_) | refine sQ (hq := Quiet.pickAnd rfl rfl rfl rfl) (hk := ?_) | refine sQ (hk := ?_) | refine sSkip (hk := ?_) | refine sG (hk := ?_) | refine sOwn (hk := ?_))); refine aSeq_nil ?_)
          refine h25 _ ?_
          refine nT (hk := ?_)
          refine Awp.ret ?_
          rw [e]
          exact ⟨.inr rfl, Fin.cl rfl⟩
        · have e2 : bigB b = false := hb24
          refine Awp.skip ?_
          refine h22 _ ?_
          refine nT (hk := ?_)
          refine Awp.seq fun K26 h26 => ?_
          (refine Awp.region ?_; (repeat (first | refine sQ (hq := Quiet.pickOr rfl rfl rfl rfl) (hk := ?_) | refine sQ (hq := Quiet.pickAnd rfl rfl rfl rfl) (hk := ?_) | refine sQ (hk := ?_) | refine sSkip (hk := ?_) | refine sG (hk := ?_) | refine sOwn (hk := ?_))); refine aSeq_nil ?_)
          refine h26 _ ?_
          refine nT (hk := ?_)
          refine Awp.block ?_
          refine Awp.loopF (fun j : Nat => ⟨[.any, .ptr 0 0, .any, .lit (.int .i64 ((m0 + 1 + b.ins.length + sumA b.ins j : Nat) : Int)), .lit (.int .i64 (i : Int)), .lit (.int .i64 (k : Int)), .lit (.int .i64 (j : Int)), .any, .any, .any, .any, .any, .any, .any, .any, .any, .any, .any, .any, .any, .any, .any, .any, .any, .any, .any, .any, .any, .any, .any, .any, .any, .any, .any, .any, .any, .any, .any, .any, .any, .any, .any, .any, .any, .any, .any, .any, .any, .any, .any, .any, .any, .any, .any, .any, .any, .any, .any, .any, .any, .any, .any, .any, .any, .any, .any, .any, .any, .any, .any, .any, .any, .any, .any, .any, .any, .any, .any, .any, .any, .any, .any, .any, .any, .any, .any, .any, .any, .any, .any, .any, .any, .any, .any, .any, .any, .any, .any, .any, .any, .any, .any, .any, .any, .any, .any, .any, .any, .any, .any, .any, .any, .any, .any, .any, .any, .any, .any, .any, .any, .any, .any, .any, .any, .any, .any, .any, .any], [.box (encProg p)]⟩) (fun j => j ≤ b.ins.length ∧ j ≤ 300) (fun j => b.ins.length - j) 0 ⟨Nat.zero_le _, Nat.zero_le _⟩ (le_T) ?_
          rintro j ⟨hj, hj300⟩
          have hsa := sumA_le (l := b.ins) (fun y hy => by have := hbs.all y hy; omega) j
          refine Awp.seq fun K28 h28 => ?_
          refine Awp.seq fun K29 h29 => ?_
          (refine Awp.region ?_; (repeat (first | refine sQ (hq := Quiet.pickOr rfl rfl rfl rfl) (hk := ?_) | refine sQ (hq := Quiet.pickAnd rfl rfl rfl rfl) (hk := ?_) | refine sQ (hk := ?_) | refine sSkip (hk := ?_) | refine sG (hk := ?_) | refine sOwn (hk := ?_))); refine aSeq_nil ?_)
          refine h29 _ ?_
          refine nT (hk := ?_)
          refine Awp.cond rfl (fun hb30 => ?_) (fun hb30 => ?_)
          · have hgj := two_of hb30
            have hjl : j < b.ins.length := by simpa using hgj.1
            have hjl300 : j < 300 := by have := of_decide_eq_true hgj.2; omega
            obtain ⟨x, hx⟩ : ∃ x, b.ins[j]? = some x := ⟨_, List.getElem?_eq_getElem hjl⟩
            have hxa := hbs.all x (List.mem_of_getElem? hx)
            have hsx := sumA_succ hx
            refine Awp.skip ?_
            refine h28 _ ?_
            refine nT (hk := ?_)
            refine Awp.seq fun K31 h31 => ?_
            refine Awp.block ?_
            (refine Awp.region ?_; (repeat (first | refine sQ (hq := Quiet.pickOr rfl rfl rfl rfl) (hk := ?_) | refine sQ (hq := Quiet.pickAnd rfl rfl rfl rfl) (hk := ?_) | refine sQ (hk := ?_) | refine sSkip (hk := ?_) | refine sG (hk := ?_) | refine sOwn (hk := ?_))); refine aSeq_nil ?_)
            refine h31 _ ?_
            refine nT (hk := ?_)
            (refine Awp.region ?_; (repeat (first | refine sQ (hq := Quiet.pickOr rfl rfl rfl rfl) (hk := ?_) | refine sQ (hq := Quiet.pickAnd rfl rfl rfl rfl) (hk := ?_) | refine sQ (hk := ?_) | refine sSkip (hk := ?_) | refine sG (hk := ?_) | refine sOwn (hk := ?_))); refine aSeq_nil ?_)
            refine athen_n ⟨j + 1, ⟨by omega, by omega⟩, by omega, ?_⟩
            rw [hsx, ← Nat.add_assoc]
            exact le_T
          · have hje : sumA b.ins j = sumA b.ins 300 := by
              unfold sumA
              rw [take_end hj (fun h => by
                have h1 : decide ((j : Int) < (b.ins.length : Int)) = true := by simpa using h.1
                have h2 : decide ((j : Int) < 300) = true := by simp; omega
                rw [h1, h2] at hb30
                cases hb30) hj300]
            have hnew : m0 + 1 + b.ins.length + sumA b.ins 300 = n0 + sumBk f.blocks (k + 1) := by rw [hsb, ← hm0]; unfold cntB; omega
            rw [hje, hnew]
            refine Awp.exit ?_
            refine h20 _ ?_
            refine nT (hk := ?_)
            (refine Awp.region ?_; (repeat (first | refine sQ (hq := Quiet.pickOr rfl rfl rfl rfl) (hk := ?_) | refine sQ (hq := Quiet.pickAnd rfl rfl rfl rfl) (hk := ?_) | refine sQ (hk := ?_) | refine sSkip (hk := ?_) | refine sG (hk := ?_) | refine sOwn (hk := ?_))); refine aSeq_nil ?_)
            refine athen_n ⟨k + 1, ⟨by omega, by omega, any_step hb hnk e2⟩, by omega, ?_⟩
            exact le_T
      · have hke : f.blocks.take k = f.blocks.take 300 := take_end hk (fun h => by
          have h1 : decide ((k : Int) < (f.blocks.length : Int)) = true := by simpa using h.1
          have h2 : decide ((k : Int) < 300) = true := by simp; omega
          rw [h1, h2] at hb19
          cases hb19) hk300
        have hsk3 : sumBk f.blocks k = sumBk f.blocks 300 := by unfold sumBk; rw [hke]
        rw [hke] at hnk
        rw [hsk3, ← hsf]
        refine Awp.exit ?_
        refine h14 _ ?_
        refine nT (hk := ?_)
        refine Awp.seq fun K32 h32 => ?_
        (refine Awp.region ?_; (repeat (first | refine sQ (hq := Quiet.pickOr rfl rfl rfl rfl) (hk := ?_) | refine sQ (hq := Quiet.pickAnd rfl rfl rfl rfl) (hk := ?_) | refine sQ (hk := ?_) | refine sSkip (hk := ?_) | refine sG (hk := ?_) | refine sOwn (hk := ?_))); refine aSeq_nil ?_)
        refine h32 _ ?_
        refine nT (hk := ?_)
        refine Awp.cond rfl (fun hb33 => ?_) (fun hb33 => ?_)
        · have e : great14 p = true := by
            unfold great14
            rw [take_any hf hlt70 (show greatF f = true by unfold greatF; rw [show decide ((f.blocks.length : Int) > 100) = true from hb33, Bool.or_true, Bool.or_true])]
            rfl
          refine Awp.seq fun K34 h34 => ?_
          (refine Awp.region ?_; (repeat (first | refine sQ (hq := Quiet.pickOr rfl rfl rfl rfl) (hk := ?_) | refine sQ (hq := Quiet.pickAnd rfl rfl rfl rfl) (hk := ?_) | refine sQ (hk := ?_) | refine sSkip (hk := ?_) | refine sG (hk := ?_) | refine sOwn (hk := ?_))); refine aSeq_nil ?_)
          refine h34 _ ?_
          refine nT (hk := ?_)
          refine Awp.ret ?_
          rw [e]
          exact ⟨.inr rfl, Fin.cl rfl⟩
        · refine Awp.skip ?_
          refine h9 _ ?_
          refine nT (hk := ?_)
          (refine Awp.region ?_; (repeat (first | refine sQ (hq := Quiet.pickOr rfl rfl rfl rfl) (hk := ?_) | refine sQ (hq := Quiet.pickAnd rfl rfl rfl rfl) (hk := ?_) | refine sQ (hk := ?_) | refine sSkip (hk := ?_) | refine sG (hk := ?_) | refine sOwn (hk := ?_))); refine aSeq_nil ?_)
          refine athen_n ⟨i + 1, ⟨by omega, by omega, any_step hf hno (by unfold greatF; rw [e1, hnk, show decide ((f.blocks.length : Int) > 100) = false from hb33]; rfl)⟩, by omega, ?_⟩
          exact le_T
  · have hie : p.funcs.take i = p.funcs.take 70 := take_end hi (fun h => by
      have h1 : decide ((i : Int) < (p.funcs.length : Int)) = true := by simpa using h.1
      have h2 : decide ((i : Int) < 70) = true := by simp; omega
      rw [h1, h2] at hb8
      cases hb8) hi70
    have hs70 : sumFn p.funcs i = sumFn p.funcs 70 := by unfold sumFn; rw [hie]
    rw [hie] at hno
    have e : great14 p = (decide ((p.funcs.length : Int) > 66) || decide ((sumFn p.funcs 70 : Int) > 600)) := by unfold great14; rw [hno]; rfl
    rw [hs70]
    refine Awp.exit ?_
    refine h3 _ ?_
    refine nT (hk := ?_)
    refine Awp.seq fun K35 h35 => ?_
    (refine Awp.region ?_; (repeat (first | refine sQ (hq := Quiet.pickOr rfl rfl rfl rfl) (hk := ?_) | refine sQ (hq := Quiet.pickAnd rfl rfl rfl rfl) (hk := ?_) | refine sQ (hk := ?_) | refine sSkip (hk := ?_) | refine sG (hk := ?_) | refine sOwn (hk := ?_))); refine aSeq_nil ?_)
    refine h35 _ ?_
    refine nT (hk := ?_)
    refine Awp.ret ?_
    rw [e]
    exact ⟨.inr rfl, Fin.cl rfl⟩
end Mu
end
section
/-
  muntinlaw17.LiveArgs, walked: it answers true of any program.
  Conditions: data of at most 2^21 everywhere.
-/
namespace Mu
open Go Go.RowKit Go.Proofs

set_option maxRecDepth 100000 in
set_option maxHeartbeats 4000000 in
theorem liveArgs17_fn (p : Prog) (n : Int) (hp : smallP p) (hT : ∀ f ∈ p.funcs, (allReads f).length ≤ 2097152) : Fn Try.prog 8 [.agg (encProg p), .lit (.int .i64 n)] (.lit (.bool true)) := by
  have hpl := hp.funcs
  have hgr := great14_fn p hp
  have hck := check14_fn p hp
  refine Fn.of_awp Try.func8 rfl (by kernel_rfl) rfl Try.ntmps8 fun C hC => ?_
  simp only [List.length_cons, List.length_nil, Nat.reduceAdd, Nat.reduceSub, List.replicate_succ, List.replicate_zero, List.cons_append, List.nil_append]
  refine Awp.seq fun K1 h1 => ?_
  (refine Awp.region ?_; (repeat (first | refine sQ (hq := Quiet.pickOr rfl rfl rfl rfl) (hk := ?_) | refine sQ (hq := Quiet.pickAnd rfl rfl rfl rfl) (hk := ?_) | refine sQ (hk := ?_) | refine sSkip (hk := ?_) | refine sG (hk := ?_) | refine sOwn (hk := ?_))); refine aSeq_nil ?_)
  refine h1 _ ?_
  refine nT (hk := ?_)
  refine Awp.seq fun K2 h2 => ?_
  refine Awp.seq fun K3 h3 => ?_
  (refine Awp.region ?_; (repeat (first | refine sQ (hq := Quiet.call rfl hgr rfl rfl rfl) (hk := ?_) | refine sQ (hq := Quiet.pickOr rfl rfl rfl rfl) (hk := ?_) | refine sQ (hq := Quiet.pickAnd rfl rfl rfl rfl) (hk := ?_) | refine sQ (hk := ?_) | refine sSkip (hk := ?_) | refine sG (hg := by first | rfl | exact gA_c rfl rfl) (hq := by (intro hg; (try simp only [Bool.and_eq_true, beq_iff_eq] at hg); (try simp only [hg, cond_true, Bool.true_and, beq_self_eq_true]); exact Quiet.call rfl hgr rfl rfl rfl)) (hk := ?_) | refine sG (hk := ?_) | refine sOwn (hk := ?_))); refine aSeq_nil ?_)
  refine h3 _ ?_
  refine nT (hk := ?_)
  refine Awp.cond rfl (fun hb4 => ?_) (fun hb4 => ?_)
  · refine Awp.seq fun K5 h5 => ?_
    (refine Awp.region ?_; (repeat (first | refine sQ (hq := Quiet.call rfl head17_fn rfl rfl rfl) (hk := ?_) | refine sQ (hq := Quiet.pickOr rfl rfl rfl rfl) (hk := ?_) | refine sQ (hq := Quiet.pickAnd rfl rfl rfl rfl) (hk := ?_) | refine sQ (hk := ?_) | refine sSkip (hk := ?_) | refine sG (hg := by first | rfl | exact gA_c rfl rfl) (hq := by (intro hg; (try simp only [Bool.and_eq_true, beq_iff_eq] at hg); (try simp only [hg, cond_true, Bool.true_and, beq_self_eq_true]); exact Quiet.call rfl head17_fn rfl rfl rfl)) (hk := ?_) | refine sG (hk := ?_) | refine sOwn (hk := ?_))); refine aSeq_nil ?_)
    refine h5 _ ?_
    refine nT (hk := ?_)
    refine Awp.ret ?_
    exact ⟨.inr rfl, Fin.cl rfl⟩
  · have hb : ((great14 p || decide (n < 0)) || decide (n ≥ (p.funcs.length : Int))) = false := hb4
    simp only [Bool.or_eq_false_iff, decide_eq_false_iff_not] at hb
    have hn0 : 0 ≤ n := by omega
    have hnl : n.toNat < p.funcs.length := by omega
    obtain ⟨f, hf⟩ : ∃ f, p.funcs[n.toNat]? = some f := ⟨_, List.getElem?_eq_getElem hnl⟩
    have hfm := List.mem_of_getElem? hf
    have ho := hp.ok f hfm
    have hs := hp.small f hfm
    have hTf := hT f hfm
    have hbl := hs.blocks
    refine Awp.skip ?_
    refine h2 _ ?_
    refine nT (hk := ?_)
    refine Awp.seq fun K6 h6 => ?_
    rcases hc : checkO p with _ | ⟨l, c⟩
    · rw [hc] at hck
      have hck' : Fn Try.prog 33 [.agg (encProg p)] (.tup [.agg [.lit (.int .i64 0), .lit (.int .i64 0)], .lit (.int .i64 0)]) := hck
      have hF := fine_of hc hf
      have hne := hF.ne
      have hil : (inF f).length = f.blocks.length := by simp [inF]
      have e1 : (((inF f).length : Int) != (f.blocks.length : Int)) = false := by rw [hil]; simp
      have e2 : decide (mostF f > f.regs) = false := by have := hF.most; simp; omega
      have h00 : (inF f)[(0 : Int).toNat]? = some (inL f 0) := by
        show (inF f)[0]? = _
        unfold inF
        rw [List.getElem?_map, List.getElem?_range hne]
        rfl
      have hLl : (inL f 0).length ≤ 2097152 := Nat.le_trans (List.length_filter_le _ _) (Nat.le_trans (regsOf_le _) hTf)
      (refine Awp.region ?_; (repeat (first | refine sQ (hq := Quiet.call rfl hck' rfl rfl rfl) (hk := ?_) | refine sQ (hq := Quiet.pickOr rfl rfl rfl rfl) (hk := ?_) | refine sQ (hq := Quiet.pickAnd rfl rfl rfl rfl) (hk := ?_) | refine sQ (hk := ?_) | refine sSkip (hk := ?_) | refine sG (hg := by first | rfl | exact gA_c rfl rfl) (hq := by (intro hg; (try simp only [Bool.and_eq_true, beq_iff_eq] at hg); (try simp only [hg, cond_true, Bool.true_and, beq_self_eq_true]); exact Quiet.call rfl hck' rfl rfl rfl)) (hk := ?_) | refine sG (hk := ?_) | refine sOwn (hk := ?_))); refine aSeq_nil ?_)
      refine h6 _ ?_
      refine nT (hk := ?_)
      refine Awp.seq fun K7 h7 => ?_
      refine Awp.seq fun K8 h8 => ?_
      (refine Awp.region ?_; (repeat (first | refine sQ (hq := Quiet.pickOr rfl rfl rfl rfl) (hk := ?_) | refine sQ (hq := Quiet.pickAnd rfl rfl rfl rfl) (hk := ?_) | refine sQ (hk := ?_) | refine sSkip (hk := ?_) | refine sG (hk := ?_) | refine sOwn (hk := ?_))); refine aSeq_nil ?_)
      refine h8 _ ?_
      refine nT (hk := ?_)
      refine Awp.cond rfl (fun hb9 => by cases hb9) (fun hb9 => ?_)
      refine Awp.skip ?_
      refine h7 _ ?_
      refine nT (hk := ?_)
      refine Awp.seq fun K11 h11 => ?_
      (refine Awp.region ?_; (repeat (first | refine sQ (hq := Quiet.pickOr rfl rfl rfl rfl) (hk := ?_) | refine sQ (hq := Quiet.pickAnd rfl rfl rfl rfl) (hk := ?_) | refine sQ (hk := ?_) | refine sSkip (hk := ?_) | refine sG (hk := ?_) | refine sOwn (hk := ?_))); refine aSeq_nil ?_)
      refine h11 _ ?_
      refine nT (hk := ?_)
      refine Awp.seq fun K12 h12 => ?_
      (refine Awp.region ?_; (repeat (first | refine sQ (hq := Quiet.call rfl (in_fn f ho hs hTf) rfl rfl rfl) (hk := ?_) | refine sQ (hq := Quiet.pickOr rfl rfl rfl rfl) (hk := ?_) | refine sQ (hq := Quiet.pickAnd rfl rfl rfl rfl) (hk := ?_) | refine sQ (hk := ?_) | refine sSkip (hk := ?_) | refine sG (hg := by first | rfl | exact gA_c rfl rfl) (hq := by (intro hg; (try simp only [Bool.and_eq_true, beq_iff_eq] at hg); (try simp only [hg, cond_true, Bool.true_and, beq_self_eq_true]); exact Quiet.call rfl (in_fn f ho hs hTf) rfl rfl rfl)) (hk := ?_) | refine sG (hk := ?_) | refine sOwn (hk := ?_))); refine aSeq_nil ?_)
      refine h12 _ ?_
      refine nT (hk := ?_)
      refine Awp.seq fun K13 h13 => ?_
      refine Awp.seq fun K14 h14 => ?_
      (refine drawD 13 (hh := ?_); (repeat (first | refine qQ (hq := Quiet.call rfl (most_fn f ho hs hTf) rfl rfl rfl) (hk := ?_) | refine qQ (hq := Quiet.pickOr rfl rfl rfl rfl) (hk := ?_) | refine qQ (hq := Quiet.pickAnd rfl rfl rfl rfl) (hk := ?_) | refine qQ (hk := ?_) | refine qSkip (hk := ?_) | refine qG (hg := by first | rfl | exact gA_c rfl rfl) (hq := by (intro hg; (try simp only [Bool.and_eq_true, beq_iff_eq] at hg); (try simp only [hg, cond_true, Bool.true_and, beq_self_eq_true]); exact Quiet.call rfl (most_fn f ho hs hTf) rfl rfl rfl)) (hk := ?_) | refine qG (hk := ?_))); refine aQ_nil ?_; (repeat (first | refine sQ (hq := Quiet.call rfl (most_fn f ho hs hTf) rfl rfl rfl) (hk := ?_) | refine sQ (hq := Quiet.pickOr rfl rfl rfl rfl) (hk := ?_) | refine sQ (hq := Quiet.pickAnd rfl rfl rfl rfl) (hk := ?_) | refine sQ (hk := ?_) | refine sSkip (hk := ?_) | refine sG (hg := by first | rfl | exact gA_c rfl rfl) (hq := by (intro hg; (try simp only [Bool.and_eq_true, beq_iff_eq] at hg); (try simp only [hg, cond_true, Bool.true_and, beq_self_eq_true]); exact Quiet.call rfl (most_fn f ho hs hTf) rfl rfl rfl)) (hk := ?_) | refine sG (hk := ?_) | refine sOwn (hk := ?_))); refine aSeq_nil ?_)
      refine h14 _ ?_
      refine nT (hk := ?_)
      refine Awp.cond rfl (fun hb15 => ?_) (fun hb15 => ?_)
      · cases hb15
      · refine Awp.skip ?_
        refine h13 _ ?_
        refine nT (hk := ?_)
        refine Awp.seq fun K17 h17 => ?_
        refine Awp.seq fun K18 h18 => ?_
        (refine Awp.region ?_; (repeat (first | refine sQ (hq := Quiet.pickOr rfl rfl rfl rfl) (hk := ?_) | refine sQ (hq := Quiet.pickAnd rfl rfl rfl rfl) (hk := ?_) | refine sQ (hk := ?_) | refine sSkip (hk := ?_) | refine sG (hk := ?_) | refine sOwn (hk := ?_))); refine aSeq_nil ?_)
        refine h18 _ ?_
        refine nT (hk := ?_)
        refine Awp.block ?_
        refine Awp.loopF (fun i : Nat => ⟨[.any, .any, .ptr 0 0, .any, .any, .any, .any, .ptr 2 0, .bs tInt.slice (inF f), .lit (.int .i64 (i : Int)), .any, .any, .any, .any, .any, .any, .any, .any, .any, .any, .any, .any, .any, .any, .any, .any, .any, .any, .any, .any, .any, .any, .any, .any, .any, .any, .any, .any, .any, .any, .any, .any, .any, .any, .any, .any, .any, .any, .any, .any, .any, .any, .any, .any, .any, .any, .any, .any, .any, .any, .any, .any, .any, .any, .any, .any, .any, .any, .any, .any, .any, .any, .any, .any, .any, .any, .any, .any, .any], [.box (encProg p), .dead, .box (encFunc f)]⟩) (fun i => i ≤ (inL f 0).length) (fun i => (inL f 0).length - i) 0 (Nat.zero_le _) (le_C (.cons (.dead (.cons (Cut.nil _))))) ?_
        intro i hi
        dsimp only at hi ⊢
        refine Awp.seq fun K20 h20 => ?_
        refine Awp.seq fun K21 h21 => ?_
        (refine Awp.region ?_; (repeat (first | refine sQ (hq := Quiet.pickOr rfl rfl rfl rfl) (hk := ?_) | refine sQ (hq := Quiet.pickAnd rfl rfl rfl rfl) (hk := ?_) | refine sQ (hk := ?_) | refine sSkip (hk := ?_) | refine sG (hk := ?_) | refine sOwn (hk := ?_))); refine aSeq_nil ?_)
        refine h21 _ ?_
        refine nT (hk := ?_)
        refine Awp.cond rfl (fun hb22 => ?_) (fun hb22 => ?_)
        · have hlt : i < (inL f 0).length := by simpa using hb22
          obtain ⟨r, hr⟩ : ∃ r, (inL f 0)[i]? = some r := ⟨_, List.getElem?_eq_getElem hlt⟩
          obtain ⟨hr0, hr1⟩ := hF.in0 (List.mem_of_getElem? hr)
          refine Awp.skip ?_
          refine h20 _ ?_
          refine nT (hk := ?_)
          refine Awp.seq fun K23 h23 => ?_
          refine Awp.block ?_
          refine Awp.seq fun K24 h24 => ?_
          (refine drawD 18 (hh := ?_); (repeat (first | refine qQ (hq := Quiet.pickOr rfl rfl rfl rfl) (hk := ?_) | refine qQ (hq := Quiet.pickAnd rfl rfl rfl rfl) (hk := ?_) | refine qQ (hk := ?_) | refine qSkip (hk := ?_) | refine qG (hk := ?_))); refine aQ_nil ?_; (repeat (first | refine sQ (hq := Quiet.pickOr rfl rfl rfl rfl) (hk := ?_) | refine sQ (hq := Quiet.pickAnd rfl rfl rfl rfl) (hk := ?_) | refine sQ (hk := ?_) | refine sSkip (hk := ?_) | refine sG (hk := ?_) | refine sOwn (hk := ?_))); refine aSeq_nil ?_)
          refine h24 _ ?_
          refine nT (hk := ?_)
          refine Awp.cond rfl (fun hb25 => ?_) (fun hb25 => ?_)
          · have hx : (decide (r < 0) || decide (r ≥ f.args)) = true := hb25
            simp only [Bool.or_eq_true, decide_eq_true_eq] at hx
            omega
          · refine Awp.skip ?_
            refine h23 _ ?_
            refine nT (hk := ?_)
            (refine Awp.region ?_; (repeat (first | refine sQ (hq := Quiet.pickOr rfl rfl rfl rfl) (hk := ?_) | refine sQ (hq := Quiet.pickAnd rfl rfl rfl rfl) (hk := ?_) | refine sQ (hk := ?_) | refine sSkip (hk := ?_) | refine sG (hk := ?_) | refine sOwn (hk := ?_))); refine aSeq_nil ?_)
            refine athen_n ⟨i + 1, by omega, by omega, ?_⟩
            exact le_T
        · refine Awp.exit ?_
          refine h17 _ ?_
          refine nT (hk := ?_)
          refine Awp.seq fun K27 h27 => ?_
          (refine Awp.region ?_; (repeat (first | refine sQ (hq := Quiet.call rfl head17_fn rfl rfl rfl) (hk := ?_) | refine sQ (hq := Quiet.pickOr rfl rfl rfl rfl) (hk := ?_) | refine sQ (hq := Quiet.pickAnd rfl rfl rfl rfl) (hk := ?_) | refine sQ (hk := ?_) | refine sSkip (hk := ?_) | refine sG (hg := by first | rfl | exact gA_c rfl rfl) (hq := by (intro hg; (try simp only [Bool.and_eq_true, beq_iff_eq] at hg); (try simp only [hg, cond_true, Bool.true_and, beq_self_eq_true]); exact Quiet.call rfl head17_fn rfl rfl rfl)) (hk := ?_) | refine sG (hk := ?_) | refine sOwn (hk := ?_))); refine aSeq_nil ?_)
          refine h27 _ ?_
          refine nT (hk := ?_)
          refine Awp.ret ?_
          exact ⟨.inr rfl, Fin.cl rfl⟩
    · rw [hc] at hck
      have hck' : Fn Try.prog 33 [.agg (encProg p)] (.tup [.agg [.lit (.int .i64 l), .lit (.int .i64 c)], .lit (.int .i64 140)]) := hck
      (refine Awp.region ?_; (repeat (first | refine sQ (hq := Quiet.call rfl hck' rfl rfl rfl) (hk := ?_) | refine sQ (hq := Quiet.pickOr rfl rfl rfl rfl) (hk := ?_) | refine sQ (hq := Quiet.pickAnd rfl rfl rfl rfl) (hk := ?_) | refine sQ (hk := ?_) | refine sSkip (hk := ?_) | refine sG (hg := by first | rfl | exact gA_c rfl rfl) (hq := by (intro hg; (try simp only [Bool.and_eq_true, beq_iff_eq] at hg); (try simp only [hg, cond_true, Bool.true_and, beq_self_eq_true]); exact Quiet.call rfl hck' rfl rfl rfl)) (hk := ?_) | refine sG (hk := ?_) | refine sOwn (hk := ?_))); refine aSeq_nil ?_)
      refine h6 _ ?_
      refine nT (hk := ?_)
      refine Awp.seq fun K7 h7 => ?_
      refine Awp.seq fun K8 h8 => ?_
      (refine Awp.region ?_; (repeat (first | refine sQ (hq := Quiet.pickOr rfl rfl rfl rfl) (hk := ?_) | refine sQ (hq := Quiet.pickAnd rfl rfl rfl rfl) (hk := ?_) | refine sQ (hk := ?_) | refine sSkip (hk := ?_) | refine sG (hk := ?_) | refine sOwn (hk := ?_))); refine aSeq_nil ?_)
      refine h8 _ ?_
      refine nT (hk := ?_)
      refine Awp.cond rfl (fun hb9 => ?_) (fun hb9 => by cases hb9)
      refine Awp.seq fun K10 h10 => ?_
      (refine Awp.region ?_; (repeat (first | refine sQ (hq := Quiet.call rfl head17_fn rfl rfl rfl) (hk := ?_) | refine sQ (hq := Quiet.pickOr rfl rfl rfl rfl) (hk := ?_) | refine sQ (hq := Quiet.pickAnd rfl rfl rfl rfl) (hk := ?_) | refine sQ (hk := ?_) | refine sSkip (hk := ?_) | refine sG (hg := by first | rfl | exact gA_c rfl rfl) (hq := by (intro hg; (try simp only [Bool.and_eq_true, beq_iff_eq] at hg); (try simp only [hg, cond_true, Bool.true_and, beq_self_eq_true]); exact Quiet.call rfl head17_fn rfl rfl rfl)) (hk := ?_) | refine sG (hk := ?_) | refine sOwn (hk := ?_))); refine aSeq_nil ?_)
      refine h10 _ ?_
      refine nT (hk := ?_)
      refine Awp.ret ?_
      exact ⟨.inr rfl, Fin.cl rfl⟩
end Mu
end
section
/-
  The arguments of a row, read; what a call that makes new blocks only leaves of them.
  Conditions: none.
-/
namespace Mu
open Go Go.RowKit Go.ChangeShapes Go.WideShapes Go.Proofs

theorem laid_out : laidOutB Try.prog = true := by kernel_rfl
mutual
theorem bulk_le {H : Type} : ∀ d : DataW H, bulkD d ≤ Yteeekjidkjdpjaa.Rows.uptoBulk d
  | .lit (.string _) => Nat.le_refl _
  | .lit (.bool _) => Nat.le_refl _
  | .lit (.int _ _) => Nat.le_refl _
  | .lit (.float _ _) => Nat.le_refl _
  | .lit .nil => Nat.le_refl _
  | .nil => Nat.le_refl _
  | .ptr d => by show 1 ≤ Yteeekjidkjdpjaa.Rows.uptoBulk d + 1; omega
  | .slice e s => by
    have h1 := bulks_le e
    have h2 := bulks_le s
    show bulkD.go e + bulkD.go s + 1 ≤ Yteeekjidkjdpjaa.Rows.uptoBulkAll e + Yteeekjidkjdpjaa.Rows.uptoBulkAll s + 1
    omega
  | .agg p => by
    have h1 := bulks_le p
    show bulkD.go p + 1 ≤ Yteeekjidkjdpjaa.Rows.uptoBulkAll p + 1
    omega
  | .iface _ d => by show 1 ≤ Yteeekjidkjdpjaa.Rows.uptoBulk d + 1; omega
  | .map m => by show 1 ≤ Yteeekjidkjdpjaa.Rows.uptoBulkEntries m + 1; omega
  | .held _ => Nat.le_refl _
theorem bulks_le {H : Type} : ∀ l : List (DataW H), bulkD.go l ≤ Yteeekjidkjdpjaa.Rows.uptoBulkAll l
  | [] => Nat.le_refl _
  | d :: r => by
    have h1 := bulk_le d
    have h2 := bulks_le r
    show bulkD d + bulkD.go r ≤ Yteeekjidkjdpjaa.Rows.uptoBulk d + Yteeekjidkjdpjaa.Rows.uptoBulkAll r
    omega
end

/-- an argument of a type that is read: a value of many cells -/
theorem open_many {α : Type} {t : TypeId} {T : Ty α} {H : Type} {enc : TypeId × Value → H} {W : World} {v : Value} {d : DataW H} {p : List MemPlace} (ho : Opens Try.prog t T) (hs : 1 < T.size)
    (h : DataW.Trod enc Try.prog W 0 (fun _ => true) true t v d p) (hp : ∀ x ∈ p, x.block < W.heap.size) :
    ∃ cs x, v = .agg cs.toArray ∧ T.R W W.heap.size cs x ∧ T.bulk x ≤ Yteeekjidkjdpjaa.Rows.uptoBulk d := by
  obtain ⟨fuel, hf⟩ := h
  obtain ⟨x, hR, hb⟩ := ho.go H enc W 0 _ true fuel _ (d, p) W.heap.size hf hp
  have hl := T.len hR
  refine ⟨v.cells.toList, x, ?_, hR, Nat.le_trans hb (bulk_le d)⟩
  cases v <;> first
    | (simp [Value.cells] at hl; omega)
    | simp [Value.cells]
/-- an argument of a type that is read: a value of one cell -/
theorem open_one {α : Type} {t : TypeId} {T : Ty α} {H : Type} {enc : TypeId × Value → H} {W : World} {v : Value} {d : DataW H} {p : List MemPlace} (ho : Opens Try.prog t T)
    (h : DataW.Trod enc Try.prog W 0 (fun _ => true) true t v d p) (hp : ∀ x ∈ p, x.block < W.heap.size) (hv : v.cells = #[v]) :
    ∃ x, T.R W W.heap.size [v] x ∧ T.bulk x ≤ Yteeekjidkjdpjaa.Rows.uptoBulk d := by
  obtain ⟨fuel, hf⟩ := h
  obtain ⟨x, hR, hb⟩ := ho.go H enc W 0 _ true fuel _ (d, p) W.heap.size hf hp
  rw [hv] at hR
  exact ⟨x, hR, Nat.le_trans hb (bulk_le d)⟩
/-- what an argument read as, it reads as behind a call that makes new blocks only -/
theorem stays {t : TypeId} {H : Type} {enc : TypeId × Value → H} {W W' : World} {v : Value} {d : DataW H} {p : List MemPlace} (hr : Try.prog.readableRec t = true) (ht : t < Try.prog.types.size)
    (h : DataW.Trod enc Try.prog W 0 (fun _ => true) true t v d p) (hb : Below W.heap.size W W') (hp : ∀ x ∈ p, x.block < W.heap.size) :
    DataW.Trod enc Try.prog W' 0 (fun b => decide (b < W.heap.size)) true t v d p := Below.trod laid_out hr ht h hb hp
end Mu
end
