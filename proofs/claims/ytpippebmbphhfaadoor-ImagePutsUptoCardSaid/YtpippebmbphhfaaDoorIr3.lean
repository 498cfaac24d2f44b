/-
  Own texts laid together, part 3: MuImgJ, ShelfB, ShelfI, MuLaid, MuInst, MuInstE, MuTurnW, MuInstT, MuWrapI, MuWrapS, MuRead0, MuInstD, MuDrawG, MuImgK.
  Conditions: as each part says.
-/
import Derived.Test.YtpippebmbphhfaaDoorIr2
import Derived.Shelf.Small.Bits
import Derived.Shelf.Small.Wraps
import Derived.Shelf.Strconv.Itoa0
import Derived.Shelf.Strconv.Itoa1
import Derived.Shelf.LaysM
import Derived.Shelf.Strconv.Itoa2
import Derived.Shelf.Strconv.Itoa3
import Derived.Ground.Names2Prog
import Derived.Shelf.Slices.SearchI
import Derived.Shelf.Slices.Empties
import Derived.Test.YtpippebmbphhfaaDoorProg
import Derived.Shelf.Unicode.PredsPay
import Derived.Lib.SplitLaws
section
/-
  Two images are the same: muntinref31.Same; is an image great.
  Conditions: the first image's rows are of at most 10^9.
-/
namespace Mu
open Go Go.RowKit Go.Proofs

theorem all_take_next {l m : List Int} {k : Nat} {x y : Int} (h : l.take k = m.take k) (hx : l[k]? = some x) (hy : m[k]? = some y) (hb : (x != y) = false) : l.take (k + 1) = m.take (k + 1) :=
  take_eq_next h hx hy (by simpa using hb)
set_option maxRecDepth 100000 in
set_option maxHeartbeats 4000000 in
theorem refSame_fn (a b : Img) (ha : FineImg a) : Fn Tryd.prog 10 [.agg (encImg a), .agg (encImg b)] (.lit (.bool (sameB a b))) := by
  have hw0 := ha.w
  have hs0 := ha.s
  refine Fn.of_awp Tryd.func10 rfl (by kernel_rfl) rfl Tryd.ntmps10 fun C hC => ?_
  simp only [List.length_cons, List.length_nil, Nat.reduceAdd, Nat.reduceSub, List.replicate_succ, List.replicate_zero, List.cons_append, List.nil_append]
  refine wR (hk := ?_)
  refine Awp.seq fun K2 h2 => ?_
  refine wR (hk := ?_)
  refine Awp.cond rfl (fun hb4 => ?_) (fun hb4 => ?_)
  · refine wR (hk := ?_)
    have : sameB a b = false := by
      rw [Bool.eq_false_iff]
      intro h
      rw [sameB_iff] at h
      subst h
      have h1 : _ = true := hb4
      simp at h1
    rw [this]
    exact Awp.ret ⟨.inr rfl, Fin.cl rfl⟩
  · have h1 : (a.nw != b.nw || a.heap != b.heap || a.many != b.many || a.entry != b.entry || a.stacks != b.stacks || (a.words.length : Int) != (b.words.length : Int) || (a.starts.length : Int) != (b.starts.length : Int)) = false := hb4
    simp only [Bool.or_eq_false_iff, bne_eq_false_iff_eq] at h1
    obtain ⟨⟨⟨⟨⟨⟨q1, q2⟩, q3⟩, q4⟩, q5⟩, q6⟩, q7⟩ := h1
    have q6' : a.words.length = b.words.length := by omega
    have q7' : a.starts.length = b.starts.length := by omega
    refine Awp.skip ?_
    refine h2 _ ?_
    refine nT (hk := ?_)
    refine Awp.seq fun K7 h7 => ?_
    refine wR (hk := ?_)
    refine Awp.block ?_
    refine Awp.loopF (fun k : Nat => ⟨[.any, .any, .ptr 0 0, .ptr 1 0, .any, .lit (.int .i64 (k : Int)), .any, .any, .any, .any, .any, .any, .any, .any, .any, .any, .any, .any, .any, .any, .any, .any, .any, .any, .any, .any, .any, .any, .any, .any, .any, .any, .any, .any, .any, .any, .any, .any, .any, .any, .any, .any, .any, .any, .any, .any, .any, .any, .any, .any, .any, .any, .any, .any, .any, .any, .any, .any, .any, .any, .any, .any, .any, .any, .any, .any, .any, .any, .any, .any, .any, .any, .any, .any, .any, .any, .any, .any, .any, .any, .any, .any, .any, .any, .any, .any, .any, .any, .any, .any, .any, .any, .any, .any], [.box (encImg a), .box (encImg b)]⟩) (fun k => k ≤ a.words.length ∧ a.words.take k = b.words.take k) (fun k => a.words.length - k) 0 ⟨Nat.zero_le _, rfl⟩ (le_TA) ?_
    rintro k ⟨hk, heq⟩
    refine Awp.seq fun K10 h10 => ?_
    refine wR (hk := ?_)
    refine Awp.cond rfl (fun hb12 => ?_) (fun hb12 => ?_)
    · have hlt : k < a.words.length := by simpa using hb12
      obtain ⟨x, hx⟩ : ∃ x, a.words[k]? = some x := ⟨_, List.getElem?_eq_getElem hlt⟩
      obtain ⟨y, hy⟩ : ∃ y, b.words[k]? = some y := ⟨_, List.getElem?_eq_getElem (by omega)⟩
      refine Awp.skip ?_
      refine h10 _ ?_
      refine nT (hk := ?_)
      refine Awp.seq fun K13 h13 => ?_
      refine Awp.block ?_
      refine wD 11 (hk := ?_)
      refine Awp.cond rfl (fun hb15 => ?_) (fun hb15 => ?_)
      · refine wR (hk := ?_)
        have : sameB a b = false := by
          rw [Bool.eq_false_iff]
          intro h
          rw [sameB_iff] at h
          subst h
          rw [hx] at hy
          cases hy
          have h1 : (x != x) = true := hb15
          simp at h1
        rw [this]
        exact Awp.ret ⟨.inr rfl, Fin.cl rfl⟩
      · refine Awp.skip ?_
        refine h13 _ ?_
        refine nT (hk := ?_)
        refine wRE (hk := ?_)
        refine athen_n ⟨k + 1, ⟨by omega, all_take_next heq hx hy hb15⟩, by omega, le_TA⟩
    · refine Awp.exit ?_
      refine h7 _ ?_
      refine nT (hk := ?_)
      have hke : k = a.words.length := by have : ¬ k < a.words.length := (by simpa using hb12); omega
      have hwe : a.words = b.words := by rw [hke, List.take_length, q6', List.take_length] at heq; exact heq
      refine Awp.seq fun K19 h19 => ?_
      refine wR (hk := ?_)
      refine Awp.block ?_
      refine Awp.loopF (fun k : Nat => ⟨[.any, .any, .ptr 0 0, .ptr 1 0, .any, .any, .lit (.int .i64 (k : Int)), .any, .any, .any, .any, .any, .any, .any, .any, .any, .any, .any, .any, .any, .any, .any, .any, .any, .any, .any, .any, .any, .any, .any, .any, .any, .any, .any, .any, .any, .any, .any, .any, .any, .any, .any, .any, .any, .any, .any, .any, .any, .any, .any, .any, .any, .any, .any, .any, .any, .any, .any, .any, .any, .any, .any, .any, .any, .any, .any, .any, .any, .any, .any, .any, .any, .any, .any, .any, .any, .any, .any, .any, .any, .any, .any, .any, .any, .any, .any, .any, .any, .any, .any, .any, .any, .any, .any], [.box (encImg a), .box (encImg b)]⟩) (fun k => k ≤ a.starts.length ∧ a.starts.take k = b.starts.take k) (fun k => a.starts.length - k) 0 ⟨Nat.zero_le _, rfl⟩ (le_TA) ?_
      rintro k2 ⟨hk2, heq2⟩
      refine Awp.seq fun K22 h22 => ?_
      refine wR (hk := ?_)
      refine Awp.cond rfl (fun hb24 => ?_) (fun hb24 => ?_)
      · have hlt : k2 < a.starts.length := by simpa using hb24
        obtain ⟨x, hx⟩ : ∃ x, a.starts[k2]? = some x := ⟨_, List.getElem?_eq_getElem hlt⟩
        obtain ⟨y, hy⟩ : ∃ y, b.starts[k2]? = some y := ⟨_, List.getElem?_eq_getElem (by omega)⟩
        refine Awp.skip ?_
        refine h22 _ ?_
        refine nT (hk := ?_)
        refine Awp.seq fun K25 h25 => ?_
        refine Awp.block ?_
        refine wD 11 (hk := ?_)
        refine Awp.cond rfl (fun hb27 => ?_) (fun hb27 => ?_)
        · refine wR (hk := ?_)
          have : sameB a b = false := by
            rw [Bool.eq_false_iff]
            intro h
            rw [sameB_iff] at h
            subst h
            rw [hx] at hy
            cases hy
            have h1 : (x != x) = true := hb27
            simp at h1
          rw [this]
          exact Awp.ret ⟨.inr rfl, Fin.cl rfl⟩
        · refine Awp.skip ?_
          refine h25 _ ?_
          refine nT (hk := ?_)
          refine wRE (hk := ?_)
          refine athen_n ⟨k2 + 1, ⟨by omega, all_take_next heq2 hx hy hb27⟩, by omega, le_TA⟩
      · refine Awp.exit ?_
        refine h19 _ ?_
        refine nT (hk := ?_)
        refine wR (hk := ?_)
        have hke2 : k2 = a.starts.length := by have : ¬ k2 < a.starts.length := (by simpa using hb24); omega
        have hse : a.starts = b.starts := by rw [hke2, List.take_length, q7', List.take_length] at heq2; exact heq2
        have : sameB a b = true := by
          unfold sameB
          exact decide_eq_true ⟨q1, q2, q3, q4, q5, hwe, hse⟩
        rw [this]
        exact Awp.ret ⟨.inr rfl, Fin.cl rfl⟩
def greatI (x : Img) : Bool := decide (500 < x.words.length ∨ 100 < x.starts.length)
set_option maxRecDepth 100000 in
theorem great31_fn (x : Img) : Fn Tryd.prog 12 [.agg (encImg x)] (.lit (.bool (greatI x))) := by
  refine Fn.of_awp Tryd.func12 rfl (by kernel_rfl) rfl Tryd.ntmps12 fun C hC => ?_
  simp only [List.length_cons, List.length_nil, Nat.reduceAdd, Nat.reduceSub, List.replicate_succ, List.replicate_zero, List.cons_append, List.nil_append]
  refine wR (hk := ?_)
  refine wR (hk := ?_)
  refine Awp.ret ⟨.inr rfl, Fin.eqb ?_⟩
  unfold greatI
  rw [Bool.eq_iff_iff]
  simp only [Bool.or_eq_true, decide_eq_true_eq]
  omega
end Mu
end
section
/-
  The shelf's contracts at this dump, in plain words: small numbers' digits, the search in a rising row.
  Conditions: as each says.
-/
namespace Go.Proofs
open Go.Shelf
def Tryd.lays171_ren : Go.Shelf.Ren := ⟨fun | 171 => 54 | 243 => 72 | 246 => 87 | 283 => 94 | 284 => 95 | 285 => 96 | 286 => 97 | 129 => 100 | 317 => 99 | 318 => 101 | 319 => 102 | 320 => 103 | 337 => 104 | 338 => 105 | n => n, fun | 3 => 3 | 9 => 9 | 2 => 2 | 4 => 4 | 171 => 116 | 0 => 0 | 53 => 46 | 37 => 40 | 5 => 5 | 173 => 119 | 212 => 128 | 51 => 39 | 20 => 20 | 213 => 129 | 46 => 41 | 232 => 133 | 233 => 134 | n => n, fun | 17 => 4 | 18 => 5 | 19 => 6 | n => n⟩
theorem Tryd.lays171 : Go.Proofs.Lays.n171 Tryd.prog Tryd.lays171_ren := {
  mixed := by kernel_rfl
  f129 := Tryd.func100.trans (congrArg some (by kernel_rfl))
  f171 := Tryd.func54.trans (congrArg some (by kernel_rfl))
  f243 := Tryd.func72.trans (congrArg some (by kernel_rfl))
  f246 := Tryd.func87.trans (congrArg some (by kernel_rfl))
  f283 := Tryd.func94.trans (congrArg some (by kernel_rfl))
  f284 := Tryd.func95.trans (congrArg some (by kernel_rfl))
  f285 := Tryd.func96.trans (congrArg some (by kernel_rfl))
  f286 := Tryd.func97.trans (congrArg some (by kernel_rfl))
  f317 := Tryd.func99.trans (congrArg some (by kernel_rfl))
  f318 := Tryd.func101.trans (congrArg some (by kernel_rfl))
  f319 := Tryd.func102.trans (congrArg some (by kernel_rfl))
  f320 := Tryd.func103.trans (congrArg some (by kernel_rfl))
  f337 := Tryd.func104.trans (congrArg some (by kernel_rfl))
  f338 := Tryd.func105.trans (congrArg some (by kernel_rfl))
  t0 := Tryd.underlying0
  a0 := Tryd.isAgg0
  z0 := Tryd.sizeOf0
  v0 := Tryd.zeroValue0
  t2 := Tryd.underlying2
  a2 := Tryd.isAgg2
  z2 := Tryd.sizeOf2
  v2 := Tryd.zeroValue2
  t3 := Tryd.underlying3
  a3 := Tryd.isAgg3
  z3 := Tryd.sizeOf3
  v3 := Tryd.zeroValue3
  t4 := Tryd.underlying4
  a4 := Tryd.isAgg4
  z4 := Tryd.sizeOf4
  v4 := Tryd.zeroValue4
  t5 := Tryd.underlying5
  a5 := Tryd.isAgg5
  z5 := Tryd.sizeOf5
  v5 := Tryd.zeroValue5
  t9 := Tryd.underlying9
  a9 := Tryd.isAgg9
  z9 := Tryd.sizeOf9
  v9 := Tryd.zeroValue9
  t20 := Tryd.underlying20
  a20 := Tryd.isAgg20
  z20 := Tryd.sizeOf20
  v20 := Tryd.zeroValue20
  t37 := Tryd.underlying40
  a37 := Tryd.isAgg40
  z37 := Tryd.sizeOf40
  v37 := Tryd.zeroValue40
  t46 := Tryd.underlying41
  a46 := Tryd.isAgg41
  z46 := Tryd.sizeOf41
  v46 := Tryd.zeroValue41
  t51 := Tryd.underlying39
  a51 := Tryd.isAgg39
  z51 := Tryd.sizeOf39
  v51 := Tryd.zeroValue39
  t53 := Tryd.underlying46
  a53 := Tryd.isAgg46
  z53 := Tryd.sizeOf46
  v53 := Tryd.zeroValue46
  t171 := Tryd.underlying116
  a171 := Tryd.isAgg116
  z171 := Tryd.sizeOf116
  v171 := Tryd.zeroValue116
  t173 := Tryd.underlying119
  a173 := Tryd.isAgg119
  z173 := Tryd.sizeOf119
  v173 := Tryd.zeroValue119
  t212 := Tryd.underlying128
  a212 := Tryd.isAgg128
  z212 := Tryd.sizeOf128
  v212 := Tryd.zeroValue128
  t213 := Tryd.underlying129
  a213 := Tryd.isAgg129
  z213 := Tryd.sizeOf129
  t232 := Tryd.underlying133
  a232 := Tryd.isAgg133
  z232 := Tryd.sizeOf133
  v232 := Tryd.zeroValue133
  t233 := Tryd.underlying134
  a233 := Tryd.isAgg134
  z233 := Tryd.sizeOf134
  v233 := Tryd.zeroValue134
  g17 := by kernel_rfl
  g18 := by kernel_rfl
  g19 := by kernel_rfl }
end Go.Proofs
end
section
/-
  strconv.Itoa at any int, where its table of tens is laid.
  Conditions: the table is laid.
-/
namespace Mu
open Go Go.RowKit Go.Proofs
theorem laysI : Go.Proofs.LaysM.n171 Tryd.prog Tryd.lays171_ren := { Tryd.lays171 with
  i0 := by kernel_rfl
  i2 := by kernel_rfl
  i3 := by kernel_rfl
  i4 := by kernel_rfl
  i5 := by kernel_rfl
  i9 := by kernel_rfl
  i20 := by kernel_rfl
  i37 := by kernel_rfl
  i46 := by kernel_rfl
  i51 := by kernel_rfl
  i53 := by kernel_rfl
  i171 := by kernel_rfl
  i173 := by kernel_rfl
  i212 := by kernel_rfl
  i232 := by kernel_rfl
  i233 := by kernel_rfl
  m17 := by kernel_rfl
  m18 := by kernel_rfl
  m19 := by kernel_rfl }
/-- the powers of ten are laid -/
def TensLaid (w : World) : Prop := Lib.TabIs Tryd.prog w "internal/strconv.uint64pow10" .u64 Lib.pow10Tab
theorem tens_lasts : Lasts TensLaid := fun w w' h hb => Go.Proofs.TabIs_below (g := 4) (by kernel_rfl) h hb
theorem grow_below (w : World) (k : Nat) (os : Array Obj) : Below w.heap.size w (Go.Sort.grow (w.drewN k) os) :=
  ⟨rfl, rfl, rfl, by show w.heap.size ≤ (w.heap ++ os).size; simp, fun j hj => by show (w.heap ++ os)[j]? = w.heap[j]?; exact Array.getElem?_append_left hj⟩
def itoaB (n : Int) : ByteArray := ⟨(Lib.itoa n).toArray⟩
theorem itoaT_fn (n : Int) (hn : (Lit.int .i64 n).wf = true) : FnT TensLaid Tryd.prog 54 [.lit (.int .i64 n)] (.lit (.string (itoaB n))) := by
  refine ⟨by kernel_rfl, fun w S vs hG hS hr => ?_⟩
  obtain rfl := relL_lit1 hr
  have hb := wfI_i64 hn
  refine (Any.strconv_Itoa laysI n hb.1 hb.2 w hG).mono fun e w' ⟨he, k, os, hw⟩ => ?_
  subst hw
  have hbel : Below w.heap.size w (Go.Sort.grow (w.drewN k) os) := grow_below w k os
  exact ⟨_, he, hbel, S, fun _ h => h, fun _ h => .inl h, fun k hk => Nat.lt_of_lt_of_le (hS k hk) hbel.size, by unfold AV.rel; rfl⟩
end Mu
end
section
/-
  Tables that are laid: an element's address, its value; contracts of two results under a premise on the world; what an instruction has, and its number's bounds.
  Conditions: as each says.
-/
namespace Mu
open Go Go.RowKit Go.Proofs Go.ChangeShapes Go.WideShapes

theorem FnT.of_awp2 {P : Program} {G : World → Prop} {f : FuncId} {fn : Go.Func} {c : Code} {args : List AV} {r q : AV} {t u : Tmp} {n : Nat} (hf : P.funcs[f]? = some fn) (hb : fn.body = some c) (hE : Enters P f = true) (hres : fn.results = #[.tmp t, .tmp u]) (hn : fn.ntmps = n)
    (h : ∀ C : Ctx, C.std → G C.w0 → Awp P C c (Rets2 t u r q) ⟨args ++ List.replicate (n - args.length) (.lit undef), []⟩) : FnT G P f args (.tup [r, q]) := by
  refine ⟨hE, fun w S vs hG hS hr => calls_of_wp hf hb ?_⟩
  rw [hn]
  refine wp_mono ((h ⟨w, S, fun k => k < w.heap.size, none⟩ (fun _ h => h) hG).wp rfl (start_rel hS hr)) ?_
  rintro e a' w' ⟨s, ⟨he, r', q', hfin, rfl, rfl⟩, hd, S1, ψ, H, hl⟩
  rw [hfin.1] at hd
  have hv : AV.rel w' S1 s.h ψ (.tup [evA s.t (.tmp t), evA s.t (.tmp u)]) (.tuple #[a'.eval (.tmp t), a'.eval (.tmp u)]) := by
    unfold AV.rel
    refine ⟨[a'.eval (.tmp t), a'.eval (.tmp u)], rfl, ?_⟩
    unfold AV.relL
    refine ⟨_, _, rfl, ev_rel hl (.tmp t), ?_⟩
    unfold AV.relL
    refine ⟨_, _, rfl, ev_rel hl (.tmp u), ?_⟩
    unfold AV.relL
    rfl
  have hg := good_final H hfin hv
  have hres' : (results fn a'.tmps).run P w' = .ok (.tuple #[a'.eval (.tmp t), a'.eval (.tmp u)]) w' := results_tmp2 hres _ _ _
  rcases he with rfl | rfl
  · exact ⟨hd, _, hres', _, rfl, hg⟩
  · exact ⟨hd, _, hres', _, rfl, hg⟩
theorem FnT.of_awpC2 {P : Program} {G : World → Prop} {f : FuncId} {fn : Go.Func} {c : Code} {args : List AV} {r q : AV} {t u : Tmp} {ty : TypeId} {n m : Nat} (hf : P.funcs[f]? = some fn) (hb : fn.body = some c) (hE : Enters P f = true) (hres : fn.results = #[.cell t ty, .tmp u]) (ha : aggT P ty = some (true, m)) (hn : fn.ntmps = n)
    (h : ∀ C : Ctx, C.std → G C.w0 → Awp P C c (RetsC2 t u m r q) ⟨args ++ List.replicate (n - args.length) (.lit undef), []⟩) : FnT G P f args (.tup [r, q]) := by
  refine ⟨hE, fun w S vs hG hS hr => calls_of_wp hf hb ?_⟩
  rw [hn]
  refine wp_mono ((h ⟨w, S, fun k => k < w.heap.size, none⟩ (fun _ h => h) hG).wp rfl (start_rel hS hr)) ?_
  rintro e a' w' ⟨s, ⟨he, i, cells, hev, hi, hm, hfin⟩, hd, S1, ψ, H, hl⟩
  rw [hfin.1] at hd
  have hv := ev_rel hl (.tmp t)
  rw [hev] at hv
  unfold AV.rel at hv
  obtain ⟨g, h1, h2⟩ := hv.2 (by rw [hi]; rfl)
  obtain ⟨g', cs, e', h3, _, _, h4, h5⟩ := H.blk i _ hi
  rw [h1] at h3
  cases h3
  have hc : ∀ j v, cs[j]? = some v → w'.cell? ⟨g, 0 + j, none⟩ = some v := fun j v hv => by simp [World.cell?, h4, hv]
  have hload := run_load_agg (P := P) (ty := ty) (b := g) (off := 0) ha (by rw [relL_len h5]; exact hm) hc
  have hres' : (results fn a'.tmps).run P w' = .ok (.tuple #[.agg cs.toArray, a'.eval (.tmp u)]) w' := by
    have e1 : (a'.tmps[t]?).getD undef = .pointer (some ⟨g, 0, none⟩) := by rw [← Array.getD_eq_getD_getElem?]; exact h2
    have e2 : (a'.tmps[u]?).getD undef = a'.eval (.tmp u) := by rw [← Array.getD_eq_getD_getElem?]; rfl
    unfold Instr.loadAt Instr.sureAddr at hload
    simp only [Sem.run_bind, Sem.run_pure, Result.andThen_ok] at hload
    simp [results, hres, e1, e2, asAddr, hload]
  have hrl : AV.rel w' S1 s.h ψ (.tup [.agg cells, evA s.t (.tmp u)]) (.tuple #[.agg cs.toArray, a'.eval (.tmp u)]) := by
    unfold AV.rel
    refine ⟨[.agg cs.toArray, a'.eval (.tmp u)], rfl, ?_⟩
    unfold AV.relL
    refine ⟨_, _, rfl, (by unfold AV.rel; exact ⟨cs, rfl, h5⟩), ?_⟩
    unfold AV.relL
    refine ⟨_, _, rfl, ev_rel hl (.tmp u), ?_⟩
    unfold AV.relL
    rfl
  have hg : Good w S [] ψ0 (.tup [r, q]) (.tuple #[.agg cs.toArray, a'.eval (.tmp u)]) w' := by
    first
      | exact good_final H hfin hrl
      | exact good_final (a' := a') H hfin hrl
  rcases he with rfl | rfl
  · exact ⟨hd, _, hres', _, rfl, hg⟩
  · exact ⟨hd, _, hres', _, rfl, hg⟩
section
variable {P : Program} {C : Ctx} {t : List AV} {h : List ABlk} {o : Oper}
def tabOf (P : Program) (ty : TypeId) : Option (Nat × Nat) :=
  match P.underlying ty with
  | some (.array n e) => (P.info? e).map fun i => (n, i.size)
  | _ => none
theorem run_indexAt_tab {ty : TypeId} {b off n sz k : Nat} {ik : IntKind} {w : World} (hs : tabOf P ty = some (n, sz)) (hk : k < n) : (Instr.indexAt ty (.pointer (some ⟨b, off, none⟩)) (.int ik (k : Int))).run P w = .ok (.pointer (some ⟨b, off + k * sz, none⟩)) w := by
  unfold tabOf at hs
  split at hs <;> try (cases hs; done)
  rename_i n' e h1
  cases h2 : P.info? e with
  | none => rw [h2] at hs; cases hs
  | some i =>
    rw [h2] at hs
    simp only [Option.map_some, Option.some.injEq, Prod.mk.injEq] at hs
    obtain ⟨rfl, rfl⟩ := hs
    have h3 : (0 : Int) ≤ (k : Int) ∧ (k : Int) < (n' : Int) := by omega
    simp [Instr.indexAt, asIntOf, underlying, h1, Instr.sureAddr, Go.sizeOf, typeInfo, h2, add_plain, hk]
theorem Quiet.tabAt {ty : TypeId} {g : Nat} {y : Operand} {ik : IntKind} {n k : Nat} (hs : tabOf P ty = some (n, 1)) (ho : o.op = .indexAddr ty (.global g) y) (hy : evA t y = .lit (.int ik (k : Int))) (hk : k < n) : Quiet P C t h o (.lit (.pointer (some ⟨g, k, none⟩))) :=
  Quiet.of_run fun S ψ w ρ H hρ => by
    have h1 := hρ (.global g) (by simp [ho, Op.operands])
    have h2 := hρ y (by simp [ho, Op.operands])
    rw [hy] at h2
    unfold evA at h1
    unfold AV.rel at h1 h2
    have hr := run_indexAt_tab (P := P) (w := w) (b := g) (off := 0) (ik := ik) hs hk
    rw [Nat.mul_one, Nat.zero_add] at hr
    exact ⟨.pointer (some ⟨g, k, none⟩), by simp [execOp, ho, h1, h2, hr], by unfold AV.rel; rfl⟩
theorem Quiet.tabLd {ty : TypeId} {x : Operand} {name : String} {kk : IntKind} {zs : List Int} {g n k : Nat} {z : Int} (hC : C.std) (hG : Lib.TabIs P C.w0 name kk zs) (hg : P.globalNamed name = some g) (ha : aggT P ty = some (false, n)) (ho : o.op = .load ty x) (hx : evA t x = .lit (.pointer (some ⟨g, k, none⟩))) (hk : zs[k]? = some z) : Quiet P C t h o (.lit (.int kk z)) :=
  Quiet.of_run fun S ψ w ρ H hρ => by
    have h1 := hρ x (by simp [ho, Op.operands])
    rw [hx] at h1
    unfold AV.rel at h1
    have hT : Lib.TabIs P w name kk zs := TabIs_below hg hG (H.bel.below hC)
    have hlt : k < zs.length := (List.getElem?_eq_some_iff.1 hk).1
    have hc := hT.cell hg k hlt
    rw [List.getD_eq_getElem?_getD, hk] at hc
    exact ⟨_, by simp [execOp, ho, h1, run_load_one ha hc]; rfl, by unfold AV.rel; rfl⟩
end
/-! ### what an instruction has -/
def fieldsL : List Int := [128, 7, 7, 7, 7, 7, 7, 7, 7, 7, 7, 7, 7, 7, 7, 25, 6, 25, 24, 7, 7, 7, 7, 7, 7, 7, 1, 6, 1, 6, 9, 10, 0, 8, 1, 2, 2, 8]
def FieldsLaid (w : World) : Prop := Lib.TabIs Tryd.prog w "muntin/inst.fields" .u8 fieldsL
/-- what is laid, and stays -/
structure GL (w : World) : Prop where
  tens : TensLaid w
  fields : FieldsLaid w
  most : ∃ m : Int, w.cell? ⟨0, 0, none⟩ = some (.int .i64 m)
theorem gl_lasts : Lasts GL := fun w w' h hb => ⟨tens_lasts w w' h.tens hb, TabIs_below (g := 1) (by kernel_rfl) h.fields hb, by
  obtain ⟨m, hm⟩ := h.most
  refine ⟨m, ?_⟩
  unfold World.cell? at hm ⊢
  have hlt : 0 < w.heap.size := by
    rcases Nat.lt_or_ge (0) w.heap.size with h1 | h1
    · exact h1
    · rw [Array.getElem?_eq_none h1] at hm
      cases hm
  rw [hb.block _ hlt]
  exact hm⟩
def hasP (op : Int) : Int := if op ≥ 38 then 128 else fieldsL.getD op.toNat 0
set_option maxRecDepth 100000 in
theorem has_fn (op : Int) (h : wfI .u8 op) : FnT GL Tryd.prog 74 [.lit (.int .u8 op)] (.lit (.int .u8 (hasP op))) := by
  have hb := wfI_u8 h
  obtain ⟨k, rfl⟩ : ∃ k : Nat, op = (k : Int) := ⟨op.toNat, by omega⟩
  have hcv : IntKind.i64.wrap (k : Int) = (k : Int) := IntWalk.i64_in _ (by omega)
  refine FnT.of_awp Tryd.func74 rfl (by kernel_rfl) rfl Tryd.ntmps74 fun C hC hG => ?_
  simp only [List.length_cons, List.length_nil, Nat.reduceAdd, Nat.reduceSub, List.replicate_succ, List.replicate_zero, List.cons_append, List.nil_append]
  refine wR (hk := ?_)
  refine Awp.seq fun K2 h2 => ?_
  refine wR (hk := ?_)
  refine Awp.cond rfl (fun hb4 => ?_) (fun hb4 => ?_)
  · refine wR (hk := ?_)
    have h1 : (k : Int) ≥ 38 := of_decide_eq_true hb4
    have e : hasP (k : Int) = 128 := if_pos h1
    rw [e]
    exact Awp.ret ⟨.inr rfl, Fin.cl rfl⟩
  · have h1 : ¬ (k : Int) ≥ 38 := of_decide_eq_false hb4
    have hk : k < 38 := by omega
    obtain ⟨z, hz⟩ : ∃ z, fieldsL[k]? = some z := ⟨_, List.getElem?_eq_getElem (by show k < 38; exact hk)⟩
    have hF := hG.fields
    have e : hasP (k : Int) = z := by
      unfold hasP
      rw [if_neg h1, List.getD_eq_getElem?_getD]
      show (fieldsL[k]?).getD 0 = z
      rw [hz]
      rfl
    refine Awp.skip ?_
    refine h2 _ ?_
    refine nT (hk := ?_)
    refine wR (hx := by ((repeat (first | refine sA (hq := Quiet.tabAt (n := 38) (by kernel_rfl) rfl rfl hk) (hk := ?_) | refine sA (hq := Quiet.tabLd (n := 1) (g := 1) hC hF (by kernel_rfl) (by kernel_rfl) rfl rfl hz) (hk := ?_) | refine sA (hk := ?_) | refine sSkip (hk := ?_) | refine sAG (hq := by (intro hg; (try simp only [Bool.and_eq_true, beq_true, beq_false, Bool.not_eq_true', Bool.not_eq_eq_eq_not, Bool.not_true, Bool.not_false] at hg); (try simp only [hg, beq_true, beq_false, cond_true, Bool.true_and, Bool.and_true, Bool.not_false, Bool.not_true, beq_self_eq_true]); exact Quiet.tabAt (n := 38) (by kernel_rfl) rfl rfl hk)) (hk := ?_) | refine sAG (hq := by (intro hg; (try simp only [Bool.and_eq_true, beq_true, beq_false, Bool.not_eq_true', Bool.not_eq_eq_eq_not, Bool.not_true, Bool.not_false] at hg); (try simp only [hg, beq_true, beq_false, cond_true, Bool.true_and, Bool.and_true, Bool.not_false, Bool.not_true, beq_self_eq_true]); exact Quiet.tabLd (n := 1) (g := 1) hC hF (by kernel_rfl) (by kernel_rfl) rfl rfl hz)) (hk := ?_) | refine sAG (hk := ?_) | refine sOwn (hk := ?_))); exact wEnd rfl)) (hk := ?_)
    rw [e]
    exact Awp.ret ⟨.inr rfl, Fin.cl rfl⟩
def lowP (op : Int) : Int := if op = 15 then 0 else if op = 17 ∨ op = 18 then -1048576 else if op = 30 ∨ op = 31 then 0 else if op = 33 then 3 else if op = 37 then 1 else -16384
def highP (op : Int) : Int := if op = 15 then 2097151 else if op = 17 ∨ op = 18 then 1048575 else if op = 30 ∨ op = 31 then 1 else if op = 33 then 4 else if op = 37 then 3 else 16383
end Mu
end
section
/-
  An instruction: its number's bounds; may it be.
  Conditions: the table of fields is laid.
-/
namespace Mu
open Go Go.RowKit Go.Proofs

structure InstM where
  op : Int
  rd : Int
  rs1 : Int
  rs2 : Int
  is_ : Bool
  imm : Int
def encInstM (x : InstM) : List AV := [.lit (.int .u8 x.op), .lit (.int .u8 x.rd), .lit (.int .u8 x.rs1), .lit (.int .u8 x.rs2), .lit (.bool x.is_), .lit (.int .i32 x.imm)]
structure okInstM (x : InstM) : Prop where
  op : wfI .u8 x.op
  rd : wfI .u8 x.rd
  rs1 : wfI .u8 x.rs1
  rs2 : wfI .u8 x.rs2
  imm : wfI .i32 x.imm
theorem plInstM : places? Tryd.prog 75 = some [(0, 1), (1, 1), (2, 1), (3, 1), (4, 1), (5, 1)] := by kernel_rfl
instance inMuInst2 : AG Tryd.prog 75 true 6 := ⟨by kernel_rfl⟩
instance inMuInst3 : SZ Tryd.prog 75 6 := ⟨by kernel_rfl⟩
instance inMuInst4 : FO Tryd.prog 75 0 0 := ⟨by kernel_rfl⟩
instance inMuInst5 : FO Tryd.prog 75 1 1 := ⟨by kernel_rfl⟩
instance inMuInst6 : FO Tryd.prog 75 2 2 := ⟨by kernel_rfl⟩
instance inMuInst7 : FO Tryd.prog 75 3 3 := ⟨by kernel_rfl⟩
instance inMuInst8 : FO Tryd.prog 75 4 4 := ⟨by kernel_rfl⟩
instance inMuInst9 : FO Tryd.prog 75 5 5 := ⟨by kernel_rfl⟩
instance inMuInst10 : ZC Tryd.prog 75 [.int .u8 0, .int .u8 0, .int .u8 0, .int .u8 0, .bool false, .int .i32 0] := ⟨by kernel_rfl⟩
instance inMuInst12 : AG Tryd.prog 21 false 1 := ⟨by kernel_rfl⟩
instance inMuInst13 : SZ Tryd.prog 21 1 := ⟨by kernel_rfl⟩
set_option maxRecDepth 100000 in
set_option maxHeartbeats 2000000 in
theorem bounds_fn (op : Int) : Fn Tryd.prog 98 [.lit (.int .u8 op)] (.tup [.lit (.int .i32 (lowP op)), .lit (.int .i32 (highP op))]) := by
  refine Fn.of_awp2 Tryd.func98 rfl (by kernel_rfl) rfl Tryd.ntmps98 fun C hC => ?_
  simp only [List.length_cons, List.length_nil, Nat.reduceAdd, Nat.reduceSub, List.replicate_succ, List.replicate_zero, List.cons_append, List.nil_append]
  refine wR (hk := ?_)
  refine Awp.seq fun K2 h2 => ?_
  refine wR (hk := ?_)
  refine Awp.block ?_
  refine wR (hk := ?_)
  refine Awp.cond rfl (fun hb5 => ?_) (fun hb5 => ?_)
  · refine wR (hk := ?_)
    have h1 : op = 15 := by have : (op == 15) = true := hb5; simpa using this
    have e1 : lowP op = 0 := by unfold lowP; rw [if_pos h1]
    have e2 : highP op = 2097151 := by unfold highP; rw [if_pos h1]
    rw [e1, e2]
    exact Awp.ret ⟨.inr rfl, _, _, Fin.cl rfl, rfl, rfl⟩
  · have n15 : ¬ op = 15 := by have : (op == 15) = false := hb5; simpa using this
    refine Awp.seqc ⟨[.any, .any, .lit (.int .i32 0), .lit (.int .i32 0), .lit (.int .u8 op), .any, .any, .lit (.bool (decide (op = 17 ∨ op = 18))), .any, .any, .any, .any, .any, .any, .any, .any, .any], []⟩ ?_ ?_
    · refine wR (hk := ?_)
      refine Awp.cond rfl (fun hb10 => ?_) (fun hb10 => ?_)
      · have e : decide (op = 17 ∨ op = 18) = (op == 17) := by have h1 : (op == 17) = true := hb10; rw [h1]; exact decide_eq_true (.inl (by simpa using h1))
        refine Awp.skip ?_
        rw [e]
        exact le_TA
      · have e : decide (op = 17 ∨ op = 18) = (op == 18) := by have h1 : (op == 17) = false := hb10; rw [Bool.eq_iff_iff]; simp at h1 ⊢; omega
        refine wRE (hk := ?_)
        rw [e]
        exact le_TA
    · refine Awp.cond rfl (fun hb12 => ?_) (fun hb12 => ?_)
      · refine wR (hk := ?_)
        have h1 : op = 17 ∨ op = 18 := of_decide_eq_true hb12
        have e1 : lowP op = -1048576 := by unfold lowP; rw [if_neg n15, if_pos h1]
        have e2 : highP op = 1048575 := by unfold highP; rw [if_neg n15, if_pos h1]
        rw [e1, e2]
        exact Awp.ret ⟨.inr rfl, _, _, Fin.cl rfl, rfl, rfl⟩
      · have n17 : ¬ (op = 17 ∨ op = 18) := of_decide_eq_false hb12
        refine Awp.seqc ⟨[.any, .any, .lit (.int .i32 0), .lit (.int .i32 0), .lit (.int .u8 op), .any, .any, .any, .any, .any, .lit (.bool (decide (op = 30 ∨ op = 31))), .any, .any, .any, .any, .any, .any], []⟩ ?_ ?_
        · refine wR (hk := ?_)
          refine Awp.cond rfl (fun hb17 => ?_) (fun hb17 => ?_)
          · have e : decide (op = 30 ∨ op = 31) = (op == 30) := by have h1 : (op == 30) = true := hb17; rw [h1]; exact decide_eq_true (.inl (by simpa using h1))
            refine Awp.skip ?_
            rw [e]
            exact le_TA
          · have e : decide (op = 30 ∨ op = 31) = (op == 31) := by have h1 : (op == 30) = false := hb17; rw [Bool.eq_iff_iff]; simp at h1 ⊢; omega
            refine wRE (hk := ?_)
            rw [e]
            exact le_TA
        · refine Awp.cond rfl (fun hb19 => ?_) (fun hb19 => ?_)
          · refine wR (hk := ?_)
            have h1 : op = 30 ∨ op = 31 := of_decide_eq_true hb19
            have e1 : lowP op = 0 := by unfold lowP; rw [if_neg n15, if_neg n17, if_pos h1]
            have e2 : highP op = 1 := by unfold highP; rw [if_neg n15, if_neg n17, if_pos h1]
            rw [e1, e2]
            exact Awp.ret ⟨.inr rfl, _, _, Fin.cl rfl, rfl, rfl⟩
          · have n30 : ¬ (op = 30 ∨ op = 31) := of_decide_eq_false hb19
            refine wR (hk := ?_)
            refine Awp.cond rfl (fun hb23 => ?_) (fun hb23 => ?_)
            · refine wR (hk := ?_)
              have h1 : op = 33 := by have : (op == 33) = true := hb23; simpa using this
              have e1 : lowP op = 3 := by unfold lowP; rw [if_neg n15, if_neg n17, if_neg n30, if_pos h1]
              have e2 : highP op = 4 := by unfold highP; rw [if_neg n15, if_neg n17, if_neg n30, if_pos h1]
              rw [e1, e2]
              exact Awp.ret ⟨.inr rfl, _, _, Fin.cl rfl, rfl, rfl⟩
            · have n33 : ¬ op = 33 := by have : (op == 33) = false := hb23; simpa using this
              refine wR (hk := ?_)
              refine Awp.cond rfl (fun hb27 => ?_) (fun hb27 => ?_)
              · refine wR (hk := ?_)
                have h1 : op = 37 := by have : (op == 37) = true := hb27; simpa using this
                have e1 : lowP op = 1 := by unfold lowP; rw [if_neg n15, if_neg n17, if_neg n30, if_neg n33, if_pos h1]
                have e2 : highP op = 3 := by unfold highP; rw [if_neg n15, if_neg n17, if_neg n30, if_neg n33, if_pos h1]
                rw [e1, e2]
                exact Awp.ret ⟨.inr rfl, _, _, Fin.cl rfl, rfl, rfl⟩
              · have n37 : ¬ op = 37 := by have : (op == 37) = false := hb27; simpa using this
                refine Awp.skip ?_
                refine h2 _ ?_
                refine nT (hk := ?_)
                refine wR (hk := ?_)
                have e1 : lowP op = -16384 := by unfold lowP; rw [if_neg n15, if_neg n17, if_neg n30, if_neg n33, if_neg n37]
                have e2 : highP op = 16383 := by unfold highP; rw [if_neg n15, if_neg n17, if_neg n30, if_neg n33, if_neg n37]
                rw [e1, e2]
                exact Awp.ret ⟨.inr rfl, _, _, Fin.cl rfl, rfl, rfl⟩
def hasBit (op m : Int) : Bool := bits .and .u8 (hasP op) m != 0
def isNum (x : InstM) : Bool := hasBit x.op 8 || (hasBit x.op 4 && x.is_)
def plainI (x : InstM) : InstM := ⟨x.op, if hasBit x.op 1 = true then x.rd else 0, if hasBit x.op 2 = true then x.rs1 else 0, if isNum x = true then 0 else if hasBit x.op 4 = true then x.rs2 else 0, isNum x, if isNum x = true then x.imm else 0⟩
def sameI (a b : InstM) : Bool := a.op == b.op && (a.rd == b.rd && (a.rs1 == b.rs1 && (a.rs2 == b.rs2 && (a.is_ == b.is_ && (a.imm == b.imm && true)))))
def badI (x : InstM) : Bool := hasP x.op == 128 || decide (x.rd > 31) || decide (x.rs1 > 31) || decide (x.rs2 > 31) || (x.op == 17 && decide (x.rd > 6))
/-- may an instruction be -/
def mayI (x : InstM) : Bool := !badI x && (sameI (plainI x) x && (!x.is_ || (decide (x.imm ≥ lowP x.op) && decide (x.imm ≤ highP x.op))))
set_option maxRecDepth 100000 in
set_option maxHeartbeats 4000000 in
theorem mayI_fn (x : InstM) (H : okInstM x) : FnT GL Tryd.prog 88 [.agg (encInstM x)] (.lit (.bool (mayI x))) := by
  have hL := gl_lasts
  have hhas := has_fn x.op H.op
  have hbnd := bounds_fn x.op
  obtain ⟨rd', hrd⟩ : ∃ r, r = if hasBit x.op 1 = true then x.rd else 0 := ⟨_, rfl⟩
  obtain ⟨rs', hrs⟩ : ∃ r, r = if hasBit x.op 2 = true then x.rs1 else 0 := ⟨_, rfl⟩
  obtain ⟨rt', hrt⟩ : ∃ r, r = if isNum x = true then 0 else if hasBit x.op 4 = true then x.rs2 else 0 := ⟨_, rfl⟩
  obtain ⟨is', his⟩ : ∃ r, r = isNum x := ⟨_, rfl⟩
  obtain ⟨im', him⟩ : ∃ r, r = if isNum x = true then x.imm else 0 := ⟨_, rfl⟩
  have hpl : plainI x = ⟨x.op, rd', rs', rt', is', im'⟩ := by subst hrd hrs hrt his him; rfl
  refine FnT.of_awp Tryd.func88 rfl (by kernel_rfl) rfl Tryd.ntmps88 fun C hC hG => ?_
  simp only [List.length_cons, List.length_nil, Nat.reduceAdd, Nat.reduceSub, List.replicate_succ, List.replicate_zero, List.cons_append, List.nil_append]
  refine wR (hk := ?_)
  refine wR (hk := ?_)
  refine Awp.seq fun K3 h3 => ?_
  refine wR (hk := ?_)
  refine Awp.cond rfl (fun hb5 => ?_) (fun hb5 => ?_)
  · refine wR (hk := ?_)
    have h1 : badI x = true := hb5
    have e : mayI x = false := by unfold mayI; rw [h1]; rfl
    rw [e]
    exact Awp.ret ⟨.inr rfl, Fin.cl rfl⟩
  · have hnb : badI x = false := hb5
    refine Awp.skip ?_
    refine h3 _ ?_
    refine nT (hk := ?_)
    refine wR (hx := by ((repeat (first | refine sA (hq := Quiet.bldP (rs := [.lit (.int .u8 x.op), .lit (.int .u8 0), .lit (.int .u8 0), .lit (.int .u8 0), .lit (.bool false), .lit (.int .i32 0)]) rfl plInstM rfl rfl) (hk := ?_) | refine sA (hk := ?_) | refine sSkip (hk := ?_) | refine sAG (hq := by (intro hg; (try simp only [] at hg); (try simp only [beq_true, beq_false]); exact Quiet.bldP (rs := [.lit (.int .u8 x.op), .lit (.int .u8 0), .lit (.int .u8 0), .lit (.int .u8 0), .lit (.bool false), .lit (.int .i32 0)]) rfl plInstM rfl rfl)) (hk := ?_) | refine sAG (hk := ?_) | refine sOwn (hk := ?_))); exact wEnd rfl)) (hk := ?_)
    refine Awp.seqc ⟨[.any, .ptr 0 0, .lit (.bool false), .lit (.int .u8 (hasP x.op)), .ptr 1 0, .any, .any, .any, .any, .any, .any, .any, .any, .any, .any, .any, .any, .any, .any, .any, .any, .any, .any, .any, .any, .any, .any, .any, .any, .any, .any, .any, .any, .any, .any, .any, .any, .any, .any, .any, .any, .any, .any, .any, .any, .any, .any, .any, .any, .any, .any, .any, .any, .any, .any, .any, .any, .any, .any, .any, .any, .any, .any, .any, .any, .any, .any, .any, .any, .any, .any, .any, .any, .any, .any, .any, .any, .any, .any, .any, .any, .any, .any, .any, .any, .any, .any, .any, .any, .any, .any, .any, .any, .any, .any, .any, .any, .any, .any, .any, .any, .any], [.box (encInstM x), .box [.lit (.int .u8 x.op), .lit (.int .u8 rd'), .lit (.int .u8 0), .lit (.int .u8 0), .lit (.bool false), .lit (.int .i32 0)]]⟩ ?_ ?_
    · refine wR (hk := ?_)
      refine Awp.cond rfl (fun hb11 => ?_) (fun hb11 => ?_)
      · have e : rd' = x.rd := by rw [hrd]; exact if_pos hb11
        refine wRE (hk := ?_)
        rw [e]
        exact le_TA
      · have e : rd' = 0 := by rw [hrd]; exact if_neg (fun h => by rw [show hasBit x.op 1 = false from hb11] at h; cases h)
        refine Awp.skip ?_
        rw [e]
        exact le_TA
    · refine Awp.seqc ⟨[.any, .ptr 0 0, .lit (.bool false), .lit (.int .u8 (hasP x.op)), .ptr 1 0, .any, .any, .any, .any, .any, .any, .any, .any, .any, .any, .any, .any, .any, .any, .any, .any, .any, .any, .any, .any, .any, .any, .any, .any, .any, .any, .any, .any, .any, .any, .any, .any, .any, .any, .any, .any, .any, .any, .any, .any, .any, .any, .any, .any, .any, .any, .any, .any, .any, .any, .any, .any, .any, .any, .any, .any, .any, .any, .any, .any, .any, .any, .any, .any, .any, .any, .any, .any, .any, .any, .any, .any, .any, .any, .any, .any, .any, .any, .any, .any, .any, .any, .any, .any, .any, .any, .any, .any, .any, .any, .any, .any, .any, .any, .any, .any, .any], [.box (encInstM x), .box [.lit (.int .u8 x.op), .lit (.int .u8 rd'), .lit (.int .u8 rs'), .lit (.int .u8 0), .lit (.bool false), .lit (.int .i32 0)]]⟩ ?_ ?_
      · refine wR (hk := ?_)
        refine Awp.cond rfl (fun hb15 => ?_) (fun hb15 => ?_)
        · have e : rs' = x.rs1 := by rw [hrs]; exact if_pos hb15
          refine wRE (hk := ?_)
          rw [e]
          exact le_TA
        · have e : rs' = 0 := by rw [hrs]; exact if_neg (fun h => by rw [show hasBit x.op 2 = false from hb15] at h; cases h)
          refine Awp.skip ?_
          rw [e]
          exact le_TA
      · refine Awp.seqc ⟨[.any, .ptr 0 0, .lit (.bool false), .any, .ptr 1 0, .any, .any, .any, .any, .any, .any, .any, .any, .any, .any, .any, .any, .any, .any, .any, .any, .any, .any, .any, .any, .any, .any, .any, .any, .any, .any, .any, .any, .any, .any, .any, .any, .any, .any, .any, .any, .any, .any, .any, .any, .any, .any, .any, .any, .any, .any, .any, .any, .any, .any, .any, .any, .any, .any, .any, .any, .any, .any, .any, .any, .any, .any, .any, .any, .any, .any, .any, .any, .any, .any, .any, .any, .any, .any, .any, .any, .any, .any, .any, .any, .any, .any, .any, .any, .any, .any, .any, .any, .any, .any, .any, .any, .any, .any, .any, .any, .any], [.box (encInstM x), .box [.lit (.int .u8 x.op), .lit (.int .u8 rd'), .lit (.int .u8 rs'), .lit (.int .u8 rt'), .lit (.bool is'), .lit (.int .i32 im')]]⟩ ?_ ?_
        · refine Awp.block ?_
          refine wR (hk := ?_)
          refine Awp.cond rfl (fun hb19 => ?_) (fun hb19 => ?_)
          · have hi : isNum x = true := hb19
            have e1 : rt' = 0 := by rw [hrt]; exact if_pos hi
            have e2 : is' = true := by rw [his]; exact hi
            have e3 : im' = x.imm := by rw [him]; exact if_pos hi
            rw [e1, e2, e3]
            (refine Awp.drawT 0 (by kernel_rfl) (by kernel_rfl) ?_; refine aQ_nil ?_; (refine tStep [0, 2] (tC ?_ (tC ?_ tAll_nil)); ((first | refine oQ (hk := ?_)); (refine tStep [1, 2] (tC ?_ (tC ?_ tAll_nil)); ((first | refine oQ (hk := ?_)); (refine tStep [2] (tC ?_ tAll_nil); ((first | refine oQ (hk := ?_)); (refine tStep [3] (tC ?_ tAll_nil); ((refine oOwn (hk := ?_); refine tNt (hk := ?_)); (refine tStep [4] (tC ?_ tAll_nil); ((first | refine oQ (hk := ?_)); (refine tStep [5] (tC ?_ tAll_nil); ((refine oOwn (hk := ?_); refine tNt (hk := ?_)); (exact tDone (le_TA))))))))))); ((first | refine oQ (hk := ?_)); (refine tStep [1, 3] (tC ?_ (tC ?_ tAll_nil)); ((first | refine oQ (hk := ?_)); (refine tStep [3] (tC ?_ tAll_nil); ((refine oOwn (hk := ?_); refine tNt (hk := ?_)); (refine tStep [4] (tC ?_ tAll_nil); ((first | refine oQ (hk := ?_)); (refine tStep [5] (tC ?_ tAll_nil); ((refine oOwn (hk := ?_); refine tNt (hk := ?_)); (exact tDone (le_TA))))))))); ((refine oOwn (hk := ?_); refine tNt (hk := ?_)); (refine tStep [1] (tC ?_ tAll_nil); ((first | refine oQ (hk := ?_)); (refine tStep [4] (tC ?_ tAll_nil); ((first | refine oQ (hk := ?_)); (refine tStep [5] (tC ?_ tAll_nil); ((refine oOwn (hk := ?_); refine tNt (hk := ?_)); (exact tDone (le_TA))))))))))))); ((first | refine oQ (hk := ?_)); (refine tStep [0, 3] (tC ?_ (tC ?_ tAll_nil)); ((first | refine oQ (hk := ?_)); (refine tStep [1, 3] (tC ?_ (tC ?_ tAll_nil)); ((first | refine oQ (hk := ?_)); (refine tStep [3] (tC ?_ tAll_nil); ((refine oOwn (hk := ?_); refine tNt (hk := ?_)); (refine tStep [4] (tC ?_ tAll_nil); ((first | refine oQ (hk := ?_)); (refine tStep [5] (tC ?_ tAll_nil); ((refine oOwn (hk := ?_); refine tNt (hk := ?_)); (exact tDone (le_TA))))))))); ((refine oOwn (hk := ?_); refine tNt (hk := ?_)); (refine tStep [1] (tC ?_ tAll_nil); ((first | refine oQ (hk := ?_)); (refine tStep [4] (tC ?_ tAll_nil); ((first | refine oQ (hk := ?_)); (refine tStep [5] (tC ?_ tAll_nil); ((refine oOwn (hk := ?_); refine tNt (hk := ?_)); (exact tDone (le_TA))))))))))); ((refine oOwn (hk := ?_); refine tNt (hk := ?_)); (refine tStep [0] (tC ?_ tAll_nil); ((first | refine oQ (hk := ?_)); (refine tStep [1] (tC ?_ tAll_nil); ((first | refine oQ (hk := ?_)); (refine tStep [4] (tC ?_ tAll_nil); ((first | refine oQ (hk := ?_)); (refine tStep [5] (tC ?_ tAll_nil); ((refine oOwn (hk := ?_); refine tNt (hk := ?_)); (exact tDone (le_TA)))))))))))))))
          · have hi : isNum x = false := hb19
            have e2 : is' = false := by rw [his]; exact hi
            have e3 : im' = 0 := by rw [him, hi]; rfl
            refine wR (hk := ?_)
            refine Awp.cond rfl (fun hb22 => ?_) (fun hb22 => ?_)
            · have e1 : rt' = x.rs2 := by rw [hrt, hi]; exact if_pos hb22
              refine wRE (hk := ?_)
              rw [e1, e2, e3]
              exact le_TA
            · have e1 : rt' = 0 := by rw [hrt, hi, if_neg Bool.false_ne_true]; exact if_neg (by rw [show hasBit x.op 4 = false from hb22]; exact Bool.false_ne_true)
              refine Awp.skip ?_
              rw [e1, e2, e3]
              exact le_TA
        · refine wR (hk := ?_)
          refine wR (hx := by ((repeat (first | refine sA (hq := Quiet.eqRec (bs := [true, true, true, true, false, true]) (vs := [.int .u8 x.op, .int .u8 rd', .int .u8 rs', .int .u8 rt', .bool is', .int .i32 im']) (ws := [.int .u8 x.op, .int .u8 x.rd, .int .u8 x.rs1, .int .u8 x.rs2, .bool x.is_, .int .i32 x.imm]) (r := sameI ⟨x.op, rd', rs', rt', is', im'⟩ x) (by kernel_rfl) rfl rfl rfl rfl) (hk := ?_) | refine sA (hk := ?_) | refine sSkip (hk := ?_) | refine sAG (hq := by (intro hg; (try simp only [Bool.and_eq_true, beq_true, beq_false, Bool.not_eq_eq_eq_not, Bool.not_true, Bool.not_false] at hg); (try simp only [hg, beq_true, beq_false, cond_true, Bool.true_and, Bool.and_true, Bool.not_true, beq_self_eq_true]); exact Quiet.eqRec (bs := [true, true, true, true, false, true]) (vs := [.int .u8 x.op, .int .u8 rd', .int .u8 rs', .int .u8 rt', .bool is', .int .i32 im']) (ws := [.int .u8 x.op, .int .u8 x.rd, .int .u8 x.rs1, .int .u8 x.rs2, .bool x.is_, .int .i32 x.imm]) (r := sameI ⟨x.op, rd', rs', rt', is', im'⟩ x) (by kernel_rfl) rfl rfl rfl rfl)) (hk := ?_) | refine sAG (hk := ?_) | refine sOwn (hk := ?_))); exact wEnd rfl)) (hk := ?_)
          refine Awp.ret ⟨.inr rfl, Fin.eqb ?_⟩
          unfold mayI
          rw [hnb, hpl]
          rfl
end Mu
end
section
/-
  An instruction's word.
  Conditions: the table of fields is laid.
-/
namespace Mu
open Go Go.RowKit Go.Proofs

theorem and_u32 (k a : Nat) (hk : k ≤ 32) (ha : a < 4294967296) : bits .and .u32 (a : Int) ((2 ^ k - 1 : Nat) : Int) = ((a % 2 ^ k : Nat) : Int) := by
  have h2 : 2 ^ k - 1 < 4294967296 := by
    have : 2 ^ k ≤ 2 ^ 32 := Nat.pow_le_pow_right (by decide) hk
    have : (2 : Nat) ^ 32 = 4294967296 := rfl
    omega
  have h3 : a % 2 ^ k ≤ a := Nat.mod_le _ _
  unfold bits
  simp only
  have e : (BitVec.ofInt IntKind.u32.bits (a : Int) &&& BitVec.ofInt IntKind.u32.bits ((2 ^ k - 1 : Nat) : Int)).toNat = a % 2 ^ k := by
    rw [BitVec.toNat_and, BitVec.ofInt_natCast, BitVec.ofInt_natCast, BitVec.toNat_ofNat, BitVec.toNat_ofNat, show IntKind.u32.bits = 32 from rfl, Nat.mod_eq_of_lt ha, Nat.mod_eq_of_lt h2, Nat.and_two_pow_sub_one_eq_mod]
  rw [e, wrap_u32m]
  omega
/-- an instruction's word -/
def encW (x : InstM) : Int := 67108864 * x.op + 2097152 * x.rd + (if hasBit x.op 16 = true then x.imm % 2097152 else 65536 * x.rs1 + (if x.is_ = true then 32768 + x.imm % 32768 else x.rs2))
def encI (x : InstM) : Int := if mayI x = true then encW x else 0
def encE (x : InstM) : Int := if mayI x = true then 0 else 2
theorem mayI_in {x : InstM} (h : mayI x = true) : x.op < 38 ∧ x.rd ≤ 31 ∧ x.rs1 ≤ 31 ∧ x.rs2 ≤ 31 := by
  unfold mayI at h
  rw [Bool.and_eq_true, Bool.not_eq_true'] at h
  have hb := h.1
  unfold badI at hb
  simp only [Bool.or_eq_false_iff, decide_eq_false_iff_not, beq_eq_false_iff_ne, ne_eq] at hb
  obtain ⟨⟨⟨⟨h1, h2⟩, h3⟩, h4⟩, _⟩ := hb
  refine ⟨?_, by omega, by omega, by omega⟩
  unfold hasP at h1
  split at h1
  · exact absurd rfl h1
  · omega
set_option maxRecDepth 100000 in
set_option maxHeartbeats 4000000 in
theorem encode_fn (x : InstM) (H : okInstM x) : FnT GL Tryd.prog 75 [.agg (encInstM x)] (.tup [.lit (.int .u32 (encI x)), .lit (.int .i64 (encE x))]) := by
  have hL := gl_lasts
  have hhas := has_fn x.op H.op
  have hmay := mayI_fn x H
  refine FnT.of_awp2 Tryd.func75 rfl (by kernel_rfl) rfl Tryd.ntmps75 fun C hC hG => ?_
  simp only [List.length_cons, List.length_nil, Nat.reduceAdd, Nat.reduceSub, List.replicate_succ, List.replicate_zero, List.cons_append, List.nil_append]
  refine wR (hk := ?_)
  refine Awp.seq fun K2 h2 => ?_
  refine wR (hk := ?_)
  refine Awp.cond rfl (fun hb4 => ?_) (fun hb4 => ?_)
  · refine wR (hk := ?_)
    have h1 : (!mayI x) = true := hb4
    rw [Bool.not_eq_true'] at h1
    have e1 : encI x = 0 := if_neg (by rw [h1]; exact Bool.false_ne_true)
    have e2 : encE x = 2 := if_neg (by rw [h1]; exact Bool.false_ne_true)
    rw [e1, e2]
    exact Awp.ret ⟨.inr rfl, _, _, Fin.cl rfl, rfl, rfl⟩
  · have h1 : (!mayI x) = false := hb4
    rw [Bool.not_eq_false'] at h1
    have e1 : encI x = encW x := if_pos h1
    have e2 : encE x = 0 := if_pos h1
    obtain ⟨g1, g2, g3, g4⟩ := mayI_in h1
    have k1 := wfI_u8 H.op
    have k2 := wfI_u8 H.rd
    have k3 := wfI_u8 H.rs1
    have k4 := wfI_u8 H.rs2
    obtain ⟨op, hop⟩ : ∃ n : Nat, x.op = (n : Int) := ⟨x.op.toNat, by omega⟩
    obtain ⟨rd, hrd⟩ : ∃ n : Nat, x.rd = (n : Int) := ⟨x.rd.toNat, by omega⟩
    obtain ⟨r1, hr1⟩ : ∃ n : Nat, x.rs1 = (n : Int) := ⟨x.rs1.toNat, by omega⟩
    obtain ⟨r2, hr2⟩ : ∃ n : Nat, x.rs2 = (n : Int) := ⟨x.rs2.toNat, by omega⟩
    obtain ⟨im, him⟩ : ∃ n : Nat, x.imm % 4294967296 = (n : Int) := ⟨(x.imm % 4294967296).toNat, by omega⟩
    have v0 : IntKind.u32.wrap x.op = x.op := by rw [wrap_u32m]; omega
    have v1 : IntKind.u32.wrap x.rd = x.rd := by rw [wrap_u32m]; omega
    have v2 : IntKind.u32.wrap x.rs1 = x.rs1 := by rw [wrap_u32m]; omega
    have v3 : IntKind.u32.wrap x.rs2 = x.rs2 := by rw [wrap_u32m]; omega
    have v4 : IntKind.u32.wrap x.imm = (im : Int) := by rw [wrap_u32m]; omega
    have s0 : ShlF .u32 x.op 26 ((2 ^ 26 * op : Nat) : Int) := ⟨by rw [wrap_u32m, show min (26 : Int).toNat IntKind.u32.bits = 26 from rfl]; omega⟩
    have s1 : ShlF .u32 x.rd 21 ((2 ^ 21 * rd : Nat) : Int) := ⟨by rw [wrap_u32m, show min (21 : Int).toNat IntKind.u32.bits = 21 from rfl]; omega⟩
    have s2 : ShlF .u32 x.rs1 16 ((2 ^ 16 * r1 : Nat) : Int) := ⟨by rw [wrap_u32m, show min (16 : Int).toNat IntKind.u32.bits = 16 from rfl]; omega⟩
    have o1 : bits .or .u32 ((2 ^ 26 * op : Nat) : Int) ((2 ^ 21 * rd : Nat) : Int) = ((2 ^ 21 * (32 * op + rd) : Nat) : Int) := by rw [or_u32 26 op (2 ^ 21 * rd) (by omega) (by omega)]; omega
    have o2 : bits .and .u32 (im : Int) 2097151 = ((im % 2097152 : Nat) : Int) := and_u32 21 im (by decide) (by omega)
    have o3 : bits .or .u32 ((2 ^ 21 * (32 * op + rd) : Nat) : Int) ((im % 2097152 : Nat) : Int) = ((2 ^ 21 * (32 * op + rd) + im % 2097152 : Nat) : Int) := or_u32 21 (32 * op + rd) (im % 2097152) (by omega) (by omega)
    have o4 : bits .or .u32 ((2 ^ 21 * (32 * op + rd) : Nat) : Int) ((2 ^ 16 * r1 : Nat) : Int) = ((2 ^ 16 * (32 * (32 * op + rd) + r1) : Nat) : Int) := by rw [or_u32 21 (32 * op + rd) (2 ^ 16 * r1) (by omega) (by omega)]; omega
    have o5 : bits .or .u32 ((2 ^ 16 * (32 * (32 * op + rd) + r1) : Nat) : Int) 32768 = ((2 ^ 15 * (2 * (32 * (32 * op + rd) + r1) + 1) : Nat) : Int) := by
      have := or_u32 16 (32 * (32 * op + rd) + r1) 32768 (by omega) (by omega)
      rw [show ((32768 : Nat) : Int) = 32768 from rfl] at this
      rw [this]
      omega
    have o6 : bits .and .u32 (im : Int) 32767 = ((im % 32768 : Nat) : Int) := and_u32 15 im (by decide) (by omega)
    have o7 : bits .or .u32 ((2 ^ 15 * (2 * (32 * (32 * op + rd) + r1) + 1) : Nat) : Int) ((im % 32768 : Nat) : Int) = ((2 ^ 15 * (2 * (32 * (32 * op + rd) + r1) + 1) + im % 32768 : Nat) : Int) := or_u32 15 _ (im % 32768) (by omega) (by omega)
    have o8 : bits .or .u32 ((2 ^ 16 * (32 * (32 * op + rd) + r1) : Nat) : Int) x.rs2 = ((2 ^ 16 * (32 * (32 * op + rd) + r1) + r2 : Nat) : Int) := by rw [hr2]; exact or_u32 16 _ r2 (by omega) (by omega)
    have f1 : hasBit x.op 16 = true → ((2 ^ 21 * (32 * op + rd) + im % 2097152 : Nat) : Int) = encW x := fun h => by unfold encW; rw [if_pos h]; omega
    have f2 : hasBit x.op 16 = false → x.is_ = true → ((2 ^ 15 * (2 * (32 * (32 * op + rd) + r1) + 1) + im % 32768 : Nat) : Int) = encW x := fun h h' => by unfold encW; rw [if_neg (by rw [h]; exact Bool.false_ne_true), if_pos h']; omega
    have f3 : hasBit x.op 16 = false → x.is_ = false → ((2 ^ 16 * (32 * (32 * op + rd) + r1) + r2 : Nat) : Int) = encW x := fun h h' => by unfold encW; rw [if_neg (by rw [h]; exact Bool.false_ne_true), if_neg (by rw [h']; exact Bool.false_ne_true)]; omega
    generalize ((2 ^ 26 * op : Nat) : Int) = p0 at s0 o1
    generalize ((2 ^ 21 * rd : Nat) : Int) = p1 at s1 o1
    generalize ((2 ^ 16 * r1 : Nat) : Int) = p2 at s2 o4
    generalize ((2 ^ 21 * (32 * op + rd) : Nat) : Int) = p3 at o1 o3 o4
    generalize ((2 ^ 21 * (32 * op + rd) + im % 2097152 : Nat) : Int) = p4 at o3 f1
    generalize ((2 ^ 16 * (32 * (32 * op + rd) + r1) : Nat) : Int) = p5 at o4 o5 o8
    generalize ((2 ^ 15 * (2 * (32 * (32 * op + rd) + r1) + 1) : Nat) : Int) = p6 at o5 o7
    generalize ((2 ^ 15 * (2 * (32 * (32 * op + rd) + r1) + 1) + im % 32768 : Nat) : Int) = p7 at o7 f2
    generalize ((2 ^ 16 * (32 * (32 * op + rd) + r1) + r2 : Nat) : Int) = p8 at o8 f3
    generalize ((im % 2097152 : Nat) : Int) = p9 at o2 o3
    generalize ((im % 32768 : Nat) : Int) = pa at o6 o7
    generalize (im : Int) = pb at v4 o2 o6
    refine Awp.skip ?_
    refine h2 _ ?_
    refine nT (hk := ?_)
    refine wR (hx := by ((repeat (first | refine sA (hq := Quiet.shlF rfl rfl rfl (by decide) (by assumption)) (hk := ?_) | refine sA (hk := ?_) | refine sSkip (hk := ?_) | refine sAG (hq := by (intro hg; (try simp only [Bool.and_eq_true, beq_true, beq_false, Bool.not_eq_true', Bool.not_eq_eq_eq_not, Bool.not_true, Bool.not_false] at hg); (try simp only [hg, beq_true, beq_false, cond_true, Bool.true_and, Bool.and_true, Bool.not_false, Bool.not_true, beq_self_eq_true]); exact Quiet.shlF rfl rfl rfl (by decide) (by assumption))) (hk := ?_) | refine sAG (hk := ?_) | refine sOwn (hk := ?_))); exact wEnd rfl)) (hk := ?_)
    refine Awp.seq fun K8 h8 => ?_
    refine Awp.block ?_
    refine wR (hk := ?_)
    refine Awp.cond rfl (fun hb10 => ?_) (fun hb10 => ?_)
    · refine wR (hk := ?_)
      rw [e1, e2, ← f1 hb10]
      exact Awp.ret ⟨.inr rfl, _, _, Fin.cl rfl, rfl, rfl⟩
    · refine wR (hk := ?_)
      refine Awp.cond rfl (fun hb14 => ?_) (fun hb14 => ?_)
      · refine wR (hx := by ((repeat (first | refine sA (hq := Quiet.shlF rfl rfl rfl (by decide) (by assumption)) (hk := ?_) | refine sA (hk := ?_) | refine sSkip (hk := ?_) | refine sAG (hq := by (intro hg; (try simp only [Bool.and_eq_true, beq_true, beq_false, Bool.not_eq_true', Bool.not_eq_eq_eq_not, Bool.not_true, Bool.not_false] at hg); (try simp only [hg, beq_true, beq_false, cond_true, Bool.true_and, Bool.and_true, Bool.not_false, Bool.not_true, beq_self_eq_true]); exact Quiet.shlF rfl rfl rfl (by decide) (by assumption))) (hk := ?_) | refine sAG (hk := ?_) | refine sOwn (hk := ?_))); exact wEnd rfl)) (hk := ?_)
        rw [e1, e2, ← f2 hb10 hb14]
        exact Awp.ret ⟨.inr rfl, _, _, Fin.cl rfl, rfl, rfl⟩
      · refine Awp.skip ?_
        refine h8 _ ?_
        refine nT (hk := ?_)
        refine wR (hx := by ((repeat (first | refine sA (hq := Quiet.shlF rfl rfl rfl (by decide) (by assumption)) (hk := ?_) | refine sA (hk := ?_) | refine sSkip (hk := ?_) | refine sAG (hq := by (intro hg; (try simp only [Bool.and_eq_true, beq_true, beq_false, Bool.not_eq_true', Bool.not_eq_eq_eq_not, Bool.not_true, Bool.not_false] at hg); (try simp only [hg, beq_true, beq_false, cond_true, Bool.true_and, Bool.and_true, Bool.not_false, Bool.not_true, beq_self_eq_true]); exact Quiet.shlF rfl rfl rfl (by decide) (by assumption))) (hk := ?_) | refine sAG (hk := ?_) | refine sOwn (hk := ?_))); exact wEnd rfl)) (hk := ?_)
        rw [e1, e2, ← f3 hb10 hb14]
        exact Awp.ret ⟨.inr rfl, _, _, Fin.cl rfl, rfl, rfl⟩
end Mu
end
section
/-
  Functions that turn memory at known places: a contract from its walk; such a function value is called.
  Conditions: none; generic.
-/
namespace Mu
open Go Go.RowKit Go.Proofs

def RetsT {ι : Type} (t : Tmp) (R : Res) (Rs : ι → Res) (val : ι → Value) : Exit → St → Prop := fun e s => (e = .normal ∨ e = .ret) ∧ ∃ p, mkD s.h = R.mrk.map mark ∧ s.h[0]? = some (.res (Rs p)) ∧ evA s.t (.tmp t) = .lit (val p)
theorem FnTurn.of_awp {P : Program} {f : FuncId} {fn : Go.Func} {c : Code} {args : List AV} {ι : Type} {R : Res} {Rs : ι → Res} {val : ι → Value} {t : Tmp} {n : Nat} (hf : P.funcs[f]? = some fn) (hb : fn.body = some c) (hE : Enters P f = true) (hres : fn.results = #[.tmp t]) (hn : fn.ntmps = n)
    (hm : R.mrk = []) (hS : ∀ p w S S', (Rs p).R w S → (Rs p).R w S')
    (h : ∀ C : Ctx, Awp P C c (RetsT t R Rs val) ⟨args ++ List.replicate (n - args.length) (.lit undef), [.res R]⟩) : FnTurn P f R args Rs val := by
  refine ⟨hE, fun w S vs hSl hF hR hr => calls_of_wp hf hb ?_⟩
  rw [hn]
  have hst : St.rel ⟨w, S, fun k => k < w.heap.size ∧ ¬ R.F k, none⟩ ⟨args ++ List.replicate (n - args.length) (.lit undef), [.res R]⟩ { tmps := vs.toArray ++ Array.replicate (n - vs.toArray.size) undef, defers := [] } w := by
    obtain ⟨_, S1, ψ, _, hl⟩ := start_rel (n := n) (fun k hk => (hSl k hk).1) hr
    refine ⟨by show [] = mkD [.res R]; simp [mkD, ABlk.mrk, hm], S, ψ0, ⟨Kp.refl _ _, fun k hk => hk.1, fun k hk => (hSl k hk).1, fun _ h => h, fun _ h => .inl h, fun i b hi => ?_, fun i j hij hi hj => ?_⟩, ?_⟩
    · cases i with
      | zero =>
        simp only [List.getElem?_cons_zero, Option.some.injEq] at hi
        subst hi
        exact ⟨fun g hg => ⟨fun hc => hc.2 hg, fun hs => (hSl g hs).2 hg, hF g hg⟩, hR⟩
      | succ i => simp at hi
    · cases i with
      | zero => cases j with
        | zero => exact absurd rfl hij
        | succ j => simp [ABlk.live] at hj
      | succ i => simp [ABlk.live] at hi
    · simp only [Array.toList_append, Array.toList_replicate, List.size_toArray]
      have X : Ext w S [] ψ0 w S [.res R] ψ0 := ⟨fun _ _ => rfl, fun _ h => h, by simp, fun i c' hi => by simp at hi, fun i hi => by simp at hi⟩
      refine relL_append (AV.relL_ext X _ _ hr) (relL_of (by simp [relL_len hr]) fun i x v hx hv => ?_)
      rw [List.getElem?_replicate] at hx hv
      split at hx <;> cases hx
      split at hv <;> cases hv
      unfold AV.rel
      rfl
  refine wp_mono ((h ⟨w, S, fun k => k < w.heap.size ∧ ¬ R.F k, none⟩).wp rfl hst) ?_
  rintro x a' w' ⟨s, ⟨hx, p, hmk, hi, hev⟩, hd, S1, ψ, H, hl⟩
  rw [hmk, hm] at hd
  have hv := ev_rel hl (.tmp t)
  rw [hev] at hv
  unfold AV.rel at hv
  have hB := H.blk 0 _ hi
  have hres' : (results fn a'.tmps).run P w' = .ok (a'.eval (.tmp t)) w' := results_tmp hres _ _ _
  have hfin : ∃ v, Ending.returned (a'.eval (.tmp t)) = .returned v ∧ Turns w S R.F Rs val v w' :=
    ⟨_, rfl, ⟨H.bel.os, H.bel.tape, H.bel.output, H.bel.size, fun k hk hn => H.bel.block k ⟨hk, hn⟩⟩, p, hv, hS p _ _ _ hB.2, fun k hk => by
      obtain ⟨k1, _, k3⟩ := hB.1 k hk
      refine ⟨?_, k3⟩
      by_cases hc : R.F k
      · exact .inl hc
      · exact .inr (Nat.le_of_not_lt fun hlt => k1 ⟨hlt, hc⟩)⟩
  rcases hx with rfl | rfl
  · exact ⟨hd, _, hres', hfin⟩
  · exact ⟨hd, _, hres', hfin⟩
section
variable {P : Program} {C : Ctx} {o : Oper} {t : List AV} {h : List ABlk} {ι : Type} {Rs : ι → Res} {val : ι → Value}
/-- a function value is called, that turns such memory -/
theorem AOp.callTurnV {i : Nat} {R : Res} {f : FuncId} {x : Operand} {args : Array Operand} {tys : Array TypeId} {l xs : List AV} {K : St → Prop} (hi : h[i]? = some (.res R))
    (ho : o.op = .call { callee := .value x, args := args, argTypes := tys }) (hv : evA t x = .fn f l) (hF : FnTurn P f R xs Rs val) (hm : ∀ p, (Rs p).mrk = R.mrk) (hx : args.toList.map (evA t) ++ l = xs) (hc : AV.clL xs = true)
    (hK : ∀ p, K ⟨putA t o.dst (.lit (val p)), h.set i (.res (Rs p))⟩) : AOp P C o ⟨t, h⟩ K := by
  refine AOp.turn hi hm (fun S ψ w ρ H hR hlt hρ => ?_) hK
  have h1 := hρ x (by rw [ho]; exact Array.mem_append.2 (.inl (by simp)))
  rw [hv] at h1
  unfold AV.rel at h1
  obtain ⟨cs, e, hcs⟩ := h1
  rw [run_callV ho hF.1 ρ w e]
  refine ⟨rfl, ?_⟩
  have h2 : AV.relL w S h ψ xs (args.toList.map ρ ++ cs) := by
    rw [← hx]
    exact relL_append (relL_map fun x hx' => hρ x (by rw [ho]; exact Array.mem_append.2 (.inr (Array.mem_toList_iff.1 hx')))) hcs
  rw [show (args.map ρ ++ cs.toArray) = (args.toList.map ρ ++ cs).toArray from (by simp)]
  exact hF.2 w S (args.toList.map ρ ++ cs) (fun k hk => ⟨H.lt k hk, fun hf => ((H.blk i _ hi).1 k hf).2.1 hk⟩) hlt hR (AV.relL_cl _ _ hc h2)
end
end Mu
end
section
/-
  Bits are taken off a word that is left: inst.Decode$1.
  Conditions: at most 31 bits.
-/
namespace Mu
open Go Go.RowKit Go.Proofs

set_option maxRecDepth 100000 in
set_option maxHeartbeats 2000000 in
theorem take_fn (g L b : Nat) (hL : L < 4294967296) (hb : b ≤ 31) : FnTurn Tryd.prog 73 (boxR g [.lit (.int .u32 (L : Int))]) [.lit (.int .u64 (b : Int)), .lit (.pointer (some ⟨g, 0, none⟩))] (fun _ : Unit => boxR g [.lit (.int .u32 ((L / 2 ^ b : Nat) : Int))]) (fun _ => .int .u32 ((L % 2 ^ b : Nat) : Int)) := by
  have hpow : 2 ^ b ≤ 2147483648 := by
    have : 2 ^ b ≤ 2 ^ 31 := Nat.pow_le_pow_right (by decide) hb
    have e : (2 : Nat) ^ 31 = 2147483648 := rfl
    omega
  have hpos : 0 < 2 ^ b := Nat.pow_pos (by decide)
  have hb0 : (0 : Int) ≤ (b : Int) := by omega
  have s0 : ShlF .u32 1 (b : Int) ((2 ^ b : Nat) : Int) := ⟨by
    have e1 : min (b : Int).toNat IntKind.u32.bits = b := by
      rw [Int.toNat_natCast]
      exact Nat.min_eq_left (by show b ≤ 32; omega)
    rw [e1, wrap_u32m, Int.one_mul]
    have : ((2 : Int) ^ b) = ((2 ^ b : Nat) : Int) := by rw [Int.natCast_pow]; rfl
    rw [this]
    omega⟩
  have s1 : intBin .sub .u32 ((2 ^ b : Nat) : Int) 1 = some (.int .u32 ((2 ^ b - 1 : Nat) : Int)) := by
    unfold intBin
    simp only
    rw [wrap_u32m]
    congr 2
    omega
  have s2 : bits .and .u32 (L : Int) ((2 ^ b - 1 : Nat) : Int) = ((L % 2 ^ b : Nat) : Int) := and_u32 b L (by omega) hL
  have s3 : (L : Int) / 2 ^ min (b : Int).toNat IntKind.u32.bits = ((L / 2 ^ b : Nat) : Int) := by
    have e1 : min (b : Int).toNat IntKind.u32.bits = b := by
      rw [Int.toNat_natCast]
      exact Nat.min_eq_left (by show b ≤ 32; omega)
    have : ((2 : Int) ^ b) = ((2 ^ b : Nat) : Int) := by rw [Int.natCast_pow]; rfl
    rw [e1, this, Int.natCast_ediv]
  generalize ((2 ^ b : Nat) : Int) = p0 at s0 s1
  generalize ((2 ^ b - 1 : Nat) : Int) = p1 at s1 s2
  refine FnTurn.of_awp Tryd.func73 rfl (by kernel_rfl) rfl Tryd.ntmps73 rfl (fun _ _ _ _ h => h) fun C => ?_
  simp only [List.length_cons, List.length_nil, Nat.reduceAdd, Nat.reduceSub, List.replicate_succ, List.replicate_zero, List.cons_append, List.nil_append]
  refine wR (hk := ?_)
  refine wR (hx := by ((repeat (first | refine sA (hq := Quiet.ldL (i := 0) (g := g) rfl rfl rfl rfl rfl) (hk := ?_) | refine sA (hq := Quiet.shlF rfl rfl rfl hb0 s0) (hk := ?_) | refine sA (hk := ?_) | refine sSkip (hk := ?_) | refine sAG (hq := by (intro hg; (try simp only [Bool.and_eq_true, beq_true, beq_false, Bool.not_eq_true', Bool.not_eq_eq_eq_not, Bool.not_true, Bool.not_false] at hg); (try simp only [hg, beq_true, beq_false, cond_true, Bool.true_and, Bool.and_true, Bool.not_false, Bool.not_true, beq_self_eq_true]); exact Quiet.ldL (i := 0) (g := g) rfl rfl rfl rfl rfl)) (hk := ?_) | refine sAG (hq := by (intro hg; (try simp only [Bool.and_eq_true, beq_true, beq_false, Bool.not_eq_true', Bool.not_eq_eq_eq_not, Bool.not_true, Bool.not_false] at hg); (try simp only [hg, beq_true, beq_false, cond_true, Bool.true_and, Bool.and_true, Bool.not_false, Bool.not_true, beq_self_eq_true]); exact Quiet.shlF rfl rfl rfl hb0 s0)) (hk := ?_) | refine sAG (hk := ?_) | refine sOwn (hk := ?_))); exact wEnd rfl)) (hk := ?_)
  refine wR (hx := by ((repeat (first | refine sA (hq := Quiet.ldL (i := 0) (g := g) rfl rfl rfl rfl rfl) (hk := ?_) | refine sA (hq := Quiet.shr rfl rfl rfl hb0 s3) (hk := ?_) | (refine aSeq_t rfl (AOp.stL (i := 0) (g := g) (new := [_]) rfl rfl rfl (Parts.one (One.lit rfl)) rfl rfl (Nat.le_of_ble_eq_true rfl) ?_); refine sNt (hk := ?_)) | refine sA (hk := ?_) | refine sSkip (hk := ?_) | refine sAG (hq := by (intro hg; (try simp only [Bool.and_eq_true, beq_true, beq_false, Bool.not_eq_true', Bool.not_eq_eq_eq_not, Bool.not_true, Bool.not_false] at hg); (try simp only [hg, beq_true, beq_false, cond_true, Bool.true_and, Bool.and_true, Bool.not_false, Bool.not_true, beq_self_eq_true]); exact Quiet.ldL (i := 0) (g := g) rfl rfl rfl rfl rfl)) (hk := ?_) | refine sAG (hq := by (intro hg; (try simp only [Bool.and_eq_true, beq_true, beq_false, Bool.not_eq_true', Bool.not_eq_eq_eq_not, Bool.not_true, Bool.not_false] at hg); (try simp only [hg, beq_true, beq_false, cond_true, Bool.true_and, Bool.and_true, Bool.not_false, Bool.not_true, beq_self_eq_true]); exact Quiet.shr rfl rfl rfl hb0 s3)) (hk := ?_) | refine sAG (hk := ?_) | refine sOwn (hk := ?_))); exact wEnd rfl)) (hk := ?_)
  refine wR (hk := ?_)
  exact Awp.ret ⟨.inr rfl, (), rfl, rfl, rfl⟩
end Mu
end
section
/-
  Contracts of functions of the shelf and of images, as plain functions.
  Conditions: as each says.
-/
namespace Mu
open Go Go.RowKit Go.Proofs

theorem FnT.mono {G G' : World → Prop} {P : Program} {f : FuncId} {args : List AV} {r : AV} (hG : ∀ w, G' w → G w) (h : FnT G P f args r) : FnT G' P f args r := ⟨h.1, fun w S vs hw hS hr => h.2 w S vs (hG w hw) hS hr⟩
/-! ### numbers as texts -/
def strconv_Itoa (n : Int) : M ByteArray := M.chk (wfB .i64 n) (M.ok (itoaB n))
theorem strconv_Itoa_l {n : Int} {r : ByteArray} (H : (strconv_Itoa n).to r) : FnT GL Tryd.prog 54 [.lit (.int .i64 n)] (.lit (.string r)) := by
  obtain ⟨c, H⟩ := M.to_chk.1 H
  obtain rfl := M.to_ok.1 H
  exact FnT.mono (fun w h => h.tens) (itoaT_fn n c)
/-! ### texts joined -/
def joinD (l : List ByteArray) (sep : ByteArray) : ByteArray := ⟨(Lib.join (l.map (·.data.toList)) sep.data.toList).toArray⟩
def strings_Join (l : List ByteArray) (sep : ByteArray) : M ByteArray := M.chk (decide (l.length ≤ 140737488355328) && decide ((Lib.join (l.map (·.data.toList)) sep.data.toList).length ≤ 140737488355328)) (M.ok (joinD l sep))
theorem strings_Join_l {l : List ByteArray} {sep r : ByteArray} (H : (strings_Join l sep).to r) : Fn Tryd.prog 38 [.bs Ty.str l, .lit (.string sep)] (.lit (.string r)) := by
  obtain ⟨c, H⟩ := M.to_chk.1 H
  obtain rfl := M.to_ok.1 H
  rw [Bool.and_eq_true] at c
  have c1 : l.length ≤ 140737488355328 := of_decide_eq_true c.1
  have c2 : (Lib.join (l.map (·.data.toList)) sep.data.toList).length ≤ 140737488355328 := of_decide_eq_true c.2
  refine ⟨by kernel_rfl, fun w S vs hS hr => ?_⟩
  obtain ⟨v, u, rfl, h1, h2⟩ := arg2 hr
  unfold AV.rel at h1 h2
  subst h2
  obtain ⟨A, cap, hv, hlc, hcm, hi⟩ := h1
  have hv : v = .slice A l.length cap := by simpa using hv
  subst hv
  cases l with
  | nil =>
    refine (Tryd.strings_Join_none A cap sep w).mono fun e w' ⟨he, hw⟩ => ?_
    subst hw
    refine ⟨_, he, Below.refl _ _, S, fun _ h => h, fun _ h => .inl h, hS, ?_⟩
    unfold AV.rel
    rfl
  | cons d l =>
    obtain ⟨b, q, hA, hSb, _⟩ := hi 0 d rfl
    subst hA
    refine (Tryd.strings_Join b q cap (d :: l) sep w (fun j x hx => ?_) (hS b hSb) c1 hlc c2).mono fun e w' ⟨he, hw⟩ => ?_
    · obtain ⟨b', q', hA', _, cs, ⟨rfl, _⟩, hc⟩ := hi j x hx
      cases hA'
      have := hc 0 (.string x) rfl
      have e1 : q + j * Ty.str.size + 0 = q + j := by show q + j * 1 + 0 = q + j; omega
      rwa [e1] at this
    · refine ⟨_, he, hw, S, fun _ h => h, fun _ h => .inl h, fun k hk => Nat.lt_of_lt_of_le (hS k hk) hw.size, ?_⟩
      unfold AV.rel
      rfl
/-! ### images -/
def fineB (x : Img) : Bool := wfB .i64 x.nw && wfB .i64 x.heap && wfB .i64 x.many && wfB .i64 x.entry && wfB .i64 x.stacks && decide (x.words.length ≤ 1000000000) && decide (x.starts.length ≤ 1000000000) && x.starts.all (wfB .u32) && x.words.all (wfB .u32)
theorem fineB_iff {x : Img} : fineB x = true ↔ FineImg x := by
  unfold fineB
  simp only [Bool.and_eq_true, decide_eq_true_eq, List.all_eq_true]
  constructor
  · rintro ⟨⟨⟨⟨⟨⟨⟨⟨h1, h2⟩, h3⟩, h4⟩, h5⟩, h6⟩, h7⟩, h8⟩, h9⟩
    exact ⟨⟨h1, h2, h3, h4, h5⟩, h6, h7, h8, h9⟩
  · rintro ⟨⟨h1, h2, h3, h4, h5⟩, h6, h7, h8, h9⟩
    exact ⟨⟨⟨⟨⟨⟨⟨⟨h1, h2⟩, h3⟩, h4⟩, h5⟩, h6⟩, h7⟩, h8⟩, h9⟩
def image_May (x : Img) : M Bool := M.chk (fineB x) (M.ok (mayB x))
theorem image_May_l {x : Img} {r : Bool} (H : (image_May x).to r) : Fn Tryd.prog 17 [.agg (encImg x)] (.lit (.bool r)) := by
  obtain ⟨c, H⟩ := M.to_chk.1 H
  obtain rfl := M.to_ok.1 H
  exact may_fn x (fineB_iff.1 c)
def image_Put (x : Img) : M (ByteArray × Int) := M.chk (fineB x) (M.ok (putS x, putE x))
theorem image_Put_l {x : Img} {r : ByteArray × Int} (H : (image_Put x).to r) : Fn Tryd.prog 11 [.agg (encImg x)] (.tup [.lit (.string r.1), .lit (.int .i64 r.2)]) := by
  obtain ⟨c, H⟩ := M.to_chk.1 H
  obtain rfl := M.to_ok.1 H
  exact put_fn x (fineB_iff.1 c)
def ref31_Put (x : Img) : M (ByteArray × Int) := M.chk (fineB x) (M.ok (putS x, putE x))
theorem ref31_Put_l {x : Img} {r : ByteArray × Int} (H : (ref31_Put x).to r) : Fn Tryd.prog 15 [.agg (encImg x)] (.tup [.lit (.string r.1), .lit (.int .i64 r.2)]) := by
  obtain ⟨c, H⟩ := M.to_chk.1 H
  obtain rfl := M.to_ok.1 H
  exact refPut_fn x (fineB_iff.1 c)
def ref31_May (x : Img) : M Bool := M.chk (fineB x) (M.ok (mayB x))
theorem ref31_May_l {x : Img} {r : Bool} (H : (ref31_May x).to r) : Fn Tryd.prog 18 [.agg (encImg x)] (.lit (.bool r)) := by
  obtain ⟨c, H⟩ := M.to_chk.1 H
  obtain rfl := M.to_ok.1 H
  exact refMay_fn x (fineB_iff.1 c)
theorem allU8_bytesL (s : ByteArray) : allU8 (bytesL s) := fun a ha => by
  unfold bytesL at ha
  obtain ⟨b, _, rfl⟩ := List.mem_map.1 ha
  have := b.toNat_lt
  omega
def image_Get (s : ByteArray) : M (Img × Int) := M.chk (decide (s.size ≤ 900000000)) (M.ok (getX (bytesL s), getE (bytesL s)))
theorem image_Get_l {s : ByteArray} {r : Img × Int} (H : (image_Get s).to r) : Fn Tryd.prog 8 [.lit (.string s)] (.tup [.agg (encImg r.1), .lit (.int .i64 r.2)]) := by
  obtain ⟨c, H⟩ := M.to_chk.1 H
  obtain rfl := M.to_ok.1 H
  have := get31_fn (bytesL s) (allU8_bytesL s) (by rw [bytesL_len]; exact of_decide_eq_true c)
  rwa [bytesOf_bytesL] at this
def image_Same (a b : Img) : M Bool := M.chk (fineB a) (M.ok (sameB a b))
theorem image_Same_l {a b : Img} {r : Bool} (H : (image_Same a b).to r) : Fn Tryd.prog 19 [.agg (encImg a), .agg (encImg b)] (.lit (.bool r)) := by
  obtain ⟨c, H⟩ := M.to_chk.1 H
  obtain rfl := M.to_ok.1 H
  exact same31_fn a b (fineB_iff.1 c)
def ref31_Same (a b : Img) : M Bool := M.chk (fineB a) (M.ok (sameB a b))
theorem ref31_Same_l {a b : Img} {r : Bool} (H : (ref31_Same a b).to r) : Fn Tryd.prog 10 [.agg (encImg a), .agg (encImg b)] (.lit (.bool r)) := by
  obtain ⟨c, H⟩ := M.to_chk.1 H
  obtain rfl := M.to_ok.1 H
  exact refSame_fn a b (fineB_iff.1 c)
def law31_great (x : Img) : M Bool := M.ok (greatI x)
theorem law31_great_l {x : Img} {r : Bool} (H : (law31_great x).to r) : Fn Tryd.prog 12 [.agg (encImg x)] (.lit (.bool r)) := by
  obtain rfl := M.to_ok.1 H
  exact great31_fn x
end Mu
end
section
/-
  Contracts of the shelf's functions on texts, as plain functions.
  Conditions: as each says.
-/
namespace Mu
open Go Go.RowKit Go.Proofs

instance inMuWrapS3 : ES Tryd.prog 51 1 := ⟨by kernel_rfl⟩
instance inMuWrapS4 : SL Tryd.prog 51 := ⟨by kernel_rfl⟩
instance inMuWrapS5 : RT Tryd.prog 51 9 1 16 := ⟨by kernel_rfl⟩
def strings_TrimSuffix (s p : ByteArray) : M ByteArray := M.chk (decide (s.size ≤ 9223372036854775807)) (M.ok ⟨(Lib.trimSuffix s.data.toList p.data.toList).toArray⟩)
theorem strings_TrimSuffix_l {s p r : ByteArray} (H : (strings_TrimSuffix s p).to r) : Fn Tryd.prog 27 [.lit (.string s), .lit (.string p)] (.lit (.string r)) := by
  obtain ⟨c, H⟩ := M.to_chk.1 H
  obtain rfl := M.to_ok.1 H
  refine Fn.of_lit (by kernel_rfl) fun w vs hr => ?_
  obtain rfl := relL_lit2 hr
  exact (Tryd.strings_TrimSuffix s p w (of_decide_eq_true c)).mono fun e w' ⟨he, hw⟩ => by subst hw; exact ⟨he, Below.refl _ _⟩
def strings_IndexByte (s : ByteArray) (c : Int) : M Int := M.ok (Lib.indexByte s.data.toList c.toNat.toUInt8)
theorem strings_IndexByte_l {s : ByteArray} {c r : Int} (H : (strings_IndexByte s c).to r) : Fn Tryd.prog 49 [.lit (.string s), .lit (.int .u8 c)] (.lit (.int .i64 r)) := by
  obtain rfl := M.to_ok.1 H
  refine Fn.of_lit (by kernel_rfl) fun w vs hr => ?_
  obtain rfl := relL_lit2 hr
  exact (Tryd.strings_IndexByte s c w).mono fun e w' ⟨he, hw⟩ => by subst hw; exact ⟨he, Below.refl _ _⟩
theorem splitB_size (sep : ByteArray) : ∀ (k : Nat) (s : ByteArray), ∀ x ∈ Lib.splitB sep 0 k s, x.size ≤ s.size
  | 0, s => fun x hx => by rw [List.mem_singleton.1 hx]; exact Nat.le_refl _
  | k + 1, s => fun x hx => by
    unfold Lib.splitB at hx
    split at hx
    · rw [List.mem_singleton.1 hx]; exact Nat.le_refl _
    · rcases List.mem_cons.1 hx with rfl | hx
      · rw [ByteArray.size_extract]; omega
      · have := splitB_size sep k _ x hx
        rw [ByteArray.size_extract] at this
        omega
def splitD (s sep : ByteArray) : List ByteArray := Lib.splitB sep 0 (Lib.countB s sep) s
def strings_Split (s sep : ByteArray) : M (List ByteArray) := M.chk (decide (s.size < 4294967281) && decide (1 ≤ sep.size)) (M.ok (splitD s sep))
theorem strings_Split_l {s sep : ByteArray} {r : List ByteArray} (H : (strings_Split s sep).to r) : FnT GL Tryd.prog 26 [.lit (.string s), .lit (.string sep)] (.bs Ty.str r) := by
  obtain ⟨c, H⟩ := M.to_chk.1 H
  obtain rfl := M.to_ok.1 H
  rw [Bool.and_eq_true] at c
  have c1 : s.size < 4294967281 := of_decide_eq_true c.1
  have c2 : 1 ≤ sep.size := of_decide_eq_true c.2
  refine ⟨by kernel_rfl, fun w S vs hG hS hr => ?_⟩
  obtain rfl := relL_lit2 hr
  obtain ⟨m, hm⟩ := hG.most
  refine (Tryd.strings_Split s sep m w c1 hm c2).mono fun e w' ⟨he, hw⟩ => ?_
  have hlen : (splitD s sep).length = Lib.countB s sep + 1 := Lib.splitB_all sep c2 0 _ s rfl
  have hcnt : Lib.countB s sep + 1 ≤ maxLen := by
    have := Lib.countB_le sep c2 _ s (Nat.le_refl _)
    unfold maxLen
    omega
  have hb : Below w.heap.size w w' := by
    subst hw
    exact (Below.refl _ _).alloc (Nat.le_refl _) _
  refine ⟨_, he, hb, fun k => S k ∨ k = w.heap.size, fun k hk => .inl hk, fun k hk => hk.imp id fun e => by omega, fun k hk => ?_, ?_⟩
  · subst hw
    rcases hk with hk | hk
    · have := hS k hk; simp; omega
    · simp; omega
  · unfold AV.rel
    refine ⟨some ⟨w.heap.size, 0, none⟩, Lib.countB s sep + 1, by rw [hlen], Nat.le_of_eq hlen, ⟨hcnt, fun e => by cases e⟩, fun i d hd => ⟨_, _, rfl, .inr rfl, [.string d], ⟨rfl, ?_⟩, ?_⟩⟩
    · have := splitB_size sep _ s d (List.mem_of_getElem? hd)
      unfold maxLen
      omega
    · intro j v hj
      cases j with
      | succ j => simp at hj
      | zero =>
        simp at hj
        subst hj hw
        have e1 : 0 + i * Ty.str.size + 0 = i := by show 0 + i * 1 + 0 = i; omega
        rw [e1]
        unfold splitD at hd
        have hh : (w.alloc (.cells ((Lib.splitB sep 0 (Lib.countB s sep) s).map Value.string).toArray 9)).heap[w.heap.size]? = some (.cells ((Lib.splitB sep 0 (Lib.countB s sep) s).map Value.string).toArray 9) := by
          rw [show (w.alloc (.cells ((Lib.splitB sep 0 (Lib.countB s sep) s).map Value.string).toArray 9)).heap = w.heap.push (.cells ((Lib.splitB sep 0 (Lib.countB s sep) s).map Value.string).toArray 9) from rfl, Array.getElem?_push_size]
        unfold World.cell?
        dsimp only
        rw [hh]
        simp [hd]
end Mu
end
section
/-
  image.Read of no text at all.
  Conditions: what is laid (GL).
-/
namespace Mu
open Go Go.RowKit Go.Proofs

theorem trim0 : (strings_TrimSuffix ⟨#[]⟩ ⟨#[10]⟩).to ⟨#[]⟩ := ⟨0, by kernel_rfl⟩
theorem split0 : (strings_Split ⟨#[]⟩ ⟨#[10]⟩).to [⟨#[]⟩] := ⟨0, by kernel_rfl⟩
set_option maxRecDepth 100000 in
set_option maxHeartbeats 1000000 in
theorem read0_fn : FnT GL Tryd.prog 13 [.lit (.string ⟨#[]⟩)] (.tup [.agg (encImg zImg), .lit (.int .i64 5)]) := by
  have hL := gl_lasts
  have h1 := strings_TrimSuffix_l trim0
  have h2 := strings_Split_l split0
  refine FnT.of_awpC2 Tryd.func13 rfl (by kernel_rfl) rfl aggImg Tryd.ntmps13 fun C hC hG => ?_
  simp only [List.length_cons, List.length_nil, Nat.reduceAdd, Nat.reduceSub, List.replicate_succ, List.replicate_zero, List.cons_append, List.nil_append]
  refine wR (hk := ?_)
  refine wR (hk := ?_)
  refine Awp.seq fun K3 h3 => ?_
  refine wR (hk := ?_)
  refine Awp.cond rfl (fun hb5 => ?_) (fun hb5 => ?_)
  · refine wR (hx := by ((repeat (first | refine sA (hq := Quiet.bldP (rs := [.lit (.int .i64 0), .lit (.slice none 0 0), .lit (.int .i64 0), .lit (.int .i64 0), .lit (.int .i64 0), .lit (.slice none 0 0), .lit (.int .i64 0)]) rfl plImg rfl rfl) (hk := ?_) | refine sA (hk := ?_) | refine sSkip (hk := ?_) | refine sAG (hq := by (intro hg; (try simp only [] at hg); (try simp only [hg, beq_true, beq_false, cond_true, Bool.true_and, Bool.and_true, Bool.not_false, Bool.not_true, beq_self_eq_true]); exact Quiet.bldP (rs := [.lit (.int .i64 0), .lit (.slice none 0 0), .lit (.int .i64 0), .lit (.int .i64 0), .lit (.int .i64 0), .lit (.slice none 0 0), .lit (.int .i64 0)]) rfl plImg rfl rfl)) (hk := ?_) | refine sAG (hk := ?_) | refine sOwn (hk := ?_))); exact wEnd rfl)) (hk := ?_)
    exact Awp.ret ⟨.inr rfl, 0, _, rfl, rfl, rfl, zero_fin⟩
  · exact absurd hb5 (by decide)
def image_Read (s : ByteArray) : M (Img × Int) := M.chk (decide (s = ⟨#[]⟩)) (M.ok (zImg, 5))
theorem image_Read_l {s : ByteArray} {r : Img × Int} (H : (image_Read s).to r) : FnT GL Tryd.prog 13 [.lit (.string s)] (.tup [.agg (encImg r.1), .lit (.int .i64 r.2)]) := by
  obtain ⟨c, H⟩ := M.to_chk.1 H
  obtain rfl := M.to_ok.1 H
  obtain rfl : s = ⟨#[]⟩ := of_decide_eq_true c
  exact read0_fn
end Mu
end
section
/-
  The instruction of a word: inst.Decode.
  Conditions: the table of fields is laid.
-/
namespace Mu
open Go Go.RowKit Go.Proofs

instance inMuInstD1 : ZC Tryd.prog 39 [.int .u32 0] := ⟨by kernel_rfl⟩
/-- a number with its sign -/
def sxN (n m : Nat) : Int := if n < m then (n : Int) else (n : Int) - 2 * m
theorem sx_gen (n c m : Nat) (h : n < 2 * m) (hc : 0 < c) (hm : c * m = 2147483648) : IntKind.i32.wrap ((c * n : Nat) : Int) / (c : Int) = sxN n m := by
  rw [IntKind.wrap_i32]
  unfold sxN
  have hmi : (c : Int) * m = 2147483648 := by rw [← Int.natCast_mul, hm]; rfl
  have hn : ((c * n : Nat) : Int) = (c : Int) * n := by rw [Int.natCast_mul]
  have hc' : (c : Int) ≠ 0 := by omega
  split
  · rename_i hlt
    have h1 : (c : Int) * n < c * m := Int.mul_lt_mul_of_pos_left (by omega) (by omega)
    have h0 : (0 : Int) ≤ (c : Int) * n := Int.mul_nonneg (by omega) (by omega)
    rw [hn]
    generalize hx : (c : Int) * n = x at *
    have e : (x + 2147483648) % 4294967296 - 2147483648 = x := by omega
    rw [e, ← hx, Int.mul_ediv_cancel_left _ hc']
  · rename_i hge
    have h1 : (c : Int) * m ≤ c * n := Int.mul_le_mul_of_nonneg_left (by omega) (by omega)
    have h2 : (c : Int) * n < c * (2 * m) := Int.mul_lt_mul_of_pos_left (by omega) (by omega)
    have h3 : (c : Int) * (2 * m) = 4294967296 := by rw [Int.mul_left_comm, hmi]; rfl
    rw [hn]
    have e : ((c : Int) * n + 2147483648) % 4294967296 - 2147483648 = c * (n - 2 * m) := by
      rw [Int.mul_sub, h3]
      generalize (c : Int) * n = x at *
      omega
    rw [e, Int.mul_ediv_cancel_left _ hc']
def opN (w : Nat) : Int := ((w / 67108864 : Nat) : Int)
def longN (w : Nat) : Bool := hasBit (opN w) 16 && hasP (opN w) != 128
def bitN (w : Nat) : Bool := ((w / 32768 % 2 : Nat) : Int) == 1
/-- a shift to the right, as one fact -/
structure ShrF (k : IntKind) (a b m : Int) : Prop where
  h : a / 2 ^ min b.toNat k.bits = m
theorem Quiet.shrF {P : Program} {C : Ctx} {t : List AV} {h : List ABlk} {o : Oper} {xt yt : TypeId} {x y : Operand} {k q : IntKind} {a b m : Int} (ho : o.op = .binOp .shr xt x y yt) (hx : evA t x = .lit (.int k a)) (hy : evA t y = .lit (.int q b)) (hb : 0 ≤ b) (hm : ShrF k a b m) : Quiet P C t h o (.lit (.int k m)) :=
  Quiet.shr ho hx hy hb hm.h
/-- what might be a word's instruction -/
def candI (w : Nat) : InstM := ⟨opN w, ((w / 2097152 % 32 : Nat) : Int), if longN w = true then 0 else ((w / 65536 % 32 : Nat) : Int), if longN w = true then 0 else if bitN w = true then 0 else ((w % 32 : Nat) : Int),
  if longN w = true then true else bitN w, if longN w = true then (if opN w = 15 then ((w % 2097152 : Nat) : Int) else sxN (w % 2097152) 1048576) else if bitN w = true then sxN (w % 32768) 16384 else 0⟩
def zeroI : InstM := ⟨0, 0, 0, 0, false, 0⟩
def decOK (w : Nat) : Bool := decide (encE (candI w) = 0) && decide (encI (candI w) = (w : Int))
def decX (w : Nat) : InstM := if decOK w = true then candI w else zeroI
theorem u8_in {a : Int} (h : 0 ≤ a ∧ a ≤ 255) : wfI .u8 a := by
  simp [wfI, Lit.wf, IntKind.min, IntKind.max, IntKind.signed, IntKind.bits]
  omega
theorem i32_wf {a : Int} (h : -2147483648 ≤ a ∧ a ≤ 2147483647) : wfI .i32 a := by
  simp [wfI, Lit.wf, IntKind.min, IntKind.max, IntKind.signed, IntKind.bits]
  omega
theorem aggInst : aggT Tryd.prog 75 = some (true, 6) := by kernel_rfl
theorem cand_ok {w : Nat} (hw : w < 4294967296) : okInstM (candI w) := by
  refine ⟨u8_in ?_, u8_in ?_, u8_in ?_, u8_in ?_, i32_wf ?_⟩ <;> unfold candI <;> dsimp only
  · unfold opN; omega
  · omega
  · split <;> omega
  · split
    · omega
    · split <;> omega
  · split
    · split
      · omega
      · unfold sxN; split <;> omega
    · split
      · unfold sxN; split <;> omega
      · omega
set_option maxRecDepth 100000 in
set_option maxHeartbeats 4000000 in
theorem decode_fn (w : Nat) (hw : w < 4294967296) : FnT GL Tryd.prog 56 [.lit (.int .u32 (w : Int))] (.tup [.agg (encInstM (decX w)), .lit (.bool (decOK w))]) := by
  have hL := gl_lasts
  have hop : wfI .u8 (opN w) := u8_in (by unfold opN; omega)
  have hhas := has_fn (opN w) hop
  have hok := cand_ok hw
  obtain ⟨rd', hrd⟩ : ∃ r, r = (candI w).rd := ⟨_, rfl⟩
  obtain ⟨rs', hrs⟩ : ∃ r, r = (candI w).rs1 := ⟨_, rfl⟩
  obtain ⟨rt', hrt⟩ : ∃ r, r = (candI w).rs2 := ⟨_, rfl⟩
  obtain ⟨is', his⟩ : ∃ r, r = (candI w).is_ := ⟨_, rfl⟩
  obtain ⟨im', him⟩ : ∃ r, r = (candI w).imm := ⟨_, rfl⟩
  have hcd : candI w = ⟨opN w, rd', rs', rt', is', im'⟩ := by subst hrd hrs hrt his him; rfl
  have henc := encode_fn _ hok
  obtain ⟨E, hE⟩ : ∃ E, E = encI (candI w) := ⟨_, rfl⟩
  obtain ⟨F, hF⟩ : ∃ F, F = encE (candI w) := ⟨_, rfl⟩
  rw [← hE, ← hF, hcd] at henc
  have s26 : ShrF .u32 (w : Int) 26 (opN w) := ⟨by
    rw [show min (26 : Int).toNat IntKind.u32.bits = 26 from rfl]
    unfold opN
    omega⟩
  have c8 : IntKind.u8.wrap (opN w) = opN w := by rw [wrap_u8m]; unfold opN; omega
  have s11 : ShlF .u32 ((w % 2097152 : Nat) : Int) 11 ((2048 * (w % 2097152) : Nat) : Int) := ⟨by rw [wrap_u32m, show min (11 : Int).toNat IntKind.u32.bits = 11 from rfl]; omega⟩
  obtain ⟨q1, hq1⟩ : ∃ q, IntKind.i32.wrap ((2048 * (w % 2097152) : Nat) : Int) = q := ⟨_, rfl⟩
  have t11 : ShrF .i32 q1 11 (sxN (w % 2097152) 1048576) := ⟨by
    rw [← hq1]
    exact sx_gen (w % 2097152) 2048 1048576 (by omega) (by decide) rfl⟩
  have c32 : IntKind.i32.wrap ((w % 2097152 : Nat) : Int) = ((w % 2097152 : Nat) : Int) := IntWalk.i32_in _ (by omega)
  have s17 : ShlF .u32 ((w % 32768 : Nat) : Int) 17 ((131072 * (w % 32768) : Nat) : Int) := ⟨by rw [wrap_u32m, show min (17 : Int).toNat IntKind.u32.bits = 17 from rfl]; omega⟩
  obtain ⟨q2, hq2⟩ : ∃ q, IntKind.i32.wrap ((131072 * (w % 32768) : Nat) : Int) = q := ⟨_, rfl⟩
  have t17 : ShrF .i32 q2 17 (sxN (w % 32768) 16384) := ⟨by
    rw [← hq2]
    exact sx_gen (w % 32768) 131072 16384 (by omega) (by decide) rfl⟩
  have a31 : bits .and .u32 ((w % 32768 : Nat) : Int) 31 = ((w % 32 : Nat) : Int) := by
    have := and_u32 5 (w % 32768) (by decide) (by omega)
    rw [show (((2 : Nat) ^ 5 - 1 : Nat) : Int) = 31 from rfl] at this
    rw [this]
    omega
  have c5 : IntKind.u8.wrap ((w % 32 : Nat) : Int) = ((w % 32 : Nat) : Int) := by rw [wrap_u8m]; omega
  have c16 : IntKind.u8.wrap ((w / 65536 % 32 : Nat) : Int) = ((w / 65536 % 32 : Nat) : Int) := by rw [wrap_u8m]; omega
  have c21 : IntKind.u8.wrap ((w / 2097152 % 32 : Nat) : Int) = rd' := by
    rw [wrap_u8m, hrd]
    show _ = ((w / 2097152 % 32 : Nat) : Int)
    omega
  generalize ((2048 * (w % 2097152) : Nat) : Int) = p1 at s11 hq1
  generalize ((131072 * (w % 32768) : Nat) : Int) = p2 at s17 hq2
  refine FnT.of_awpC2 Tryd.func56 rfl (by kernel_rfl) rfl aggInst Tryd.ntmps56 fun C hC hG => ?_
  simp only [List.length_cons, List.length_nil, Nat.reduceAdd, Nat.reduceSub, List.replicate_succ, List.replicate_zero, List.cons_append, List.nil_append]
  refine wR (hk := ?_)
  refine wR (hk := ?_)
  refine Awp.open_box 1 rfl rfl rfl (fun g => [.lit (.int .u32 (w : Int)), .any, .ptr 0 0, .lit (.bool false), .lit (.pointer (some ⟨g, 0, none⟩)), .any, .any, .any, .any, .any, .any, .any, .any, .any, .any, .any, .any, .any, .any, .any, .any, .any, .any, .any, .any, .any, .any, .any, .any, .any, .any, .any, .any, .any, .any, .any, .any, .any, .any, .any, .any, .any, .any, .any, .any, .any, .any, .any, .any, .any, .any, .any, .any, .any, .any, .any, .any, .any, .any, .any, .any, .any, .any, .any, .any, .any, .any, .any, .any, .any, .any, .any, .any, .any, .any, .any, .any, .any, .any, .any, .any]) (fun g => (by (repeat (first | exact OpnB.nil | refine OpnB.ptr ?_ | refine OpnB.any ?_ | refine OpnB.keep rfl ?_)))) fun g => ?_
  have ht1 : FnTurn Tryd.prog 73 (boxR g [.lit (.int .u32 (w : Int))]) [.lit (.int .u64 21), .lit (.pointer (some ⟨g, 0, none⟩))] (fun _ : Unit => boxR g [.lit (.int .u32 ((w / 2097152 : Nat) : Int))]) (fun _ => .int .u32 ((w % 2097152 : Nat) : Int)) := take_fn g w 21 hw (by decide)
  have ht2 : FnTurn Tryd.prog 73 (boxR g [.lit (.int .u32 (w : Int))]) [.lit (.int .u64 15), .lit (.pointer (some ⟨g, 0, none⟩))] (fun _ : Unit => boxR g [.lit (.int .u32 ((w / 32768 : Nat) : Int))]) (fun _ => .int .u32 ((w % 32768 : Nat) : Int)) := take_fn g w 15 hw (by decide)
  have ht3 : FnTurn Tryd.prog 73 (boxR g [.lit (.int .u32 ((w / 32768 : Nat) : Int))]) [.lit (.int .u64 1), .lit (.pointer (some ⟨g, 0, none⟩))] (fun _ : Unit => boxR g [.lit (.int .u32 ((w / 65536 : Nat) : Int))]) (fun _ => .int .u32 ((w / 32768 % 2 : Nat) : Int)) := by
    have := take_fn g (w / 32768) 1 (by omega) (by decide)
    rw [show w / 32768 / 2 ^ 1 = w / 65536 by omega] at this
    exact this
  have ht4 : FnTurn Tryd.prog 73 (boxR g [.lit (.int .u32 ((w / 65536 : Nat) : Int))]) [.lit (.int .u64 5), .lit (.pointer (some ⟨g, 0, none⟩))] (fun _ : Unit => boxR g [.lit (.int .u32 ((w / 2097152 : Nat) : Int))]) (fun _ => .int .u32 ((w / 65536 % 32 : Nat) : Int)) := by
    have := take_fn g (w / 65536) 5 (by omega) (by decide)
    rw [show w / 65536 / 2 ^ 5 = w / 2097152 by omega] at this
    exact this
  have ht5 : FnTurn Tryd.prog 73 (boxR g [.lit (.int .u32 ((w / 2097152 : Nat) : Int))]) [.lit (.int .u64 5), .lit (.pointer (some ⟨g, 0, none⟩))] (fun _ : Unit => boxR g [.lit (.int .u32 ((w / 67108864 : Nat) : Int))]) (fun _ => .int .u32 ((w / 2097152 % 32 : Nat) : Int)) := by
    have := take_fn g (w / 2097152) 5 (by omega) (by decide)
    rw [show w / 2097152 / 2 ^ 5 = w / 67108864 by omega] at this
    exact this
  refine wR (hk := ?_)
  refine wR (hx := by ((repeat (first | refine sA (hq := Quiet.shrF rfl rfl rfl (by decide) s26) (hk := ?_) | refine sA (hq := Quiet.cv rfl rfl c8) (hk := ?_) | refine sA (hq := Quiet.bldP (rs := [.lit (.int .u8 (opN w)), .lit (.int .u8 0), .lit (.int .u8 0), .lit (.int .u8 0), .lit (.bool false), .lit (.int .i32 0)]) rfl plInstM rfl rfl) (hk := ?_) | refine sA (hk := ?_) | refine sSkip (hk := ?_) | refine sAG (hq := by (intro hg; (try simp only [] at hg); (try simp only [hg, beq_true, beq_false, cond_true, Bool.true_and, Bool.and_true, Bool.not_false, Bool.not_true, beq_self_eq_true]); exact Quiet.shrF rfl rfl rfl (by decide) s26)) (hk := ?_) | refine sAG (hq := by (intro hg; (try simp only [] at hg); (try simp only [hg, beq_true, beq_false, cond_true, Bool.true_and, Bool.and_true, Bool.not_false, Bool.not_true, beq_self_eq_true]); exact Quiet.cv rfl rfl c8)) (hk := ?_) | refine sAG (hq := by (intro hg; (try simp only [] at hg); (try simp only [hg, beq_true, beq_false, cond_true, Bool.true_and, Bool.and_true, Bool.not_false, Bool.not_true, beq_self_eq_true]); exact Quiet.bldP (rs := [.lit (.int .u8 (opN w)), .lit (.int .u8 0), .lit (.int .u8 0), .lit (.int .u8 0), .lit (.bool false), .lit (.int .i32 0)]) rfl plInstM rfl rfl)) (hk := ?_) | refine sAG (hk := ?_) | refine sOwn (hk := ?_))); exact wEnd rfl)) (hk := ?_)
  refine Awp.seqc ⟨[.lit (.int .u32 (w : Int)), .any, .ptr 0 0, .lit (.bool false), .any, .fn 73 [.lit (.pointer (some ⟨g, 0, none⟩))], .ptr 2 0, .any, .any, .any, .any, .any, .any, .any, .any, .any, .any, .any, .any, .any, .any, .any, .any, .any, .any, .any, .any, .any, .any, .any, .any, .any, .any, .any, .any, .any, .any, .any, .any, .any, .any, .any, .any, .any, .any, .any, .any, .any, .any, .any, .any, .any, .any, .any, .any, .any, .any, .any, .any, .any, .any, .any, .any, .any, .any, .any, .any, .any, .any, .any, .any, .any, .any, .any, .any, .any, .any, .any, .any, .any, .any], [.box [.lit (.int .u8 0), .lit (.int .u8 0), .lit (.int .u8 0), .lit (.int .u8 0), .lit (.bool false), .lit (.int .i32 0)], .res (boxR g [.lit (.int .u32 ((w / 2097152 : Nat) : Int))]), .box [.lit (.int .u8 (opN w)), .lit (.int .u8 0), .lit (.int .u8 rs'), .lit (.int .u8 rt'), .lit (.bool is'), .lit (.int .i32 im')]]⟩ ?_ ?_
  · refine wR (hk := ?_)
    refine Awp.cond rfl (fun hb7 => ?_) (fun hb7 => ?_)
    · have hl : longN w = true := hb7
      have e1 : rs' = 0 := by rw [hrs]; exact if_pos hl
      have e2 : rt' = 0 := by rw [hrt]; exact if_pos hl
      have e3 : is' = true := by rw [his]; exact if_pos hl
      have e4 : im' = if opN w = 15 then ((w % 2097152 : Nat) : Int) else sxN (w % 2097152) 1048576 := by rw [him]; exact if_pos hl
      refine wR (hx := by ((repeat (first | (refine aSeq_t rfl (AOp.callTurnV (i := 1) rfl rfl rfl ht1 (fun _ => rfl) rfl rfl fun _ => ?_); refine sNt (hk := ?_)) | refine sA (hk := ?_) | refine sSkip (hk := ?_) | refine sAG (hk := ?_) | refine sOwn (hk := ?_))); exact wEnd rfl)) (hk := ?_)
      refine wR (hx := by ((repeat (first | refine sA (hq := Quiet.shlF rfl rfl rfl (by decide) s11) (hk := ?_) | refine sA (hq := Quiet.cv rfl rfl hq1) (hk := ?_) | refine sA (hq := Quiet.shrF rfl rfl rfl (by decide) t11) (hk := ?_) | refine sA (hk := ?_) | refine sSkip (hk := ?_) | refine sAG (hq := by (intro hg; (try simp only [] at hg); (try simp only [beq_true]); exact Quiet.shlF rfl rfl rfl (by decide) s11)) (hk := ?_) | refine sAG (hq := by (intro hg; (try simp only [] at hg); (try simp only [beq_true]); exact Quiet.cv rfl rfl hq1)) (hk := ?_) | refine sAG (hq := by (intro hg; (try simp only [] at hg); (try simp only [beq_true]); exact Quiet.shrF rfl rfl rfl (by decide) t11)) (hk := ?_) | refine sAG (hk := ?_) | refine sOwn (hk := ?_))); exact wEnd rfl)) (hk := ?_)
      refine wR (hk := ?_)
      refine Awp.cond rfl (fun hb11 => ?_) (fun hb11 => ?_)
      · have e5 : im' = ((w % 2097152 : Nat) : Int) := by rw [e4]; exact if_pos (by have : (opN w == 15) = true := hb11; simpa using this)
        refine wRE (hx := by ((repeat (first | refine sA (hq := Quiet.cv rfl rfl c32) (hk := ?_) | refine sA (hk := ?_) | refine sSkip (hk := ?_) | refine sAG (hq := by (intro hg; (try simp only [] at hg); (try simp only [beq_true]); exact Quiet.cv rfl rfl c32)) (hk := ?_) | refine sAG (hk := ?_) | refine sOwn (hk := ?_))); exact wEnd rfl)) (hk := ?_)
        rw [e1, e2, e3, e5]
        exact le_TA
      · have e5 : im' = sxN (w % 2097152) 1048576 := by rw [e4]; exact if_neg (by have : (opN w == 15) = false := hb11; simpa using this)
        refine Awp.skip ?_
        rw [e1, e2, e3, e5]
        exact le_TA
    · have hl : longN w = false := hb7
      have hn : ¬ longN w = true := by rw [hl]; exact Bool.false_ne_true
      have e1 : rs' = ((w / 65536 % 32 : Nat) : Int) := by rw [hrs]; exact if_neg hn
      have e3 : is' = bitN w := by rw [his]; exact if_neg hn
      refine wR (hx := by ((repeat (first | (refine aSeq_t rfl (AOp.callTurnV (i := 1) rfl rfl rfl ht2 (fun _ => rfl) rfl rfl fun _ => ?_); refine sNt (hk := ?_)) | refine sA (hk := ?_) | refine sSkip (hk := ?_) | refine sAG (hk := ?_) | refine sOwn (hk := ?_))); exact wEnd rfl)) (hk := ?_)
      refine Awp.seq fun K14 h14 => ?_
      refine wR (hx := by ((repeat (first | (refine aSeq_t rfl (AOp.callTurnV (i := 1) rfl rfl rfl ht3 (fun _ => rfl) rfl rfl fun _ => ?_); refine sNt (hk := ?_)) | refine sA (hk := ?_) | refine sSkip (hk := ?_) | refine sAG (hk := ?_) | refine sOwn (hk := ?_))); exact wEnd rfl)) (hk := ?_)
      refine wR (hk := ?_)
      refine Awp.cond rfl (fun hb17 => ?_) (fun hb17 => ?_)
      · have hb : bitN w = true := hb17
        have e2 : rt' = 0 := by rw [hrt]; unfold candI; dsimp only; rw [if_neg hn, if_pos hb]
        have e5 : im' = sxN (w % 32768) 16384 := by rw [him]; unfold candI; dsimp only; rw [if_neg hn, if_pos hb]
        refine wRE (hx := by ((repeat (first | refine sA (hq := Quiet.shlF rfl rfl rfl (by decide) s17) (hk := ?_) | refine sA (hq := Quiet.cv rfl rfl hq2) (hk := ?_) | refine sA (hq := Quiet.shrF rfl rfl rfl (by decide) t17) (hk := ?_) | refine sA (hk := ?_) | refine sSkip (hk := ?_) | refine sAG (hq := by (intro hg; (try simp only [] at hg); (try simp only [beq_true]); exact Quiet.shlF rfl rfl rfl (by decide) s17)) (hk := ?_) | refine sAG (hq := by (intro hg; (try simp only [] at hg); (try simp only [beq_true]); exact Quiet.cv rfl rfl hq2)) (hk := ?_) | refine sAG (hq := by (intro hg; (try simp only [] at hg); (try simp only [beq_true]); exact Quiet.shrF rfl rfl rfl (by decide) t17)) (hk := ?_) | refine sAG (hk := ?_) | refine sOwn (hk := ?_))); exact wEnd rfl)) (hk := ?_)
        refine h14 _ ?_
        refine nT (hk := ?_)
        refine wRE (hx := by ((repeat (first | (refine aSeq_t rfl (AOp.callTurnV (i := 1) rfl rfl rfl ht4 (fun _ => rfl) rfl rfl fun _ => ?_); refine sNt (hk := ?_)) | refine sA (hq := Quiet.cv rfl rfl c16) (hk := ?_) | refine sA (hk := ?_) | refine sSkip (hk := ?_) | refine sAG (hq := by (intro hg; (try simp only [] at hg); (try simp only [beq_true]); exact Quiet.cv rfl rfl c16)) (hk := ?_) | refine sAG (hk := ?_) | refine sOwn (hk := ?_))); exact wEnd rfl)) (hk := ?_)
        rw [e1, e2, e3, e5]
        exact le_TA
      · have hb : bitN w = false := hb17
        have e2 : rt' = ((w % 32 : Nat) : Int) := by rw [hrt]; unfold candI; dsimp only; rw [if_neg hn, if_neg (by rw [hb]; exact Bool.false_ne_true)]
        have e5 : im' = 0 := by rw [him]; unfold candI; dsimp only; rw [if_neg hn, if_neg (by rw [hb]; exact Bool.false_ne_true)]
        refine wRE (hx := by ((repeat (first | refine sA (hq := Quiet.cv rfl rfl c5) (hk := ?_) | refine sA (hk := ?_) | refine sSkip (hk := ?_) | refine sAG (hq := by (intro hg; (try simp only [] at hg); (try simp only [beq_true]); exact Quiet.cv rfl rfl c5)) (hk := ?_) | refine sAG (hk := ?_) | refine sOwn (hk := ?_))); exact wEnd rfl)) (hk := ?_)
        refine h14 _ ?_
        refine nT (hk := ?_)
        refine wRE (hx := by ((repeat (first | (refine aSeq_t rfl (AOp.callTurnV (i := 1) rfl rfl rfl ht4 (fun _ => rfl) rfl rfl fun _ => ?_); refine sNt (hk := ?_)) | refine sA (hq := Quiet.cv rfl rfl c16) (hk := ?_) | refine sA (hk := ?_) | refine sSkip (hk := ?_) | refine sAG (hq := by (intro hg; (try simp only [] at hg); (try simp only [beq_true]); exact Quiet.cv rfl rfl c16)) (hk := ?_) | refine sAG (hk := ?_) | refine sOwn (hk := ?_))); exact wEnd rfl)) (hk := ?_)
        rw [e1, e2, e3, e5]
        exact le_TA
  · refine wR (hx := by ((repeat (first | (refine aSeq_t rfl (AOp.callTurnV (i := 1) rfl rfl rfl ht5 (fun _ => rfl) rfl rfl fun _ => ?_); refine sNt (hk := ?_)) | refine sA (hq := Quiet.cv rfl rfl c21) (hk := ?_) | refine sA (hk := ?_) | refine sSkip (hk := ?_) | refine sAG (hq := by (intro hg; (try simp only [] at hg); (try simp only [hg, beq_true, beq_false, cond_true, Bool.true_and, Bool.and_true, Bool.not_false, Bool.not_true, beq_self_eq_true]); exact Quiet.cv rfl rfl c21)) (hk := ?_) | refine sAG (hk := ?_) | refine sOwn (hk := ?_))); exact wEnd rfl)) (hk := ?_)
    refine Awp.seq fun K22 h22 => ?_
    refine wR (hk := ?_)
    refine wR (hk := ?_)
    have hraw : (F != 0 || E != (w : Int)) = !decOK w := by
      unfold decOK
      rw [← hE, ← hF, Bool.eq_iff_iff]
      simp only [Bool.or_eq_true, bne_iff_ne, Bool.not_eq_true', Bool.and_eq_false_iff, decide_eq_false_iff_not]
    refine Awp.cond rfl (fun hb25 => ?_) (fun hb25 => ?_)
    · refine wR (hx := by ((repeat (first | refine sA (hq := Quiet.bldP (rs := [.lit (.int .u8 0), .lit (.int .u8 0), .lit (.int .u8 0), .lit (.int .u8 0), .lit (.bool false), .lit (.int .i32 0)]) rfl plInstM rfl rfl) (hk := ?_) | refine sA (hk := ?_) | refine sSkip (hk := ?_) | refine sAG (hq := by (intro hg; (try simp only [] at hg); (try simp only [beq_false]); exact Quiet.bldP (rs := [.lit (.int .u8 0), .lit (.int .u8 0), .lit (.int .u8 0), .lit (.int .u8 0), .lit (.bool false), .lit (.int .i32 0)]) rfl plInstM rfl rfl)) (hk := ?_) | refine sAG (hk := ?_) | refine sOwn (hk := ?_))); exact wEnd rfl)) (hk := ?_)
      have h1 := hraw.symm.trans hb25
      rw [Bool.not_eq_true'] at h1
      have e1 : decX w = zeroI := if_neg (by rw [h1]; exact Bool.false_ne_true)
      rw [e1, h1]
      exact Awp.ret ⟨.inr rfl, 0, _, rfl, rfl, rfl, Fin.cl rfl⟩
    · refine Awp.skip ?_
      refine h22 _ ?_
      refine nT (hk := ?_)
      refine wR (hk := ?_)
      have h1 := hraw.symm.trans hb25
      rw [Bool.not_eq_false'] at h1
      have e1 : decX w = candI w := if_pos h1
      rw [e1, h1, hcd]
      exact Awp.ret ⟨.inr rfl, 0, _, rfl, rfl, rfl, Fin.cl rfl⟩
end Mu
end
section
/-
  Regions that draw their order, whatever they do: the state is told by what is done so far.
  Conditions: none; generic.
-/
namespace Mu
open Go Go.RowKit

section
variable {P : Program} {C : Ctx}
def upd (b : Nat → Bool) (i : Nat) : Nat → Bool := fun j => if j = i then true else b j
/-- what an operation waits for is done -/
def aftD (b : Nat → Bool) (o : Oper) : Prop := ∀ (k : Nat) (e : Edge), o.after[k]? = some e → Region.binds .any e = true → b e.on = true
def clsD (ops : Array Oper) (b : Nat → Bool) : Prop := ∀ (j : Nat) (o : Oper), ops[j]? = some o → b j = true → aftD b o
def gS (P : Program) (C : Ctx) (F : (Nat → Bool) → St) (ops : Array Oper) : Nat → List Oper → Prop
  | _, [] => True
  | k, o :: rest => (∀ b, b k = false → aftD b o → clsD ops b → AOp P C o (F b) fun s => St.le C s (F (upd b k))) ∧ gS P C F ops (k + 1) rest
theorem gS_get {F : (Nat → Bool) → St} {ops : Array Oper} : ∀ {l : List Oper} {k j : Nat} {o : Oper}, gS P C F ops k l → l[j]? = some o → ∀ b, b (k + j) = false → aftD b o → clsD ops b → AOp P C o (F b) fun s => St.le C s (F (upd b (k + j)))
  | [], _, _, _, _, hj => by simp at hj
  | o' :: l, k, 0, o, h, hj => by
    simp at hj
    subst hj
    exact h.1
  | o' :: l, k, j + 1, o, h, hj => by
    have := gS_get (l := l) (k := k + 1) (j := j) h.2 (by simpa using hj)
    rwa [show k + 1 + j = k + (j + 1) by omega] at this
def fwdB (ops : Array Oper) : Bool := (List.range ops.size).all fun i => match ops[i]? with
  | none => true
  | some o => o.guard.isNone && o.after.all fun e => !Region.binds .any e || decide (e.on < i)
theorem fwd_get {ops : Array Oper} (hf : fwdB ops = true) {i : Nat} {o : Oper} (ho : ops[i]? = some o) : o.guard = none ∧ ∀ e ∈ o.after, Region.binds .any e = true → e.on < i := by
  have h1 := List.all_eq_true.1 hf i (List.mem_range.2 (Array.getElem?_eq_some_iff.1 ho).1)
  simp only [ho, Bool.and_eq_true] at h1
  refine ⟨by simpa using h1.1, fun e he hb => ?_⟩
  have h2 := Array.all_eq_true_iff_forall_mem.1 h1.2 e he
  rw [hb] at h2
  simpa using h2
theorem aftD_mono {b : Nat → Bool} {i : Nat} {o : Oper} (h : aftD b o) : aftD (upd b i) o := fun k e he hb => by
  unfold upd
  split
  · rfl
  · exact h k e he hb
theorem getD_t {listed : Array Bool} {j : Nat} (h : listed.getD j false = true) : listed.getD j true = true := by
  rcases Nat.lt_or_ge j listed.size with h' | h'
  · simp [h'] at h ⊢; exact h
  · simp [Array.getElem?_eq_none h'] at h
theorem upd_set {listed : Array Bool} {i : Nat} (hi : i < listed.size) : (fun j => (listed.setIfInBounds i true).getD j true) = upd (fun j => listed.getD j true) i := by
  funext j
  unfold upd
  by_cases h : j = i
  · subst h
    rw [if_pos rfl]
    simp [Array.getD_eq_getD_getElem?, hi]
  · rw [if_neg h, getD_set_ne true (Ne.symm h)]
theorem wpAny_of_G {ops : Array Oper} {F : (Nat → Bool) → St} {Q' : Exit → Act → World → Prop} (hf : fwdB ops = true)
    (hs : ∀ (j : Nat) (o : Oper), ops[j]? = some o → ∀ b, b j = false → aftD b o → clsD ops b → AOp P C o (F b) fun s => St.le C s (F (upd b j)))
    (hQ : ∀ a w, (F fun _ => true).rel C a w → Q' .normal a w) :
    ∀ (f : Nat) (listed : Array Bool) (a : Act) (w : World), listed.size = ops.size → listed.toList.count false = f → clsD ops (fun j => listed.getD j true) → (F fun j => listed.getD j true).rel C a w → wpAny P .any ops Q' f listed a w := by
  intro f
  induction f with
  | zero =>
    intro listed a w hsz hc hcl H
    have hall : ∀ j, listed.getD j true = true := fun j => by
      rcases Nat.lt_or_ge j listed.size with h' | h'
      · have hm := List.count_eq_zero.1 hc
        simp only [Array.getD_eq_getD_getElem?, Array.getElem?_eq_getElem h', Option.getD_some]
        rcases hx : listed[j] with _ | _
        · exact absurd (by rw [← hx]; simp) hm
        · rfl
      · simp [Array.getD_eq_getD_getElem?, Array.getElem?_eq_none h']
    refine ⟨List.eq_nil_iff_forall_not_mem.2 fun i hi => ?_, hQ a w ?_⟩
    · have := (mem_ready.1 hi).1
      rw [hall i] at this
      cases this
    · have e : (fun j => listed.getD j true) = fun _ => true := funext hall
      rwa [e] at H
  | succ f ih =>
    intro listed a w hsz hc hcl H
    refine ⟨fun h0 => ?_, fun i hi => ?_⟩
    · exfalso
      have hex : ∃ j, listed.getD j true = false := by
        have hm : false ∈ listed.toList := List.count_pos_iff.1 (by omega)
        obtain ⟨j, hj, he⟩ := List.getElem_of_mem hm
        exact ⟨j, by simp only [Array.length_toList] at hj; simp only [Array.getElem_toList] at he; simp [Array.getD_eq_getD_getElem?, hj, he]⟩
      obtain ⟨j, hj, hmin⟩ := least_of hex
      have hjs : j < ops.size := by
        rcases Nat.lt_or_ge j listed.size with h' | h'
        · omega
        · simp [Array.getElem?_eq_none h'] at hj
      have hmem : j ∈ Region.ready .any ops listed := mem_ready.2 ⟨hj, _, Array.getElem?_eq_getElem hjs, fun e he hb => by
        have hlt := (fwd_get hf (Array.getElem?_eq_getElem hjs)).2 e he hb
        cases hx : listed.getD e.on false with
        | true => rfl
        | false =>
          have hin : e.on < listed.size := by omega
          have := hmin e.on (getD_in hin hx)
          omega⟩
      rw [h0] at hmem
      cases hmem
    · obtain ⟨hun, o, ho, hall⟩ := mem_ready.1 hi
      have his : i < listed.size := by rw [hsz]; exact (Array.getElem?_eq_some_iff.1 ho).1
      obtain ⟨hg, hfw⟩ := fwd_get hf ho
      have haft : aftD (fun j => listed.getD j true) o := fun k e he hb => getD_t (hall e (Array.mem_of_getElem? he) hb)
      have hcnt : (listed.setIfInBounds i true).toList.count false = f := by
        have hfalse : listed.toList[i]'(by simpa using his) = false := by
          have := hun
          simp [Array.getD_eq_getD_getElem?, his] at this
          simpa using this
        rw [Array.toList_setIfInBounds, List.count_set (by simpa using his), hfalse, hc]
        simp
      unfold wpOp
      simp only [ho]
      have hw : Region.wanted o (yielded ops a.tmps) = true := by unfold Region.wanted; rw [hg]
      rw [hw, if_pos rfl]
      refine .inl (Oper.wp_mono (fun a' w' ⟨s', hle, hr⟩ => ?_) (hs i o ho _ hun haft hcl Q' a w H).2)
      refine ih _ a' w' (by simpa using hsz) hcnt ?_ ?_
      · rw [upd_set his]
        intro j o' hj hbj
        by_cases hji : j = i
        · subst hji
          rw [ho] at hj
          cases hj
          exact aftD_mono haft
        · exact aftD_mono (hcl j o' hj (by unfold upd at hbj; rwa [if_neg hji] at hbj))
      · rw [upd_set his]
        exact hle a' w' hr
theorem Awp.drawG {id n : Nat} {l : List Oper} {Q : Exit → St → Prop} (F : (Nat → Bool) → St) (hn : l.length = n) (hm : P.follows .mixedOrders = true) (hB : (Region.noSelect l.toArray && noDefer l.toArray && fwdB l.toArray) = true)
    (hs : gS P C F l.toArray 0 l) (hQ : Q .normal (F fun _ => true)) : Awp P C (.region id l.toArray true) Q (F fun j => decide (n ≤ j)) := fun a w H => by
  simp only [Bool.and_eq_true] at hB
  obtain ⟨⟨hsel, hnd⟩, hf⟩ := hB
  refine fnc_region hm hnd ?_
  have e0 : (fun j => (Array.replicate l.toArray.size false).getD j true) = fun j => decide (n ≤ j) := by
    funext j
    simp only [Array.getD_eq_getD_getElem?, Array.getElem?_replicate, List.size_toArray, hn]
    by_cases h : j < n
    · rw [if_pos h, decide_eq_false (by omega)]; rfl
    · rw [if_neg h, decide_eq_true (by omega)]; rfl
  refine wpAny_of_G (Q' := fun e a' w' => e = .normal ∧ ∃ s', Q e s' ∧ s'.rel C a' w') hf (fun j o ho b h1 h2 h3 => ?_) (fun a' w' h => ⟨rfl, _, hQ, h⟩) _ _ a _ (by simp) (by simp) ?_ ?_
  · have := gS_get (l := l) (k := 0) (j := j) hs (by simpa using ho) b (by rwa [Nat.zero_add]) h2 h3
    rwa [Nat.zero_add] at this
  · intro j o ho hb
    have hj : j < l.toArray.size := (Array.getElem?_eq_some_iff.1 ho).1
    have : (Array.replicate l.toArray.size false).getD j true = true := hb
    rw [Array.getD_eq_getD_getElem?, Array.getElem?_replicate, if_pos hj] at this
    cases this
  · rw [e0]
    obtain ⟨hd, S, ψ, hh', hl⟩ := H
    have hb : Below w.heap.size w { w with drawn := w.drawn + 1 } := ⟨rfl, rfl, rfl, Nat.le_refl _, fun _ _ => rfl⟩
    exact ⟨hd, S, ψ, hh'.grow hb (fun _ h => h) (fun _ h => .inl h) hh'.lt, AV.relL_ext (show Ext w S _ ψ { w with drawn := w.drawn + 1 } S _ ψ from Ext.grow _ ψ (fun k hk => rfl) fun _ h => h) _ _ hl⟩

/-! ### a variable's memory at a place that is kept for it -/
theorem nrL_nil {p : Nat} : AV.nrL p [] = true := rfl
theorem nrL_cons {p : Nat} {x : AV} {l : List AV} (hx : AV.nr p x = true) (hl : AV.nrL p l = true) : AV.nrL p (x :: l) = true := by unfold AV.nrL; rw [hx, hl]; rfl
theorem nr_c {p : Nat} {c : Bool} {x y : AV} (hx : AV.nr p x = true) (hy : AV.nr p y = true) : AV.nr p (bif c then x else y) = true := by cases c; exact hy; exact hx
theorem nr_f {p : Nat} {c : Bool} {x y : AV} (hc : c = false) (hy : AV.nr p y = true) : AV.nr p (bif c then x else y) = true := by subst hc; exact hy
theorem nrH_nil {p : Nat} : List.all [] (nrB p) = true := rfl
theorem nrH_cons {p : Nat} {x : ABlk} {l : List ABlk} (hx : nrB p x = true) (hl : l.all (nrB p) = true) : (x :: l).all (nrB p) = true := by rw [List.all_cons, hx, hl]; rfl
theorem nrB_c {p : Nat} {c : Bool} {x y : ABlk} (hx : nrB p x = true) (hy : nrB p y = true) : nrB p (bif c then x else y) = true := by cases c; exact hy; exact hx
theorem AOp.alAt {o : Oper} {t : List AV} {h : List ABlk} {elem : TypeId} {zs : List Value} {K : St → Prop} [ZC P elem zs] (p : Nat) (ho : o.op = .alloc elem) (hp : h[p]? = some .dead) (hn : h.all (nrB p) = true) (hnt : AV.nrL p t = true) (hK : K ⟨putA t o.dst (.ptr p 0), h.set p (.box (zs.map .lit))⟩) : AOp P C o ⟨t, h⟩ K := by
  rintro Q' a w ⟨hd, S, ψ, hh', hl⟩
  refine ⟨fun c e => (by rw [ho] at e; cases e), ?_⟩
  have hz : zeroCells? P elem = some zs := ZC.eq
  unfold zeroCells? at hz
  obtain ⟨z, hz1, rfl⟩ := Option.map_eq_some_iff.1 hz
  obtain ⟨ti, hti, hz2⟩ := Option.bind_eq_some_iff.1 hz1
  have hrun : (execOp a.eval o).run P w = .ok (.value (.pointer (some ⟨w.heap.size, 0, none⟩))) (w.alloc (.cells z.cells elem)) := by
    simp [execOp, ho, Instr.alloc, zeroValue, typeInfo, hti, hz2, Go.newVar, Go.newRow]
  unfold Oper.wp
  rw [hrun]
  have hb : Below w.heap.size w (w.alloc (.cells z.cells elem)) := (Below.refl _ _).alloc (Nat.le_refl _) _
  have hB : BRel C.N (w.alloc (.cells z.cells elem)) S (h.set p (.box (z.cells.toList.map .lit))) (ψset ψ p (.pointer (some ⟨w.heap.size, 0, none⟩))) (.pointer (some ⟨w.heap.size, 0, none⟩)) (.box (z.cells.toList.map .lit)) :=
    ⟨w.heap.size, z.cells.toList, elem, rfl, fun hN => by have := hh'.nlt _ hN; have := hh'.bel.size; omega, fun hS => by have := hh'.lt _ hS; omega, by simpa using heap_alloc_new w (.cells z.cells elem), relL_lits _⟩
  have H1 := hh'.revive hp hn hb hB fun g hg => by simp [ftp, blkOf] at hg; omega
  have hl1 := AV.relL_ext (Ext.grow h ψ (fun k hk => hb.block k (hh'.lt k hk)) fun _ h => h) _ _ hl
  have hl2 := AV.relL_up (b := .box (z.cells.toList.map .lit)) (ψ' := ψset ψ p (.pointer (some ⟨w.heap.size, 0, none⟩))) (fun i hi => ψset_ne hi) _ _ hnt hl1
  refine ⟨_, hK, by rw [put_defers, hd]; exact (mkD_set (b' := .box (z.cells.toList.map .lit)) hp rfl).symm, S, _, H1, put_rel hl2 o.dst ?_⟩
  unfold AV.rel
  exact ⟨by simpa using (List.getElem?_eq_some_iff.1 hp).1, fun _ => ⟨w.heap.size, ψset_self, rfl⟩⟩
theorem AOp.stBoxV {o : Oper} {t : List AV} {h : List ABlk} {ty : TypeId} {x y : Operand} {i off n : Nat} {v : AV} {cells new : List AV} {K : St → Prop} [SZ P ty n] (ho : o.op = .store ty x y) (hx : evA t x = .ptr i off) (hi : h[i]? = some (.box cells)) (hy : evA t y = v) (hp : Parts h v new) (hs : n = new.length) (hle : off + new.length ≤ cells.length)
    (hK : K ⟨putA t o.dst (.lit undef), h.set i (.box (cells.take off ++ new ++ cells.drop (off + new.length)))⟩) : AOp P C o ⟨t, h⟩ K := by
  subst hy
  exact AOp.stBox ho hx hi hp hs hle hK
theorem St.le_deads {t : List AV} {h h' : List ABlk} (k : Nat) (e : h ++ List.replicate k .dead = h') : St.le C ⟨t, h⟩ ⟨t, h'⟩ := by
  subst e
  induction k with
  | zero => simpa using St.le.refl
  | succ k ih =>
    refine ih.trans ?_
    have := St.le_dead (C := C) (t := t) (h := h ++ List.replicate k .dead)
    rwa [List.append_assoc, ← List.replicate_succ'] at this
theorem cndBT {b : Bool} (h : b = true) (x y : ABlk) : (bif b then x else y) = x := by subst h; rfl
theorem cndBF {b : Bool} (h : b = false) (x y : ABlk) : (bif b then x else y) = y := by subst h; rfl
theorem gS_cons {F : (Nat → Bool) → St} {ops : Array Oper} {k : Nat} {o : Oper} {rest : List Oper} (h1 : ∀ b, b k = false → aftD b o → clsD ops b → AOp P C o (F b) fun s => St.le C s (F (upd b k))) (h2 : gS P C F ops (k + 1) rest) : gS P C F ops k (o :: rest) := ⟨h1, h2⟩
theorem gS_nil {F : (Nat → Bool) → St} {ops : Array Oper} {k : Nat} : gS P C F ops k [] := trivial
theorem not_before {ops : Array Oper} {b : Nat → Bool} (hc : clsD ops b) {i j k : Nat} {o : Oper} {e : Edge} (hj : ops[j]? = some o) (hk : o.after[k]? = some e) (hb : Region.binds .any e = true) (he : e.on = i) (hi : b i = false) : b j = false := by
  cases h : b j with
  | false => rfl
  | true =>
    have := hc j o hj h k e hk hb
    rw [he, hi] at this
    cases this
end
end Mu
end
section
/-
  Listings of images, and images of any bytes: what image.List and muntinlaw31.ImageGets compute.
  Conditions: what is laid (GL).
-/
namespace Mu
open Go Go.RowKit Go.Proofs

def inst_Decode (w : Int) : M (InstM × Bool) := M.chk (decide (0 ≤ w) && decide (w < 4294967296)) (M.ok (decX w.toNat, decOK w.toNat))
theorem inst_Decode_l {w : Int} {r : InstM × Bool} (H : (inst_Decode w).to r) : FnT GL Tryd.prog 56 [.lit (.int .u32 w)] (.tup [.agg (encInstM r.1), .lit (.bool r.2)]) := by
  obtain ⟨c, H⟩ := M.to_chk.1 H
  obtain rfl := M.to_ok.1 H
  rw [Bool.and_eq_true] at c
  have c1 : 0 ≤ w := of_decide_eq_true c.1
  have c2 : w < 4294967296 := of_decide_eq_true c.2
  have := decode_fn w.toNat (by omega)
  rwa [show ((w.toNat : Nat) : Int) = w by omega] at this
def image_text (l : List ByteArray) : M ByteArray := M.bnd (strings_Join l ⟨#[32]⟩) fun r1 => M.chk (catB r1 ⟨#[10]⟩) (M.ok (r1 ++ ⟨#[10]⟩))
set_option maxRecDepth 100000 in
set_option maxHeartbeats 4000000 in
theorem image_text_l {l : List ByteArray} {r : ByteArray} (H : (image_text l).to r) : Fn Tryd.prog 36 [.bs Ty.str l] (.lit (.string r)) := by
  delta image_text at H
  try dsimp only at H
  refine Fn.of_awp Tryd.func36 rfl (by kernel_rfl) rfl Tryd.ntmps36 fun C hC => ?_
  simp only [List.length_cons, List.length_nil, Nat.reduceAdd, Nat.reduceSub, List.replicate_succ, List.replicate_zero, List.cons_append, List.nil_append]
  refine wR (hx := by (refine sA (hq := Quiet.assign rfl getC) (ht := set2) (hk := ?_); exact wEnd rfl)) (hk := ?_)
  obtain ⟨r1, k1, H⟩ := M.to_bnd.1 H
  have k1 := strings_Join_l k1
  obtain ⟨c2, H⟩ := M.to_chk.1 H
  refine wR (hx := by (refine sA (hq := Quiet.move rfl get0) (ht := set3) (hk := ?_); refine sA (hq := Quiet.callA rfl rfl k1 rfl rfl) (ht := set4) (hk := ?_); refine sA (hq := Quiet.cat rfl get4 getC (catB_le c2)) (ht := set5) (hk := ?_); refine sA (hq := Quiet.assign rfl get5) (ht := set2) (hk := ?_); exact wEnd rfl)) (hk := ?_)
  obtain rfl := M.to_ok.1 H
  exact Awp.ret ⟨.inr rfl, Fin.cl rfl⟩
def image_digits (n : Int) : M ByteArray := M.bnd (strconv_Itoa n) fun r1 => M.ok r1
set_option maxRecDepth 100000 in
set_option maxHeartbeats 4000000 in
theorem image_digits_l {n : Int} {r : ByteArray} (H : (image_digits n).to r) : FnT GL Tryd.prog 35 [.lit (.int .i64 n)] (.lit (.string r)) := by
  delta image_digits at H
  try dsimp only at H
  have hL := gl_lasts
  refine FnT.of_awp Tryd.func35 rfl (by kernel_rfl) rfl Tryd.ntmps35 fun C hC hG => ?_
  simp only [List.length_cons, List.length_nil, Nat.reduceAdd, Nat.reduceSub, List.replicate_succ, List.replicate_zero, List.cons_append, List.nil_append]
  refine wR (hx := by (refine sA (hq := Quiet.assign rfl getC) (ht := set2) (hk := ?_); exact wEnd rfl)) (hk := ?_)
  obtain ⟨r1, k1, H⟩ := M.to_bnd.1 H
  have k1 := strconv_Itoa_l k1
  refine wR (hx := by (refine sA (hq := Quiet.move rfl get0) (ht := set3) (hk := ?_); refine sA (hq := Quiet.callTA rfl rfl hC hL hG k1 rfl rfl) (ht := set4) (hk := ?_); refine sA (hq := Quiet.assign rfl get4) (ht := set2) (hk := ?_); exact wEnd rfl)) (hk := ?_)
  obtain rfl := M.to_ok.1 H
  exact Awp.ret ⟨.inr rfl, Fin.cl rfl⟩
def image_hex_L5 (w : Int) : (Int × (List Int)) → M ((Int × (List Int)) ⊕ ((List Int))) := fun (i1, l3) => M.cnd (decide (i1 ≥ 0)) (M.chk (decide (0 ≤ i1)) (M.chk (inSt ⟨#[48, 49, 50, 51, 52, 53, 54, 55, 56, 57, 97, 98, 99, 100, 101, 102]⟩ (bits .and .u32 (shrV .u32 w i1) 15)) (M.chk (wfB .u8 (chD ⟨#[48, 49, 50, 51, 52, 53, 54, 55, 56, 57, 97, 98, 99, 100, 101, 102]⟩ (bits .and .u32 (shrV .u32 w i1) 15))) (M.chk (rowB (l3.length + [chD ⟨#[48, 49, 50, 51, 52, 53, 54, 55, 56, 57, 97, 98, 99, 100, 101, 102]⟩ (bits .and .u32 (shrV .u32 w i1) 15)].length) 1) (M.ok (.inl (IntKind.i64.wrap (i1 - 4), l3 ++ [chD ⟨#[48, 49, 50, 51, 52, 53, 54, 55, 56, 57, 97, 98, 99, 100, 101, 102]⟩ (bits .and .u32 (shrV .u32 w i1) 15)]))))))) (M.ok (.inr l3))
def image_hex (w : Int) : M ByteArray := M.bnd (M.loop (image_hex_L5 w) (28, [])) fun l6 => M.ok (bytesOf l6)
set_option maxRecDepth 100000 in
set_option maxHeartbeats 4000000 in
theorem image_hex_l {w : Int} {r : ByteArray} (H : (image_hex w).to r) : Fn Tryd.prog 55 [.lit (.int .u32 w)] (.lit (.string r)) := by
  delta image_hex at H
  try dsimp only at H
  refine Fn.of_awp Tryd.func55 rfl (by kernel_rfl) rfl Tryd.ntmps55 fun C hC => ?_
  simp only [List.length_cons, List.length_nil, Nat.reduceAdd, Nat.reduceSub, List.replicate_succ, List.replicate_zero, List.cons_append, List.nil_append]
  refine wR (hx := by (refine sA (hq := Quiet.assign rfl getC) (ht := set2) (hk := ?_); exact wEnd rfl)) (hk := ?_)
  refine wR (hx := by (refine sA (hq := Quiet.assign rfl getC) (ht := set3) (hk := ?_); exact wEnd rfl)) (hk := ?_)
  refine Awp.via _ (St.le_own 3 5 (Ty.int .u8) rfl (by decide)) ?_
  obtain ⟨z4, HX4, Hl4⟩ := M.to_bnd.1 H
  refine Awp.seqJ (β := ((List Int)) × (Nat)) (fun q4 => z4 = q4.1) (fun q4 => ⟨[.any, .any, .any, .own 0 q4.2, .any, .any, .any, .any, .any, .any, .any, .any, .any, .any, .any, .any, .any, .any, .any], [.row q4.2 5 (Ty.int .u8) q4.1]⟩) ?_ ?_
  · refine wR (hx := by (refine sA (hq := Quiet.assign rfl getC) (ht := set4) (hk := ?_); exact wEnd rfl)) (hk := ?_)
    refine Awp.block ?_
    refine Awp.loopM HX4 (fun s4 b4 => ⟨[.lit (.int .u32 w), .any, .any, .own 0 b4, .lit (.int .i64 s4.1), .any, .any, .any, .any, .any, .any, .any, .any, .any, .any, .any, .any, .any, .any], [.row b4 5 (Ty.int .u8) s4.2]⟩) 0 (?_) ?_
    · try dsimp only
      exact le_TA
    · rintro ⟨i1, l3⟩ v2 x4 H Hr4
      try dsimp only
      dsimp only [image_hex_L5] at H
      refine Awp.seq fun Khs7 hs7 => ?_
      refine wR (hx := by (refine sA (hq := Quiet.move rfl get4) (ht := set5) (hk := ?_); refine sA (hq := Quiet.bin rfl get5 getC rfl) (ht := set6) (hk := ?_); exact wEnd rfl)) (hk := ?_)
      refine Awp.cond rfl (fun hb8 => ?_) (fun hb8 => ?_)
      · have H := M.to_t hb8 H
        refine Awp.skip ?_
        refine hs7 _ ?_
        refine nT (hk := ?_)
        refine Awp.seq fun Khs9 hs9 => ?_
        refine Awp.block ?_
        obtain ⟨c10, H⟩ := M.to_chk.1 H
        obtain ⟨c11, H⟩ := M.to_chk.1 H
        obtain ⟨c12, H⟩ := M.to_chk.1 H
        obtain ⟨c13, H⟩ := M.to_chk.1 H
        refine wRE (hx := by (refine sA (hq := Quiet.move rfl get3) (ht := (setS8 set1)) (hk := ?_); refine sA (hq := Quiet.move rfl get0) (ht := (setS8 set2)) (hk := ?_); refine sA (hq := Quiet.move rfl get4) (ht := (setS8 set3)) (hk := ?_); refine sA (hq := Quiet.shrM rfl (getS8 get2) (getS8 get3) c10) (ht := (setS8 set4)) (hk := ?_); refine sA (hq := Quiet.bit rfl (getS8 get4) getC rfl rfl) (ht := (setS8 set5)) (hk := ?_); refine sA (hq := Quiet.ixSM rfl getC (getS8 get5) c11) (ht := (setS8 set6)) (hk := ?_); refine sA (hq := Quiet.lt (xs := [.tmp 14]) (T := (Ty.int .u8)) (ds := [chD ⟨#[48, 49, 50, 51, 52, 53, 54, 55, 56, 57, 97, 98, 99, 100, 101, 102]⟩ (bits .and .u32 (shrV .u32 w i1) 15)]) rfl rfl rfl (by rfl) (by decide) (.cons (Fit.int c12) .nil)) (ht := (setS8 set7)) (hk := ?_); (refine aSeq_t rfl (AOp.appQ rfl rfl rfl rfl rfl c13 ?_); refine sNtM (ht := (setS8 (setS8 set0))) (hk := ?_)); refine sA (hq := Quiet.assign rfl (getS8 (getS8 get0))) (ht := set3) (hk := ?_); exact wEnd rfl)) (hk := ?_)
        refine hs9 _ ?_
        refine nT (hk := ?_)
        refine wRE (hx := by (refine sA (hq := Quiet.move rfl get4) (ht := set7) (hk := ?_); refine sA (hq := Quiet.bin rfl get7 getC rfl) (ht := (setS8 set0)) (hk := ?_); refine sA (hq := Quiet.assign rfl (getS8 get0)) (ht := set4) (hk := ?_); exact wEnd rfl)) (hk := ?_)
        have e4 := M.to_ok.1 H
        repeat (first | refine abN ?_ | refine asN ?_)
        refine athen_n ⟨_, v2 + 1, e4.symm, ?_⟩
        try dsimp only
        exact le_TA
      · have H := M.to_f hb8 H
        refine Awp.exit ?_
        repeat (first | refine athen_e ?_ | refine exO (by decide) ?_ | refine asE ?_)
        refine exN ?_
        have e4 := Hr4 _ (M.to_ok.1 H).symm
        repeat (first | refine abN ?_ | refine asN ?_)
        refine athen_n ⟨(_, v2), e4.symm, ?_⟩
        try dsimp only
        exact le_TA
  · rintro ⟨l6, v5⟩ hz4
    try dsimp only at hz4
    have H := Hl4
    rw [hz4] at H
    try dsimp only
    refine wR (hx := by (refine sA (hq := Quiet.move rfl get3) (ht := (setS8 (setS8 set1))) (hk := ?_); refine sA (hq := Quiet.b2sO rfl rfl rfl) (ht := (setS8 (setS8 set2))) (hk := ?_); refine sA (hq := Quiet.assign rfl (getS8 (getS8 get2))) (ht := set2) (hk := ?_); exact wEnd rfl)) (hk := ?_)
    obtain rfl := M.to_ok.1 H
    exact Awp.ret ⟨.inr rfl, Fin.cl rfl⟩
def image_line_L9 (r8 : InstM × Bool) : (Int × (List ByteArray)) → M ((Int × (List ByteArray)) ⊕ ((List ByteArray))) := fun (x10, l12) => M.cnd (decide (x10 < 4)) (M.chk (inBd [r8.1.op, r8.1.rd, r8.1.rs1, r8.1.rs2] x10) (M.bnd (image_digits (IntKind.i64.wrap (ixD [r8.1.op, r8.1.rd, r8.1.rs1, r8.1.rs2] x10))) fun r20 => M.chk (strB r20) (M.chk (rowB (l12.length + [r20].length) 16) (M.ok (.inl (IntKind.i64.wrap (x10 + 1), l12 ++ [r20])))))) (M.ok (.inr l12))
def image_line (at0 : Int) (w : Int) : M ByteArray := M.bnd (image_digits at0) fun r1 => M.bnd (image_hex w) fun r2 => M.chk (strB r1) (M.chk (strB r2) (M.bnd (M.bnd (inst_Decode w) fun r8 => M.cnd r8.2 (M.bnd (M.loop (image_line_L9 r8) (0, [r1, r2])) fun l15 => M.cnd r8.1.is_ (M.bnd (image_digits (IntKind.i64.wrap r8.1.imm)) fun r24 => M.chk (catB ⟨#[35]⟩ r24) (M.chk (strB (⟨#[35]⟩ ++ r24)) (M.chk (rowB (l15.length + [⟨#[35]⟩ ++ r24].length) 16) (M.ok (l15 ++ [⟨#[35]⟩ ++ r24]))))) (M.ok l15)) (M.ok [r1, r2])) fun l6 => M.bnd (image_text l6) fun r28 => M.ok r28))
set_option maxRecDepth 100000 in
set_option maxHeartbeats 4000000 in
theorem image_line_l {at0 : Int} {w : Int} {r : ByteArray} (H : (image_line at0 w).to r) : FnT GL Tryd.prog 37 [.lit (.int .i64 at0), .lit (.int .u32 w)] (.lit (.string r)) := by
  delta image_line at H
  try dsimp only at H
  have hL := gl_lasts
  refine FnT.of_awp Tryd.func37 rfl (by kernel_rfl) rfl Tryd.ntmps37 fun C hC hG => ?_
  simp only [List.length_cons, List.length_nil, Nat.reduceAdd, Nat.reduceSub, List.replicate_succ, List.replicate_zero, List.cons_append, List.nil_append]
  refine wR (hx := by (refine sA (hq := Quiet.assign rfl getC) (ht := set4) (hk := ?_); exact wEnd rfl)) (hk := ?_)
  obtain ⟨r1, k1, H⟩ := M.to_bnd.1 H
  have k1 := image_digits_l k1
  obtain ⟨r2, k2, H⟩ := M.to_bnd.1 H
  have k2 := image_hex_l k2
  obtain ⟨c3, H⟩ := M.to_chk.1 H
  obtain ⟨c4, H⟩ := M.to_chk.1 H
  refine wR (hx := by (refine sA (hq := Quiet.move rfl get0) (ht := (setS8 set2)) (hk := ?_); refine sA (hq := Quiet.callTA rfl rfl hC hL hG k1 rfl rfl) (ht := (setS8 set3)) (hk := ?_); refine sA (hq := Quiet.move rfl get1) (ht := (setS8 set4)) (hk := ?_); refine sA (hq := Quiet.callA rfl rfl k2 rfl rfl) (ht := (setS8 set5)) (hk := ?_); (refine aSeq_t rfl (AOp.litI 0 rfl (xs := [.tmp 11, .tmp 13]) (T := Ty.str) (ds := [r1, r2]) rfl rfl rfl (RT.eq (n := 1) (bytes := 16)) (by decide) (by decide) (.cons (Fit.str (strB_le c3)) (.cons (Fit.str (strB_le c4)) .nil)) ?_); refine sNtM (ht := (setS8 set6)) (hk := ?_)); refine sA (hq := Quiet.assign rfl (getS8 get6)) (ht := set5) (hk := ?_); exact wEnd rfl)) (hk := ?_)
  obtain ⟨z7, HX7, Hl7⟩ := M.to_bnd.1 H
  refine Awp.seqJ (β := ((List ByteArray)) × (Nat)) (fun q7 => z7 = q7.1) (fun q7 => ⟨[.any, .any, .any, .any, .any, .own 0 q7.2, .any, .any, .any, .any, .any, .any, .any, .any, .any, .any, .any, .any, .any, .any, .any, .any, .any, .any, .any, .any, .any, .any, .any, .any, .any, .any, .any, .any, .any, .any, .any, .any, .any, .any, .any, .any, .any, .any, .any, .any, .any, .any, .any, .any, .any, .any], [.row q7.2 9 Ty.str q7.1]⟩) ?_ ?_
  · have H := HX7
    obtain ⟨r8, k8, H⟩ := M.to_bnd.1 H
    have k8 := inst_Decode_l k8
    refine wR (hx := by (refine sA (hq := Quiet.move rfl get1) (ht := (setS8 (setS8 set0))) (hk := ?_); refine sA (hq := Quiet.callTA rfl rfl hC hL hG k8 rfl rfl) (ht := (setS8 (setS8 set1))) (hk := ?_); refine sA (hq := Quiet.move rfl (getS8 (getS8 get1))) (ht := (setS8 set7)) (hk := ?_); refine sA (hq := Quiet.extract rfl (getS8 get7) rfl) (ht := (setS8 (setS8 set2))) (hk := ?_); refine sA (hq := Quiet.extract rfl (getS8 get7) rfl) (ht := (setS8 (setS8 set3))) (hk := ?_); (refine aSeq_t rfl (AOp.alI 1 rfl rfl ?_); refine sNtM (ht := set6) (hk := ?_)); (refine aSeq_t rfl (AOp.stBox rfl rfl rfl (Parts.aggB rfl) rfl (Nat.le_of_ble_eq_true rfl) ?_); refine sNtM (ht := setN) (hk := ?_)); refine sA (hq := Quiet.assign rfl (getS8 (getS8 get3))) (ht := set7) (hk := ?_); exact wEnd rfl)) (hk := ?_)
    refine wR (hx := by (refine sA (hq := Quiet.move rfl get7) (ht := (setS8 (setS8 set4))) (hk := ?_); exact wEnd rfl)) (hk := ?_)
    refine Awp.cond rfl (fun hb9 => ?_) (fun hb9 => ?_)
    · have H := M.to_t hb9 H
      obtain ⟨z13, HX13, Hl13⟩ := M.to_bnd.1 H
      refine Awp.seqJ (β := ((List ByteArray)) × (Nat)) (fun q13 => z13 = q13.1) (fun q13 => ⟨[.any, .any, .any, .any, .any, .own 0 q13.2, .ptr 1 0, .any, .any, .any, .any, .any, .any, .any, .any, .any, .any, .any, .any, .any, .any, .any, .any, .any, .any, .any, .any, .any, .any, .any, .any, .any, .any, .any, .any, .any, .any, .any, .any, .any, .any, .any, .any, .any, .any, .any, .any, .any, .any, .any, .any, .any], [.row q13.2 9 Ty.str q13.1, .box (encInstM r8.1)]⟩) ?_ ?_
      · refine wR (hx := by (refine sA (hq := Quiet.fa_ptr rfl get6 rfl) (ht := (setS8 (setS8 set5))) (hk := ?_); refine sA (hq := Quiet.load_ptr rfl (getS8 (getS8 get5)) rfl rfl) (ht := (setS8 (setS8 set6))) (hk := ?_); refine sA (hq := Quiet.fa_ptr rfl get6 rfl) (ht := (setS8 (setS8 set7))) (hk := ?_); refine sA (hq := Quiet.load_ptr rfl (getS8 (getS8 get7)) rfl rfl) (ht := (setS8 (setS8 (setS8 set0)))) (hk := ?_); refine sA (hq := Quiet.fa_ptr rfl get6 rfl) (ht := (setS8 (setS8 (setS8 set1)))) (hk := ?_); refine sA (hq := Quiet.load_ptr rfl (getS8 (getS8 (getS8 get1))) rfl rfl) (ht := (setS8 (setS8 (setS8 set2)))) (hk := ?_); refine sA (hq := Quiet.fa_ptr rfl get6 rfl) (ht := (setS8 (setS8 (setS8 set3)))) (hk := ?_); refine sA (hq := Quiet.load_ptr rfl (getS8 (getS8 (getS8 get3))) rfl rfl) (ht := (setS8 (setS8 (setS8 set4)))) (hk := ?_); refine sA (hq := Quiet.bldA (zs := [.int .u8 0, .int .u8 0, .int .u8 0, .int .u8 0]) (n := 4) (rs := ints .u8 [r8.1.op, r8.1.rd, r8.1.rs1, r8.1.rs2]) rfl (by kernel_rfl) (by kernel_rfl) rfl rfl) (ht := (setS8 (setS8 (setS8 set5)))) (hk := ?_); refine sA (hq := Quiet.move rfl getC) (ht := (setS8 (setS8 (setS8 set6)))) (hk := ?_); exact wEnd rfl)) (hk := ?_)
        refine Awp.block ?_
        refine Awp.loopM HX13 (fun s13 b13 => ⟨[.any, .any, .any, .any, .any, .own 0 b13, .ptr 1 0, .any, .any, .any, .any, .any, .any, .any, .any, .any, .any, .any, .any, .any, .any, .any, .any, .any, .any, .any, .any, .any, .any, .agg (ints .u8 [r8.1.op, r8.1.rd, r8.1.rs1, r8.1.rs2]), .lit (.int .i64 s13.1), .any, .any, .any, .any, .any, .any, .any, .any, .any, .any, .any, .any, .any, .any, .any, .any, .any, .any, .any, .any, .any], [.row b13 9 Ty.str s13.2, .box (encInstM r8.1)]⟩) 0 (?_) ?_
        · try dsimp only
          exact le_TA
        · rintro ⟨x10, l12⟩ v11 x13 H Hr13
          try dsimp only
          dsimp only [image_line_L9] at H
          refine wR (hx := by (refine sA (hq := Quiet.bin rfl (getS8 (getS8 (getS8 get6))) getC rfl) (ht := (setS8 (setS8 (setS8 set7)))) (hk := ?_); exact wEnd rfl)) (hk := ?_)
          refine Awp.seq fun Khs16 hs16 => ?_
          refine Awp.cond rfl (fun hb17 => ?_) (fun hb17 => ?_)
          · have H := M.to_t hb17 H
            refine Awp.skip ?_
            refine hs16 _ ?_
            refine nT (hk := ?_)
            refine Awp.seq fun Khs18 hs18 => ?_
            refine Awp.block ?_
            obtain ⟨c19, H⟩ := M.to_chk.1 H
            refine wR (hx := by (refine sA (hq := Quiet.ixAM (n := 4) rfl (by kernel_rfl) rfl (by kernel_rfl) (getS8 (getS8 (getS8 get5))) (getS8 (getS8 (getS8 get6))) c19) (ht := (setS32 set0)) (hk := ?_); refine sA (hq := Quiet.assign rfl (getS32 get0)) (ht := (setS8 set1)) (hk := ?_); exact wEnd rfl)) (hk := ?_)
            obtain ⟨r20, k20, H⟩ := M.to_bnd.1 H
            have k20 := image_digits_l k20
            obtain ⟨c21, H⟩ := M.to_chk.1 H
            obtain ⟨c22, H⟩ := M.to_chk.1 H
            refine wRE (hx := by (refine sA (hq := Quiet.move rfl get5) (ht := (setS32 set1)) (hk := ?_); refine sA (hq := Quiet.move rfl (getS8 get1)) (ht := (setS32 set2)) (hk := ?_); refine sA (hq := Quiet.cv rfl (getS32 get2) rfl) (ht := (setS32 set3)) (hk := ?_); refine sA (hq := Quiet.callTA rfl rfl hC hL hG k20 rfl rfl) (ht := (setS32 set4)) (hk := ?_); refine sA (hq := Quiet.lt (xs := [.tmp 36]) (T := Ty.str) (ds := [r20]) rfl rfl rfl (by rfl) (by decide) (.cons (Fit.str (strB_le c21)) .nil)) (ht := (setS32 set5)) (hk := ?_); (refine aSeq_t rfl (AOp.appQ rfl rfl rfl rfl rfl c22 ?_); refine sNtM (ht := (setS32 set6)) (hk := ?_)); refine sA (hq := Quiet.assign rfl (getS32 get6)) (ht := set5) (hk := ?_); exact wEnd rfl)) (hk := ?_)
            refine hs18 _ ?_
            refine nT (hk := ?_)
            refine wRE (hx := by (refine sA (hq := Quiet.bin rfl (getS8 (getS8 (getS8 get6))) getC rfl) (ht := (setS32 set7)) (hk := ?_); refine sA (hq := Quiet.move rfl (getS32 get7)) (ht := (setS8 (setS8 (setS8 set6)))) (hk := ?_); exact wEnd rfl)) (hk := ?_)
            have e13 := M.to_ok.1 H
            repeat (first | refine abN ?_ | refine asN ?_)
            refine athen_n ⟨_, v11 + 1, e13.symm, ?_⟩
            try dsimp only
            exact le_TA
          · have H := M.to_f hb17 H
            refine Awp.exit ?_
            repeat (first | refine athen_e ?_ | refine exO (by decide) ?_ | refine asE ?_)
            refine exN ?_
            have e13 := Hr13 _ (M.to_ok.1 H).symm
            repeat (first | refine abN ?_ | refine asN ?_)
            refine athen_n ⟨(_, v11), e13.symm, ?_⟩
            try dsimp only
            exact le_TA
      · rintro ⟨l15, v14⟩ hz13
        try dsimp only at hz13
        have H := Hl13
        rw [hz13] at H
        try dsimp only
        refine wR (hx := by (refine sA (hq := Quiet.fa_ptr rfl get6 rfl) (ht := (setS32 (setS8 set0))) (hk := ?_); refine sA (hq := Quiet.load_ptr rfl (getS32 (getS8 get0)) rfl rfl) (ht := (setS32 (setS8 set1))) (hk := ?_); exact wEnd rfl)) (hk := ?_)
        refine Awp.cond rfl (fun hb23 => ?_) (fun hb23 => ?_)
        · have H := M.to_t hb23 H
          obtain ⟨r24, k24, H⟩ := M.to_bnd.1 H
          have k24 := image_digits_l k24
          obtain ⟨c25, H⟩ := M.to_chk.1 H
          obtain ⟨c26, H⟩ := M.to_chk.1 H
          obtain ⟨c27, H⟩ := M.to_chk.1 H
          refine wRE (hx := by (refine sA (hq := Quiet.move rfl get5) (ht := (setS32 (setS8 set2))) (hk := ?_); refine sA (hq := Quiet.fa_ptr rfl get6 rfl) (ht := (setS32 (setS8 set3))) (hk := ?_); refine sA (hq := Quiet.load_ptr rfl (getS32 (getS8 get3)) rfl rfl) (ht := (setS32 (setS8 set4))) (hk := ?_); refine sA (hq := Quiet.cv rfl (getS32 (getS8 get4)) rfl) (ht := (setS32 (setS8 set5))) (hk := ?_); refine sA (hq := Quiet.callTA rfl rfl hC hL hG k24 rfl rfl) (ht := (setS32 (setS8 set6))) (hk := ?_); refine sA (hq := Quiet.cat rfl getC (getS32 (getS8 get6)) (catB_le c25)) (ht := (setS32 (setS8 set7))) (hk := ?_); refine sA (hq := Quiet.lt (xs := [.tmp 47]) (T := Ty.str) (ds := [⟨#[35]⟩ ++ r24]) rfl rfl rfl (by rfl) (by decide) (.cons (Fit.str (strB_le c26)) .nil)) (ht := (setS32 (setS8 (setS8 set0)))) (hk := ?_); (refine aSeq_t rfl (AOp.appQ rfl rfl rfl rfl rfl c27 ?_); refine sNtM (ht := (setS32 (setS8 (setS8 set1)))) (hk := ?_)); refine sA (hq := Quiet.assign rfl (getS32 (getS8 (getS8 get1)))) (ht := set5) (hk := ?_); exact wEnd rfl)) (hk := ?_)
          have e7 := M.to_ok.1 H
          repeat (first | refine abN ?_ | refine asN ?_)
          refine athen_n ⟨(_, v14 + 1), e7.symm, ?_⟩
          try dsimp only
          exact leC (Cut.cons (Cut.nil _))
        · have H := M.to_f hb23 H
          refine Awp.skip ?_
          have e7 := M.to_ok.1 H
          repeat (first | refine abN ?_ | refine asN ?_)
          refine athen_n ⟨(_, v14), e7.symm, ?_⟩
          try dsimp only
          exact leC (Cut.cons (Cut.nil _))
    · have H := M.to_f hb9 H
      refine Awp.skip ?_
      have e7 := M.to_ok.1 H
      repeat (first | refine abN ?_ | refine asN ?_)
      refine athen_n ⟨(_, 0), e7.symm, ?_⟩
      try dsimp only
      exact leC (Cut.cons (Cut.nil _))
  · rintro ⟨l6, v5⟩ hz7
    try dsimp only at hz7
    have H := Hl7
    rw [hz7] at H
    try dsimp only
    obtain ⟨r28, k28, H⟩ := M.to_bnd.1 H
    have k28 := image_text_l k28
    refine wR (hx := by (refine sA (hq := Quiet.move rfl get5) (ht := (setS32 (setS8 (setS8 set2)))) (hk := ?_); refine sA (hq := Quiet.lend rfl k28 (.own rfl .nil)) (ht := (setS32 (setS8 (setS8 set3)))) (hk := ?_); refine sA (hq := Quiet.assign rfl (getS32 (getS8 (getS8 get3)))) (ht := set4) (hk := ?_); exact wEnd rfl)) (hk := ?_)
    obtain rfl := M.to_ok.1 H
    exact Awp.ret ⟨.inr rfl, Fin.cl rfl⟩
def image_List_L10 (x : Img) : (Int × (List ByteArray)) → M ((Int × (List ByteArray)) ⊕ ((List ByteArray))) := fun (x5, l7) => M.cnd (decide (x5 < (x.starts.length : Int))) (M.chk (inBd x.starts x5) (M.bnd (image_digits (IntKind.i64.wrap (ixD x.starts x5))) fun r15 => M.chk (strB r15) (M.chk (rowB (l7.length + [r15].length) 16) (M.ok (.inl (IntKind.i64.wrap (x5 + 1), l7 ++ [r15])))))) (M.ok (.inr l7))
def image_List_L21 (x : Img) : (Int × (List ByteArray)) → M ((Int × (List ByteArray)) ⊕ ((List ByteArray))) := fun (x33, l35) => M.cnd (decide (x33 < (x.words.length : Int))) (M.chk (inBd x.words x33) (M.bnd (image_line (IntKind.i64.wrap (4 * x33)) (ixD x.words x33)) fun r43 => M.chk (strB r43) (M.chk (rowB (l35.length + [r43].length) 16) (M.ok (.inl (IntKind.i64.wrap (x33 + 1), l35 ++ [r43])))))) (M.ok (.inr l35))
def image_List (x : Img) : M (ByteArray × Int) := M.bnd (image_May x) fun r2 => M.cnd (!r2) (M.ok (⟨#[]⟩, 5)) (M.chk (strB ⟨#[115, 116, 97, 114, 116, 115]⟩) (M.bnd (M.loop (image_List_L10 x) (0, [⟨#[115, 116, 97, 114, 116, 115]⟩])) fun l10 => M.bnd (image_digits x.nw) fun r18 => M.bnd (image_digits x.heap) fun r19 => M.bnd (image_digits x.many) fun r20 => M.bnd (image_digits x.entry) fun r21 => M.bnd (image_digits x.stacks) fun r22 => M.chk (strB ⟨#[105, 109, 97, 103, 101]⟩) (M.chk (strB r18) (M.chk (strB r19) (M.chk (strB r20) (M.chk (strB r21) (M.chk (strB r22) (M.bnd (image_text [⟨#[105, 109, 97, 103, 101]⟩, r18, r19, r20, r21, r22]) fun r29 => M.bnd (image_text l10) fun r30 => M.chk (strB r29) (M.chk (strB r30) (M.bnd (M.loop (image_List_L21 x) (0, [r29, r30])) fun l38 => M.bnd (strings_Join l38 ⟨#[]⟩) fun r46 => M.ok (r46, 0)))))))))))
set_option maxRecDepth 100000 in
set_option maxHeartbeats 4000000 in
theorem image_List_l {x : Img} {r : ByteArray × Int} (H : (image_List x).to r) : FnT GL Tryd.prog 16 [.agg (encImg x)] (.tup [.lit (.string r.1), .lit (.int .i64 r.2)]) := by
  delta image_List at H
  try dsimp only at H
  have hL := gl_lasts
  refine FnT.of_awp2 Tryd.func16 rfl (by kernel_rfl) rfl Tryd.ntmps16 fun C hC hG => ?_
  simp only [List.length_cons, List.length_nil, Nat.reduceAdd, Nat.reduceSub, List.replicate_succ, List.replicate_zero, List.cons_append, List.nil_append]
  refine wR (hx := by ((refine aSeq_t rfl (AOp.boxI 0 rfl rfl Parts0.agg ?_); refine sNtM (ht := set1) (hk := ?_)); refine sA (hq := Quiet.assign rfl getC) (ht := set2) (hk := ?_); refine sA (hq := Quiet.assign rfl getC) (ht := set3) (hk := ?_); exact wEnd rfl)) (hk := ?_)
  refine Awp.seq fun Khs1 hs1 => ?_
  obtain ⟨r2, k2, H⟩ := M.to_bnd.1 H
  have k2 := image_May_l k2
  refine wR (hx := by (refine sA (hq := Quiet.loadA_ptr rfl get1 rfl rfl) (ht := (setS8 set2)) (hk := ?_); refine sA (hq := Quiet.callA rfl rfl k2 rfl rfl) (ht := (setS8 set3)) (hk := ?_); refine sA (hq := Quiet.bnot rfl (getS8 get3)) (ht := (setS8 set4)) (hk := ?_); exact wEnd rfl)) (hk := ?_)
  refine Awp.cond rfl (fun hb3 => ?_) (fun hb3 => ?_)
  · have H := M.to_t hb3 H
    refine wR (hx := by (refine sA (hq := Quiet.assign rfl getC) (ht := set2) (hk := ?_); refine sA (hq := Quiet.assign rfl getC) (ht := set3) (hk := ?_); exact wEnd rfl)) (hk := ?_)
    obtain rfl := M.to_ok.1 H
    exact Awp.ret ⟨.inr rfl, _, _, Fin.cl rfl, rfl, rfl⟩
  · have H := M.to_f hb3 H
    refine Awp.skip ?_
    refine hs1 _ ?_
    refine nT (hk := ?_)
    obtain ⟨c4, H⟩ := M.to_chk.1 H
    refine wR (hx := by ((refine aSeq_t rfl (AOp.litI 1 rfl (xs := [.const (.string ⟨#[115, 116, 97, 114, 116, 115]⟩)]) (T := Ty.str) (ds := [⟨#[115, 116, 97, 114, 116, 115]⟩]) rfl rfl rfl (RT.eq (n := 1) (bytes := 16)) (by decide) (by decide) (.cons (Fit.str (strB_le c4)) .nil) ?_); refine sNtM (ht := (setS8 set5)) (hk := ?_)); refine sA (hq := Quiet.assign rfl (getS8 get5)) (ht := set4) (hk := ?_); exact wEnd rfl)) (hk := ?_)
    obtain ⟨z8, HX8, Hl8⟩ := M.to_bnd.1 H
    refine Awp.seqJ (β := ((List ByteArray)) × (Nat)) (fun q8 => z8 = q8.1) (fun q8 => ⟨.any :: .ptr 0 0 :: .any :: .any :: .own 1 q8.2 :: .any :: .any :: .any :: .any :: .any :: .any :: .any :: .any :: .any :: .any :: .any :: .any :: .any :: .any :: .any :: .any :: .any :: .any :: .any :: .any :: .any :: .any :: .any :: .any :: .any :: .any :: .any :: .any :: .any :: .any :: .any :: .any :: .any :: .any :: .any :: .any :: .any :: .any :: .any :: .any :: .any :: .any :: .any :: .any :: .any :: .any :: .any :: .any :: .any :: .any :: .any :: .any :: .any :: .any :: .any :: .any :: .any :: .any :: .any :: .any :: .any :: [], [.box (encImg x), .row q8.2 9 Ty.str q8.1]⟩) ?_ ?_
    · refine wR (hx := by (refine sA (hq := Quiet.fa_ptr rfl get1 rfl) (ht := (setS8 set6)) (hk := ?_); refine sA (hq := Quiet.load_ptr rfl (getS8 get6) rfl rfl) (ht := (setS8 set7)) (hk := ?_); refine sA (hq := Quiet.ln rfl (getS8 get7)) (ht := (setS8 (setS8 set0))) (hk := ?_); refine sA (hq := Quiet.move rfl getC) (ht := (setS8 (setS8 set1))) (hk := ?_); exact wEnd rfl)) (hk := ?_)
      refine Awp.block ?_
      refine Awp.loopM HX8 (fun s8 b8 => ⟨.any :: .ptr 0 0 :: .any :: .any :: .own 1 b8 :: .any :: .any :: .any :: .any :: .any :: .any :: .any :: .any :: .any :: .any :: .bs (Ty.int .u32) x.starts :: .lit (.int .i64 (x.starts.length : Int)) :: .lit (.int .i64 s8.1) :: .any :: .any :: .any :: .any :: .any :: .any :: .any :: .any :: .any :: .any :: .any :: .any :: .any :: .any :: .any :: .any :: .any :: .any :: .any :: .any :: .any :: .any :: .any :: .any :: .any :: .any :: .any :: .any :: .any :: .any :: .any :: .any :: .any :: .any :: .any :: .any :: .any :: .any :: .any :: .any :: .any :: .any :: .any :: .any :: .any :: .any :: .any :: .any :: [], [.box (encImg x), .row b8 9 Ty.str s8.2]⟩) 0 (?_) ?_
      · try dsimp only
        exact le_TA
      · rintro ⟨x5, l7⟩ v6 x8 H Hr8
        try dsimp only
        dsimp only [image_List_L10] at H
        refine wR (hx := by (refine sA (hq := Quiet.bin rfl (getS8 (getS8 get1)) (getS8 (getS8 get0)) rfl) (ht := (setS8 (setS8 set2))) (hk := ?_); exact wEnd rfl)) (hk := ?_)
        refine Awp.seq fun Khs11 hs11 => ?_
        refine Awp.cond rfl (fun hb12 => ?_) (fun hb12 => ?_)
        · have H := M.to_t hb12 H
          refine Awp.skip ?_
          refine hs11 _ ?_
          refine nT (hk := ?_)
          refine Awp.seq fun Khs13 hs13 => ?_
          refine Awp.block ?_
          obtain ⟨c14, H⟩ := M.to_chk.1 H
          refine wR (hx := by (refine sA (hq := Quiet.ixM rfl (getS8 get7) (getS8 (getS8 get1)) rfl c14) (ht := (setS8 (setS8 set3))) (hk := ?_); refine sA (hq := Quiet.load_bp rfl (getS8 (getS8 get3)) rfl) (ht := (setS8 (setS8 set4))) (hk := ?_); refine sA (hq := Quiet.assign rfl (getS8 (getS8 get4))) (ht := set6) (hk := ?_); exact wEnd rfl)) (hk := ?_)
          obtain ⟨r15, k15, H⟩ := M.to_bnd.1 H
          have k15 := image_digits_l k15
          obtain ⟨c16, H⟩ := M.to_chk.1 H
          obtain ⟨c17, H⟩ := M.to_chk.1 H
          refine wRE (hx := by (refine sA (hq := Quiet.move rfl get4) (ht := (setS8 (setS8 set5))) (hk := ?_); refine sA (hq := Quiet.move rfl get6) (ht := (setS8 (setS8 set6))) (hk := ?_); refine sA (hq := Quiet.cv rfl (getS8 (getS8 get6)) rfl) (ht := (setS8 (setS8 set7))) (hk := ?_); refine sA (hq := Quiet.callTA rfl rfl hC hL hG k15 rfl rfl) (ht := (setS8 (setS8 (setS8 set0)))) (hk := ?_); refine sA (hq := Quiet.lt (xs := [.tmp 24]) (T := Ty.str) (ds := [r15]) rfl rfl rfl (by rfl) (by decide) (.cons (Fit.str (strB_le c16)) .nil)) (ht := (setS8 (setS8 (setS8 set1)))) (hk := ?_); (refine aSeq_t rfl (AOp.appQ rfl rfl rfl rfl rfl c17 ?_); refine sNtM (ht := (setS8 (setS8 (setS8 set2)))) (hk := ?_)); refine sA (hq := Quiet.assign rfl (getS8 (getS8 (getS8 get2)))) (ht := set4) (hk := ?_); exact wEnd rfl)) (hk := ?_)
          refine hs13 _ ?_
          refine nT (hk := ?_)
          refine wRE (hx := by (refine sA (hq := Quiet.bin rfl (getS8 (getS8 get1)) getC rfl) (ht := (setS8 (setS8 (setS8 set3)))) (hk := ?_); refine sA (hq := Quiet.move rfl (getS8 (getS8 (getS8 get3)))) (ht := (setS8 (setS8 set1))) (hk := ?_); exact wEnd rfl)) (hk := ?_)
          have e8 := M.to_ok.1 H
          repeat (first | refine abN ?_ | refine asN ?_)
          refine athen_n ⟨_, v6 + 1, e8.symm, ?_⟩
          try dsimp only
          exact le_TA
        · have H := M.to_f hb12 H
          refine Awp.exit ?_
          repeat (first | refine athen_e ?_ | refine exO (by decide) ?_ | refine asE ?_)
          refine exN ?_
          have e8 := Hr8 _ (M.to_ok.1 H).symm
          repeat (first | refine abN ?_ | refine asN ?_)
          refine athen_n ⟨(_, v6), e8.symm, ?_⟩
          try dsimp only
          exact le_TA
    · rintro ⟨l10, v9⟩ hz8
      try dsimp only at hz8
      have H := Hl8
      rw [hz8] at H
      try dsimp only
      obtain ⟨r18, k18, H⟩ := M.to_bnd.1 H
      have k18 := image_digits_l k18
      obtain ⟨r19, k19, H⟩ := M.to_bnd.1 H
      have k19 := image_digits_l k19
      obtain ⟨r20, k20, H⟩ := M.to_bnd.1 H
      have k20 := image_digits_l k20
      obtain ⟨r21, k21, H⟩ := M.to_bnd.1 H
      have k21 := image_digits_l k21
      obtain ⟨r22, k22, H⟩ := M.to_bnd.1 H
      have k22 := image_digits_l k22
      obtain ⟨c23, H⟩ := M.to_chk.1 H
      obtain ⟨c24, H⟩ := M.to_chk.1 H
      obtain ⟨c25, H⟩ := M.to_chk.1 H
      obtain ⟨c26, H⟩ := M.to_chk.1 H
      obtain ⟨c27, H⟩ := M.to_chk.1 H
      obtain ⟨c28, H⟩ := M.to_chk.1 H
      obtain ⟨r29, k29, H⟩ := M.to_bnd.1 H
      have k29 := image_text_l k29
      obtain ⟨r30, k30, H⟩ := M.to_bnd.1 H
      have k30 := image_text_l k30
      obtain ⟨c31, H⟩ := M.to_chk.1 H
      obtain ⟨c32, H⟩ := M.to_chk.1 H
      refine wD 19 (hq := by (refine qA (hq := Quiet.fa_ptr rfl get1 rfl) (ht := (setS8 (setS8 (setS8 set4)))) (hk := ?_); refine qA (hq := Quiet.load_ptr rfl (getS8 (getS8 (getS8 get4))) rfl rfl) (ht := (setS8 (setS8 (setS8 set5)))) (hk := ?_); refine qA (hq := Quiet.callTA rfl rfl hC hL hG k18 rfl rfl) (ht := (setS8 (setS8 (setS8 set6)))) (hk := ?_); refine qA (hq := Quiet.fa_ptr rfl get1 rfl) (ht := (setS8 (setS8 (setS8 set7)))) (hk := ?_); refine qA (hq := Quiet.load_ptr rfl (getS8 (getS8 (getS8 get7))) rfl rfl) (ht := (setS32 set0)) (hk := ?_); refine qA (hq := Quiet.callTA rfl rfl hC hL hG k19 rfl rfl) (ht := (setS32 set1)) (hk := ?_); refine qA (hq := Quiet.fa_ptr rfl get1 rfl) (ht := (setS32 set2)) (hk := ?_); refine qA (hq := Quiet.load_ptr rfl (getS32 get2) rfl rfl) (ht := (setS32 set3)) (hk := ?_); refine qA (hq := Quiet.callTA rfl rfl hC hL hG k20 rfl rfl) (ht := (setS32 set4)) (hk := ?_); refine qA (hq := Quiet.fa_ptr rfl get1 rfl) (ht := (setS32 set5)) (hk := ?_); refine qA (hq := Quiet.load_ptr rfl (getS32 get5) rfl rfl) (ht := (setS32 set6)) (hk := ?_); refine qA (hq := Quiet.callTA rfl rfl hC hL hG k21 rfl rfl) (ht := (setS32 set7)) (hk := ?_); refine qA (hq := Quiet.fa_ptr rfl get1 rfl) (ht := (setS32 (setS8 set0))) (hk := ?_); refine qA (hq := Quiet.load_ptr rfl (getS32 (getS8 get0)) rfl rfl) (ht := (setS32 (setS8 set1))) (hk := ?_); refine qA (hq := Quiet.callTA rfl rfl hC hL hG k22 rfl rfl) (ht := (setS32 (setS8 set2))) (hk := ?_); refine qA (hq := Quiet.lt (xs := [.const (.string ⟨#[105, 109, 97, 103, 101]⟩), .tmp 30, .tmp 33, .tmp 36, .tmp 39, .tmp 42]) (T := Ty.str) (ds := [⟨#[105, 109, 97, 103, 101]⟩, r18, r19, r20, r21, r22]) rfl rfl rfl (by rfl) (by decide) (.cons (Fit.str (strB_le c23)) (.cons (Fit.str (strB_le c24)) (.cons (Fit.str (strB_le c25)) (.cons (Fit.str (strB_le c26)) (.cons (Fit.str (strB_le c27)) (.cons (Fit.str (strB_le c28)) .nil))))))) (ht := (setS32 (setS8 set3))) (hk := ?_); refine qA (hq := Quiet.callA rfl rfl k29 rfl rfl) (ht := (setS32 (setS8 set4))) (hk := ?_); refine qA (hq := Quiet.move rfl get4) (ht := (setS32 (setS8 set5))) (hk := ?_); refine qA (hq := Quiet.lend rfl k30 (.own rfl .nil)) (ht := (setS32 (setS8 set6))) (hk := ?_); exact qEnd rfl)) (hx := by ((refine aSeq_t rfl (AOp.litI 2 rfl (xs := [.tmp 44, .tmp 46]) (T := Ty.str) (ds := [r29, r30]) rfl rfl rfl (RT.eq (n := 1) (bytes := 16)) (by decide) (by decide) (.cons (Fit.str (strB_le c31)) (.cons (Fit.str (strB_le c32)) .nil)) ?_); refine sNtM (ht := (setS32 (setS8 set7))) (hk := ?_)); refine sA (hq := Quiet.assign rfl (getS32 (getS8 get7))) (ht := set7) (hk := ?_); exact wEnd rfl)) (hk := ?_)
      obtain ⟨z36, HX36, Hl36⟩ := M.to_bnd.1 H
      refine Awp.seqJ (β := ((List ByteArray)) × (Nat)) (fun q36 => z36 = q36.1) (fun q36 => ⟨.any :: .any :: .any :: .any :: .any :: .any :: .any :: .own 2 q36.2 :: .any :: .any :: .any :: .any :: .any :: .any :: .any :: .any :: .any :: .any :: .any :: .any :: .any :: .any :: .any :: .any :: .any :: .any :: .any :: .any :: .any :: .any :: .any :: .any :: .any :: .any :: .any :: .any :: .any :: .any :: .any :: .any :: .any :: .any :: .any :: .any :: .any :: .any :: .any :: .any :: .any :: .any :: .any :: .any :: .any :: .any :: .any :: .any :: .any :: .any :: .any :: .any :: .any :: .any :: .any :: .any :: .any :: .any :: [], [.dead, .dead, .row q36.2 9 Ty.str q36.1]⟩) ?_ ?_
      · refine wR (hx := by (refine sA (hq := Quiet.fa_ptr rfl get1 rfl) (ht := (setS32 (setS8 (setS8 set0)))) (hk := ?_); refine sA (hq := Quiet.load_ptr rfl (getS32 (getS8 (getS8 get0))) rfl rfl) (ht := (setS32 (setS8 (setS8 set1)))) (hk := ?_); refine sA (hq := Quiet.ln rfl (getS32 (getS8 (getS8 get1)))) (ht := (setS32 (setS8 (setS8 set2)))) (hk := ?_); refine sA (hq := Quiet.move rfl getC) (ht := (setS32 (setS8 (setS8 set3)))) (hk := ?_); exact wEnd rfl)) (hk := ?_)
        refine Awp.block ?_
        refine Awp.loopM HX36 (fun s36 b36 => ⟨.any :: .any :: .any :: .any :: .any :: .any :: .any :: .own 2 b36 :: .any :: .any :: .any :: .any :: .any :: .any :: .any :: .any :: .any :: .any :: .any :: .any :: .any :: .any :: .any :: .any :: .any :: .any :: .any :: .any :: .any :: .any :: .any :: .any :: .any :: .any :: .any :: .any :: .any :: .any :: .any :: .any :: .any :: .any :: .any :: .any :: .any :: .any :: .any :: .any :: .any :: .bs (Ty.int .u32) x.words :: .lit (.int .i64 (x.words.length : Int)) :: .lit (.int .i64 s36.1) :: .any :: .any :: .any :: .any :: .any :: .any :: .any :: .any :: .any :: .any :: .any :: .any :: .any :: .any :: [], [.dead, .dead, .row b36 9 Ty.str s36.2]⟩) 0 (?_) ?_
        · try dsimp only
          exact leC (Cut.dead (Cut.dead (Cut.cons (Cut.nil _))))
        · rintro ⟨x33, l35⟩ v34 x36 H Hr36
          try dsimp only
          dsimp only [image_List_L21] at H
          refine wR (hx := by (refine sA (hq := Quiet.bin rfl (getS32 (getS8 (getS8 get3))) (getS32 (getS8 (getS8 get2))) rfl) (ht := (setS32 (setS8 (setS8 set4)))) (hk := ?_); exact wEnd rfl)) (hk := ?_)
          refine Awp.seq fun Khs39 hs39 => ?_
          refine Awp.cond rfl (fun hb40 => ?_) (fun hb40 => ?_)
          · have H := M.to_t hb40 H
            refine Awp.skip ?_
            refine hs39 _ ?_
            refine nT (hk := ?_)
            refine Awp.seq fun Khs41 hs41 => ?_
            refine Awp.block ?_
            obtain ⟨c42, H⟩ := M.to_chk.1 H
            refine wR (hx := by (refine sA (hq := Quiet.move rfl (getS32 (getS8 (getS8 get3)))) (ht := (setS32 (setS8 (setS8 set5)))) (hk := ?_); refine sA (hq := Quiet.ixM rfl (getS32 (getS8 (getS8 get1))) (getS32 (getS8 (getS8 get3))) rfl c42) (ht := (setS32 (setS8 (setS8 set6)))) (hk := ?_); refine sA (hq := Quiet.load_bp rfl (getS32 (getS8 (getS8 get6))) rfl) (ht := (setS32 (setS8 (setS8 set7)))) (hk := ?_); refine sA (hq := Quiet.assign rfl (getS32 (getS8 (getS8 get5)))) (ht := (setS8 set0)) (hk := ?_); refine sA (hq := Quiet.assign rfl (getS32 (getS8 (getS8 get7)))) (ht := (setS8 set1)) (hk := ?_); exact wEnd rfl)) (hk := ?_)
            obtain ⟨r43, k43, H⟩ := M.to_bnd.1 H
            have k43 := image_line_l k43
            obtain ⟨c44, H⟩ := M.to_chk.1 H
            obtain ⟨c45, H⟩ := M.to_chk.1 H
            refine wRE (hx := by (refine sA (hq := Quiet.move rfl get7) (ht := (setS32 (setS8 (setS8 (setS8 set0))))) (hk := ?_); refine sA (hq := Quiet.move rfl (getS8 get0)) (ht := (setS32 (setS8 (setS8 (setS8 set1))))) (hk := ?_); refine sA (hq := Quiet.bin rfl getC (getS32 (getS8 (getS8 (getS8 get1)))) rfl) (ht := (setS32 (setS8 (setS8 (setS8 set2))))) (hk := ?_); refine sA (hq := Quiet.move rfl (getS8 get1)) (ht := (setS32 (setS8 (setS8 (setS8 set3))))) (hk := ?_); refine sA (hq := Quiet.callTA rfl rfl hC hL hG k43 rfl rfl) (ht := (setS32 (setS8 (setS8 (setS8 set4))))) (hk := ?_); refine sA (hq := Quiet.lt (xs := [.tmp 60]) (T := Ty.str) (ds := [r43]) rfl rfl rfl (by rfl) (by decide) (.cons (Fit.str (strB_le c44)) .nil)) (ht := (setS32 (setS8 (setS8 (setS8 set5))))) (hk := ?_); (refine aSeq_t rfl (AOp.appQ rfl rfl rfl rfl rfl c45 ?_); refine sNtM (ht := (setS32 (setS8 (setS8 (setS8 set6))))) (hk := ?_)); refine sA (hq := Quiet.assign rfl (getS32 (getS8 (getS8 (getS8 get6))))) (ht := set7) (hk := ?_); exact wEnd rfl)) (hk := ?_)
            refine hs41 _ ?_
            refine nT (hk := ?_)
            refine wRE (hx := by (refine sA (hq := Quiet.bin rfl (getS32 (getS8 (getS8 get3))) getC rfl) (ht := (setS32 (setS8 (setS8 (setS8 set7))))) (hk := ?_); refine sA (hq := Quiet.move rfl (getS32 (getS8 (getS8 (getS8 get7))))) (ht := (setS32 (setS8 (setS8 set3)))) (hk := ?_); exact wEnd rfl)) (hk := ?_)
            have e36 := M.to_ok.1 H
            repeat (first | refine abN ?_ | refine asN ?_)
            refine athen_n ⟨_, v34 + 1, e36.symm, ?_⟩
            try dsimp only
            exact le_TA
          · have H := M.to_f hb40 H
            refine Awp.exit ?_
            repeat (first | refine athen_e ?_ | refine exO (by decide) ?_ | refine asE ?_)
            refine exN ?_
            have e36 := Hr36 _ (M.to_ok.1 H).symm
            repeat (first | refine abN ?_ | refine asN ?_)
            refine athen_n ⟨(_, v34), e36.symm, ?_⟩
            try dsimp only
            exact le_TA
      · rintro ⟨l38, v37⟩ hz36
        try dsimp only at hz36
        have H := Hl36
        rw [hz36] at H
        try dsimp only
        obtain ⟨r46, k46, H⟩ := M.to_bnd.1 H
        have k46 := strings_Join_l k46
        refine wR (hx := by (refine sA (hq := Quiet.move rfl get7) (ht := (setS32 (setS32 set0))) (hk := ?_); refine sA (hq := Quiet.lend rfl k46 (.own rfl (.cl rfl .nil))) (ht := (setS32 (setS32 set1))) (hk := ?_); refine sA (hq := Quiet.assign rfl (getS32 (getS32 get1))) (ht := set2) (hk := ?_); refine sA (hq := Quiet.assign rfl getC) (ht := set3) (hk := ?_); exact wEnd rfl)) (hk := ?_)
        obtain rfl := M.to_ok.1 H
        exact Awp.ret ⟨.inr rfl, _, _, Fin.cl rfl, rfl, rfl⟩
def law31_head : M Bool := M.bnd (image_Put ⟨2, [], 0, 0, 0, [], 0⟩) fun r1 => M.bnd (image_List ⟨2, [], 0, 0, 0, [], 0⟩) fun r2 => M.bnd (image_List ⟨8, [0, 86573055], 0, 0, 0, [4], 8⟩) fun r3 => M.bnd (image_Get ⟨#[77, 78, 84, 78]⟩) fun r5 => M.bnd (image_Read ⟨#[]⟩) fun r6 => M.chk (makB 24 1) (M.chk (catB ⟨#[77, 78, 84, 78, 0, 0, 0, 2]⟩ (bytesOf (List.replicate (Int.toNat 24) 0))) (M.chk (catB (⟨#[77, 78, 84, 78, 0, 0, 0, 2]⟩ ++ (bytesOf (List.replicate (Int.toNat 24) 0))) ⟨#[0, 0, 25, 161]⟩) (M.bnd (M.whn ((((((r1.1 == ((⟨#[77, 78, 84, 78, 0, 0, 0, 2]⟩ ++ (bytesOf (List.replicate (Int.toNat 24) 0))) ++ ⟨#[0, 0, 25, 161]⟩)) && (r1.2 == 0)) && (r2.1 == ⟨#[105, 109, 97, 103, 101, 32, 50, 32, 48, 32, 48, 32, 48, 32, 48, 10, 115, 116, 97, 114, 116, 115, 10]⟩)) && (r2.2 == 0)) && (r3.1 == ⟨#[105, 109, 97, 103, 101, 32, 56, 32, 48, 32, 48, 32, 48, 32, 56, 10, 115, 116, 97, 114, 116, 115, 32, 52, 10, 48, 32, 48, 48, 48, 48, 48, 48, 48, 48, 10, 52, 32, 48, 53, 50, 56, 102, 102, 102, 102, 32, 49, 32, 57, 32, 56, 32, 48, 32, 35, 45, 49, 10]⟩)) && (r3.2 == 0)) false (image_May ⟨1, [], 0, 0, 0, [], 0⟩)) fun r10 => M.bnd (M.whn (((((((r1.1 == ((⟨#[77, 78, 84, 78, 0, 0, 0, 2]⟩ ++ (bytesOf (List.replicate (Int.toNat 24) 0))) ++ ⟨#[0, 0, 25, 161]⟩)) && (r1.2 == 0)) && (r2.1 == ⟨#[105, 109, 97, 103, 101, 32, 50, 32, 48, 32, 48, 32, 48, 32, 48, 10, 115, 116, 97, 114, 116, 115, 10]⟩)) && (r2.2 == 0)) && (r3.1 == ⟨#[105, 109, 97, 103, 101, 32, 56, 32, 48, 32, 48, 32, 48, 32, 56, 10, 115, 116, 97, 114, 116, 115, 32, 52, 10, 48, 32, 48, 48, 48, 48, 48, 48, 48, 48, 10, 52, 32, 48, 53, 50, 56, 102, 102, 102, 102, 32, 49, 32, 57, 32, 56, 32, 48, 32, 35, 45, 49, 10]⟩)) && (r3.2 == 0)) && (!r10)) false (image_May ⟨8, [0, 86573055], 0, 0, 0, [4], 4⟩)) fun r11 => M.bnd (M.whn ((((((((r1.1 == ((⟨#[77, 78, 84, 78, 0, 0, 0, 2]⟩ ++ (bytesOf (List.replicate (Int.toNat 24) 0))) ++ ⟨#[0, 0, 25, 161]⟩)) && (r1.2 == 0)) && (r2.1 == ⟨#[105, 109, 97, 103, 101, 32, 50, 32, 48, 32, 48, 32, 48, 32, 48, 10, 115, 116, 97, 114, 116, 115, 10]⟩)) && (r2.2 == 0)) && (r3.1 == ⟨#[105, 109, 97, 103, 101, 32, 56, 32, 48, 32, 48, 32, 48, 32, 56, 10, 115, 116, 97, 114, 116, 115, 32, 52, 10, 48, 32, 48, 48, 48, 48, 48, 48, 48, 48, 10, 52, 32, 48, 53, 50, 56, 102, 102, 102, 102, 32, 49, 32, 57, 32, 56, 32, 48, 32, 35, 45, 49, 10]⟩)) && (r3.2 == 0)) && (!r10)) && (!r11)) false (image_May ⟨8, [0, 86573055], 0, 0, 0, [8], 8⟩)) fun r12 => M.ok (((((((((((r1.1 == ((⟨#[77, 78, 84, 78, 0, 0, 0, 2]⟩ ++ (bytesOf (List.replicate (Int.toNat 24) 0))) ++ ⟨#[0, 0, 25, 161]⟩)) && (r1.2 == 0)) && (r2.1 == ⟨#[105, 109, 97, 103, 101, 32, 50, 32, 48, 32, 48, 32, 48, 32, 48, 10, 115, 116, 97, 114, 116, 115, 10]⟩)) && (r2.2 == 0)) && (r3.1 == ⟨#[105, 109, 97, 103, 101, 32, 56, 32, 48, 32, 48, 32, 48, 32, 56, 10, 115, 116, 97, 114, 116, 115, 32, 52, 10, 48, 32, 48, 48, 48, 48, 48, 48, 48, 48, 10, 52, 32, 48, 53, 50, 56, 102, 102, 102, 102, 32, 49, 32, 57, 32, 56, 32, 48, 32, 35, 45, 49, 10]⟩)) && (r3.2 == 0)) && (!r10)) && (!r11)) && (!r12)) && (r5.2 == 5)) && (r6.2 == 5)))))
set_option maxRecDepth 100000 in
set_option maxHeartbeats 4000000 in
theorem law31_head_l {r : Bool} (H : (law31_head).to r) : FnT GL Tryd.prog 7 [] (.lit (.bool r)) := by
  delta law31_head at H
  try dsimp only at H
  have hL := gl_lasts
  refine FnT.of_awp Tryd.func7 rfl (by kernel_rfl) rfl Tryd.ntmps7 fun C hC hG => ?_
  simp only [List.length_nil, Nat.reduceSub, List.replicate_succ, List.replicate_zero, List.nil_append]
  refine wR (hx := by (refine sA (hq := Quiet.assign rfl getC) (ht := set0) (hk := ?_); exact wEnd rfl)) (hk := ?_)
  refine wR (hx := by (refine sA (hq := Quiet.bldP (rs := [.lit (.int .i64 2), .lit (.slice none 0 0), .lit (.int .i64 0), .lit (.int .i64 0), .lit (.int .i64 0), .lit (.slice none 0 0), .lit (.int .i64 0)]) rfl plImg rfl rfl) (ht := (setS8 (setS8 set0))) (hk := ?_); (refine aSeq_t rfl (AOp.alI 0 rfl rfl ?_); refine sNtM (ht := set1) (hk := ?_)); (refine aSeq_t rfl (AOp.stBox rfl rfl rfl (Parts.aggB rfl) rfl (Nat.le_of_ble_eq_true rfl) ?_); refine sNtM (ht := setN) (hk := ?_)); exact wEnd rfl)) (hk := ?_)
  refine wR (hx := by (refine sA (hq := Quiet.lt (xs := [.const (.int .u32 0), .const (.int .u32 86573055)]) (T := (Ty.int .u32)) (ds := [0, 86573055]) rfl rfl rfl (by rfl) (by decide) (.cons (Fit.int (wfB_wf (by decide))) (.cons (Fit.int (wfB_wf (by decide))) .nil))) (ht := (setS8 (setS8 set1))) (hk := ?_); refine sA (hq := Quiet.lt (xs := [.const (.int .u32 4)]) (T := (Ty.int .u32)) (ds := [4]) rfl rfl rfl (by rfl) (by decide) (.cons (Fit.int (wfB_wf (by decide))) .nil)) (ht := (setS8 (setS8 set2))) (hk := ?_); refine sA (hq := Quiet.bldP (rs := [.lit (.int .i64 8), .bs (Ty.int .u32) [0, 86573055], .lit (.int .i64 0), .lit (.int .i64 0), .lit (.int .i64 0), .bs (Ty.int .u32) [4], .lit (.int .i64 8)]) rfl plImg rfl rfl) (ht := (setS8 (setS8 set3))) (hk := ?_); (refine aSeq_t rfl (AOp.alI 1 rfl rfl ?_); refine sNtM (ht := set2) (hk := ?_)); (refine aSeq_t rfl (AOp.stBox rfl rfl rfl (Parts.aggB rfl) rfl (Nat.le_of_ble_eq_true rfl) ?_); refine sNtM (ht := setN) (hk := ?_)); exact wEnd rfl)) (hk := ?_)
  obtain ⟨r1, k1, H⟩ := M.to_bnd.1 H
  have k1 := image_Put_l k1
  refine wR (hx := by (refine sA (hq := Quiet.loadA_ptr rfl get1 rfl rfl) (ht := (setS8 (setS8 set5))) (hk := ?_); refine sA (hq := Quiet.callU rfl rfl (.cons (Up.ag (.cons (.refl _) (.cons (.nil _) (.cons (.refl _) (.cons (.refl _) (.cons (.refl _) (.cons (.nil _) (.cons (.refl _) .nil)))))))) .nil) k1 rfl rfl) (ht := (setS8 (setS8 set6))) (hk := ?_); refine sA (hq := Quiet.move rfl (getS8 (getS8 get6))) (ht := (setS8 (setS8 set4))) (hk := ?_); refine sA (hq := Quiet.extract rfl (getS8 (getS8 get4)) rfl) (ht := (setS8 (setS8 set7))) (hk := ?_); refine sA (hq := Quiet.extract rfl (getS8 (getS8 get4)) rfl) (ht := (setS8 (setS8 (setS8 set0)))) (hk := ?_); refine sA (hq := Quiet.assign rfl (getS8 (getS8 get7))) (ht := set3) (hk := ?_); refine sA (hq := Quiet.assign rfl (getS8 (getS8 (getS8 get0)))) (ht := set4) (hk := ?_); exact wEnd rfl)) (hk := ?_)
  obtain ⟨r2, k2, H⟩ := M.to_bnd.1 H
  have k2 := image_List_l k2
  refine wR (hx := by (refine sA (hq := Quiet.loadA_ptr rfl get1 rfl rfl) (ht := (setS8 (setS8 (setS8 set2)))) (hk := ?_); refine sA (hq := Quiet.callUT rfl rfl (.cons (Up.ag (.cons (.refl _) (.cons (.nil _) (.cons (.refl _) (.cons (.refl _) (.cons (.refl _) (.cons (.nil _) (.cons (.refl _) .nil)))))))) .nil) hC hL hG k2 rfl rfl) (ht := (setS8 (setS8 (setS8 set3)))) (hk := ?_); refine sA (hq := Quiet.move rfl (getS8 (getS8 (getS8 get3)))) (ht := (setS8 (setS8 (setS8 set1)))) (hk := ?_); refine sA (hq := Quiet.extract rfl (getS8 (getS8 (getS8 get1))) rfl) (ht := (setS8 (setS8 (setS8 set4)))) (hk := ?_); refine sA (hq := Quiet.extract rfl (getS8 (getS8 (getS8 get1))) rfl) (ht := (setS8 (setS8 (setS8 set5)))) (hk := ?_); refine sA (hq := Quiet.assign rfl (getS8 (getS8 (getS8 get4)))) (ht := set5) (hk := ?_); refine sA (hq := Quiet.assign rfl (getS8 (getS8 (getS8 get5)))) (ht := set6) (hk := ?_); exact wEnd rfl)) (hk := ?_)
  obtain ⟨r3, k3, H⟩ := M.to_bnd.1 H
  have k3 := image_List_l k3
  refine wR (hx := by (refine sA (hq := Quiet.loadA_ptr rfl get2 rfl rfl) (ht := (setS8 (setS8 (setS8 set7)))) (hk := ?_); refine sA (hq := Quiet.callTA rfl rfl hC hL hG k3 rfl rfl) (ht := (setS32 set0)) (hk := ?_); refine sA (hq := Quiet.move rfl (getS32 get0)) (ht := (setS8 (setS8 (setS8 set6)))) (hk := ?_); refine sA (hq := Quiet.extract rfl (getS8 (getS8 (getS8 get6))) rfl) (ht := (setS32 set1)) (hk := ?_); refine sA (hq := Quiet.extract rfl (getS8 (getS8 (getS8 get6))) rfl) (ht := (setS32 set2)) (hk := ?_); refine sA (hq := Quiet.assign rfl (getS32 get1)) (ht := set7) (hk := ?_); refine sA (hq := Quiet.assign rfl (getS32 get2)) (ht := (setS8 set0)) (hk := ?_); exact wEnd rfl)) (hk := ?_)
  refine Awp.via ⟨.lit (.bool false) :: .ptr 0 0 :: .ptr 1 0 :: .lit (.string r1.1) :: .lit (.int .i64 r1.2) :: .lit (.string r2.1) :: .lit (.int .i64 r2.2) :: .lit (.string r3.1) :: .lit (.int .i64 r3.2) :: .any :: .any :: .any :: .any :: .any :: .any :: .any :: .agg [.lit (.int .i64 2), .lit (.slice none 0 0), .lit (.int .i64 0), .lit (.int .i64 0), .lit (.int .i64 0), .lit (.slice none 0 0), .lit (.int .i64 0)] :: .bs (Ty.int .u32) [0, 86573055] :: .bs (Ty.int .u32) [4] :: .agg [.lit (.int .i64 8), .bs (Ty.int .u32) [0, 86573055], .lit (.int .i64 0), .lit (.int .i64 0), .lit (.int .i64 0), .bs (Ty.int .u32) [4], .lit (.int .i64 8)] :: .tup [.lit (.string r1.1), .lit (.int .i64 r1.2)] :: .agg [.lit (.int .i64 2), .lit (.slice none 0 0), .lit (.int .i64 0), .lit (.int .i64 0), .lit (.int .i64 0), .lit (.slice none 0 0), .lit (.int .i64 0)] :: .tup [.lit (.string r1.1), .lit (.int .i64 r1.2)] :: .lit (.string r1.1) :: .lit (.int .i64 r1.2) :: .tup [.lit (.string r2.1), .lit (.int .i64 r2.2)] :: .agg [.lit (.int .i64 2), .lit (.slice none 0 0), .lit (.int .i64 0), .lit (.int .i64 0), .lit (.int .i64 0), .lit (.slice none 0 0), .lit (.int .i64 0)] :: .tup [.lit (.string r2.1), .lit (.int .i64 r2.2)] :: .lit (.string r2.1) :: .lit (.int .i64 r2.2) :: .tup [.lit (.string r3.1), .lit (.int .i64 r3.2)] :: .agg [.lit (.int .i64 8), .bs (Ty.int .u32) [0, 86573055], .lit (.int .i64 0), .lit (.int .i64 0), .lit (.int .i64 0), .bs (Ty.int .u32) [4], .lit (.int .i64 8)] :: .tup [.lit (.string r3.1), .lit (.int .i64 r3.2)] :: .lit (.string r3.1) :: .lit (.int .i64 r3.2) :: .any :: .any :: .any :: .any :: .any :: .any :: .any :: .any :: .any :: .any :: .any :: .any :: .any :: .any :: .any :: .any :: .any :: .any :: .any :: .any :: .any :: .any :: .any :: .any :: .any :: .any :: .any :: .any :: .any :: .any :: .any :: .any :: .any :: .any :: .any :: .any :: .any :: .any :: .any :: .any :: .any :: .any :: .any :: .any :: .any :: .any :: .any :: .any :: .any :: .any :: .any :: .any :: .any :: .any :: .any :: .any :: .any :: .any :: .any :: .any :: .any :: .any :: .any :: .any :: [], [.box [.lit (.int .i64 2), .lit (.slice none 0 0), .lit (.int .i64 0), .lit (.int .i64 0), .lit (.int .i64 0), .lit (.slice none 0 0), .lit (.int .i64 0)], .box [.lit (.int .i64 8), .bs (Ty.int .u32) [0, 86573055], .lit (.int .i64 0), .lit (.int .i64 0), .lit (.int .i64 0), .bs (Ty.int .u32) [4], .lit (.int .i64 8)], .dead, .dead, .dead]⟩ (St.le.trans le_TA (St.le_deads 3 rfl)) ?_
  refine Awp.seq fun Kg4 hg4 => ?_
  refine Awp.drawG (n := 9) (fun b => ⟨.lit (.bool false) :: .ptr 0 0 :: .ptr 1 0 :: .lit (.string r1.1) :: .lit (.int .i64 r1.2) :: .lit (.string r2.1) :: .lit (.int .i64 r2.2) :: .lit (.string r3.1) :: .lit (.int .i64 r3.2) :: (bif b 3 then .ptr 2 0 else .any) :: (bif b 4 then .ptr 3 0 else .any) :: (bif b 5 then .ptr 4 0 else .any) :: .any :: .any :: .any :: .any :: .agg [.lit (.int .i64 2), .lit (.slice none 0 0), .lit (.int .i64 0), .lit (.int .i64 0), .lit (.int .i64 0), .lit (.slice none 0 0), .lit (.int .i64 0)] :: .bs (Ty.int .u32) [0, 86573055] :: .bs (Ty.int .u32) [4] :: .agg [.lit (.int .i64 8), .bs (Ty.int .u32) [0, 86573055], .lit (.int .i64 0), .lit (.int .i64 0), .lit (.int .i64 0), .bs (Ty.int .u32) [4], .lit (.int .i64 8)] :: .tup [.lit (.string r1.1), .lit (.int .i64 r1.2)] :: .agg [.lit (.int .i64 2), .lit (.slice none 0 0), .lit (.int .i64 0), .lit (.int .i64 0), .lit (.int .i64 0), .lit (.slice none 0 0), .lit (.int .i64 0)] :: .tup [.lit (.string r1.1), .lit (.int .i64 r1.2)] :: .lit (.string r1.1) :: .lit (.int .i64 r1.2) :: .tup [.lit (.string r2.1), .lit (.int .i64 r2.2)] :: .agg [.lit (.int .i64 2), .lit (.slice none 0 0), .lit (.int .i64 0), .lit (.int .i64 0), .lit (.int .i64 0), .lit (.slice none 0 0), .lit (.int .i64 0)] :: .tup [.lit (.string r2.1), .lit (.int .i64 r2.2)] :: .lit (.string r2.1) :: .lit (.int .i64 r2.2) :: .tup [.lit (.string r3.1), .lit (.int .i64 r3.2)] :: .agg [.lit (.int .i64 8), .bs (Ty.int .u32) [0, 86573055], .lit (.int .i64 0), .lit (.int .i64 0), .lit (.int .i64 0), .bs (Ty.int .u32) [4], .lit (.int .i64 8)] :: .tup [.lit (.string r3.1), .lit (.int .i64 r3.2)] :: .lit (.string r3.1) :: .lit (.int .i64 r3.2) :: (bif b 0 then .agg [.lit (.int .i64 2), .lit (.slice none 0 0), .lit (.int .i64 0), .lit (.int .i64 0), .lit (.int .i64 0), .lit (.slice none 0 0), .lit (.int .i64 0)] else .any) :: (bif b 1 then .agg [.lit (.int .i64 8), .bs (Ty.int .u32) [0, 86573055], .lit (.int .i64 0), .lit (.int .i64 0), .lit (.int .i64 0), .bs (Ty.int .u32) [4], .lit (.int .i64 8)] else .any) :: (bif b 2 then .agg [.lit (.int .i64 8), .bs (Ty.int .u32) [0, 86573055], .lit (.int .i64 0), .lit (.int .i64 0), .lit (.int .i64 0), .bs (Ty.int .u32) [4], .lit (.int .i64 8)] else .any) :: .any :: .any :: .any :: .any :: .any :: .any :: .any :: .any :: .any :: .any :: .any :: .any :: .any :: .any :: .any :: .any :: .any :: .any :: .any :: .any :: .any :: .any :: .any :: .any :: .any :: .any :: .any :: .any :: .any :: .any :: .any :: .any :: .any :: .any :: .any :: .any :: .any :: .any :: .any :: .any :: .any :: .any :: .any :: .any :: .any :: .any :: .any :: .any :: .any :: .any :: .any :: .any :: .any :: .any :: .any :: .any :: .any :: .any :: .any :: .any :: .any :: [], [.box [.lit (.int .i64 2), .lit (.slice none 0 0), .lit (.int .i64 0), .lit (.int .i64 0), .lit (.int .i64 0), .lit (.slice none 0 0), .lit (.int .i64 0)], .box [.lit (.int .i64 8), .bs (Ty.int .u32) [0, 86573055], .lit (.int .i64 0), .lit (.int .i64 0), .lit (.int .i64 0), .bs (Ty.int .u32) [4], .lit (.int .i64 8)], (bif b 6 then .box [.lit (.int .i64 2), .lit (.slice none 0 0), .lit (.int .i64 0), .lit (.int .i64 0), .lit (.int .i64 0), .lit (.slice none 0 0), .lit (.int .i64 0)] else (bif b 3 then .box [.lit (.int .i64 0), .lit (.slice none 0 0), .lit (.int .i64 0), .lit (.int .i64 0), .lit (.int .i64 0), .lit (.slice none 0 0), .lit (.int .i64 0)] else .dead)), (bif b 7 then .box [.lit (.int .i64 8), .bs (Ty.int .u32) [0, 86573055], .lit (.int .i64 0), .lit (.int .i64 0), .lit (.int .i64 0), .bs (Ty.int .u32) [4], .lit (.int .i64 8)] else (bif b 4 then .box [.lit (.int .i64 0), .lit (.slice none 0 0), .lit (.int .i64 0), .lit (.int .i64 0), .lit (.int .i64 0), .lit (.slice none 0 0), .lit (.int .i64 0)] else .dead)), (bif b 8 then .box [.lit (.int .i64 8), .bs (Ty.int .u32) [0, 86573055], .lit (.int .i64 0), .lit (.int .i64 0), .lit (.int .i64 0), .bs (Ty.int .u32) [4], .lit (.int .i64 8)] else (bif b 5 then .box [.lit (.int .i64 0), .lit (.slice none 0 0), .lit (.int .i64 0), .lit (.int .i64 0), .lit (.int .i64 0), .lit (.slice none 0 0), .lit (.int .i64 0)] else .dead))]⟩) rfl (by kernel_rfl) (by kernel_rfl) ?_ (hg4 _ ?_)
  · refine gS_cons (fun b hb ha hc => ?_) ?_
    · try dsimp only
      refine AOp.q (Quiet.loadA_ptr rfl get1 rfl rfl) ?_
      exact St.le.refl
    refine gS_cons (fun b hb ha hc => ?_) ?_
    · try dsimp only
      refine AOp.q (Quiet.loadA_ptr rfl get2 rfl rfl) ?_
      exact St.le.refl
    refine gS_cons (fun b hb ha hc => ?_) ?_
    · try dsimp only
      refine AOp.q (Quiet.loadA_ptr rfl get2 rfl rfl) ?_
      exact St.le.refl
    refine gS_cons (fun b hb ha hc => ?_) ?_
    · have h6 : b 6 = false := not_before hc (i := 3) (j := 6) (k := 0) rfl rfl rfl rfl hb
      have u6 : upd b 3 6 = false := h6
      try dsimp only
      refine AOp.alAt 2 rfl (congrArg some ((cndBF h6 _ _).trans (cndBF hb _ _))) (by repeat (first | exact nrH_nil | refine nrH_cons rfl ?_ | refine nrH_cons (nrB_c rfl rfl) ?_ | refine nrH_cons (nrB_c rfl (nrB_c rfl rfl)) ?_ | refine nrH_cons (nrB_c rfl (nrB_c rfl (nrB_c rfl rfl))) ?_)) (by repeat (first | exact nrL_nil | refine nrL_cons rfl ?_ | refine nrL_cons (nr_f hb rfl) ?_ | refine nrL_cons (nr_c rfl rfl) ?_)) ?_
      simp only [cndBF u6]
      exact St.le.refl
    refine gS_cons (fun b hb ha hc => ?_) ?_
    · have h7 : b 7 = false := not_before hc (i := 4) (j := 7) (k := 0) rfl rfl rfl rfl hb
      have u7 : upd b 4 7 = false := h7
      try dsimp only
      refine AOp.alAt 3 rfl (congrArg some ((cndBF h7 _ _).trans (cndBF hb _ _))) (by repeat (first | exact nrH_nil | refine nrH_cons rfl ?_ | refine nrH_cons (nrB_c rfl rfl) ?_ | refine nrH_cons (nrB_c rfl (nrB_c rfl rfl)) ?_ | refine nrH_cons (nrB_c rfl (nrB_c rfl (nrB_c rfl rfl))) ?_)) (by repeat (first | exact nrL_nil | refine nrL_cons rfl ?_ | refine nrL_cons (nr_f hb rfl) ?_ | refine nrL_cons (nr_c rfl rfl) ?_)) ?_
      simp only [cndBF u7]
      exact St.le.refl
    refine gS_cons (fun b hb ha hc => ?_) ?_
    · have h8 : b 8 = false := not_before hc (i := 5) (j := 8) (k := 0) rfl rfl rfl rfl hb
      have u8 : upd b 5 8 = false := h8
      try dsimp only
      refine AOp.alAt 4 rfl (congrArg some ((cndBF h8 _ _).trans (cndBF hb _ _))) (by repeat (first | exact nrH_nil | refine nrH_cons rfl ?_ | refine nrH_cons (nrB_c rfl rfl) ?_ | refine nrH_cons (nrB_c rfl (nrB_c rfl rfl)) ?_ | refine nrH_cons (nrB_c rfl (nrB_c rfl (nrB_c rfl rfl))) ?_)) (by repeat (first | exact nrL_nil | refine nrL_cons rfl ?_ | refine nrL_cons (nr_f hb rfl) ?_ | refine nrL_cons (nr_c rfl rfl) ?_)) ?_
      simp only [cndBF u8]
      exact St.le.refl
    refine gS_cons (fun b hb ha hc => ?_) ?_
    · have h0 : b 0 = true := ha 1 _ rfl rfl
      have h3 : b 3 = true := ha 0 _ rfl rfl
      try dsimp only
      refine AOp.stBoxV rfl ((getS8 get1).trans (cndT h3 _ _)) (congrArg some ((cndBF hb _ _).trans (cndBT h3 _ _))) ((getS32 get3).trans (cndT h0 _ _)) (Parts.aggB rfl) rfl (Nat.le_of_ble_eq_true rfl) ?_
      exact St.le.refl
    refine gS_cons (fun b hb ha hc => ?_) ?_
    · have h1 : b 1 = true := ha 1 _ rfl rfl
      have h4 : b 4 = true := ha 0 _ rfl rfl
      try dsimp only
      refine AOp.stBoxV rfl ((getS8 get2).trans (cndT h4 _ _)) (congrArg some ((cndBF hb _ _).trans (cndBT h4 _ _))) ((getS32 get4).trans (cndT h1 _ _)) (Parts.aggB rfl) rfl (Nat.le_of_ble_eq_true rfl) ?_
      exact St.le.refl
    refine gS_cons (fun b hb ha hc => ?_) ?_
    · have h2 : b 2 = true := ha 1 _ rfl rfl
      have h5 : b 5 = true := ha 0 _ rfl rfl
      try dsimp only
      refine AOp.stBoxV rfl ((getS8 get3).trans (cndT h5 _ _)) (congrArg some ((cndBF hb _ _).trans (cndBT h5 _ _))) ((getS32 get5).trans (cndT h2 _ _)) (Parts.aggB rfl) rfl (Nat.le_of_ble_eq_true rfl) ?_
      exact St.le.refl
    exact gS_nil
  · refine Awp.via ⟨.lit (.bool false) :: .ptr 0 0 :: .ptr 1 0 :: .lit (.string r1.1) :: .lit (.int .i64 r1.2) :: .lit (.string r2.1) :: .lit (.int .i64 r2.2) :: .lit (.string r3.1) :: .lit (.int .i64 r3.2) :: .ptr 2 0 :: .ptr 3 0 :: .ptr 4 0 :: .any :: .any :: .any :: .any :: .agg [.lit (.int .i64 2), .lit (.slice none 0 0), .lit (.int .i64 0), .lit (.int .i64 0), .lit (.int .i64 0), .lit (.slice none 0 0), .lit (.int .i64 0)] :: .bs (Ty.int .u32) [0, 86573055] :: .bs (Ty.int .u32) [4] :: .agg [.lit (.int .i64 8), .bs (Ty.int .u32) [0, 86573055], .lit (.int .i64 0), .lit (.int .i64 0), .lit (.int .i64 0), .bs (Ty.int .u32) [4], .lit (.int .i64 8)] :: .tup [.lit (.string r1.1), .lit (.int .i64 r1.2)] :: .agg [.lit (.int .i64 2), .lit (.slice none 0 0), .lit (.int .i64 0), .lit (.int .i64 0), .lit (.int .i64 0), .lit (.slice none 0 0), .lit (.int .i64 0)] :: .tup [.lit (.string r1.1), .lit (.int .i64 r1.2)] :: .lit (.string r1.1) :: .lit (.int .i64 r1.2) :: .tup [.lit (.string r2.1), .lit (.int .i64 r2.2)] :: .agg [.lit (.int .i64 2), .lit (.slice none 0 0), .lit (.int .i64 0), .lit (.int .i64 0), .lit (.int .i64 0), .lit (.slice none 0 0), .lit (.int .i64 0)] :: .tup [.lit (.string r2.1), .lit (.int .i64 r2.2)] :: .lit (.string r2.1) :: .lit (.int .i64 r2.2) :: .tup [.lit (.string r3.1), .lit (.int .i64 r3.2)] :: .agg [.lit (.int .i64 8), .bs (Ty.int .u32) [0, 86573055], .lit (.int .i64 0), .lit (.int .i64 0), .lit (.int .i64 0), .bs (Ty.int .u32) [4], .lit (.int .i64 8)] :: .tup [.lit (.string r3.1), .lit (.int .i64 r3.2)] :: .lit (.string r3.1) :: .lit (.int .i64 r3.2) :: .agg [.lit (.int .i64 2), .lit (.slice none 0 0), .lit (.int .i64 0), .lit (.int .i64 0), .lit (.int .i64 0), .lit (.slice none 0 0), .lit (.int .i64 0)] :: .agg [.lit (.int .i64 8), .bs (Ty.int .u32) [0, 86573055], .lit (.int .i64 0), .lit (.int .i64 0), .lit (.int .i64 0), .bs (Ty.int .u32) [4], .lit (.int .i64 8)] :: .agg [.lit (.int .i64 8), .bs (Ty.int .u32) [0, 86573055], .lit (.int .i64 0), .lit (.int .i64 0), .lit (.int .i64 0), .bs (Ty.int .u32) [4], .lit (.int .i64 8)] :: .any :: .any :: .any :: .any :: .any :: .any :: .any :: .any :: .any :: .any :: .any :: .any :: .any :: .any :: .any :: .any :: .any :: .any :: .any :: .any :: .any :: .any :: .any :: .any :: .any :: .any :: .any :: .any :: .any :: .any :: .any :: .any :: .any :: .any :: .any :: .any :: .any :: .any :: .any :: .any :: .any :: .any :: .any :: .any :: .any :: .any :: .any :: .any :: .any :: .any :: .any :: .any :: .any :: .any :: .any :: .any :: .any :: .any :: .any :: .any :: .any :: [], [.box [.lit (.int .i64 2), .lit (.slice none 0 0), .lit (.int .i64 0), .lit (.int .i64 0), .lit (.int .i64 0), .lit (.slice none 0 0), .lit (.int .i64 0)], .box [.lit (.int .i64 8), .bs (Ty.int .u32) [0, 86573055], .lit (.int .i64 0), .lit (.int .i64 0), .lit (.int .i64 0), .bs (Ty.int .u32) [4], .lit (.int .i64 8)], .box [.lit (.int .i64 2), .lit (.slice none 0 0), .lit (.int .i64 0), .lit (.int .i64 0), .lit (.int .i64 0), .lit (.slice none 0 0), .lit (.int .i64 0)], .box [.lit (.int .i64 8), .bs (Ty.int .u32) [0, 86573055], .lit (.int .i64 0), .lit (.int .i64 0), .lit (.int .i64 0), .bs (Ty.int .u32) [4], .lit (.int .i64 8)], .box [.lit (.int .i64 8), .bs (Ty.int .u32) [0, 86573055], .lit (.int .i64 0), .lit (.int .i64 0), .lit (.int .i64 0), .bs (Ty.int .u32) [4], .lit (.int .i64 8)]]⟩ St.le.refl ?_
    refine wR (hx := by (refine sA (hq := Quiet.fa_ptr rfl (getS8 get1) rfl) (ht := (setS32 set6)) (hk := ?_); (refine aSeq_t rfl (AOp.stBox (new := [_]) rfl rfl rfl (Parts.one (One.lit rfl)) rfl (Nat.le_of_ble_eq_true rfl) ?_); refine sNtM (ht := setN) (hk := ?_)); exact wEnd rfl)) (hk := ?_)
    refine wR (hx := by (refine sA (hq := Quiet.fa_ptr rfl (getS8 get2) rfl) (ht := (setS32 set7)) (hk := ?_); (refine aSeq_t rfl (AOp.stBox (new := [_]) rfl rfl rfl (Parts.one (One.lit rfl)) rfl (Nat.le_of_ble_eq_true rfl) ?_); refine sNtM (ht := setN) (hk := ?_)); exact wEnd rfl)) (hk := ?_)
    refine wR (hx := by (refine sA (hq := Quiet.lt (xs := [.const (.int .u32 8)]) (T := (Ty.int .u32)) (ds := [8]) rfl rfl rfl (by rfl) (by decide) (.cons (Fit.int (wfB_wf (by decide))) .nil)) (ht := (setS32 (setS8 set0))) (hk := ?_); refine sA (hq := Quiet.fa_ptr rfl (getS8 get3) rfl) (ht := (setS32 (setS8 set1))) (hk := ?_); (refine aSeq_t rfl (AOp.stBox (new := [_]) rfl rfl rfl (Parts.one One.bs) rfl (Nat.le_of_ble_eq_true rfl) ?_); refine sNtM (ht := setN) (hk := ?_)); exact wEnd rfl)) (hk := ?_)
    obtain ⟨r5, k5, H⟩ := M.to_bnd.1 H
    have k5 := image_Get_l k5
    refine wR (hx := by (refine sA (hq := Quiet.callA rfl rfl k5 rfl rfl) (ht := (setS32 (setS8 set3))) (hk := ?_); refine sA (hq := Quiet.move rfl (getS32 (getS8 get3))) (ht := (setS32 (setS8 set2))) (hk := ?_); refine sA (hq := Quiet.extract rfl (getS32 (getS8 get2)) rfl) (ht := (setS32 (setS8 set4))) (hk := ?_); refine sA (hq := Quiet.extract rfl (getS32 (getS8 get2)) rfl) (ht := (setS32 (setS8 set5))) (hk := ?_); (refine aSeq_t rfl (AOp.alI 5 rfl rfl ?_); refine sNtM (ht := (setS8 set4)) (hk := ?_)); (refine aSeq_t rfl (AOp.stBox rfl rfl rfl (Parts.aggB rfl) rfl (Nat.le_of_ble_eq_true rfl) ?_); refine sNtM (ht := setN) (hk := ?_)); refine sA (hq := Quiet.assign rfl (getS32 (getS8 get5))) (ht := (setS8 set5)) (hk := ?_); exact wEnd rfl)) (hk := ?_)
    obtain ⟨r6, k6, H⟩ := M.to_bnd.1 H
    have k6 := image_Read_l k6
    refine wR (hx := by (refine sA (hq := Quiet.callTA rfl rfl hC hL hG k6 rfl rfl) (ht := (setS32 (setS8 set7))) (hk := ?_); refine sA (hq := Quiet.move rfl (getS32 (getS8 get7))) (ht := (setS32 (setS8 set6))) (hk := ?_); refine sA (hq := Quiet.extract rfl (getS32 (getS8 get6)) rfl) (ht := (setS32 (setS8 (setS8 set0)))) (hk := ?_); refine sA (hq := Quiet.extract rfl (getS32 (getS8 get6)) rfl) (ht := (setS32 (setS8 (setS8 set1)))) (hk := ?_); (refine aSeq_t rfl (AOp.alI 6 rfl rfl ?_); refine sNtM (ht := (setS8 set6)) (hk := ?_)); (refine aSeq_t rfl (AOp.stBox rfl rfl rfl (Parts.aggB rfl) rfl (Nat.le_of_ble_eq_true rfl) ?_); refine sNtM (ht := setN) (hk := ?_)); refine sA (hq := Quiet.assign rfl (getS32 (getS8 (getS8 get1)))) (ht := (setS8 set7)) (hk := ?_); exact wEnd rfl)) (hk := ?_)
    obtain ⟨c7, H⟩ := M.to_chk.1 H
    obtain ⟨c8, H⟩ := M.to_chk.1 H
    obtain ⟨c9, H⟩ := M.to_chk.1 H
    obtain ⟨r10, k10, H⟩ := M.to_bnd.1 H
    obtain ⟨r11, k11, H⟩ := M.to_bnd.1 H
    obtain ⟨r12, k12, H⟩ := M.to_bnd.1 H
    refine wR (hx := by (refine sA (hq := Quiet.move rfl get3) (ht := (setS32 (setS8 (setS8 set2)))) (hk := ?_); (refine aSeq_t rfl (AOp.mkI 7 rfl (T := (Ty.int .u8)) (e := 5) (v := .int .u8 0) (bytes := 1) (0 : Int) rfl (by kernel_rfl) rfl (fun _ _ => ⟨rfl, by decide⟩) rfl rfl c7 ?_); refine sNtM (ht := (setS32 (setS8 (setS8 set3)))) (hk := ?_)); refine sA (hq := Quiet.b2sO rfl rfl rfl) (ht := (setS32 (setS8 (setS8 set4)))) (hk := ?_); refine sA (hq := Quiet.cat rfl getC (getS32 (getS8 (getS8 get4))) (catB_le c8)) (ht := (setS32 (setS8 (setS8 set5)))) (hk := ?_); refine sA (hq := Quiet.cat rfl (getS32 (getS8 (getS8 get5))) getC (catB_le c9)) (ht := (setS32 (setS8 (setS8 set6)))) (hk := ?_); refine sA (hq := Quiet.eqS rfl (getS32 (getS8 (getS8 get2))) (getS32 (getS8 (getS8 get6)))) (ht := (setS32 (setS8 (setS8 set7)))) (hk := ?_); refine sA (hq := Quiet.move rfl (getS32 (getS8 (getS8 get7)))) (ht := (setS32 (setS8 (setS8 (setS8 set0))))) (hk := ?_); refine sG (g := (r1.1 == ((⟨#[77, 78, 84, 78, 0, 0, 0, 2]⟩ ++ (bytesOf (List.replicate (Int.toNat 24) 0))) ++ ⟨#[0, 0, 25, 161]⟩))) (hg := gA_t rfl) (hq := fun hg => Quiet.move rfl get4) (ht := (setS32 (setS8 (setS8 (setS8 set1))))) (hk := ?_); refine sG (g := (r1.1 == ((⟨#[77, 78, 84, 78, 0, 0, 0, 2]⟩ ++ (bytesOf (List.replicate (Int.toNat 24) 0))) ++ ⟨#[0, 0, 25, 161]⟩))) (hg := gA_t rfl) (hq := fun hg => Quiet.bin rfl ((getS32 (getS8 (getS8 (getS8 get1)))).trans (cndT hg _ _)) getC rfl) (ht := (setS32 (setS8 (setS8 (setS8 set2))))) (hk := ?_); refine sA (hq := Quiet.pickAndB rfl (getS32 (getS8 (getS8 (getS8 get0)))) (getS32 (getS8 (getS8 (getS8 get2)))) getC) (ht := (setS32 (setS8 (setS8 (setS8 set3))))) (hk := ?_); refine sA (hq := Quiet.move rfl (getS32 (getS8 (getS8 (getS8 get3))))) (ht := (setS32 (setS8 (setS8 (setS8 set4))))) (hk := ?_); refine sG (g := ((r1.1 == ((⟨#[77, 78, 84, 78, 0, 0, 0, 2]⟩ ++ (bytesOf (List.replicate (Int.toNat 24) 0))) ++ ⟨#[0, 0, 25, 161]⟩)) && (r1.2 == 0))) (hg := gA_t rfl) (hq := fun hg => Quiet.move rfl get5) (ht := (setS32 (setS8 (setS8 (setS8 set5))))) (hk := ?_); refine sG (g := ((r1.1 == ((⟨#[77, 78, 84, 78, 0, 0, 0, 2]⟩ ++ (bytesOf (List.replicate (Int.toNat 24) 0))) ++ ⟨#[0, 0, 25, 161]⟩)) && (r1.2 == 0))) (hg := gA_t rfl) (hq := fun hg => Quiet.eqS rfl ((getS32 (getS8 (getS8 (getS8 get5)))).trans (cndT hg _ _)) getC) (ht := (setS32 (setS8 (setS8 (setS8 set6))))) (hk := ?_); refine sA (hq := Quiet.pickAndB rfl (getS32 (getS8 (getS8 (getS8 get4)))) (getS32 (getS8 (getS8 (getS8 get6)))) getC) (ht := (setS32 (setS8 (setS8 (setS8 set7))))) (hk := ?_); refine sA (hq := Quiet.move rfl (getS32 (getS8 (getS8 (getS8 get7))))) (ht := (setS32 (setS32 set0))) (hk := ?_); refine sG (g := (((r1.1 == ((⟨#[77, 78, 84, 78, 0, 0, 0, 2]⟩ ++ (bytesOf (List.replicate (Int.toNat 24) 0))) ++ ⟨#[0, 0, 25, 161]⟩)) && (r1.2 == 0)) && (r2.1 == ⟨#[105, 109, 97, 103, 101, 32, 50, 32, 48, 32, 48, 32, 48, 32, 48, 10, 115, 116, 97, 114, 116, 115, 10]⟩))) (hg := gA_t rfl) (hq := fun hg => Quiet.move rfl get6) (ht := (setS32 (setS32 set1))) (hk := ?_); refine sG (g := (((r1.1 == ((⟨#[77, 78, 84, 78, 0, 0, 0, 2]⟩ ++ (bytesOf (List.replicate (Int.toNat 24) 0))) ++ ⟨#[0, 0, 25, 161]⟩)) && (r1.2 == 0)) && (r2.1 == ⟨#[105, 109, 97, 103, 101, 32, 50, 32, 48, 32, 48, 32, 48, 32, 48, 10, 115, 116, 97, 114, 116, 115, 10]⟩))) (hg := gA_t rfl) (hq := fun hg => Quiet.bin rfl ((getS32 (getS32 get1)).trans (cndT hg _ _)) getC rfl) (ht := (setS32 (setS32 set2))) (hk := ?_); refine sA (hq := Quiet.pickAndB rfl (getS32 (getS32 get0)) (getS32 (getS32 get2)) getC) (ht := (setS32 (setS32 set3))) (hk := ?_); refine sA (hq := Quiet.move rfl (getS32 (getS32 get3))) (ht := (setS32 (setS32 set4))) (hk := ?_); refine sG (g := ((((r1.1 == ((⟨#[77, 78, 84, 78, 0, 0, 0, 2]⟩ ++ (bytesOf (List.replicate (Int.toNat 24) 0))) ++ ⟨#[0, 0, 25, 161]⟩)) && (r1.2 == 0)) && (r2.1 == ⟨#[105, 109, 97, 103, 101, 32, 50, 32, 48, 32, 48, 32, 48, 32, 48, 10, 115, 116, 97, 114, 116, 115, 10]⟩)) && (r2.2 == 0))) (hg := gA_t rfl) (hq := fun hg => Quiet.move rfl get7) (ht := (setS32 (setS32 set5))) (hk := ?_); refine sG (g := ((((r1.1 == ((⟨#[77, 78, 84, 78, 0, 0, 0, 2]⟩ ++ (bytesOf (List.replicate (Int.toNat 24) 0))) ++ ⟨#[0, 0, 25, 161]⟩)) && (r1.2 == 0)) && (r2.1 == ⟨#[105, 109, 97, 103, 101, 32, 50, 32, 48, 32, 48, 32, 48, 32, 48, 10, 115, 116, 97, 114, 116, 115, 10]⟩)) && (r2.2 == 0))) (hg := gA_t rfl) (hq := fun hg => Quiet.eqS rfl ((getS32 (getS32 get5)).trans (cndT hg _ _)) getC) (ht := (setS32 (setS32 set6))) (hk := ?_); refine sA (hq := Quiet.pickAndB rfl (getS32 (getS32 get4)) (getS32 (getS32 get6)) getC) (ht := (setS32 (setS32 set7))) (hk := ?_); refine sA (hq := Quiet.move rfl (getS32 (getS32 get7))) (ht := (setS32 (setS32 (setS8 set0)))) (hk := ?_); refine sG (g := (((((r1.1 == ((⟨#[77, 78, 84, 78, 0, 0, 0, 2]⟩ ++ (bytesOf (List.replicate (Int.toNat 24) 0))) ++ ⟨#[0, 0, 25, 161]⟩)) && (r1.2 == 0)) && (r2.1 == ⟨#[105, 109, 97, 103, 101, 32, 50, 32, 48, 32, 48, 32, 48, 32, 48, 10, 115, 116, 97, 114, 116, 115, 10]⟩)) && (r2.2 == 0)) && (r3.1 == ⟨#[105, 109, 97, 103, 101, 32, 56, 32, 48, 32, 48, 32, 48, 32, 56, 10, 115, 116, 97, 114, 116, 115, 32, 52, 10, 48, 32, 48, 48, 48, 48, 48, 48, 48, 48, 10, 52, 32, 48, 53, 50, 56, 102, 102, 102, 102, 32, 49, 32, 57, 32, 56, 32, 48, 32, 35, 45, 49, 10]⟩))) (hg := gA_t rfl) (hq := fun hg => Quiet.move rfl (getS8 get0)) (ht := (setS32 (setS32 (setS8 set1)))) (hk := ?_); refine sG (g := (((((r1.1 == ((⟨#[77, 78, 84, 78, 0, 0, 0, 2]⟩ ++ (bytesOf (List.replicate (Int.toNat 24) 0))) ++ ⟨#[0, 0, 25, 161]⟩)) && (r1.2 == 0)) && (r2.1 == ⟨#[105, 109, 97, 103, 101, 32, 50, 32, 48, 32, 48, 32, 48, 32, 48, 10, 115, 116, 97, 114, 116, 115, 10]⟩)) && (r2.2 == 0)) && (r3.1 == ⟨#[105, 109, 97, 103, 101, 32, 56, 32, 48, 32, 48, 32, 48, 32, 56, 10, 115, 116, 97, 114, 116, 115, 32, 52, 10, 48, 32, 48, 48, 48, 48, 48, 48, 48, 48, 10, 52, 32, 48, 53, 50, 56, 102, 102, 102, 102, 32, 49, 32, 57, 32, 56, 32, 48, 32, 35, 45, 49, 10]⟩))) (hg := gA_t rfl) (hq := fun hg => Quiet.bin rfl ((getS32 (getS32 (getS8 get1))).trans (cndT hg _ _)) getC rfl) (ht := (setS32 (setS32 (setS8 set2)))) (hk := ?_); refine sA (hq := Quiet.pickAndB rfl (getS32 (getS32 (getS8 get0))) (getS32 (getS32 (getS8 get2))) getC) (ht := (setS32 (setS32 (setS8 set3)))) (hk := ?_); refine sA (hq := Quiet.move rfl (getS32 (getS32 (getS8 get3)))) (ht := (setS32 (setS32 (setS8 set4)))) (hk := ?_); refine sG (g := ((((((r1.1 == ((⟨#[77, 78, 84, 78, 0, 0, 0, 2]⟩ ++ (bytesOf (List.replicate (Int.toNat 24) 0))) ++ ⟨#[0, 0, 25, 161]⟩)) && (r1.2 == 0)) && (r2.1 == ⟨#[105, 109, 97, 103, 101, 32, 50, 32, 48, 32, 48, 32, 48, 32, 48, 10, 115, 116, 97, 114, 116, 115, 10]⟩)) && (r2.2 == 0)) && (r3.1 == ⟨#[105, 109, 97, 103, 101, 32, 56, 32, 48, 32, 48, 32, 48, 32, 56, 10, 115, 116, 97, 114, 116, 115, 32, 52, 10, 48, 32, 48, 48, 48, 48, 48, 48, 48, 48, 10, 52, 32, 48, 53, 50, 56, 102, 102, 102, 102, 32, 49, 32, 57, 32, 56, 32, 48, 32, 35, 45, 49, 10]⟩)) && (r3.2 == 0))) (hg := gA_t rfl) (hq := fun hg => Quiet.loadA_ptr rfl (getS8 get1) rfl rfl) (ht := (setS32 (setS32 (setS8 set5)))) (hk := ?_); refine sG (g := ((((((r1.1 == ((⟨#[77, 78, 84, 78, 0, 0, 0, 2]⟩ ++ (bytesOf (List.replicate (Int.toNat 24) 0))) ++ ⟨#[0, 0, 25, 161]⟩)) && (r1.2 == 0)) && (r2.1 == ⟨#[105, 109, 97, 103, 101, 32, 50, 32, 48, 32, 48, 32, 48, 32, 48, 10, 115, 116, 97, 114, 116, 115, 10]⟩)) && (r2.2 == 0)) && (r3.1 == ⟨#[105, 109, 97, 103, 101, 32, 56, 32, 48, 32, 48, 32, 48, 32, 56, 10, 115, 116, 97, 114, 116, 115, 32, 52, 10, 48, 32, 48, 48, 48, 48, 48, 48, 48, 48, 10, 52, 32, 48, 53, 50, 56, 102, 102, 102, 102, 32, 49, 32, 57, 32, 56, 32, 48, 32, 35, 45, 49, 10]⟩)) && (r3.2 == 0))) (hg := gA_t rfl) (hq := fun hg => by ((try simp only [cndT hg]); (try simp only [cndA hg]); exact Quiet.callU rfl rfl (.cons (Up.ag (.cons (.refl _) (.cons (.nil _) (.cons (.refl _) (.cons (.refl _) (.cons (.refl _) (.cons (.nil _) (.cons (.refl _) .nil)))))))) .nil) (image_May_l (M.to_whn k10 hg)) rfl rfl)) (ht := (setS32 (setS32 (setS8 set6)))) (hk := ?_); refine sG (g := ((((((r1.1 == ((⟨#[77, 78, 84, 78, 0, 0, 0, 2]⟩ ++ (bytesOf (List.replicate (Int.toNat 24) 0))) ++ ⟨#[0, 0, 25, 161]⟩)) && (r1.2 == 0)) && (r2.1 == ⟨#[105, 109, 97, 103, 101, 32, 50, 32, 48, 32, 48, 32, 48, 32, 48, 10, 115, 116, 97, 114, 116, 115, 10]⟩)) && (r2.2 == 0)) && (r3.1 == ⟨#[105, 109, 97, 103, 101, 32, 56, 32, 48, 32, 48, 32, 48, 32, 56, 10, 115, 116, 97, 114, 116, 115, 32, 52, 10, 48, 32, 48, 48, 48, 48, 48, 48, 48, 48, 10, 52, 32, 48, 53, 50, 56, 102, 102, 102, 102, 32, 49, 32, 57, 32, 56, 32, 48, 32, 35, 45, 49, 10]⟩)) && (r3.2 == 0))) (hg := gA_t rfl) (hq := fun hg => Quiet.bnot rfl ((getS32 (getS32 (getS8 get6))).trans (cndT hg _ _))) (ht := (setS32 (setS32 (setS8 set7)))) (hk := ?_); refine sA (hq := Quiet.pickAndB rfl (getS32 (getS32 (getS8 get4))) (getS32 (getS32 (getS8 get7))) getC) (ht := (setS32 (setS32 (setS8 (setS8 set0))))) (hk := ?_); refine sA (hq := Quiet.move rfl (getS32 (getS32 (getS8 (getS8 get0))))) (ht := (setS32 (setS32 (setS8 (setS8 set1))))) (hk := ?_); refine sG (g := (((((((r1.1 == ((⟨#[77, 78, 84, 78, 0, 0, 0, 2]⟩ ++ (bytesOf (List.replicate (Int.toNat 24) 0))) ++ ⟨#[0, 0, 25, 161]⟩)) && (r1.2 == 0)) && (r2.1 == ⟨#[105, 109, 97, 103, 101, 32, 50, 32, 48, 32, 48, 32, 48, 32, 48, 10, 115, 116, 97, 114, 116, 115, 10]⟩)) && (r2.2 == 0)) && (r3.1 == ⟨#[105, 109, 97, 103, 101, 32, 56, 32, 48, 32, 48, 32, 48, 32, 56, 10, 115, 116, 97, 114, 116, 115, 32, 52, 10, 48, 32, 48, 48, 48, 48, 48, 48, 48, 48, 10, 52, 32, 48, 53, 50, 56, 102, 102, 102, 102, 32, 49, 32, 57, 32, 56, 32, 48, 32, 35, 45, 49, 10]⟩)) && (r3.2 == 0)) && (!r10))) (hg := gA_t rfl) (hq := fun hg => Quiet.loadA_ptr rfl (getS8 get2) rfl rfl) (ht := (setS32 (setS32 (setS8 (setS8 set2))))) (hk := ?_); refine sG (g := (((((((r1.1 == ((⟨#[77, 78, 84, 78, 0, 0, 0, 2]⟩ ++ (bytesOf (List.replicate (Int.toNat 24) 0))) ++ ⟨#[0, 0, 25, 161]⟩)) && (r1.2 == 0)) && (r2.1 == ⟨#[105, 109, 97, 103, 101, 32, 50, 32, 48, 32, 48, 32, 48, 32, 48, 10, 115, 116, 97, 114, 116, 115, 10]⟩)) && (r2.2 == 0)) && (r3.1 == ⟨#[105, 109, 97, 103, 101, 32, 56, 32, 48, 32, 48, 32, 48, 32, 56, 10, 115, 116, 97, 114, 116, 115, 32, 52, 10, 48, 32, 48, 48, 48, 48, 48, 48, 48, 48, 10, 52, 32, 48, 53, 50, 56, 102, 102, 102, 102, 32, 49, 32, 57, 32, 56, 32, 48, 32, 35, 45, 49, 10]⟩)) && (r3.2 == 0)) && (!r10))) (hg := gA_t rfl) (hq := fun hg => by ((try simp only [cndT hg]); (try simp only [cndA hg]); exact Quiet.callA rfl rfl (image_May_l (M.to_whn k11 hg)) rfl rfl)) (ht := (setS32 (setS32 (setS8 (setS8 set3))))) (hk := ?_); refine sG (g := (((((((r1.1 == ((⟨#[77, 78, 84, 78, 0, 0, 0, 2]⟩ ++ (bytesOf (List.replicate (Int.toNat 24) 0))) ++ ⟨#[0, 0, 25, 161]⟩)) && (r1.2 == 0)) && (r2.1 == ⟨#[105, 109, 97, 103, 101, 32, 50, 32, 48, 32, 48, 32, 48, 32, 48, 10, 115, 116, 97, 114, 116, 115, 10]⟩)) && (r2.2 == 0)) && (r3.1 == ⟨#[105, 109, 97, 103, 101, 32, 56, 32, 48, 32, 48, 32, 48, 32, 56, 10, 115, 116, 97, 114, 116, 115, 32, 52, 10, 48, 32, 48, 48, 48, 48, 48, 48, 48, 48, 10, 52, 32, 48, 53, 50, 56, 102, 102, 102, 102, 32, 49, 32, 57, 32, 56, 32, 48, 32, 35, 45, 49, 10]⟩)) && (r3.2 == 0)) && (!r10))) (hg := gA_t rfl) (hq := fun hg => Quiet.bnot rfl ((getS32 (getS32 (getS8 (getS8 get3)))).trans (cndT hg _ _))) (ht := (setS32 (setS32 (setS8 (setS8 set4))))) (hk := ?_); refine sA (hq := Quiet.pickAndB rfl (getS32 (getS32 (getS8 (getS8 get1)))) (getS32 (getS32 (getS8 (getS8 get4)))) getC) (ht := (setS32 (setS32 (setS8 (setS8 set5))))) (hk := ?_); refine sA (hq := Quiet.move rfl (getS32 (getS32 (getS8 (getS8 get5))))) (ht := (setS32 (setS32 (setS8 (setS8 set6))))) (hk := ?_); refine sG (g := ((((((((r1.1 == ((⟨#[77, 78, 84, 78, 0, 0, 0, 2]⟩ ++ (bytesOf (List.replicate (Int.toNat 24) 0))) ++ ⟨#[0, 0, 25, 161]⟩)) && (r1.2 == 0)) && (r2.1 == ⟨#[105, 109, 97, 103, 101, 32, 50, 32, 48, 32, 48, 32, 48, 32, 48, 10, 115, 116, 97, 114, 116, 115, 10]⟩)) && (r2.2 == 0)) && (r3.1 == ⟨#[105, 109, 97, 103, 101, 32, 56, 32, 48, 32, 48, 32, 48, 32, 56, 10, 115, 116, 97, 114, 116, 115, 32, 52, 10, 48, 32, 48, 48, 48, 48, 48, 48, 48, 48, 10, 52, 32, 48, 53, 50, 56, 102, 102, 102, 102, 32, 49, 32, 57, 32, 56, 32, 48, 32, 35, 45, 49, 10]⟩)) && (r3.2 == 0)) && (!r10)) && (!r11))) (hg := gA_t rfl) (hq := fun hg => Quiet.loadA_ptr rfl (getS8 get3) rfl rfl) (ht := (setS32 (setS32 (setS8 (setS8 set7))))) (hk := ?_); refine sG (g := ((((((((r1.1 == ((⟨#[77, 78, 84, 78, 0, 0, 0, 2]⟩ ++ (bytesOf (List.replicate (Int.toNat 24) 0))) ++ ⟨#[0, 0, 25, 161]⟩)) && (r1.2 == 0)) && (r2.1 == ⟨#[105, 109, 97, 103, 101, 32, 50, 32, 48, 32, 48, 32, 48, 32, 48, 10, 115, 116, 97, 114, 116, 115, 10]⟩)) && (r2.2 == 0)) && (r3.1 == ⟨#[105, 109, 97, 103, 101, 32, 56, 32, 48, 32, 48, 32, 48, 32, 56, 10, 115, 116, 97, 114, 116, 115, 32, 52, 10, 48, 32, 48, 48, 48, 48, 48, 48, 48, 48, 10, 52, 32, 48, 53, 50, 56, 102, 102, 102, 102, 32, 49, 32, 57, 32, 56, 32, 48, 32, 35, 45, 49, 10]⟩)) && (r3.2 == 0)) && (!r10)) && (!r11))) (hg := gA_t rfl) (hq := fun hg => by ((try simp only [cndT hg]); (try simp only [cndA hg]); exact Quiet.callA rfl rfl (image_May_l (M.to_whn k12 hg)) rfl rfl)) (ht := (setS32 (setS32 (setS8 (setS8 (setS8 set0)))))) (hk := ?_); refine sG (g := ((((((((r1.1 == ((⟨#[77, 78, 84, 78, 0, 0, 0, 2]⟩ ++ (bytesOf (List.replicate (Int.toNat 24) 0))) ++ ⟨#[0, 0, 25, 161]⟩)) && (r1.2 == 0)) && (r2.1 == ⟨#[105, 109, 97, 103, 101, 32, 50, 32, 48, 32, 48, 32, 48, 32, 48, 10, 115, 116, 97, 114, 116, 115, 10]⟩)) && (r2.2 == 0)) && (r3.1 == ⟨#[105, 109, 97, 103, 101, 32, 56, 32, 48, 32, 48, 32, 48, 32, 56, 10, 115, 116, 97, 114, 116, 115, 32, 52, 10, 48, 32, 48, 48, 48, 48, 48, 48, 48, 48, 10, 52, 32, 48, 53, 50, 56, 102, 102, 102, 102, 32, 49, 32, 57, 32, 56, 32, 48, 32, 35, 45, 49, 10]⟩)) && (r3.2 == 0)) && (!r10)) && (!r11))) (hg := gA_t rfl) (hq := fun hg => Quiet.bnot rfl ((getS32 (getS32 (getS8 (getS8 (getS8 get0))))).trans (cndT hg _ _))) (ht := (setS32 (setS32 (setS8 (setS8 (setS8 set1)))))) (hk := ?_); refine sA (hq := Quiet.pickAndB rfl (getS32 (getS32 (getS8 (getS8 get6)))) (getS32 (getS32 (getS8 (getS8 (getS8 get1))))) getC) (ht := (setS32 (setS32 (setS8 (setS8 (setS8 set2)))))) (hk := ?_); refine sA (hq := Quiet.move rfl (getS32 (getS32 (getS8 (getS8 (getS8 get2)))))) (ht := (setS32 (setS32 (setS8 (setS8 (setS8 set3)))))) (hk := ?_); refine sG (g := (((((((((r1.1 == ((⟨#[77, 78, 84, 78, 0, 0, 0, 2]⟩ ++ (bytesOf (List.replicate (Int.toNat 24) 0))) ++ ⟨#[0, 0, 25, 161]⟩)) && (r1.2 == 0)) && (r2.1 == ⟨#[105, 109, 97, 103, 101, 32, 50, 32, 48, 32, 48, 32, 48, 32, 48, 10, 115, 116, 97, 114, 116, 115, 10]⟩)) && (r2.2 == 0)) && (r3.1 == ⟨#[105, 109, 97, 103, 101, 32, 56, 32, 48, 32, 48, 32, 48, 32, 56, 10, 115, 116, 97, 114, 116, 115, 32, 52, 10, 48, 32, 48, 48, 48, 48, 48, 48, 48, 48, 10, 52, 32, 48, 53, 50, 56, 102, 102, 102, 102, 32, 49, 32, 57, 32, 56, 32, 48, 32, 35, 45, 49, 10]⟩)) && (r3.2 == 0)) && (!r10)) && (!r11)) && (!r12))) (hg := gA_t rfl) (hq := fun hg => Quiet.move rfl (getS8 get5)) (ht := (setS32 (setS32 (setS8 (setS8 (setS8 set4)))))) (hk := ?_); refine sG (g := (((((((((r1.1 == ((⟨#[77, 78, 84, 78, 0, 0, 0, 2]⟩ ++ (bytesOf (List.replicate (Int.toNat 24) 0))) ++ ⟨#[0, 0, 25, 161]⟩)) && (r1.2 == 0)) && (r2.1 == ⟨#[105, 109, 97, 103, 101, 32, 50, 32, 48, 32, 48, 32, 48, 32, 48, 10, 115, 116, 97, 114, 116, 115, 10]⟩)) && (r2.2 == 0)) && (r3.1 == ⟨#[105, 109, 97, 103, 101, 32, 56, 32, 48, 32, 48, 32, 48, 32, 56, 10, 115, 116, 97, 114, 116, 115, 32, 52, 10, 48, 32, 48, 48, 48, 48, 48, 48, 48, 48, 10, 52, 32, 48, 53, 50, 56, 102, 102, 102, 102, 32, 49, 32, 57, 32, 56, 32, 48, 32, 35, 45, 49, 10]⟩)) && (r3.2 == 0)) && (!r10)) && (!r11)) && (!r12))) (hg := gA_t rfl) (hq := fun hg => Quiet.bin rfl ((getS32 (getS32 (getS8 (getS8 (getS8 get4))))).trans (cndT hg _ _)) getC rfl) (ht := (setS32 (setS32 (setS8 (setS8 (setS8 set5)))))) (hk := ?_); refine sA (hq := Quiet.pickAndB rfl (getS32 (getS32 (getS8 (getS8 (getS8 get3))))) (getS32 (getS32 (getS8 (getS8 (getS8 get5))))) getC) (ht := (setS32 (setS32 (setS8 (setS8 (setS8 set6)))))) (hk := ?_); refine sA (hq := Quiet.move rfl (getS32 (getS32 (getS8 (getS8 (getS8 get6)))))) (ht := (setS32 (setS32 (setS8 (setS8 (setS8 set7)))))) (hk := ?_); refine sG (g := ((((((((((r1.1 == ((⟨#[77, 78, 84, 78, 0, 0, 0, 2]⟩ ++ (bytesOf (List.replicate (Int.toNat 24) 0))) ++ ⟨#[0, 0, 25, 161]⟩)) && (r1.2 == 0)) && (r2.1 == ⟨#[105, 109, 97, 103, 101, 32, 50, 32, 48, 32, 48, 32, 48, 32, 48, 10, 115, 116, 97, 114, 116, 115, 10]⟩)) && (r2.2 == 0)) && (r3.1 == ⟨#[105, 109, 97, 103, 101, 32, 56, 32, 48, 32, 48, 32, 48, 32, 56, 10, 115, 116, 97, 114, 116, 115, 32, 52, 10, 48, 32, 48, 48, 48, 48, 48, 48, 48, 48, 10, 52, 32, 48, 53, 50, 56, 102, 102, 102, 102, 32, 49, 32, 57, 32, 56, 32, 48, 32, 35, 45, 49, 10]⟩)) && (r3.2 == 0)) && (!r10)) && (!r11)) && (!r12)) && (r5.2 == 5))) (hg := gA_t rfl) (hq := fun hg => Quiet.move rfl (getS8 get7)) (ht := (setS32 (setS32 (setS32 set0)))) (hk := ?_); refine sG (g := ((((((((((r1.1 == ((⟨#[77, 78, 84, 78, 0, 0, 0, 2]⟩ ++ (bytesOf (List.replicate (Int.toNat 24) 0))) ++ ⟨#[0, 0, 25, 161]⟩)) && (r1.2 == 0)) && (r2.1 == ⟨#[105, 109, 97, 103, 101, 32, 50, 32, 48, 32, 48, 32, 48, 32, 48, 10, 115, 116, 97, 114, 116, 115, 10]⟩)) && (r2.2 == 0)) && (r3.1 == ⟨#[105, 109, 97, 103, 101, 32, 56, 32, 48, 32, 48, 32, 48, 32, 56, 10, 115, 116, 97, 114, 116, 115, 32, 52, 10, 48, 32, 48, 48, 48, 48, 48, 48, 48, 48, 10, 52, 32, 48, 53, 50, 56, 102, 102, 102, 102, 32, 49, 32, 57, 32, 56, 32, 48, 32, 35, 45, 49, 10]⟩)) && (r3.2 == 0)) && (!r10)) && (!r11)) && (!r12)) && (r5.2 == 5))) (hg := gA_t rfl) (hq := fun hg => Quiet.bin rfl ((getS32 (getS32 (getS32 get0))).trans (cndT hg _ _)) getC rfl) (ht := (setS32 (setS32 (setS32 set1)))) (hk := ?_); refine sA (hq := Quiet.pickAndB rfl (getS32 (getS32 (getS8 (getS8 (getS8 get7))))) (getS32 (getS32 (getS32 get1))) getC) (ht := (setS32 (setS32 (setS32 set2)))) (hk := ?_); refine sA (hq := Quiet.assign rfl (getS32 (getS32 (getS32 get2)))) (ht := set0) (hk := ?_); exact wEnd rfl)) (hk := ?_)
    obtain rfl := M.to_ok.1 H
    exact Awp.ret ⟨.inr rfl, Fin.cl rfl⟩
end Mu
end
