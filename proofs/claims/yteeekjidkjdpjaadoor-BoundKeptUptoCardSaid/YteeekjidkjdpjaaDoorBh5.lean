/-
  Own texts laid together, part 5: MuLaw17P, MuChkQ, MuFnC2, MuRef14F, MuRef14G, MuBound, MuBound2, MuBound3, MuHintP, MuSame21, MuHead21, MuLaw21H, MuOfP, MuOpen.
  Conditions: as each part says.
-/
import Derived.Test.YteeekjidkjdpjaaDoorBh4
import Derived.Laws.StructEq
import Derived.Test.YteeekjidkjdpjaaDoorRows
import Derived.Carry
import Derived.OpenShut
import Derived.ProofKit
section
/-
  An instruction more at a block's beginning: what is live then. Plain.
  Conditions: none.
-/
namespace Mu
open Go

def putB (bl : Block) (x : Ins) : Block := ⟨bl.name, x :: bl.ins⟩
def putIns (f : Func) (b : Nat) (bl : Block) (x : Ins) : Func := ⟨f.name, f.args, f.regs, f.blocks.set b (putB bl x)⟩
theorem edge_iff {f : Func} {k c : Nat} : Edge f k c ↔ ∃ bl x, f.blocks[k]? = some bl ∧ bl.ins.getLast? = some x ∧ c < f.blocks.length ∧ (c : Int) ∈ rawWays x := by
  unfold Edge nextS
  rw [if_pos (by omega), Int.toNat_natCast]
  constructor
  · rintro ⟨y, hy, rfl⟩
    split at hy
    · cases hy
    · rename_i bl hbl
      unfold nextB at hy
      split at hy
      · cases hy
      · rename_i x hx
        unfold filtB at hy
        obtain ⟨w, hw, hty⟩ := List.mem_filterMap.1 hy
        unfold toBlk at hty
        split at hty
        · rename_i hr
          cases hty
          refine ⟨bl, x, hbl, hx, (show w.toNat < f.blocks.length by omega), ?_⟩
          rw [show ((w.toNat : Nat) : Int) = w by omega]
          exact hw
        · cases hty
  · rintro ⟨bl, x, hbl, hx, hc, hm⟩
    refine ⟨⟨c, hc⟩, ?_, rfl⟩
    rw [hbl]
    show (⟨c, hc⟩ : Blk f) ∈ nextB f bl
    unfold nextB
    rw [hx]
    exact List.mem_filterMap.2 ⟨(c : Int), hm, toBlk_yes hc⟩
section
variable {f : Func} {b : Nat} {bl : Block} {x : Ins} (hb : f.blocks[b]? = some bl)
include hb
theorem insOf_put (c : Nat) : insOf (putIns f b bl x) c = if c = b then x :: bl.ins else insOf f c := by
  unfold insOf putIns
  by_cases hc : c = b
  · subst hc
    rw [if_pos rfl]
    simp only
    rw [List.getElem?_set_self (List.getElem?_eq_some_iff.1 hb).1]
    rfl
  · rw [if_neg hc]
    simp only
    rw [List.getElem?_set_ne (Ne.symm hc)]
theorem edge_put (hne : bl.ins ≠ []) {k c : Nat} : Edge (putIns f b bl x) k c ↔ Edge f k c := by
  rw [edge_iff, edge_iff]
  have hl : (putIns f b bl x).blocks.length = f.blocks.length := by simp [putIns]
  rw [hl]
  have hlast : (putB bl x).ins.getLast? = bl.ins.getLast? := by
    unfold putB
    simp only
    rw [List.getLast?_cons]
    cases h : bl.ins.getLast? with
    | none => exact absurd (List.getLast?_eq_none_iff.1 h) hne
    | some y => rfl
  by_cases hk : k = b
  · subst hk
    have hs : (putIns f k bl x).blocks[k]? = some (putB bl x) := List.getElem?_set_self (List.getElem?_eq_some_iff.1 hb).1
    rw [hs, hb]
    constructor
    · rintro ⟨bl', y, e, h1, h2⟩
      cases e
      exact ⟨bl, y, rfl, by rw [← hlast]; exact h1, h2⟩
    · rintro ⟨bl', y, e, h1, h2⟩
      cases e
      exact ⟨_, y, rfl, by rw [hlast]; exact h1, h2⟩
  · have hs : (putIns f b bl x).blocks[k]? = f.blocks[k]? := List.getElem?_set_ne (Ne.symm hk)
    rw [hs]
theorem rdB_put {q : Int} (hq : (writesB x && x.d == q) = false) {c : Nat} (h : rdB q (insOf f c) = true) : rdB q (insOf (putIns f b bl x) c) = true := by
  rw [insOf_put hb]
  split
  · rename_i hc
    subst hc
    have : insOf f c = bl.ins := by unfold insOf; rw [hb]
    rw [this] at h
    unfold rdB
    rw [hq, h]
    simp
  · exact h
theorem thru_put {q : Int} (hq : (writesB x && x.d == q) = false) {c : Nat} (h : thru q (insOf f c) = true) : thru q (insOf (putIns f b bl x) c) = true := by
  rw [insOf_put hb]
  split
  · rename_i hc
    subst hc
    have : insOf f c = bl.ins := by unfold insOf; rw [hb]
    rw [this] at h
    unfold thru
    rw [hq, h]
    rfl
  · exact h
theorem rdB_back {q : Int} (hq : (readsC x).contains q = false) {c : Nat} (h : rdB q (insOf (putIns f b bl x) c) = true) : rdB q (insOf f c) = true := by
  rw [insOf_put hb] at h
  split at h
  · rename_i hc
    subst hc
    have : insOf f c = bl.ins := by unfold insOf; rw [hb]
    rw [this]
    unfold rdB at h
    rw [hq, Bool.false_or, Bool.and_eq_true] at h
    exact h.2
  · exact h
theorem thru_back {q : Int} {c : Nat} (h : thru q (insOf (putIns f b bl x) c) = true) : thru q (insOf f c) = true := by
  rw [insOf_put hb] at h
  split at h
  · rename_i hc
    subst hc
    have : insOf f c = bl.ins := by unfold insOf; rw [hb]
    rw [this]
    unfold thru at h
    rw [Bool.and_eq_true] at h
    exact h.2
  · exact h
theorem lout_put (hne : bl.ins ≠ []) {q : Int} (hq : (writesB x && x.d == q) = false) {k : Nat} (h : LOut f k q) : LOut (putIns f b bl x) k q := by
  induction h with
  | read he h1 => exact .read ((edge_put hb hne).2 he) (rdB_put hb hq h1)
  | pass he h1 _ ih => exact .pass ((edge_put hb hne).2 he) (thru_put hb hq h1) (ih hq)
theorem lout_back (hne : bl.ins ≠ []) {q : Int} (hq : (readsC x).contains q = false) {k : Nat} (h : LOut (putIns f b bl x) k q) : LOut f k q := by
  induction h with
  | read he h1 => exact .read ((edge_put hb hne).1 he) (rdB_back hb hq h1)
  | pass he h1 _ ih => exact .pass ((edge_put hb hne).1 he) (thru_back hb h1) (ih hq)
theorem lin_put (hne : bl.ins ≠ []) {q : Int} (hq : (writesB x && x.d == q) = false) {k : Nat} (h : LIn f k q) : LIn (putIns f b bl x) k q := by
  rcases h with h | ⟨h1, h2⟩
  · exact .inl (rdB_put hb hq h)
  · exact .inr ⟨thru_put hb hq h1, lout_put hb hne hq h2⟩
theorem lin_back (hne : bl.ins ≠ []) {q : Int} (hq : (readsC x).contains q = false) {k : Nat} (h : LIn (putIns f b bl x) k q) : LIn f k q := by
  rcases h with h | ⟨h1, h2⟩
  · exact .inl (rdB_back hb hq h)
  · exact .inr ⟨thru_back hb h1, lout_back hb hne hq h2⟩
end
theorem outS_subR (f : Func) (b : Nat) : Sub (regsL f) (outS f b) := outS_sub (fun _ hb x hx _ hr => regsL_mem.2 ⟨_, hb, x, hx, hr⟩) b
theorem inS_subR (f : Func) (b i : Nat) : Sub (regsL f) (inS ((insOf f b).drop i) (outS f b)) :=
  (outS_subR f b).inS fun x hx => insOf_in (fun _ hb x hx _ hr => regsL_mem.2 ⟨_, hb, x, hx, hr⟩) b x (List.mem_of_mem_drop hx)
theorem mem_outL {f : Func} {b : Nat} {q : Int} : q ∈ outL f b ↔ LOut f b q := by
  unfold outL
  rw [List.mem_filter, outS_iff]
  exact ⟨fun h => h.2, fun h => ⟨outS_subR f b q (outS_iff.2 h), h⟩⟩
theorem mem_inL {f : Func} {b : Nat} {q : Int} : q ∈ inL f b ↔ LIn f b q := by
  have e : inS (insOf f b) (outS f b) q = true ↔ LIn f b q := by
    rw [inS_eq]
    simp only [Bool.or_eq_true, Bool.and_eq_true]
    unfold LIn
    rw [outS_iff]
  unfold inL
  rw [List.mem_filter, e]
  exact ⟨fun h => h.2, fun h => ⟨inS_subR f b 0 q (by rw [List.drop_zero]; exact e.2 h), h⟩⟩
theorem nodup_le : ∀ {l m : List Int}, l.Nodup → (∀ x ∈ l, x ∈ m) → l.length ≤ m.length
  | [], _, _, _ => Nat.zero_le _
  | x :: l, m, hn, h => by
    rw [List.nodup_cons] at hn
    have hx := h x (by simp)
    have := nodup_le (m := m.erase x) hn.2 fun y hy => (List.mem_erase_of_ne (fun e => hn.1 (by subst e; exact hy))).2 (h y (by simp [hy]))
    rw [List.length_erase_of_mem hx] at this
    have : 0 < m.length := List.length_pos_of_mem hx
    simp only [List.length_cons]
    omega
theorem mxB_ge (n : Int) : ∀ (ls : List (List Int)) (m : Int), m ≤ n → (∀ l ∈ ls, (l.length : Int) ≤ n) → mxB m ls ≤ n
  | [], m, h, _ => h
  | l :: ls, m, h, hl => mxB_ge n ls (mxI m l) (by unfold mxI; split <;> first | exact hl l (by simp) | exact h) fun l' h' => hl l' (by simp [h'])
theorem mxB_le : ∀ (ls : List (List Int)) (m : Int), m ≤ mxB m ls ∧ ∀ l ∈ ls, (l.length : Int) ≤ mxB m ls
  | [], m => ⟨Int.le_refl _, fun l hl => by cases hl⟩
  | l :: ls, m => by
    have h1 : m ≤ mxI m l := by unfold mxI; split <;> omega
    have h2 : (l.length : Int) ≤ mxI m l := by unfold mxI; split <;> omega
    obtain ⟨h3, h4⟩ := mxB_le ls (mxI m l)
    have e : mxB m (l :: ls) = mxB (mxI m l) ls := rfl
    rw [e]
    refine ⟨by omega, fun l' hl' => ?_⟩
    rcases List.mem_cons.1 hl' with rfl | hl'
    · omega
    · exact h4 l' hl'
theorem most_ge (n : Int) : ∀ (bs : List (List (List Int))) (m : Int), m ≤ n → (∀ ls ∈ bs, ∀ l ∈ ls, (l.length : Int) ≤ n) → bs.foldl mxB m ≤ n
  | [], m, h, _ => h
  | ls :: bs, m, h, hl => most_ge n bs (mxB m ls) (mxB_ge n ls m h (hl ls (by simp))) fun l' h' => hl l' (by simp [h'])
theorem most_le : ∀ (bs : List (List (List Int))) (m : Int), m ≤ bs.foldl mxB m ∧ ∀ ls ∈ bs, ∀ l ∈ ls, (l.length : Int) ≤ bs.foldl mxB m
  | [], m => ⟨Int.le_refl _, fun l hl => by cases hl⟩
  | ls :: bs, m => by
    obtain ⟨h1, h2⟩ := mxB_le ls m
    obtain ⟨h3, h4⟩ := most_le bs (mxB m ls)
    have e : (ls :: bs).foldl mxB m = bs.foldl mxB (mxB m ls) := rfl
    rw [e]
    refine ⟨by omega, fun l' hl' l hl => ?_⟩
    rcases List.mem_cons.1 hl' with rfl | hl'
    · have := h2 l hl; omega
    · exact h4 l' hl' l hl
theorem most_put {f : Func} {b : Nat} {bl : Block} {x : Ins} (hb : f.blocks[b]? = some bl) (hne : bl.ins ≠ []) (hw : writesB x = false) : mostF f ≤ mostF (putIns f b bl x) := by
  unfold mostF
  obtain ⟨h0, h1⟩ := most_le (allL (putIns f b bl x)) 0
  refine most_ge _ _ _ h0 fun ls hls l hl => ?_
  unfold allL at hls
  obtain ⟨c, hc, rfl⟩ := List.mem_map.1 hls
  have hc := List.mem_range.1 hc
  unfold blockL at hl
  obtain ⟨i, hi, rfl⟩ := List.mem_map.1 hl
  have hi := List.mem_range.1 hi
  have hbl : (putIns f b bl x).blocks.length = f.blocks.length := by simp [putIns]
  obtain ⟨j, hj, hd⟩ : ∃ j, j < (insOf (putIns f b bl x) c).length + 1 ∧ (insOf (putIns f b bl x) c).drop j = (insOf f c).drop i := by
    rw [insOf_put hb]
    split
    · rename_i hcb
      subst hcb
      have : insOf f c = bl.ins := by unfold insOf; rw [hb]
      rw [this] at hi ⊢
      exact ⟨i + 1, by simp; omega, rfl⟩
    · exact ⟨i, hi, rfl⟩
  have hm : placeL (putIns f b bl x) (regsL (putIns f b bl x)) c j ∈ blockL (putIns f b bl x) c := List.mem_map.2 ⟨j, List.mem_range.2 hj, rfl⟩
  have hm2 := h1 (blockL (putIns f b bl x) c) (by unfold allL; exact List.mem_map.2 ⟨c, List.mem_range.2 (by rw [hbl]; exact hc), rfl⟩) _ hm
  refine Int.le_trans ?_ hm2
  have hle : (placeL f (regsL f) c i).length ≤ (placeL (putIns f b bl x) (regsL (putIns f b bl x)) c j).length := by
    refine nodup_le ((regsL_asc f).filter _).nodup fun q hq => ?_
    unfold placeL at hq ⊢
    rw [List.mem_filter] at hq ⊢
    have hq2 := hq.2
    rw [liveAt_eq f (outS f c) c i (fun r => outS_iff) q] at hq2
    have hq3 : inS ((insOf (putIns f b bl x) c).drop j) (outS (putIns f b bl x) c) q = true := by
      rw [hd]
      exact inS_mono (fun r hr => outS_iff.2 (lout_put hb hne (by rw [hw]; rfl) (outS_iff.1 hr))) q hq2
    refine ⟨inS_subR _ c j q hq3, ?_⟩
    rw [liveAt_eq _ (outS (putIns f b bl x) c) c j (fun r => outS_iff) q]
    exact hq3
  omega
theorem bulkL_set {α : Type} {g : α → Nat} : ∀ {l : List α} {k : Nat} {y z : α}, l[k]? = some y → bulkL g (l.set k z) + g y = bulkL g l + g z
  | [], k, y, z, h => by simp at h
  | a :: l, 0, y, z, h => by
    have h : a = y := by simpa using h
    subst h
    simp only [List.set_cons_zero, bulkL]
    omega
  | a :: l, k + 1, y, z, h => by
    have := bulkL_set (g := g) (l := l) (k := k) (z := z) (by simpa using h)
    simp only [List.set_cons_succ, bulkL]
    omega
theorem bulk_put {f : Func} {b : Nat} {bl : Block} {x : Ins} (hb : f.blocks[b]? = some bl) : tFunc.bulk (putIns f b bl x) = tFunc.bulk f + tIns.bulk x := by
  have h1 := bulkL_set (g := tBlock.bulk) (z := putB bl x) hb
  have h2 : tBlock.bulk (putB bl x) = tBlock.bulk bl + tIns.bulk x := by
    rw [bulk_block, bulk_block]
    simp only [putB, bulkL]
    omega
  rw [bulk_func, bulk_func]
  simp only [putIns]
  omega
theorem ok_put {f : Func} {b : Nat} {bl : Block} {x : Ins} (ho : okFunc f) (hb : f.blocks[b]? = some bl) (hx : okIns x) : okFunc (putIns f b bl x) := ⟨ho.name, ho.args, ho.regs, fun y hy => by
  rcases List.mem_or_eq_of_mem_set hy with h | h
  · exact ho.blocks y h
  · rw [h]
    have hbl := ho.blocks bl (List.mem_of_getElem? hb)
    exact ⟨hbl.name, fun z hz => by
      rcases List.mem_cons.1 hz with h | h
      · rw [h]; exact hx
      · exact hbl.ins z h⟩⟩
end Mu
end
section
/-
  What it means that Check finds nothing: nothing but arguments is live at the beginning; no more registers are live than there are.
  Conditions: none.
-/
namespace Mu
open Go

/-- marks that are below others -/
structure LeB (l m : List Bool) : Prop where
  len : l.length = m.length
  le : ∀ i, l.getD i false = true → m.getD i false = true
theorem LeB.refl (l : List Bool) : LeB l l := ⟨rfl, fun _ h => h⟩
theorem LeB.trans {l m k : List Bool} (h : LeB l m) (h' : LeB m k) : LeB l k := ⟨h.len.trans h'.len, fun i hi => h'.le i (h.le i hi)⟩
theorem LeB.count : ∀ {l m : List Bool}, LeB l m → l.count true ≤ m.count true ∧ (m.count true ≤ l.count true → l = m)
  | [], [], _ => ⟨Nat.le_refl _, fun _ => rfl⟩
  | [], b :: m, h => by have := h.len; simp at this
  | a :: l, [], h => by have := h.len; simp at this
  | a :: l, b :: m, h => by
    have ht : LeB l m := ⟨by have := h.len; simpa using this, fun i hi => by have := h.le (i + 1) (by simpa using hi); simpa using this⟩
    have h0 : a = true → b = true := fun e => by have := h.le 0 (by simpa using e); simpa using this
    obtain ⟨h1, h2⟩ := ht.count
    cases a <;> cases b
    · rw [List.count_cons_of_ne (by simp), List.count_cons_of_ne (by simp)]
      exact ⟨h1, fun e => by rw [h2 e]⟩
    · rw [List.count_cons_of_ne (by simp), List.count_cons_self]
      exact ⟨by omega, fun e => by omega⟩
    · exact absurd (h0 rfl) (by simp)
    · rw [List.count_cons_self, List.count_cons_self]
      exact ⟨by omega, fun e => by rw [h2 (by omega)]⟩
theorem LeB.anti {l m : List Bool} (h : LeB l m) (h' : LeB m l) : l = m := h.count.2 h'.count.1
theorem LeB.set (l : List Bool) (j : Nat) : LeB l (l.set j true) := ⟨by simp, fun i hi => by
  by_cases hij : j = i
  · subst hij
    have hl : j < l.length := by
      rcases Nat.lt_or_ge j l.length with h1 | h1
      · exact h1
      · rw [List.getD_eq_getElem?_getD, List.getElem?_eq_none h1] at hi; simp at hi
    rw [List.getD_eq_getElem?_getD, List.getElem?_set_self hl]
    rfl
  · rw [List.getD_eq_getElem?_getD, List.getElem?_set_ne hij, ← List.getD_eq_getElem?_getD]
    exact hi⟩
theorem putsK_leB (l : List Int) : ∀ out : List Bool, LeB out (l.foldl putK out) := by
  induction l with
  | nil => exact fun out => LeB.refl _
  | cons x l ih => exact fun out => (LeB.set out x.toNat).trans (ih _)
theorem putsK_has {c : Int} : ∀ {l : List Int} (out : List Bool), c ∈ l → c.toNat < out.length → (l.foldl putK out).getD c.toNat false = true
  | [], _, h, _ => by cases h
  | x :: l, out, h, hl => by
    rw [List.foldl_cons]
    by_cases hx : c = x
    · subst hx
      refine (putsK_leB l _).le _ ?_
      unfold putK
      rw [List.getD_eq_getElem?_getD, List.getElem?_set_self hl]
      rfl
    · have hc : c ∈ l := by
        rcases List.mem_cons.1 h with h | h
        · exact absurd h hx
        · exact h
      exact putsK_has _ hc (by simpa [putK] using hl)
theorem stepK_leB (f : Func) (r : Int) (out : List Bool) (i : Nat) : LeB out (stepK f r out i) := by
  unfold stepK
  cases f.blocks[i]? with
  | none => exact LeB.refl _
  | some b =>
    simp only [Option.elim]
    split
    · exact LeB.refl _
    · exact putsK_leB _ _
theorem roundK_leB (f : Func) (r : Int) (out : List Bool) (m k : Nat) : LeB (roundK f r out m) (roundK f r out (m + k)) := by
  induction k with
  | zero => exact LeB.refl _
  | succ k ih => rw [← Nat.add_assoc, roundK_succ]; exact ih.trans (stepK_leB _ _ _ _)
theorem roundK_zero (f : Func) (r : Int) (out : List Bool) : roundK f r out 0 = out := rfl
theorem roundK_fixed {f : Func} {r : Int} {out : List Bool} {n : Nat} (h : roundK f r out n = out) {m : Nat} (hm : m ≤ n) : roundK f r out m = out := by
  have h1 := roundK_leB f r out 0 m
  have h2 := roundK_leB f r out m (n - m)
  rw [roundK_zero, Nat.zero_add] at h1
  rw [show m + (n - m) = n by omega, h] at h2
  exact h2.anti h1
theorem lacksL_fixed (f : Func) (r : Int) (hn : 0 < f.blocks.length) (hr : r ≥ f.args) : roundK f r (lacksL f r) f.blocks.length = lacksL f r := by
  have h0 : (lacksK f r 0).getD 0 false = true := by
    unfold lacksK
    rw [List.getD_eq_getElem?_getD, List.getElem?_set_self (by simpa using hn)]
    simpa using hr
  have key : ∀ m, (∃ j, j < m ∧ lacksK f r (j + 1) = lacksK f r j) ∨ m + 1 ≤ (lacksK f r m).count true := by
    intro m
    induction m with
    | zero =>
      refine .inr ?_
      have hm : true ∈ lacksK f r 0 := by
        rw [List.getD_eq_getElem?_getD] at h0
        cases h1 : (lacksK f r 0)[0]? with
        | none => rw [h1] at h0; simp at h0
        | some q =>
          rw [h1] at h0
          have : q = true := by simpa using h0
          subst this
          exact List.mem_of_getElem? h1
      exact List.one_le_count_iff.2 hm
    | succ m ih =>
      rcases ih with ⟨j, hj, he⟩ | h
      · exact .inl ⟨j, by omega, he⟩
      · by_cases he : lacksK f r (m + 1) = lacksK f r m
        · exact .inl ⟨m, by omega, he⟩
        · have h1 : LeB (lacksK f r m) (lacksK f r (m + 1)) := by
            have := roundK_leB f r (lacksK f r m) 0 f.blocks.length
            rwa [roundK_zero, Nat.zero_add] at this
          refine .inr ?_
          by_cases h2 : (lacksK f r (m + 1)).count true ≤ (lacksK f r m).count true
          · exact absurd (h1.count.2 h2).symm he
          · omega
  rcases key f.blocks.length with ⟨j, hj, he⟩ | h
  · have hst : ∀ k, lacksK f r (j + k) = lacksK f r j := by
      intro k
      induction k with
      | zero => rfl
      | succ k ih =>
        show roundK f r (lacksK f r (j + k)) f.blocks.length = _
        rw [ih]
        exact he
    have h1 : lacksL f r = lacksK f r j := by
      unfold lacksL
      rw [show f.blocks.length = j + (f.blocks.length - j) by omega]
      exact hst _
    rw [h1]
    exact he
  · have := List.count_le_length (a := true) (l := lacksK f r f.blocks.length)
    rw [lacksK_len] at this
    omega
theorem lacksL_first (f : Func) (r : Int) (hn : 0 < f.blocks.length) (hr : r ≥ f.args) : (lacksL f r).getD 0 false = true := by
  have h0 : (lacksK f r 0).getD 0 false = true := by
    unfold lacksK
    rw [List.getD_eq_getElem?_getD, List.getElem?_set_self (by simpa using hn)]
    simpa using hr
  have key : ∀ m, LeB (lacksK f r 0) (lacksK f r m) := by
    intro m
    induction m with
    | zero => exact LeB.refl _
    | succ m ih =>
      refine ih.trans ?_
      have := roundK_leB f r (lacksK f r m) 0 f.blocks.length
      rwa [roundK_zero, Nat.zero_add] at this
  exact (key _).le 0 h0
theorem lacksL_edge {f : Func} {r : Int} (hr : r ≥ f.args) {k c : Nat} (hk : (lacksL f r).getD k false = true) (hw : writesR (insOf f k) r = false) (he : Edge f k c) : (lacksL f r).getD c false = true := by
  obtain ⟨bl, x, hb, hx, hc, hm⟩ := edge_iff.1 he
  have hkn : k < f.blocks.length := (List.getElem?_eq_some_iff.1 hb).1
  have hfix := lacksL_fixed f r (by omega) hr
  have h1 : stepK f r (lacksL f r) k = lacksL f r := by
    have h2 := roundK_fixed hfix (m := k + 1) (by omega)
    rwa [roundK_succ, roundK_fixed hfix (m := k) (by omega)] at h2
  have hins : insOf f k = bl.ins := by unfold insOf; rw [hb]
  unfold stepK at h1
  rw [hb] at h1
  simp only [Option.elim] at h1
  rw [hk, ← hins, hw, if_neg (by simp)] at h1
  rw [← h1]
  have hl : (lacksL f r).length = f.blocks.length := lacksK_len f r _
  have hin : (c : Int) ∈ lastO bl := by
    unfold lastO
    rw [← List.getLast?_eq_getElem?, hx]
    show (c : Int) ∈ nextO x
    unfold rawWays at hm
    unfold nextO
    split at hm
    · rename_i h9
      rw [if_neg (by rw [h9]; decide), if_pos (by rw [h9]; rfl)]
      simp only [List.mem_cons, List.not_mem_nil, or_false] at hm ⊢
      rcases hm with hm | hm
      · exact .inl hm
      · split at hm
        · omega
        · exact .inr hm
    · split at hm
      · rename_i h9 h8
        rw [if_pos (by rw [h8]; rfl)]
        simp only [List.mem_cons, List.not_mem_nil, or_false] at hm ⊢
        rcases hm with hm | hm
        · exact hm
        · omega
      · cases hm
  have := putsK_has (c := (c : Int)) (lacksL f r) hin (by omega)
  simpa using this
theorem thru_writes {r : Int} : ∀ {ds : List Ins}, thru r ds = true → writesR ds r = false
  | [], _ => rfl
  | x :: ds, h => by
    simp only [thru, Bool.and_eq_true, Bool.not_eq_true'] at h
    have := thru_writes h.2
    unfold writesR at this ⊢
    rw [List.any_cons, h.1, this]
    rfl
theorem rdB_first {r : Int} : ∀ {ds : List Ins}, rdB r ds = true → ∃ i x, ds[i]? = some x ∧ r ∈ readsC x ∧ writesR (ds.take i) r = false
  | [], h => by simp [rdB] at h
  | x :: ds, h => by
    simp only [rdB, Bool.or_eq_true, Bool.and_eq_true, List.contains_iff_mem, Bool.not_eq_true'] at h
    rcases h with h | ⟨h1, h2⟩
    · exact ⟨0, x, rfl, h, rfl⟩
    · obtain ⟨i, y, h3, h4, h5⟩ := rdB_first h2
      refine ⟨i + 1, y, by simpa using h3, h4, ?_⟩
      rw [List.take_succ_cons]
      unfold writesR at h5 ⊢
      rw [List.any_cons, h1, h5]
      rfl
/-- of what the answer says that nothing is wrong -/
structure Fine (f : Func) : Prop where
  ne : 0 < f.blocks.length
  reg : ∀ b ∈ f.blocks, ∀ x ∈ b.ins, ∀ r ∈ readsC x, 0 ≤ r ∧ r < f.regs
  pos : 0 ≤ f.regs
  miss : ∀ i b, f.blocks[i]? = some b → missB (lacksA f) i b = false
theorem Fine.bnd {f : Func} (h : Fine f) {r : Int} (hr : r ∈ regsL f) : 0 ≤ r ∧ r < f.regs := by
  obtain ⟨b, hb, x, hx, hr⟩ := regsL_mem.1 hr
  exact h.reg b hb x hx r hr
theorem Fine.read {f : Func} (h : Fine f) {r : Int} {k : Nat} (hk : (lacksL f r).getD k false = true) (hd : rdB r (insOf f k) = true) : False := by
  obtain ⟨i, x, hx, hr, hw⟩ := rdB_first hd
  unfold insOf at hx hw
  cases hb : f.blocks[k]? with
  | none => rw [hb] at hx; simp at hx
  | some b =>
    rw [hb] at hx hw
    simp only at hx hw
    obtain ⟨h0, h1⟩ := h.reg b (List.mem_of_getElem? hb) x (List.mem_of_getElem? hx) r hr
    have hm := h.miss k b hb
    unfold missB at hm
    have hil : i < b.ins.length := (List.getElem?_eq_some_iff.1 hx).1
    have h2 := List.any_eq_false.1 hm i (List.mem_range.2 hil)
    unfold missI at h2
    rw [hx] at h2
    simp only [Option.elim, Bool.not_eq_true] at h2
    have h3 := List.any_eq_false.1 h2 r hr
    unfold missR lackAt lacksA at h3
    rw [List.getElem?_map, List.getElem?_range (by omega)] at h3
    simp only [Option.map_some, Option.bind_some] at h3
    rw [show ((r.toNat : Nat) : Int) = r by omega, ← List.getD_eq_getElem?_getD, hk, hw] at h3
    simp at h3
theorem Fine.path {f : Func} (h : Fine f) {r : Int} (hr : r ≥ f.args) {k : Nat} (hl : LOut f k r) : (lacksL f r).getD k false = true → writesR (insOf f k) r = false → False := by
  induction hl with
  | read he h1 => exact fun hk hw => h.read (lacksL_edge hr hk hw he) h1
  | pass he h1 _ ih => exact fun hk hw => ih hr (lacksL_edge hr hk hw he) (thru_writes h1)
theorem Fine.in0 {f : Func} (h : Fine f) {r : Int} (hr : r ∈ inL f 0) : 0 ≤ r ∧ r < f.args := by
  unfold inL at hr
  rw [List.mem_filter] at hr
  refine ⟨(h.bnd hr.1).1, ?_⟩
  by_cases hra : r < f.args
  · exact hra
  · exfalso
    have h1 := hr.2
    have h0 := lacksL_first f r h.ne (by omega)
    rw [inS_eq] at h1
    simp only [Bool.or_eq_true, Bool.and_eq_true] at h1
    rcases h1 with h1 | ⟨h1, h2⟩
    · exact h.read h0 h1
    · exact h.path (by omega) (outS_iff.1 h2) h0 (thru_writes h1)
theorem Fine.most {f : Func} (h : Fine f) : mostF f ≤ f.regs := by
  unfold mostF
  refine most_ge _ _ _ h.pos fun ls hls l hl => ?_
  unfold allL at hls
  obtain ⟨c, hc, rfl⟩ := List.mem_map.1 hls
  unfold blockL at hl
  obtain ⟨i, hi, rfl⟩ := List.mem_map.1 hl
  unfold placeL
  have hle := nodup_le (l := (regsL f).filter (liveAt f c i)) (m := (List.range f.regs.toNat).map fun (n : Nat) => (n : Int)) ((regsL_asc f).filter _).nodup fun q hq => by
    rw [List.mem_filter] at hq
    have := h.bnd hq.1
    exact List.mem_map.2 ⟨q.toNat, List.mem_range.2 (by omega), by omega⟩
  rw [List.length_map, List.length_range] at hle
  have := h.pos
  omega
/-- Check finds nothing -/
theorem chk_ok {p : Prog} (h : checkO p = none) : p.funcs.length ≤ 64 ∧ ∀ n f, p.funcs[n]? = some f → funcB p n f = true ∧ (∀ i b, f.blocks[i]? = some b → blockB p f i b = true) ∧ (∀ i b, f.blocks[i]? = some b → missB (lacksA f) i b = false) := by
  unfold checkO at h
  split at h
  · cases h
  · rename_i h0
    split at h
    · cases h
    · simp only [Option.or_eq_none_iff] at h
      obtain ⟨⟨h1, h2⟩, h3⟩ := h
      refine ⟨?_, fun n f hf => ?_⟩
      · unfold bad0 at h0
        simp only [Bool.or_eq_true, decide_eq_true_eq, not_or] at h0
        omega
      · have hn : n < p.funcs.length := (List.getElem?_eq_some_iff.1 hf).1
        have g1 := firstN_none h1 n hn
        have g2 := firstN_none h2 n hn
        have g3 := firstN_none h3 n hn
        unfold chk1 at g1
        unfold chk2 at g2
        unfold chk3 at g3
        rw [hf] at g1 g2 g3
        simp only [Option.bind_some] at g1 g2 g3
        refine ⟨?_, fun i b hb => ?_, fun i b hb => ?_⟩
        · cases e : funcB p n f
          · rw [e] at g1; cases g1
          · rfl
        · have := firstN_none g2 i (List.getElem?_eq_some_iff.1 hb).1
          unfold chk2b at this
          rw [hb] at this
          simp only [Option.bind_some] at this
          cases e : blockB p f i b
          · rw [e] at this; cases this
          · rfl
        · have := firstN_none g3 i (List.getElem?_eq_some_iff.1 hb).1
          unfold chk3b at this
          rw [hb] at this
          simp only [Option.bind_some] at this
          cases e : missB (lacksA f) i b
          · rfl
          · rw [e] at this; cases this
/-- what two of the three rounds give: registers are in bounds -/
theorem regs_ok {p : Prog} {n : Nat} {f : Func} (h1 : funcB p n f = true) (h2 : ∀ i b, f.blocks[i]? = some b → blockB p f i b = true) : 0 ≤ f.regs ∧ f.regs ≤ 4096 ∧ (∀ b ∈ f.blocks, ∀ x ∈ b.ins, ∀ r ∈ readsC x, 0 ≤ r ∧ r < f.regs) := by
  unfold funcB at h1
  simp only [Bool.and_eq_true, Bool.not_eq_true'] at h1
  have hfit := h1.2.2
  have h3 := hfit
  unfold fitF at h3
  simp only [Bool.and_eq_true, beq_iff_eq, decide_eq_true_eq] at h3
  have h4 := (foldBlk_le f.blocks 0).1
  have h5 : 0 ≤ regsI f := h4
  refine ⟨by rw [h3.1]; split <;> omega, h3.2, fun b hb x hx r hr => ?_⟩
  obtain ⟨i, hi⟩ := List.mem_iff_getElem?.1 hb
  have h6 := h2 i b hi
  unfold blockB at h6
  simp only [Bool.and_eq_true, Bool.not_eq_true'] at h6
  obtain ⟨k, hk⟩ := List.mem_iff_getElem?.1 hx
  have hkl : k < b.ins.length := (List.getElem?_eq_some_iff.1 hk).1
  have h7 := List.any_eq_false.1 h6.2.2 k (List.mem_range.2 hkl)
  unfold badAt badI at h7
  rw [hk] at h7
  simp only [Option.elim, Bool.or_eq_true, not_or, Bool.not_eq_true, Bool.not_eq_false'] at h7
  exact ⟨readsC_pos h7.2 r hr, (reg_lt hfit hb hx (by unfold regsX; exact List.mem_append_left _ hr)).1⟩
theorem fine_of {p : Prog} (h : checkO p = none) {n : Nat} {f : Func} (hf : p.funcs[n]? = some f) : Fine f := by
  obtain ⟨h1, h2, h3⟩ := (chk_ok h).2 n f hf
  obtain ⟨h4, _, h5⟩ := regs_ok h1 h2
  refine ⟨?_, h5, h4, h3⟩
  unfold funcB at h1
  simp only [Bool.and_eq_true, Bool.not_eq_true'] at h1
  exact (ended_of h1.2.1 h2).ne
end Mu
end
section
/-
  A contract of a function with two results: an aggregate that it names, and a value.
  Conditions: none; generic.
-/
namespace Mu
open Go Go.RowKit Go.Proofs

section
variable {P : Program}
def RetsC2 (t u : Tmp) (m : Nat) (r q : AV) : Exit → St → Prop := fun e s => (e = .normal ∨ e = .ret) ∧ ∃ i cells, evA s.t (.tmp t) = .ptr i 0 ∧ s.h[i]? = some (.box cells) ∧ cells.length = m ∧ Fin s.h (.tup [.agg cells, evA s.t (.tmp u)]) (.tup [r, q])
theorem Fn.of_awpC2 {f : FuncId} {fn : Go.Func} {c : Code} {args : List AV} {r q : AV} {t u : Tmp} {ty : TypeId} {n m : Nat} (hf : P.funcs[f]? = some fn) (hb : fn.body = some c) (hE : Enters P f = true) (hres : fn.results = #[.cell t ty, .tmp u]) (ha : aggT P ty = some (true, m)) (hn : fn.ntmps = n)
    (h : ∀ C : Ctx, C.std → Awp P C c (RetsC2 t u m r q) ⟨args ++ List.replicate (n - args.length) (.lit undef), []⟩) : Fn P f args (.tup [r, q]) := by
  refine ⟨hE, fun w S vs hS hr => calls_of_wp hf hb ?_⟩
  rw [hn]
  refine wp_mono ((h ⟨w, S, fun k => k < w.heap.size, none⟩ (fun _ h => h)).wp rfl (start_rel hS hr)) ?_
  rintro e a' w' ⟨s, ⟨he, i, cells, hev, hi, hm, hfin⟩, hd, S1, ψ, H, hl⟩
  rw [hfin.1] at hd
  have hv := ev_rel hl (.tmp t)
  rw [hev] at hv
  unfold AV.rel at hv
  obtain ⟨g, h1, h2⟩ := hv.2 (by rw [hi]; rfl)
  obtain ⟨g', cs, e', h3, _, _, h4, h5⟩ := H.blk i _ hi
  rw [h1] at h3
  cases h3
  have hc : ∀ j v, cs[j]? = some v → w'.cell? ⟨g, 0 + j, none⟩ = some v := fun j v hv => by simp [World.cell?, h4, hv]
  have hload := run_load_agg (P := P) (ty := ty) (b := g) (off := 0) ha (by rw [relL_len h5]; exact hm) hc
  have hres' : (results fn a'.tmps).run P w' = .ok (.tuple #[.agg cs.toArray, a'.eval (.tmp u)]) w' := by
    have e1 : (a'.tmps[t]?).getD undef = .pointer (some ⟨g, 0, none⟩) := by rw [← Array.getD_eq_getD_getElem?]; exact h2
    have e2 : (a'.tmps[u]?).getD undef = a'.eval (.tmp u) := by rw [← Array.getD_eq_getD_getElem?]; rfl
    unfold Instr.loadAt Instr.sureAddr at hload
    simp only [Sem.run_bind, Sem.run_pure, Result.andThen_ok] at hload
    simp [results, hres, e1, e2, asAddr, hload]
  have hrl : AV.rel w' S1 s.h ψ (.tup [.agg cells, evA s.t (.tmp u)]) (.tuple #[.agg cs.toArray, a'.eval (.tmp u)]) := by
    unfold AV.rel
    refine ⟨[.agg cs.toArray, a'.eval (.tmp u)], rfl, ?_⟩
    unfold AV.relL
    refine ⟨_, _, rfl, (by unfold AV.rel; exact ⟨cs, rfl, h5⟩), ?_⟩
    unfold AV.relL
    refine ⟨_, _, rfl, ev_rel hl (.tmp u), ?_⟩
    unfold AV.relL
    rfl
  have hg : Good w S [] ψ0 (.tup [r, q]) (.tuple #[.agg cs.toArray, a'.eval (.tmp u)]) w' := by
    first
      | exact good_final H hfin hrl
      | exact good_final (a' := a') H hfin hrl
  rcases he with rfl | rfl
  · exact ⟨hd, _, hres', _, rfl, hg⟩
  · exact ⟨hd, _, hres', _, rfl, hg⟩
end
end Mu
end
section
/-
  muntinref14: Check, walked.
  Conditions: data of at most 2^21 everywhere.
-/
namespace Mu
open Go Go.RowKit Go.Proofs
instance : AG Tryd.prog 41 true 2 := ⟨by kernel_rfl⟩
instance : SZ Tryd.prog 41 2 := ⟨by kernel_rfl⟩
instance : ZC Tryd.prog 41 [.int .i64 0, .int .i64 0] := ⟨by kernel_rfl⟩
theorem plPos : places? Tryd.prog 41 = some [(0, 1), (1, 1)] := by kernel_rfl
def posA : Option (Int × Int) → AV
  | none => .agg [.lit (.int .i64 0), .lit (.int .i64 0)]
  | some (l, c) => .agg [.lit (.int .i64 l), .lit (.int .i64 c)]
def errA : Option (Int × Int) → AV
  | none => .lit (.int .i64 0)
  | some _ => .lit (.int .i64 140)
structure smallP (p : Prog) : Prop where
  funcs : p.funcs.length ≤ 2097152
  threads : p.threads.length ≤ 2097152
  ok : ∀ f ∈ p.funcs, okFunc f
  small : ∀ f ∈ p.funcs, smallF f

theorem checkO_1 {p : Prog} (e1 : bad0 p = false) (e2 : p.threads.any (badT p) = false) {v : Int × Int} (h : firstN p.funcs.length (chk1 p) = some v) : checkO p = some v := by unfold checkO; rw [e1, e2, h]; rfl
theorem checkO_2 {p : Prog} (e1 : bad0 p = false) (e2 : p.threads.any (badT p) = false) (h1 : firstN p.funcs.length (chk1 p) = none) {v : Int × Int} (h : firstN p.funcs.length (chk2 p) = some v) : checkO p = some v := by unfold checkO; rw [e1, e2, h1, h]; rfl
theorem checkO_3 {p : Prog} (e1 : bad0 p = false) (e2 : p.threads.any (badT p) = false) (h1 : firstN p.funcs.length (chk1 p) = none) (h2 : firstN p.funcs.length (chk2 p) = none) : checkO p = firstN p.funcs.length (chk3 p) := by unfold checkO; rw [e1, e2, h1, h2]; rfl
theorem firstN_more {α : Type} {g : Nat → Option α} {k : Nat} (h : firstN k g = none) (h' : g k = none) : firstN (k + 1) g = none := by rw [firstN_succ h, h']
theorem chk1_eq {p : Prog} {n : Nat} {f : Func} (hf : p.funcs[n]? = some f) : chk1 p n = if funcB p n f then none else some ((n : Int), (-1 : Int)) := by unfold chk1; rw [hf]; rfl
theorem chk2_eq {p : Prog} {n : Nat} {f : Func} (hf : p.funcs[n]? = some f) : chk2 p n = firstN f.blocks.length (chk2b p n f) := by unfold chk2; rw [hf]; rfl
theorem chk3_eq {p : Prog} {n : Nat} {f : Func} (hf : p.funcs[n]? = some f) : chk3 p n = firstN f.blocks.length (chk3b n f) := by unfold chk3; rw [hf]; rfl
theorem chk2b_eq {p : Prog} {n i : Nat} {f : Func} {b : Block} (hb : f.blocks[i]? = some b) : chk2b p n f i = if blockB p f i b then none else some ((n : Int), (i : Int)) := by unfold chk2b; rw [hb]; rfl
theorem chk3b_eq {n i : Nat} {f : Func} {b : Block} (hb : f.blocks[i]? = some b) : chk3b n f i = if missB (lacksA f) i b then some ((n : Int), (i : Int)) else none := by unfold chk3b; rw [hb]; rfl
theorem chk12 {p : Prog} (h1 : firstN p.funcs.length (chk1 p) = none) (h2 : firstN p.funcs.length (chk2 p) = none) {n : Nat} {f : Func} (hf : p.funcs[n]? = some f) : funcB p n f = true ∧ ∀ i b, f.blocks[i]? = some b → blockB p f i b = true := by
  have hn : n < p.funcs.length := (List.getElem?_eq_some_iff.1 hf).1
  have g1 := firstN_none h1 n hn
  have g2 := firstN_none h2 n hn
  rw [chk1_eq hf] at g1
  rw [chk2_eq hf] at g2
  refine ⟨?_, fun i b hb => ?_⟩
  · cases e : funcB p n f
    · rw [e] at g1; cases g1
    · rfl
  · have := firstN_none g2 i (List.getElem?_eq_some_iff.1 hb).1
    rw [chk2b_eq hb] at this
    cases e : blockB p f i b
    · rw [e] at this; cases this
    · rfl
theorem lacksA_get {f : Func} {r : Int} (h0 : 0 ≤ r) (h1 : r < f.regs) : (lacksA f)[r.toNat]? = some (lacksL f r) := by
  unfold lacksA
  rw [List.getElem?_map, List.getElem?_range (by omega)]
  simp only [Option.map_some]
  rw [show ((r.toNat : Nat) : Int) = r by omega]
def lacksN (f : Func) (n : Nat) : List (List Bool) := (List.range n).map fun (r : Nat) => lacksL f (r : Int)
theorem lacksN_succ (f : Func) (n : Nat) : lacksN f (n + 1) = lacksN f n ++ [lacksL f (n : Int)] := by unfold lacksN; rw [List.range_succ, List.map_append]; rfl
theorem lacksN_len (f : Func) (n : Nat) : (lacksN f n).length = n := by simp [lacksN]

set_option maxRecDepth 100000 in
set_option maxHeartbeats 8000000 in
theorem check14_fn (p : Prog) (hp : smallP p) : Fn Tryd.prog 13 [.agg (encProg p)] (.tup [posA (checkO p), errA (checkO p)]) := by
  have hpl := hp.funcs
  have htl := hp.threads
  have hagg : aggT Tryd.prog 41 = some (true, 2) := by kernel_rfl
  refine Fn.of_awpC2 Tryd.func13 rfl (by kernel_rfl) rfl hagg Tryd.ntmps13 fun C hC => ?_
  simp only [List.length_cons, List.length_nil, Nat.reduceAdd, Nat.reduceSub, List.replicate_succ, List.replicate_zero, List.cons_append, List.nil_append]
  refine Awp.seq fun K1 h1 => ?_
  (refine Awp.region ?_; (repeat (first | refine sQ (hq := Quiet.pickOr rfl rfl rfl rfl) (hk := ?_) | refine sQ (hq := Quiet.pickAnd rfl rfl rfl rfl) (hk := ?_) | refine sQ (hk := ?_) | refine sSkip (hk := ?_) | refine sG (hk := ?_) | refine sOwn (hk := ?_))); refine aSeq_nil ?_)
  refine h1 _ ?_
  refine nT (hk := ?_)
  refine Awp.seq fun K2 h2 => ?_
  refine Awp.seq fun K3 h3 => ?_
  (refine Awp.region ?_; (repeat (first | refine sQ (hq := Quiet.pickOr rfl rfl rfl rfl) (hk := ?_) | refine sQ (hq := Quiet.pickAnd rfl rfl rfl rfl) (hk := ?_) | refine sQ (hk := ?_) | refine sSkip (hk := ?_) | refine sG (hk := ?_) | refine sOwn (hk := ?_))); refine aSeq_nil ?_)
  refine h3 _ ?_
  refine nT (hk := ?_)
  refine Awp.cond rfl (fun hb4 => ?_) (fun hb4 => ?_)
  · have e1 : bad0 p = true := hb4
    have e : checkO p = some (-1, -1) := by unfold checkO; rw [if_pos e1]
    refine Awp.seq fun K5 h5 => ?_
    (refine Awp.region ?_; (repeat (first | refine sQ (hq := Quiet.bld (rs := [.lit (.int .i64 (-1)), .lit (.int .i64 (-1))]) rfl plPos rfl rfl) (hk := ?_) | refine sQ (hq := Quiet.pickOr rfl rfl rfl rfl) (hk := ?_) | refine sQ (hq := Quiet.pickAnd rfl rfl rfl rfl) (hk := ?_) | refine sQ (hk := ?_) | refine sSkip (hk := ?_) | refine sG (hg := by first | rfl | exact gA_c rfl rfl) (hq := by (intro hg; (try simp only [] at hg); (try simp only [hg, cond_true, Bool.true_and, beq_self_eq_true]); exact Quiet.bld (rs := [.lit (.int .i64 (-1)), .lit (.int .i64 (-1))]) rfl plPos rfl rfl)) (hk := ?_) | refine sG (hk := ?_) | refine sOwn (hk := ?_))); refine aSeq_nil ?_)
    refine h5 _ ?_
    refine nT (hk := ?_)
    refine Awp.ret ?_
    rw [e]
    exact ⟨.inr rfl, 1, _, rfl, rfl, rfl, Fin.cl rfl⟩
  · have e1 : bad0 p = false := hb4
    refine Awp.skip ?_
    refine h2 _ ?_
    refine nT (hk := ?_)
    refine Awp.seq fun K6 h6 => ?_
    refine Awp.seq fun K7 h7 => ?_
    (refine Awp.region ?_; (repeat (first | refine sQ (hq := Quiet.pickOr rfl rfl rfl rfl) (hk := ?_) | refine sQ (hq := Quiet.pickAnd rfl rfl rfl rfl) (hk := ?_) | refine sQ (hk := ?_) | refine sSkip (hk := ?_) | refine sG (hk := ?_) | refine sOwn (hk := ?_))); refine aSeq_nil ?_)
    refine h7 _ ?_
    refine nT (hk := ?_)
    refine Awp.block ?_
    refine Awp.loopF (fun i : Nat => ⟨[.any, .ptr 0 0, .ptr 1 0, .lit (.int .i64 0), .lit (.int .i64 (i : Int)), .any, .any, .any, .any, .any, .any, .any, .any, .any, .any, .any, .any, .any, .any, .any, .any, .any, .any, .any, .any, .any, .any, .any, .any, .any, .any, .any, .any, .any, .any, .any, .any, .any, .any, .any, .any, .any, .any, .any, .any, .any, .any, .any, .any, .any, .any, .any, .any, .any, .any, .any, .any, .any, .any, .any, .any, .any, .any, .any, .any, .any, .any, .any, .any, .any, .any, .any, .any, .any, .any, .any, .any, .any, .any, .any, .any, .any, .any, .any, .any, .any, .any, .any, .any, .any, .any, .any, .any, .any, .any, .any, .any, .any, .any, .any, .any, .any, .any, .any, .any, .any, .any, .any, .any, .any, .any, .any, .any, .any, .any, .any, .any, .any, .any, .any, .any, .any, .any, .any, .any, .any, .any, .any, .any, .any, .any, .any, .any, .any, .any, .any, .any, .any, .any, .any, .any, .any, .any, .any, .any, .any, .any, .any, .any, .any, .any, .any, .any, .any, .any, .any, .any, .any, .any, .any], [.box (encProg p), .box [.lit (.int .i64 0), .lit (.int .i64 0)]]⟩) (fun i => i ≤ p.threads.length ∧ (p.threads.take i).any (badT p) = false) (fun i => p.threads.length - i) 0 ⟨Nat.zero_le _, by simp⟩ (le_T) ?_
    rintro i ⟨hi, hno⟩
    refine Awp.seq fun K9 h9 => ?_
    refine Awp.seq fun K10 h10 => ?_
    (refine Awp.region ?_; (repeat (first | refine sQ (hq := Quiet.pickOr rfl rfl rfl rfl) (hk := ?_) | refine sQ (hq := Quiet.pickAnd rfl rfl rfl rfl) (hk := ?_) | refine sQ (hk := ?_) | refine sSkip (hk := ?_) | refine sG (hk := ?_) | refine sOwn (hk := ?_))); refine aSeq_nil ?_)
    refine h10 _ ?_
    refine nT (hk := ?_)
    refine Awp.cond rfl (fun hb11 => ?_) (fun hb11 => ?_)
    · have hlt : i < p.threads.length := by simpa using hb11
      obtain ⟨t, ht⟩ : ∃ t, p.threads[i]? = some t := ⟨_, List.getElem?_eq_getElem hlt⟩
      refine Awp.skip ?_
      refine h9 _ ?_
      refine nT (hk := ?_)
      refine Awp.seq fun K12 h12 => ?_
      refine Awp.block ?_
      refine Awp.seq fun K13 h13 => ?_
      (refine Awp.region ?_; (repeat (first | refine sQ (hq := Quiet.pickOr rfl rfl rfl rfl) (hk := ?_) | refine sQ (hq := Quiet.pickAnd rfl rfl rfl rfl) (hk := ?_) | refine sQ (hk := ?_) | refine sSkip (hk := ?_) | refine sG (hk := ?_) | refine sOwn (hk := ?_))); refine aSeq_nil ?_)
      refine h13 _ ?_
      refine nT (hk := ?_)
      refine Awp.via ⟨[.any, .ptr 0 0, .ptr 1 0, .lit (.int .i64 0), .lit (.int .i64 (i : Int)), .lit (.int .i64 t), .any, .any, .any, .any, .any, .any, .any, .any, .any, .any, .any, .any, .any, .any, .any, .any, .any, .any, .any, .any, .any, .any, .any, .any, .any, .any, .any, .any, .any, .any, .any, .any, .any, .any, .any, .any, .any, .any, .any, .any, .any, .any, .any, .any, .any, .any, .any, .any, .any, .any, .any, .any, .any, .any, .any, .any, .any, .any, .any, .any, .any, .any, .any, .any, .any, .any, .any, .any, .any, .any, .any, .any, .any, .any, .any, .any, .any, .any, .any, .any, .any, .any, .any, .any, .any, .any, .any, .any, .any, .any, .any, .any, .any, .any, .any, .any, .any, .any, .any, .any, .any, .any, .any, .any, .any, .any, .any, .any, .any, .any, .any, .any, .any, .any, .any, .any, .any, .any, .any, .any, .any, .any, .any, .any, .any, .any, .any, .any, .any, .any, .any, .any, .any, .any, .any, .any, .any, .any, .any, .any, .any, .any, .any, .any, .any, .any, .any, .any, .any, .any, .any, .any, .any, .any], [.box (encProg p), .box [.lit (.int .i64 0), .lit (.int .i64 0)]]⟩ (le_T) ?_
      refine Awp.seqc ⟨[.any, .ptr 0 0, .ptr 1 0, .lit (.int .i64 0), .lit (.int .i64 (i : Int)), .any, .any, .any, .any, .any, .any, .any, .any, .any, .any, .any, .any, .any, .any, .any, .any, .any, .any, .any, .any, .any, .any, .any, .any, .any, .any, .any, .any, .any, .any, .any, .any, .any, .any, .any, .any, .any, .any, .any, .any, .any, .any, .any, .any, .any, .any, .any, .any, .any, .any, .any, .any, .any, .any, .any, .any, .any, .any, .any, .any, .any, .any, .any, .any, .any, .any, .any, .any, .any, .any, .any, .lit (.bool (badT p t)), .any, .any, .any, .any, .any, .any, .any, .any, .any, .any, .any, .any, .any, .any, .any, .any, .any, .any, .any, .any, .any, .any, .any, .any, .any, .any, .any, .any, .any, .any, .any, .any, .any, .any, .any, .any, .any, .any, .any, .any, .any, .any, .any, .any, .any, .any, .any, .any, .any, .any, .any, .any, .any, .any, .any, .any, .any, .any, .any, .any, .any, .any, .any, .any, .any, .any, .any, .any, .any, .any, .any, .any, .any, .any, .any, .any, .any, .any, .any, .any, .any, .any, .any], [.box (encProg p), .box [.lit (.int .i64 0), .lit (.int .i64 0)]]⟩ ?_ ?_
      · rcases q1 : decide (t < 0) with _ | _
        · rcases q2 : decide (t ≥ (p.funcs.length : Int)) with _ | _
          · have ht0 : 0 ≤ t := by simpa using q1
            have htl' : t < p.funcs.length := by simpa using q2
            obtain ⟨g, hg⟩ : ∃ g, p.funcs[t.toNat]? = some g := ⟨_, List.getElem?_eq_getElem (by omega)⟩
            have eb : badT p t = (g.args != 0) := by unfold badT argsN; rw [q1, q2, hg]; rfl
            rw [eb]
            (refine Awp.region ?_; (repeat (first | refine sQ (hq := Quiet.pickOr rfl rfl rfl rfl) (hk := ?_) | refine sQ (hq := Quiet.pickAnd rfl rfl rfl rfl) (hk := ?_) | refine sQ (hk := ?_) | refine sSkip (hk := ?_) | refine sG (hk := ?_) | refine sOwn (hk := ?_))); refine aSeq_nil ?_)
            refine athen_n ?_
            exact le_T
          · have eb : badT p t = true := by unfold badT; rw [q1, q2]; rfl
            rw [eb]
            (refine Awp.region ?_; (repeat (first | refine sQ (hq := Quiet.pickOr rfl rfl rfl rfl) (hk := ?_) | refine sQ (hq := Quiet.pickAnd rfl rfl rfl rfl) (hk := ?_) | refine sQ (hk := ?_) | refine sSkip (hk := ?_) | refine sG (hk := ?_) | refine sOwn (hk := ?_))); refine aSeq_nil ?_)
            refine athen_n ?_
            exact le_T
        · have eb : badT p t = true := by unfold badT; rw [q1]; rfl
          rw [eb]
          (refine Awp.region ?_; (repeat (first | refine sQ (hq := Quiet.pickOr rfl rfl rfl rfl) (hk := ?_) | refine sQ (hq := Quiet.pickAnd rfl rfl rfl rfl) (hk := ?_) | refine sQ (hk := ?_) | refine sSkip (hk := ?_) | refine sG (hk := ?_) | refine sOwn (hk := ?_))); refine aSeq_nil ?_)
          refine athen_n ?_
          exact le_T
      · refine Awp.cond rfl (fun hb15 => ?_) (fun hb15 => ?_)
        · have e2 : p.threads.any (badT p) = true := List.any_eq_true.2 ⟨t, List.mem_of_getElem? ht, hb15⟩
          have e : checkO p = some (-1, -1) := by unfold checkO; rw [e1, e2]; rfl
          refine Awp.seq fun K16 h16 => ?_
          (refine Awp.region ?_; (repeat (first | refine sQ (hq := Quiet.bld (rs := [.lit (.int .i64 (-1)), .lit (.int .i64 (-1))]) rfl plPos rfl rfl) (hk := ?_) | refine sQ (hq := Quiet.pickOr rfl rfl rfl rfl) (hk := ?_) | refine sQ (hq := Quiet.pickAnd rfl rfl rfl rfl) (hk := ?_) | refine sQ (hk := ?_) | refine sSkip (hk := ?_) | refine sG (hg := by first | rfl | exact gA_c rfl rfl) (hq := by (intro hg; (try simp only [] at hg); (try simp only [hg, cond_true, Bool.true_and, beq_self_eq_true]); exact Quiet.bld (rs := [.lit (.int .i64 (-1)), .lit (.int .i64 (-1))]) rfl plPos rfl rfl)) (hk := ?_) | refine sG (hk := ?_) | refine sOwn (hk := ?_))); refine aSeq_nil ?_)
          refine h16 _ ?_
          refine nT (hk := ?_)
          refine Awp.ret ?_
          rw [e]
          exact ⟨.inr rfl, 1, _, rfl, rfl, rfl, Fin.cl rfl⟩
        · refine Awp.skip ?_
          refine h12 _ ?_
          refine nT (hk := ?_)
          (refine Awp.region ?_; (repeat (first | refine sQ (hq := Quiet.pickOr rfl rfl rfl rfl) (hk := ?_) | refine sQ (hq := Quiet.pickAnd rfl rfl rfl rfl) (hk := ?_) | refine sQ (hk := ?_) | refine sSkip (hk := ?_) | refine sG (hk := ?_) | refine sOwn (hk := ?_))); refine aSeq_nil ?_)
          refine athen_n ⟨i + 1, ⟨by omega, any_takeG ht hno hb15⟩, by omega, ?_⟩
          exact le_T
    · have e2 : p.threads.any (badT p) = false := any_all hno (by simpa using hb11)
      refine Awp.exit ?_
      refine h6 _ ?_
      refine nT (hk := ?_)
      refine Awp.seq fun K17 h17 => ?_
      refine Awp.seq fun K18 h18 => ?_
      (refine Awp.region ?_; (repeat (first | refine sQ (hq := Quiet.pickOr rfl rfl rfl rfl) (hk := ?_) | refine sQ (hq := Quiet.pickAnd rfl rfl rfl rfl) (hk := ?_) | refine sQ (hk := ?_) | refine sSkip (hk := ?_) | refine sG (hk := ?_) | refine sOwn (hk := ?_))); refine aSeq_nil ?_)
      refine h18 _ ?_
      refine nT (hk := ?_)
      refine Awp.block ?_
      refine Awp.loopF (fun n : Nat => ⟨[.any, .ptr 0 0, .ptr 1 0, .lit (.int .i64 0), .any, .any, .lit (.int .i64 (n : Int)), .any, .any, .any, .any, .any, .any, .any, .any, .any, .any, .any, .any, .any, .any, .any, .any, .any, .any, .any, .any, .any, .any, .any, .any, .any, .any, .any, .any, .any, .any, .any, .any, .any, .any, .any, .any, .any, .any, .any, .any, .any, .any, .any, .any, .any, .any, .any, .any, .any, .any, .any, .any, .any, .any, .any, .any, .any, .any, .any, .any, .any, .any, .any, .any, .any, .any, .any, .any, .any, .any, .any, .any, .any, .any, .any, .any, .any, .any, .any, .any, .any, .any, .any, .any, .any, .any, .any, .any, .any, .any, .any, .any, .any, .any, .any, .any, .any, .any, .any, .any, .any, .any, .any, .any, .any, .any, .any, .any, .any, .any, .any, .any, .any, .any, .any, .any, .any, .any, .any, .any, .any, .any, .any, .any, .any, .any, .any, .any, .any, .any, .any, .any, .any, .any, .any, .any, .any, .any, .any, .any, .any, .any, .any, .any, .any, .any, .any, .any, .any, .any, .any, .any, .any], [.box (encProg p), .box [.lit (.int .i64 0), .lit (.int .i64 0)]]⟩) (fun n => n ≤ p.funcs.length ∧ firstN n (chk1 p) = none) (fun n => p.funcs.length - n) 0 ⟨Nat.zero_le _, rfl⟩ (le_T) ?_
      rintro n ⟨hn, hno1⟩
      refine Awp.seq fun K20 h20 => ?_
      refine Awp.seq fun K21 h21 => ?_
      (refine Awp.region ?_; (repeat (first | refine sQ (hq := Quiet.pickOr rfl rfl rfl rfl) (hk := ?_) | refine sQ (hq := Quiet.pickAnd rfl rfl rfl rfl) (hk := ?_) | refine sQ (hk := ?_) | refine sSkip (hk := ?_) | refine sG (hk := ?_) | refine sOwn (hk := ?_))); refine aSeq_nil ?_)
      refine h21 _ ?_
      refine nT (hk := ?_)
      refine Awp.cond rfl (fun hb22 => ?_) (fun hb22 => ?_)
      · have hlt : n < p.funcs.length := by simpa using hb22
        obtain ⟨f, hf⟩ : ∃ f, p.funcs[n]? = some f := ⟨_, List.getElem?_eq_getElem hlt⟩
        have hfn := function14_fn p n f hpl hp.ok hp.small hf
        have hc1 := chk1_eq hf
        refine Awp.skip ?_
        refine h20 _ ?_
        refine nT (hk := ?_)
        refine Awp.seq fun K23 h23 => ?_
        refine Awp.block ?_
        refine Awp.seq fun K24 h24 => ?_
        (refine Awp.region ?_; (repeat (first | refine sQ (hq := Quiet.call rfl hfn rfl rfl rfl) (hk := ?_) | refine sQ (hq := Quiet.pickOr rfl rfl rfl rfl) (hk := ?_) | refine sQ (hq := Quiet.pickAnd rfl rfl rfl rfl) (hk := ?_) | refine sQ (hk := ?_) | refine sSkip (hk := ?_) | refine sG (hg := by first | rfl | exact gA_c rfl rfl) (hq := by (intro hg; (try simp only [Bool.and_eq_true, beq_iff_eq] at hg); (try simp only [hg, cond_true, Bool.true_and, beq_self_eq_true]); exact Quiet.call rfl hfn rfl rfl rfl)) (hk := ?_) | refine sG (hk := ?_) | refine sOwn (hk := ?_))); refine aSeq_nil ?_)
        refine h24 _ ?_
        refine nT (hk := ?_)
        refine Awp.cond rfl (fun hb25 => ?_) (fun hb25 => ?_)
        · have e3 : funcB p n f = false := by simpa using hb25
          have e : checkO p = some ((n : Int), -1) := checkO_1 e1 e2 (firstN_found hno1 hlt (by rw [hc1, e3]; rfl))
          refine Awp.seq fun K26 h26 => ?_
          (refine Awp.region ?_; (repeat (first | refine sQ (hq := Quiet.bld (rs := [.lit (.int .i64 (n : Int)), .lit (.int .i64 (-1))]) rfl plPos rfl rfl) (hk := ?_) | refine sQ (hq := Quiet.pickOr rfl rfl rfl rfl) (hk := ?_) | refine sQ (hq := Quiet.pickAnd rfl rfl rfl rfl) (hk := ?_) | refine sQ (hk := ?_) | refine sSkip (hk := ?_) | refine sG (hg := by first | rfl | exact gA_c rfl rfl) (hq := by (intro hg; (try simp only [] at hg); (try simp only [hg, cond_true, Bool.true_and, beq_self_eq_true]); exact Quiet.bld (rs := [.lit (.int .i64 (n : Int)), .lit (.int .i64 (-1))]) rfl plPos rfl rfl)) (hk := ?_) | refine sG (hk := ?_) | refine sOwn (hk := ?_))); refine aSeq_nil ?_)
          refine h26 _ ?_
          refine nT (hk := ?_)
          refine Awp.ret ?_
          rw [e]
          exact ⟨.inr rfl, 1, _, rfl, rfl, rfl, Fin.cl rfl⟩
        · have e3 : funcB p n f = true := by simpa using hb25
          refine Awp.skip ?_
          refine h23 _ ?_
          refine nT (hk := ?_)
          (refine Awp.region ?_; (repeat (first | refine sQ (hq := Quiet.pickOr rfl rfl rfl rfl) (hk := ?_) | refine sQ (hq := Quiet.pickAnd rfl rfl rfl rfl) (hk := ?_) | refine sQ (hk := ?_) | refine sSkip (hk := ?_) | refine sG (hk := ?_) | refine sOwn (hk := ?_))); refine aSeq_nil ?_)
          refine athen_n ⟨n + 1, ⟨by omega, firstN_more hno1 (by rw [hc1, e3]; rfl)⟩, by omega, ?_⟩
          exact le_T
      · have hnn : n = p.funcs.length := by have : ¬ n < p.funcs.length := by simpa using hb22
                                            omega
        subst hnn
        refine Awp.exit ?_
        refine h17 _ ?_
        refine nT (hk := ?_)
        refine Awp.seq fun K27 h27 => ?_
        refine Awp.seq fun K28 h28 => ?_
        (refine Awp.region ?_; (repeat (first | refine sQ (hq := Quiet.pickOr rfl rfl rfl rfl) (hk := ?_) | refine sQ (hq := Quiet.pickAnd rfl rfl rfl rfl) (hk := ?_) | refine sQ (hk := ?_) | refine sSkip (hk := ?_) | refine sG (hk := ?_) | refine sOwn (hk := ?_))); refine aSeq_nil ?_)
        refine h28 _ ?_
        refine nT (hk := ?_)
        refine Awp.block ?_
        refine Awp.loopF (fun n : Nat => ⟨[.any, .ptr 0 0, .ptr 1 0, .lit (.int .i64 0), .any, .any, .any, .lit (.int .i64 (n : Int)), .any, .any, .any, .any, .any, .any, .any, .any, .any, .any, .any, .any, .any, .any, .any, .any, .any, .any, .any, .any, .any, .any, .any, .any, .any, .any, .any, .any, .any, .any, .any, .any, .any, .any, .any, .any, .any, .any, .any, .any, .any, .any, .any, .any, .any, .any, .any, .any, .any, .any, .any, .any, .any, .any, .any, .any, .any, .any, .any, .any, .any, .any, .any, .any, .any, .any, .any, .any, .any, .any, .any, .any, .any, .any, .any, .any, .any, .any, .any, .any, .any, .any, .any, .any, .any, .any, .any, .any, .any, .any, .any, .any, .any, .any, .any, .any, .any, .any, .any, .any, .any, .any, .any, .any, .any, .any, .any, .any, .any, .any, .any, .any, .any, .any, .any, .any, .any, .any, .any, .any, .any, .any, .any, .any, .any, .any, .any, .any, .any, .any, .any, .any, .any, .any, .any, .any, .any, .any, .any, .any, .any, .any, .any, .any, .any, .any, .any, .any, .any, .any, .any, .any], [.box (encProg p), .box [.lit (.int .i64 0), .lit (.int .i64 0)]]⟩) (fun n => n ≤ p.funcs.length ∧ firstN n (chk2 p) = none) (fun n => p.funcs.length - n) 0 ⟨Nat.zero_le _, rfl⟩ (le_T) ?_
        rintro n ⟨hn, hno2⟩
        refine Awp.seq fun K30 h30 => ?_
        refine Awp.seq fun K31 h31 => ?_
        (refine Awp.region ?_; (repeat (first | refine sQ (hq := Quiet.pickOr rfl rfl rfl rfl) (hk := ?_) | refine sQ (hq := Quiet.pickAnd rfl rfl rfl rfl) (hk := ?_) | refine sQ (hk := ?_) | refine sSkip (hk := ?_) | refine sG (hk := ?_) | refine sOwn (hk := ?_))); refine aSeq_nil ?_)
        refine h31 _ ?_
        refine nT (hk := ?_)
        refine Awp.cond rfl (fun hb32 => ?_) (fun hb32 => ?_)
        · have hlt : n < p.funcs.length := by simpa using hb32
          obtain ⟨f, hf⟩ : ∃ f, p.funcs[n]? = some f := ⟨_, List.getElem?_eq_getElem hlt⟩
          have hfm := List.mem_of_getElem? hf
          have ho := hp.ok f hfm
          have hs := hp.small f hfm
          have hbl := hs.blocks
          have hc2 := chk2_eq hf
          refine Awp.skip ?_
          refine h30 _ ?_
          refine nT (hk := ?_)
          refine Awp.seq fun K33 h33 => ?_
          refine Awp.block ?_
          refine Awp.seq fun K34 h34 => ?_
          (refine Awp.region ?_; (repeat (first | refine sQ (hq := Quiet.pickOr rfl rfl rfl rfl) (hk := ?_) | refine sQ (hq := Quiet.pickAnd rfl rfl rfl rfl) (hk := ?_) | refine sQ (hk := ?_) | refine sSkip (hk := ?_) | refine sG (hk := ?_) | refine sOwn (hk := ?_))); refine aSeq_nil ?_)
          refine h34 _ ?_
          refine nT (hk := ?_)
          refine Awp.block ?_
          refine Awp.loopF (fun i : Nat => ⟨[.any, .ptr 0 0, .ptr 1 0, .lit (.int .i64 0), .any, .any, .any, .lit (.int .i64 (n : Int)), .lit (.int .i64 (i : Int)), .any, .any, .any, .any, .any, .any, .any, .any, .any, .any, .any, .any, .any, .any, .any, .any, .any, .any, .any, .any, .any, .any, .any, .any, .any, .any, .any, .any, .any, .any, .any, .any, .any, .any, .any, .any, .any, .any, .any, .any, .any, .any, .any, .any, .any, .any, .any, .any, .any, .any, .any, .any, .any, .any, .any, .any, .any, .any, .any, .any, .any, .any, .any, .any, .any, .any, .any, .any, .any, .any, .any, .any, .any, .any, .any, .any, .any, .any, .any, .any, .any, .any, .any, .any, .any, .any, .any, .any, .any, .any, .any, .any, .any, .any, .any, .any, .any, .any, .any, .any, .any, .any, .any, .any, .any, .any, .any, .any, .any, .any, .any, .any, .any, .any, .any, .any, .any, .any, .any, .any, .any, .any, .any, .any, .any, .any, .any, .any, .any, .any, .any, .any, .any, .any, .any, .any, .any, .any, .any, .any, .any, .any, .any, .any, .any, .any, .any, .any, .any, .any, .any], [.box (encProg p), .box [.lit (.int .i64 0), .lit (.int .i64 0)]]⟩) (fun i => i ≤ f.blocks.length ∧ firstN i (chk2b p n f) = none) (fun i => f.blocks.length - i) 0 ⟨Nat.zero_le _, rfl⟩ (le_T) ?_
          rintro i ⟨hi, hni⟩
          refine Awp.seq fun K36 h36 => ?_
          refine Awp.seq fun K37 h37 => ?_
          (refine Awp.region ?_; (repeat (first | refine sQ (hq := Quiet.pickOr rfl rfl rfl rfl) (hk := ?_) | refine sQ (hq := Quiet.pickAnd rfl rfl rfl rfl) (hk := ?_) | refine sQ (hk := ?_) | refine sSkip (hk := ?_) | refine sG (hk := ?_) | refine sOwn (hk := ?_))); refine aSeq_nil ?_)
          refine h37 _ ?_
          refine nT (hk := ?_)
          refine Awp.cond rfl (fun hb38 => ?_) (fun hb38 => ?_)
          · have hil : i < f.blocks.length := by simpa using hb38
            obtain ⟨b, hb⟩ : ∃ b, f.blocks[i]? = some b := ⟨_, List.getElem?_eq_getElem hil⟩
            have hbk := block14_fn p f i b hpl ho hs hb
            have hc3 := chk2b_eq (p := p) (n := n) hb
            refine Awp.skip ?_
            refine h36 _ ?_
            refine nT (hk := ?_)
            refine Awp.seq fun K39 h39 => ?_
            refine Awp.block ?_
            refine Awp.seq fun K40 h40 => ?_
            (refine drawD 9 (hh := ?_); (repeat (first | refine qQ (hq := Quiet.call rfl hbk rfl rfl rfl) (hk := ?_) | refine qQ (hq := Quiet.pickOr rfl rfl rfl rfl) (hk := ?_) | refine qQ (hq := Quiet.pickAnd rfl rfl rfl rfl) (hk := ?_) | refine qQ (hk := ?_) | refine qSkip (hk := ?_) | refine qG (hg := by first | rfl | exact gA_c rfl rfl) (hq := by (intro hg; (try simp only [Bool.and_eq_true, beq_iff_eq] at hg); (try simp only [hg, cond_true, Bool.true_and, beq_self_eq_true]); exact Quiet.call rfl hbk rfl rfl rfl)) (hk := ?_) | refine qG (hk := ?_))); refine aQ_nil ?_; (repeat (first | refine sQ (hq := Quiet.call rfl hbk rfl rfl rfl) (hk := ?_) | refine sQ (hq := Quiet.pickOr rfl rfl rfl rfl) (hk := ?_) | refine sQ (hq := Quiet.pickAnd rfl rfl rfl rfl) (hk := ?_) | refine sQ (hk := ?_) | refine sSkip (hk := ?_) | refine sG (hg := by first | rfl | exact gA_c rfl rfl) (hq := by (intro hg; (try simp only [Bool.and_eq_true, beq_iff_eq] at hg); (try simp only [hg, cond_true, Bool.true_and, beq_self_eq_true]); exact Quiet.call rfl hbk rfl rfl rfl)) (hk := ?_) | refine sG (hk := ?_) | refine sOwn (hk := ?_))); refine aSeq_nil ?_)
            refine h40 _ ?_
            refine nT (hk := ?_)
            refine Awp.cond rfl (fun hb41 => ?_) (fun hb41 => ?_)
            · have e3 : blockB p f i b = false := by simpa using hb41
              have e : checkO p = some ((n : Int), (i : Int)) := checkO_2 e1 e2 hno1 (firstN_found hno2 hlt (by rw [hc2]; exact firstN_found hni hil (by rw [hc3, e3]; rfl)))
              refine Awp.seq fun K42 h42 => ?_
              (refine Awp.region ?_; (repeat (first | refine sQ (hq := Quiet.bld (rs := [.lit (.int .i64 (n : Int)), .lit (.int .i64 (i : Int))]) rfl plPos rfl rfl) (hk := ?_) | refine sQ (hq := Quiet.pickOr rfl rfl rfl rfl) (hk := ?_) | refine sQ (hq := Quiet.pickAnd rfl rfl rfl rfl) (hk := ?_) | refine sQ (hk := ?_) | refine sSkip (hk := ?_) | refine sG (hg := by first | rfl | exact gA_c rfl rfl) (hq := by (intro hg; (try simp only [] at hg); (try simp only [hg, cond_true, Bool.true_and, beq_self_eq_true]); exact Quiet.bld (rs := [.lit (.int .i64 (n : Int)), .lit (.int .i64 (i : Int))]) rfl plPos rfl rfl)) (hk := ?_) | refine sG (hk := ?_) | refine sOwn (hk := ?_))); refine aSeq_nil ?_)
              refine h42 _ ?_
              refine nT (hk := ?_)
              refine Awp.ret ?_
              rw [e]
              exact ⟨.inr rfl, 1, _, rfl, rfl, rfl, Fin.cl rfl⟩
            · have e3 : blockB p f i b = true := by simpa using hb41
              refine Awp.skip ?_
              refine h39 _ ?_
              refine nT (hk := ?_)
              (refine Awp.region ?_; (repeat (first | refine sQ (hq := Quiet.pickOr rfl rfl rfl rfl) (hk := ?_) | refine sQ (hq := Quiet.pickAnd rfl rfl rfl rfl) (hk := ?_) | refine sQ (hk := ?_) | refine sSkip (hk := ?_) | refine sG (hk := ?_) | refine sOwn (hk := ?_))); refine aSeq_nil ?_)
              refine athen_n ⟨i + 1, ⟨by omega, firstN_more hni (by rw [hc3, e3]; rfl)⟩, by omega, ?_⟩
              exact le_T
          · have hii : i = f.blocks.length := by have : ¬ i < f.blocks.length := by simpa using hb38
                                                 omega
            subst hii
            refine Awp.exit ?_
            refine h33 _ ?_
            refine nT (hk := ?_)
            (refine Awp.region ?_; (repeat (first | refine sQ (hq := Quiet.pickOr rfl rfl rfl rfl) (hk := ?_) | refine sQ (hq := Quiet.pickAnd rfl rfl rfl rfl) (hk := ?_) | refine sQ (hk := ?_) | refine sSkip (hk := ?_) | refine sG (hk := ?_) | refine sOwn (hk := ?_))); refine aSeq_nil ?_)
            refine athen_n ⟨n + 1, ⟨by omega, firstN_more hno2 (by rw [hc2]; exact hni)⟩, by omega, ?_⟩
            exact le_T
        · have hnn : n = p.funcs.length := by have : ¬ n < p.funcs.length := by simpa using hb32
                                              omega
          subst hnn
          have he3 := checkO_3 e1 e2 hno1 hno2
          refine Awp.exit ?_
          refine h27 _ ?_
          refine nT (hk := ?_)
          refine Awp.seq fun K43 h43 => ?_
          refine Awp.seq fun K44 h44 => ?_
          (refine Awp.region ?_; (repeat (first | refine sQ (hq := Quiet.pickOr rfl rfl rfl rfl) (hk := ?_) | refine sQ (hq := Quiet.pickAnd rfl rfl rfl rfl) (hk := ?_) | refine sQ (hk := ?_) | refine sSkip (hk := ?_) | refine sG (hk := ?_) | refine sOwn (hk := ?_))); refine aSeq_nil ?_)
          refine h44 _ ?_
          refine nT (hk := ?_)
          refine Awp.block ?_
          refine Awp.loopF (fun n : Nat => ⟨[.any, .ptr 0 0, .ptr 1 0, .lit (.int .i64 0), .any, .any, .any, .any, .any, .lit (.int .i64 (n : Int)), .any, .any, .any, .any, .any, .any, .any, .any, .any, .any, .any, .any, .any, .any, .any, .any, .any, .any, .any, .any, .any, .any, .any, .any, .any, .any, .any, .any, .any, .any, .any, .any, .any, .any, .any, .any, .any, .any, .any, .any, .any, .any, .any, .any, .any, .any, .any, .any, .any, .any, .any, .any, .any, .any, .any, .any, .any, .any, .any, .any, .any, .any, .any, .any, .any, .any, .any, .any, .any, .any, .any, .any, .any, .any, .any, .any, .any, .any, .any, .any, .any, .any, .any, .any, .any, .any, .any, .any, .any, .any, .any, .any, .any, .any, .any, .any, .any, .any, .any, .any, .any, .any, .any, .any, .any, .any, .any, .any, .any, .any, .any, .any, .any, .any, .any, .any, .any, .any, .any, .any, .any, .any, .any, .any, .any, .any, .any, .any, .any, .any, .any, .any, .any, .any, .any, .any, .any, .any, .any, .any, .any, .any, .any, .any, .any, .any, .any, .any, .any, .any], [.box (encProg p), .box [.lit (.int .i64 0), .lit (.int .i64 0)]]⟩) (fun n => n ≤ p.funcs.length ∧ firstN n (chk3 p) = none) (fun n => p.funcs.length - n) 0 ⟨Nat.zero_le _, rfl⟩ (le_T) ?_
          rintro n ⟨hn, hno3⟩
          refine Awp.seq fun K46 h46 => ?_
          refine Awp.seq fun K47 h47 => ?_
          (refine Awp.region ?_; (repeat (first | refine sQ (hq := Quiet.pickOr rfl rfl rfl rfl) (hk := ?_) | refine sQ (hq := Quiet.pickAnd rfl rfl rfl rfl) (hk := ?_) | refine sQ (hk := ?_) | refine sSkip (hk := ?_) | refine sG (hk := ?_) | refine sOwn (hk := ?_))); refine aSeq_nil ?_)
          refine h47 _ ?_
          refine nT (hk := ?_)
          refine Awp.cond rfl (fun hb48 => ?_) (fun hb48 => ?_)
          · have hlt : n < p.funcs.length := by simpa using hb48
            obtain ⟨f, hf⟩ : ∃ f, p.funcs[n]? = some f := ⟨_, List.getElem?_eq_getElem hlt⟩
            have hfm := List.mem_of_getElem? hf
            have ho := hp.ok f hfm
            have hs := hp.small f hfm
            have hbl := hs.blocks
            have hc4 := chk3_eq hf
            obtain ⟨hfB, hbB⟩ := chk12 hno1 hno2 hf
            obtain ⟨hr0, hr1, hrr⟩ := regs_ok hfB hbB
            have hE : Ended f := by
              unfold funcB at hfB
              simp only [Bool.and_eq_true, Bool.not_eq_true'] at hfB
              exact ended_of hfB.2.1 hbB
            refine Awp.skip ?_
            refine h46 _ ?_
            refine nT (hk := ?_)
            refine Awp.seq fun K49 h49 => ?_
            refine Awp.block ?_
            refine Awp.seq fun K50 h50 => ?_
            (refine Awp.region ?_; (repeat (first | refine sQ (hq := Quiet.pickOr rfl rfl rfl rfl) (hk := ?_) | refine sQ (hq := Quiet.pickAnd rfl rfl rfl rfl) (hk := ?_) | refine sQ (hk := ?_) | refine sSkip (hk := ?_) | refine sG (hk := ?_) | refine sOwn (hk := ?_))); refine aSeq_nil ?_)
            refine h50 _ ?_
            refine nT (hk := ?_)
            refine Awp.seq fun K51 h51 => ?_
            (refine Awp.region ?_; (repeat (first | refine sQ (hq := Quiet.pickOr rfl rfl rfl rfl) (hk := ?_) | refine sQ (hq := Quiet.pickAnd rfl rfl rfl rfl) (hk := ?_) | refine sQ (hk := ?_) | refine sSkip (hk := ?_) | refine sG (hk := ?_) | refine sOwn (hk := ?_))); refine aSeq_nil ?_)
            refine h51 _ ?_
            refine nT (hk := ?_)
            refine Awp.seq fun K52 h52 => ?_
            refine Awp.seq fun K53 h53 => ?_
            (refine Awp.region ?_; (repeat (first | refine sQ (hq := Quiet.pickOr rfl rfl rfl rfl) (hk := ?_) | refine sQ (hq := Quiet.pickAnd rfl rfl rfl rfl) (hk := ?_) | refine sQ (hk := ?_) | refine sSkip (hk := ?_) | refine sG (hk := ?_) | refine sOwn (hk := ?_))); refine aSeq_nil ?_)
            refine h53 _ ?_
            refine nT (hk := ?_)
            refine Awp.block ?_
            refine Awp.loopF (fun q : Nat × Nat => ⟨[.any, .ptr 0 0, .ptr 1 0, .lit (.int .i64 0), .any, .any, .any, .any, .any, .lit (.int .i64 (n : Int)), .ptr 2 0, .own 3 q.2, .lit (.int .i64 (q.1 : Int)), .any, .any, .any, .any, .any, .any, .any, .any, .any, .any, .any, .any, .any, .any, .any, .any, .any, .any, .any, .any, .any, .any, .any, .any, .any, .any, .any, .any, .any, .any, .any, .any, .any, .any, .any, .any, .any, .any, .any, .any, .any, .any, .any, .any, .any, .any, .any, .any, .any, .any, .any, .any, .any, .any, .any, .any, .any, .any, .any, .any, .any, .any, .any, .any, .any, .any, .any, .any, .any, .any, .any, .any, .any, .any, .any, .any, .any, .any, .any, .any, .any, .any, .any, .any, .any, .any, .any, .any, .any, .any, .any, .any, .any, .any, .any, .any, .any, .any, .any, .any, .any, .any, .any, .any, .any, .any, .any, .any, .any, .any, .any, .any, .any, .any, .any, .any, .any, .any, .any, .any, .any, .any, .any, .any, .any, .any, .any, .any, .any, .any, .any, .any, .any, .any, .any, .any, .any, .any, .any, .any, .any, .any, .any, .any, .any, .any, .any], [.box (encProg p), .box [.lit (.int .i64 0), .lit (.int .i64 0)], .box (encFunc f), .row q.2 73 Ty.bool.slice (lacksN f q.1)]⟩) (fun q => (q.1 : Int) ≤ f.regs) (fun q => f.regs.toNat - q.1) (0, 0) hr0 ((St.le_nil 11 73 Ty.bool.slice rfl (by decide)).trans (le_T)) ?_
            rintro ⟨r, ver⟩ hrI
            dsimp only at hrI ⊢
            have hNl := lacksN_len f r
            refine Awp.seq fun K55 h55 => ?_
            refine Awp.seq fun K56 h56 => ?_
            (refine Awp.region ?_; (repeat (first | refine sQ (hq := Quiet.pickOr rfl rfl rfl rfl) (hk := ?_) | refine sQ (hq := Quiet.pickAnd rfl rfl rfl rfl) (hk := ?_) | refine sQ (hk := ?_) | refine sSkip (hk := ?_) | refine sG (hk := ?_) | refine sOwn (hk := ?_))); refine aSeq_nil ?_)
            refine h56 _ ?_
            refine nT (hk := ?_)
            refine Awp.cond rfl (fun hb57 => ?_) (fun hb57 => ?_)
            · have hrl : (r : Int) < f.regs := by simpa using hb57
              have hLs := lacksN_succ f r
              generalize hL0 : lacksN f r = L0 at hNl hLs ⊢
              have hn1 : L0.length + [lacksL f (r : Int)].length ≤ maxLen := by simp [maxLen]; omega
              have hn2 : (L0.length + [lacksL f (r : Int)].length) * 24 ≤ 140737488355328 := by simp; omega
              refine Awp.skip ?_
              refine h55 _ ?_
              refine nT (hk := ?_)
              refine Awp.seq fun K58 h58 => ?_
              refine Awp.block ?_
              (refine Awp.region ?_; (repeat (first | refine sQ (hq := Quiet.call rfl (lacks14_fn f (r : Int) ho hs hE) rfl rfl rfl) (hk := ?_) | refine sQ (hq := Quiet.pickOr rfl rfl rfl rfl) (hk := ?_) | refine sQ (hq := Quiet.pickAnd rfl rfl rfl rfl) (hk := ?_) | refine sQ (hk := ?_) | refine sSkip (hk := ?_) | refine sG (hg := by first | rfl | exact gA_c rfl rfl) (hq := by (intro hg; (try simp only [] at hg); (try simp only [hg, cond_true, Bool.true_and, beq_self_eq_true]); exact Quiet.call rfl (lacks14_fn f (r : Int) ho hs hE) rfl rfl rfl)) (hk := ?_) | refine sG (hk := ?_) | refine sOwn (hk := ?_))); refine aSeq_nil ?_)
              refine h58 _ ?_
              refine nT (hk := ?_)
              (refine Awp.region ?_; (repeat (first | refine sQ (hq := Quiet.pickOr rfl rfl rfl rfl) (hk := ?_) | refine sQ (hq := Quiet.pickAnd rfl rfl rfl rfl) (hk := ?_) | refine sQ (hk := ?_) | refine sSkip (hk := ?_) | refine sG (hk := ?_) | refine sOwn (hk := ?_))); refine aSeq_nil ?_)
              refine athen_n ⟨(r + 1, ver + 1), by dsimp only; omega, by dsimp only; omega, ?_⟩
              dsimp only
              rw [hLs]
              exact le_T
            · have hrr2 : r = f.regs.toNat := by have : ¬ (r : Int) < f.regs := by simpa using hb57
                                                 omega
              subst hrr2
              have hLA : lacksN f f.regs.toNat = lacksA f := rfl
              rw [hLA]
              refine Awp.exit ?_
              refine h52 _ ?_
              refine nT (hk := ?_)
              refine Awp.seq fun K59 h59 => ?_
              (refine Awp.region ?_; (repeat (first | refine sQ (hq := Quiet.pickOr rfl rfl rfl rfl) (hk := ?_) | refine sQ (hq := Quiet.pickAnd rfl rfl rfl rfl) (hk := ?_) | refine sQ (hk := ?_) | refine sSkip (hk := ?_) | refine sG (hk := ?_) | refine sOwn (hk := ?_))); refine aSeq_nil ?_)
              refine h59 _ ?_
              refine nT (hk := ?_)
              refine Awp.block ?_
              refine Awp.loopF (fun i : Nat => ⟨[.any, .ptr 0 0, .ptr 1 0, .lit (.int .i64 0), .any, .any, .any, .any, .any, .lit (.int .i64 (n : Int)), .ptr 2 0, .own 3 ver, .any, .lit (.int .i64 (i : Int)), .any, .any, .any, .any, .any, .any, .any, .any, .any, .any, .any, .any, .any, .any, .any, .any, .any, .any, .any, .any, .any, .any, .any, .any, .any, .any, .any, .any, .any, .any, .any, .any, .any, .any, .any, .any, .any, .any, .any, .any, .any, .any, .any, .any, .any, .any, .any, .any, .any, .any, .any, .any, .any, .any, .any, .any, .any, .any, .any, .any, .any, .any, .any, .any, .any, .any, .any, .any, .any, .any, .any, .any, .any, .any, .any, .any, .any, .any, .any, .any, .any, .any, .any, .any, .any, .any, .any, .any, .any, .any, .any, .any, .any, .any, .any, .any, .any, .any, .any, .any, .any, .any, .any, .any, .any, .any, .any, .any, .any, .any, .any, .any, .any, .any, .any, .any, .any, .any, .any, .any, .any, .any, .any, .any, .any, .any, .any, .any, .any, .any, .any, .any, .any, .any, .any, .any, .any, .any, .any, .any, .any, .any, .any, .any, .any, .any], [.box (encProg p), .box [.lit (.int .i64 0), .lit (.int .i64 0)], .box (encFunc f), .row ver 73 Ty.bool.slice (lacksA f)]⟩) (fun i => i ≤ f.blocks.length ∧ firstN i (chk3b n f) = none) (fun i => f.blocks.length - i) 0 ⟨Nat.zero_le _, rfl⟩ (le_T) ?_
              rintro i ⟨hi, hni⟩
              refine Awp.seq fun K61 h61 => ?_
              refine Awp.seq fun K62 h62 => ?_
              (refine Awp.region ?_; (repeat (first | refine sQ (hq := Quiet.pickOr rfl rfl rfl rfl) (hk := ?_) | refine sQ (hq := Quiet.pickAnd rfl rfl rfl rfl) (hk := ?_) | refine sQ (hk := ?_) | refine sSkip (hk := ?_) | refine sG (hk := ?_) | refine sOwn (hk := ?_))); refine aSeq_nil ?_)
              refine h62 _ ?_
              refine nT (hk := ?_)
              refine Awp.cond rfl (fun hb63 => ?_) (fun hb63 => ?_)
              · have hil : i < f.blocks.length := by simpa using hb63
                obtain ⟨b, hb⟩ : ∃ b, f.blocks[i]? = some b := ⟨_, List.getElem?_eq_getElem hil⟩
                have hbm := List.mem_of_getElem? hb
                have hc5 := chk3b_eq (n := n) hb
                have hms := missing14_fn f (lacksA f) i b ho hs hb (fun x hx r hr => by
                  obtain ⟨k0, k1⟩ := hrr b hbm x hx r hr
                  have hll : (lacksL f r).length = f.blocks.length := lacksK_len f r _
                  obtain ⟨q, hq⟩ : ∃ q, (lacksL f r)[i]? = some q := ⟨_, List.getElem?_eq_getElem (hll.symm ▸ hil)⟩
                  exact ⟨k0, _, q, lacksA_get k0 k1, hq⟩)
                refine Awp.skip ?_
                refine h61 _ ?_
                refine nT (hk := ?_)
                refine Awp.seq fun K64 h64 => ?_
                refine Awp.block ?_
                refine Awp.seq fun K65 h65 => ?_
                (refine Awp.region ?_; (repeat (first | refine sQ (hq := Quiet.lend rfl hms (.cl rfl (.own rfl (.cl rfl .nil)))) (hk := ?_) | refine sQ (hq := Quiet.pickOr rfl rfl rfl rfl) (hk := ?_) | refine sQ (hq := Quiet.pickAnd rfl rfl rfl rfl) (hk := ?_) | refine sQ (hk := ?_) | refine sSkip (hk := ?_) | refine sG (hg := by first | rfl | exact gA_c rfl rfl) (hq := by (intro hg; (try simp only [Bool.and_eq_true, beq_iff_eq] at hg); (try simp only [hg, cond_true, Bool.true_and, beq_self_eq_true]); exact Quiet.lend rfl hms (.cl rfl (.own rfl (.cl rfl .nil))))) (hk := ?_) | refine sG (hk := ?_) | refine sOwn (hk := ?_))); refine aSeq_nil ?_)
                refine h65 _ ?_
                refine nT (hk := ?_)
                refine Awp.cond rfl (fun hb66 => ?_) (fun hb66 => ?_)
                · have e3 : missB (lacksA f) i b = true := hb66
                  have e : checkO p = some ((n : Int), (i : Int)) := by
                    rw [he3]
                    exact firstN_found hno3 hlt (by rw [hc4]; exact firstN_found hni hil (by rw [hc5, e3]; rfl))
                  refine Awp.seq fun K67 h67 => ?_
                  (refine Awp.region ?_; (repeat (first | refine sQ (hq := Quiet.bld (rs := [.lit (.int .i64 (n : Int)), .lit (.int .i64 (i : Int))]) rfl plPos rfl rfl) (hk := ?_) | refine sQ (hq := Quiet.pickOr rfl rfl rfl rfl) (hk := ?_) | refine sQ (hq := Quiet.pickAnd rfl rfl rfl rfl) (hk := ?_) | refine sQ (hk := ?_) | refine sSkip (hk := ?_) | refine sG (hg := by first | rfl | exact gA_c rfl rfl) (hq := by (intro hg; (try simp only [] at hg); (try simp only [hg, cond_true, Bool.true_and, beq_self_eq_true]); exact Quiet.bld (rs := [.lit (.int .i64 (n : Int)), .lit (.int .i64 (i : Int))]) rfl plPos rfl rfl)) (hk := ?_) | refine sG (hk := ?_) | refine sOwn (hk := ?_))); refine aSeq_nil ?_)
                  refine h67 _ ?_
                  refine nT (hk := ?_)
                  refine Awp.ret ?_
                  rw [e]
                  exact ⟨.inr rfl, 1, _, rfl, rfl, rfl, Fin.cl rfl⟩
                · have e3 : missB (lacksA f) i b = false := hb66
                  refine Awp.skip ?_
                  refine h64 _ ?_
                  refine nT (hk := ?_)
                  (refine Awp.region ?_; (repeat (first | refine sQ (hq := Quiet.pickOr rfl rfl rfl rfl) (hk := ?_) | refine sQ (hq := Quiet.pickAnd rfl rfl rfl rfl) (hk := ?_) | refine sQ (hk := ?_) | refine sSkip (hk := ?_) | refine sG (hk := ?_) | refine sOwn (hk := ?_))); refine aSeq_nil ?_)
                  refine athen_n ⟨i + 1, ⟨by omega, firstN_more hni (by rw [hc5, e3]; rfl)⟩, by omega, ?_⟩
                  exact le_T
              · have hii : i = f.blocks.length := by have : ¬ i < f.blocks.length := by simpa using hb63
                                                     omega
                subst hii
                refine Awp.exit ?_
                refine h49 _ ?_
                refine nT (hk := ?_)
                (refine Awp.region ?_; (repeat (first | refine sQ (hq := Quiet.pickOr rfl rfl rfl rfl) (hk := ?_) | refine sQ (hq := Quiet.pickAnd rfl rfl rfl rfl) (hk := ?_) | refine sQ (hk := ?_) | refine sSkip (hk := ?_) | refine sG (hk := ?_) | refine sOwn (hk := ?_))); refine aSeq_nil ?_)
                refine athen_n ⟨n + 1, ⟨by omega, firstN_more hno3 (by rw [hc4]; exact hni)⟩, by omega, ?_⟩
                exact le_C (.cons (.cons (Cut.nil _)))
          · have hnn : n = p.funcs.length := by have : ¬ n < p.funcs.length := by simpa using hb48
                                                omega
            subst hnn
            have e : checkO p = none := by rw [he3]; exact hno3
            refine Awp.exit ?_
            refine h43 _ ?_
            refine nT (hk := ?_)
            refine Awp.seq fun K68 h68 => ?_
            (refine Awp.region ?_; (repeat (first | refine sQ (hq := Quiet.bld (rs := [.lit (.int .i64 0), .lit (.int .i64 0)]) rfl plPos rfl rfl) (hk := ?_) | refine sQ (hq := Quiet.pickOr rfl rfl rfl rfl) (hk := ?_) | refine sQ (hq := Quiet.pickAnd rfl rfl rfl rfl) (hk := ?_) | refine sQ (hk := ?_) | refine sSkip (hk := ?_) | refine sG (hg := by first | rfl | exact gA_c rfl rfl) (hq := by (intro hg; (try simp only [] at hg); (try simp only [hg, cond_true, Bool.true_and, beq_self_eq_true]); exact Quiet.bld (rs := [.lit (.int .i64 0), .lit (.int .i64 0)]) rfl plPos rfl rfl)) (hk := ?_) | refine sG (hk := ?_) | refine sOwn (hk := ?_))); refine aSeq_nil ?_)
            refine h68 _ ?_
            refine nT (hk := ?_)
            refine Awp.ret ?_
            rw [e]
            exact ⟨.inr rfl, 1, _, rfl, rfl, rfl, Fin.cl rfl⟩
end Mu
end
section
/-
  muntinref14.Great, walked.
  Conditions: data of at most 2^21 everywhere.
-/
namespace Mu
open Go Go.RowKit Go.Proofs

def cntB (b : Block) : Nat := 1 + b.ins.length + sumA b.ins 300
def sumBk (l : List Block) (m : Nat) : Nat := ((l.take m).map cntB).sum
def cntF (f : Func) : Nat := sumBk f.blocks 300
def sumFn (l : List Func) (m : Nat) : Nat := ((l.take m).map cntF).sum
def bigF (f : Func) : Bool := decide (f.regs > 300) || decide ((f.name.size : Int) > 200)
def bigB (b : Block) : Bool := decide ((b.name.size : Int) > 200)
def greatF (f : Func) : Bool := bigF f || ((f.blocks.take 300).any bigB || decide ((f.blocks.length : Int) > 100))
def great14 (p : Prog) : Bool := (p.funcs.take 70).any greatF || (decide ((p.funcs.length : Int) > 66) || decide ((sumFn p.funcs 70 : Int) > 600))
theorem take_sum_succ {α : Type} {g : α → Nat} {l : List α} {m : Nat} {x : α} (hx : l[m]? = some x) : ((l.take (m + 1)).map g).sum = ((l.take m).map g).sum + g x := by
  rw [List.take_add_one, hx, List.map_append, List.sum_append]
  simp
theorem take_sum_le {α : Type} {g : α → Nat} {l : List α} {c : Nat} (h : ∀ x ∈ l, g x ≤ c) (m : Nat) : ((l.take m).map g).sum ≤ m * c := by
  induction m with
  | zero => simp
  | succ m ih =>
    cases hx : l[m]? with
    | none =>
      rw [List.take_add_one, hx]
      simp only [Option.toList_none, List.append_nil]
      refine Nat.le_trans ih (Nat.mul_le_mul_right _ (by omega))
    | some x =>
      rw [take_sum_succ hx, Nat.add_mul, Nat.one_mul]
      have := h x (List.mem_of_getElem? hx)
      omega
/-- a bounded count has come to its end -/
theorem take_end {α : Type} {l : List α} {i N : Nat} (hi : i ≤ l.length) (h : ¬ (i < l.length ∧ i < N)) (h2 : i ≤ N) : l.take i = l.take N := by
  by_cases hl : i < l.length
  · have : i = N := by omega
    rw [this]
  · rw [List.take_of_length_le (by omega), List.take_of_length_le (by omega)]
theorem cntB_le {b : Block} (hs : smallB b) : cntB b ≤ 631242753 := by
  unfold cntB
  have h1 := hs.ins
  have h2 := sumA_le (l := b.ins) (fun y hy => by have := hs.all y hy; omega) 300
  omega
theorem cntF_le {f : Func} (hs : smallF f) : cntF f ≤ 189372825900 := by
  unfold cntF sumBk
  have := take_sum_le (g := cntB) (l := f.blocks) (c := 631242753) (fun b hb => cntB_le (hs.all b hb)) 300
  omega
theorem two_of {a b : Bool} (h : (a && b) = true) : a = true ∧ b = true := by simpa using h
theorem any_step {α : Type} {l : List α} {q : α → Bool} {k : Nat} {x : α} (hx : l[k]? = some x) (h : (l.take k).any q = false) (hq : q x = false) : (l.take (k + 1)).any q = false := any_takeG hx h hq

set_option maxRecDepth 100000 in
set_option maxHeartbeats 8000000 in
theorem great14_fn (p : Prog) (hp : smallP p) : Fn Tryd.prog 14 [.agg (encProg p)] (.lit (.bool (great14 p))) := by
  have hpl := hp.funcs
  refine Fn.of_awp Tryd.func14 rfl (by kernel_rfl) rfl Tryd.ntmps14 fun C hC => ?_
  simp only [List.length_cons, List.length_nil, Nat.reduceAdd, Nat.reduceSub, List.replicate_succ, List.replicate_zero, List.cons_append, List.nil_append]
  refine Awp.seq fun K1 h1 => ?_
  (refine Awp.region ?_; (repeat (first | refine sQ (hq := Quiet.pickOr rfl rfl rfl rfl) (hk := ?_) | refine sQ (hq := Quiet.pickAnd rfl rfl rfl rfl) (hk := ?_) | refine sQ (hk := ?_) | refine sSkip (hk := ?_) | refine sG (hk := ?_) | refine sOwn (hk := ?_))); refine aSeq_nil ?_)
  refine h1 _ ?_
  refine nT (hk := ?_)
  refine Awp.seq fun K2 h2 => ?_
  (refine Awp.region ?_; (repeat (first | refine sQ (hq := Quiet.pickOr rfl rfl rfl rfl) (hk := ?_) | refine sQ (hq := Quiet.pickAnd rfl rfl rfl rfl) (hk := ?_) | refine sQ (hk := ?_) | refine sSkip (hk := ?_) | refine sG (hk := ?_) | refine sOwn (hk := ?_))); refine aSeq_nil ?_)
  refine h2 _ ?_
  refine nT (hk := ?_)
  refine Awp.seq fun K3 h3 => ?_
  refine Awp.seq fun K4 h4 => ?_
  (refine Awp.region ?_; (repeat (first | refine sQ (hq := Quiet.pickOr rfl rfl rfl rfl) (hk := ?_) | refine sQ (hq := Quiet.pickAnd rfl rfl rfl rfl) (hk := ?_) | refine sQ (hk := ?_) | refine sSkip (hk := ?_) | refine sG (hk := ?_) | refine sOwn (hk := ?_))); refine aSeq_nil ?_)
  refine h4 _ ?_
  refine nT (hk := ?_)
  refine Awp.block ?_
  refine Awp.loopF (fun i : Nat => ⟨[.any, .ptr 0 0, .any, .lit (.int .i64 (sumFn p.funcs i : Int)), .lit (.int .i64 (i : Int)), .any, .any, .any, .any, .any, .any, .any, .any, .any, .any, .any, .any, .any, .any, .any, .any, .any, .any, .any, .any, .any, .any, .any, .any, .any, .any, .any, .any, .any, .any, .any, .any, .any, .any, .any, .any, .any, .any, .any, .any, .any, .any, .any, .any, .any, .any, .any, .any, .any, .any, .any, .any, .any, .any, .any, .any, .any, .any, .any, .any, .any, .any, .any, .any, .any, .any, .any, .any, .any, .any, .any, .any, .any, .any, .any, .any, .any, .any, .any, .any, .any, .any, .any, .any, .any, .any, .any, .any, .any, .any, .any, .any, .any, .any, .any, .any, .any, .any, .any, .any, .any, .any, .any, .any, .any, .any, .any, .any, .any, .any, .any, .any, .any, .any, .any, .any, .any, .any, .any, .any, .any, .any, .any], [.box (encProg p)]⟩) (fun i => i ≤ p.funcs.length ∧ i ≤ 70 ∧ (p.funcs.take i).any greatF = false) (fun i => p.funcs.length - i) 0 ⟨Nat.zero_le _, Nat.zero_le _, by simp⟩ (le_T) ?_
  rintro i ⟨hi, hi70, hno⟩
  have hsi := take_sum_le (g := cntF) (l := p.funcs) (c := 189372825900) (fun f hf => cntF_le (hp.small f hf)) i
  have hsi' : sumFn p.funcs i ≤ 13256097813000 := by unfold sumFn; omega
  refine Awp.seq fun K6 h6 => ?_
  refine Awp.seq fun K7 h7 => ?_
  (refine Awp.region ?_; (repeat (first | refine sQ (hq := Quiet.pickOr rfl rfl rfl rfl) (hk := ?_) | refine sQ (hq := Quiet.pickAnd rfl rfl rfl rfl) (hk := ?_) | refine sQ (hk := ?_) | refine sSkip (hk := ?_) | refine sG (hk := ?_) | refine sOwn (hk := ?_))); refine aSeq_nil ?_)
  refine h7 _ ?_
  refine nT (hk := ?_)
  refine Awp.cond rfl (fun hb8 => ?_) (fun hb8 => ?_)
  · have hgo := two_of hb8
    have hlt : i < p.funcs.length := by simpa using hgo.1
    have hlt70 : i < 70 := by have := of_decide_eq_true hgo.2; omega
    obtain ⟨f, hf⟩ : ∃ f, p.funcs[i]? = some f := ⟨_, List.getElem?_eq_getElem hlt⟩
    have hfm := List.mem_of_getElem? hf
    have hs := hp.small f hfm
    have hbl := hs.blocks
    have hsf : sumFn p.funcs (i + 1) = sumFn p.funcs i + sumBk f.blocks 300 := take_sum_succ (g := cntF) hf
    generalize hn0 : sumFn p.funcs i = n0 at hsi' hsf ⊢
    refine Awp.skip ?_
    refine h6 _ ?_
    refine nT (hk := ?_)
    refine Awp.seq fun K9 h9 => ?_
    refine Awp.block ?_
    refine Awp.seq fun K10 h10 => ?_
    refine Awp.seq fun K11 h11 => ?_
    (refine Awp.region ?_; (repeat (first | refine sQ (hq := Quiet.lnS rfl rfl) (hk := ?_) | refine sQ (hq := Quiet.pickOr rfl rfl rfl rfl) (hk := ?_) | refine sQ (hq := Quiet.pickAnd rfl rfl rfl rfl) (hk := ?_) | refine sQ (hk := ?_) | refine sSkip (hk := ?_) | refine sG (hg := by first | rfl | exact gA_c rfl rfl) (hq := by (intro hg; (try simp only [beq_iff_eq] at hg); (try simp only [hg, cond_true, beq_self_eq_true]); exact Quiet.lnS rfl rfl)) (hk := ?_) | refine sG (hk := ?_) | refine sOwn (hk := ?_))); refine aSeq_nil ?_)
    refine h11 _ ?_
    refine nT (hk := ?_)
    refine Awp.cond rfl (fun hb12 => ?_) (fun hb12 => ?_)
    · have e1 : bigF f = true := hb12
      have e : great14 p = true := by unfold great14; rw [take_any hf hlt70 (show greatF f = true by unfold greatF; rw [e1]; rfl)]; rfl
      refine Awp.seq fun K13 h13 => ?_
      (refine Awp.region ?_; (repeat (first | refine sQ (hq := Quiet.pickOr rfl rfl rfl rfl) (hk := ?_) | refine sQ (hq := Quiet.pickAnd rfl rfl rfl rfl) (hk := ?_) | refine sQ (hk := ?_) | refine sSkip (hk := ?_) | refine sG (hk := ?_) | refine sOwn (hk := ?_))); refine aSeq_nil ?_)
      refine h13 _ ?_
      refine nT (hk := ?_)
      refine Awp.ret ?_
      rw [e]
      exact ⟨.inr rfl, Fin.cl rfl⟩
    · have e1 : bigF f = false := hb12
      refine Awp.skip ?_
      refine h10 _ ?_
      refine nT (hk := ?_)
      refine Awp.seq fun K14 h14 => ?_
      refine Awp.seq fun K15 h15 => ?_
      (refine Awp.region ?_; (repeat (first | refine sQ (hq := Quiet.pickOr rfl rfl rfl rfl) (hk := ?_) | refine sQ (hq := Quiet.pickAnd rfl rfl rfl rfl) (hk := ?_) | refine sQ (hk := ?_) | refine sSkip (hk := ?_) | refine sG (hk := ?_) | refine sOwn (hk := ?_))); refine aSeq_nil ?_)
      refine h15 _ ?_
      refine nT (hk := ?_)
      refine Awp.block ?_
      refine Awp.loopF (fun k : Nat => ⟨[.any, .ptr 0 0, .any, .lit (.int .i64 ((n0 + sumBk f.blocks k : Nat) : Int)), .lit (.int .i64 (i : Int)), .lit (.int .i64 (k : Int)), .any, .any, .any, .any, .any, .any, .any, .any, .any, .any, .any, .any, .any, .any, .any, .any, .any, .any, .any, .any, .any, .any, .any, .any, .any, .any, .any, .any, .any, .any, .any, .any, .any, .any, .any, .any, .any, .any, .any, .any, .any, .any, .any, .any, .any, .any, .any, .any, .any, .any, .any, .any, .any, .any, .any, .any, .any, .any, .any, .any, .any, .any, .any, .any, .any, .any, .any, .any, .any, .any, .any, .any, .any, .any, .any, .any, .any, .any, .any, .any, .any, .any, .any, .any, .any, .any, .any, .any, .any, .any, .any, .any, .any, .any, .any, .any, .any, .any, .any, .any, .any, .any, .any, .any, .any, .any, .any, .any, .any, .any, .any, .any, .any, .any, .any, .any, .any, .any, .any, .any, .any, .any], [.box (encProg p)]⟩) (fun k => k ≤ f.blocks.length ∧ k ≤ 300 ∧ (f.blocks.take k).any bigB = false) (fun k => f.blocks.length - k) 0 ⟨Nat.zero_le _, Nat.zero_le _, by simp⟩ (le_T) ?_
      rintro k ⟨hk, hk300, hnk⟩
      have hsk := take_sum_le (g := cntB) (l := f.blocks) (c := 631242753) (fun b hb => cntB_le (hs.all b hb)) k
      have hsk' : sumBk f.blocks k ≤ 189372825900 := by unfold sumBk; omega
      refine Awp.seq fun K17 h17 => ?_
      refine Awp.seq fun K18 h18 => ?_
      (refine Awp.region ?_; (repeat (first | refine sQ (hq := Quiet.pickOr rfl rfl rfl rfl) (hk := ?_) | refine sQ (hq := Quiet.pickAnd rfl rfl rfl rfl) (hk := ?_) | refine sQ (hk := ?_) | refine sSkip (hk := ?_) | refine sG (hk := ?_) | refine sOwn (hk := ?_))); refine aSeq_nil ?_)
      refine h18 _ ?_
      refine nT (hk := ?_)
      refine Awp.cond rfl (fun hb19 => ?_) (fun hb19 => ?_)
      · have hgk := two_of hb19
        have hkl : k < f.blocks.length := by simpa using hgk.1
        have hkl300 : k < 300 := by have := of_decide_eq_true hgk.2; omega
        obtain ⟨b, hb⟩ : ∃ b, f.blocks[k]? = some b := ⟨_, List.getElem?_eq_getElem hkl⟩
        have hbs := hs.all b (List.mem_of_getElem? hb)
        have hil := hbs.ins
        have hsb : sumBk f.blocks (k + 1) = sumBk f.blocks k + cntB b := take_sum_succ (g := cntB) hb
        generalize hm0 : n0 + sumBk f.blocks k = m0
        have hm0' : m0 ≤ 13445470638900 := by omega
        refine Awp.skip ?_
        refine h17 _ ?_
        refine nT (hk := ?_)
        refine Awp.seq fun K20 h20 => ?_
        refine Awp.block ?_
        refine Awp.seq fun K21 h21 => ?_
        (refine Awp.region ?_; (repeat (first | refine sQ (hq := Quiet.pickOr rfl rfl rfl rfl) (hk := ?_) | refine sQ (hq := Quiet.pickAnd rfl rfl rfl rfl) (hk := ?_) | refine sQ (hk := ?_) | refine sSkip (hk := ?_) | refine sG (hk := ?_) | refine sOwn (hk := ?_))); refine aSeq_nil ?_)
        refine h21 _ ?_
        refine nT (hk := ?_)
        refine Awp.seq fun K22 h22 => ?_
        refine Awp.seq fun K23 h23 => ?_
        (refine Awp.region ?_; (repeat (first | refine sQ (hq := Quiet.lnS rfl rfl) (hk := ?_) | refine sQ (hq := Quiet.pickOr rfl rfl rfl rfl) (hk := ?_) | refine sQ (hq := Quiet.pickAnd rfl rfl rfl rfl) (hk := ?_) | refine sQ (hk := ?_) | refine sSkip (hk := ?_) | refine sG (hg := by first | rfl | exact gA_c rfl rfl) (hq := by (intro hg; (try simp only [Bool.and_eq_true, beq_iff_eq] at hg); (try simp only [hg, cond_true, Bool.true_and, beq_self_eq_true]); exact Quiet.lnS rfl rfl)) (hk := ?_) | refine sG (hk := ?_) | refine sOwn (hk := ?_))); refine aSeq_nil ?_)
        refine h23 _ ?_
        refine nT (hk := ?_)
        refine Awp.cond rfl (fun hb24 => ?_) (fun hb24 => ?_)
        · have e2 : bigB b = true := hb24
          have e : great14 p = true := by
            unfold great14
            rw [take_any hf hlt70 (show greatF f = true by unfold greatF; rw [take_any hb hkl300 e2, Bool.true_or, Bool.or_true])]
            rfl
          refine Awp.seq fun K25 h25 => ?_
          (refine Awp.region ?_; (repeat (first | refine sQ (hq := Quiet.pickOr rfl rfl rfl rfl) (hk := ?_) | refine sQ (hq := Quiet.pickAnd rfl rfl rfl rfl) (hk := ?_) | refine sQ (hk := ?_) | refine sSkip (hk := ?_) | refine sG (hk := ?_) | refine sOwn (hk := ?_))); refine aSeq_nil ?_)
          refine h25 _ ?_
          refine nT (hk := ?_)
          refine Awp.ret ?_
          rw [e]
          exact ⟨.inr rfl, Fin.cl rfl⟩
        · have e2 : bigB b = false := hb24
          refine Awp.skip ?_
          refine h22 _ ?_
          refine nT (hk := ?_)
          refine Awp.seq fun K26 h26 => ?_
          (refine Awp.region ?_; (repeat (first | refine sQ (hq := Quiet.pickOr rfl rfl rfl rfl) (hk := ?_) | refine sQ (hq := Quiet.pickAnd rfl rfl rfl rfl) (hk := ?_) | refine sQ (hk := ?_) | refine sSkip (hk := ?_) | refine sG (hk := ?_) | refine sOwn (hk := ?_))); refine aSeq_nil ?_)
          refine h26 _ ?_
          refine nT (hk := ?_)
          refine Awp.block ?_
          refine Awp.loopF (fun j : Nat => ⟨[.any, .ptr 0 0, .any, .lit (.int .i64 ((m0 + 1 + b.ins.length + sumA b.ins j : Nat) : Int)), .lit (.int .i64 (i : Int)), .lit (.int .i64 (k : Int)), .lit (.int .i64 (j : Int)), .any, .any, .any, .any, .any, .any, .any, .any, .any, .any, .any, .any, .any, .any, .any, .any, .any, .any, .any, .any, .any, .any, .any, .any, .any, .any, .any, .any, .any, .any, .any, .any, .any, .any, .any, .any, .any, .any, .any, .any, .any, .any, .any, .any, .any, .any, .any, .any, .any, .any, .any, .any, .any, .any, .any, .any, .any, .any, .any, .any, .any, .any, .any, .any, .any, .any, .any, .any, .any, .any, .any, .any, .any, .any, .any, .any, .any, .any, .any, .any, .any, .any, .any, .any, .any, .any, .any, .any, .any, .any, .any, .any, .any, .any, .any, .any, .any, .any, .any, .any, .any, .any, .any, .any, .any, .any, .any, .any, .any, .any, .any, .any, .any, .any, .any, .any, .any, .any, .any, .any, .any], [.box (encProg p)]⟩) (fun j => j ≤ b.ins.length ∧ j ≤ 300) (fun j => b.ins.length - j) 0 ⟨Nat.zero_le _, Nat.zero_le _⟩ (le_T) ?_
          rintro j ⟨hj, hj300⟩
          have hsa := sumA_le (l := b.ins) (fun y hy => by have := hbs.all y hy; omega) j
          refine Awp.seq fun K28 h28 => ?_
          refine Awp.seq fun K29 h29 => ?_
          (refine Awp.region ?_; (repeat (first | refine sQ (hq := Quiet.pickOr rfl rfl rfl rfl) (hk := ?_) | refine sQ (hq := Quiet.pickAnd rfl rfl rfl rfl) (hk := ?_) | refine sQ (hk := ?_) | refine sSkip (hk := ?_) | refine sG (hk := ?_) | refine sOwn (hk := ?_))); refine aSeq_nil ?_)
          refine h29 _ ?_
          refine nT (hk := ?_)
          refine Awp.cond rfl (fun hb30 => ?_) (fun hb30 => ?_)
          · have hgj := two_of hb30
            have hjl : j < b.ins.length := by simpa using hgj.1
            have hjl300 : j < 300 := by have := of_decide_eq_true hgj.2; omega
            obtain ⟨x, hx⟩ : ∃ x, b.ins[j]? = some x := ⟨_, List.getElem?_eq_getElem hjl⟩
            have hxa := hbs.all x (List.mem_of_getElem? hx)
            have hsx := sumA_succ hx
            refine Awp.skip ?_
            refine h28 _ ?_
            refine nT (hk := ?_)
            refine Awp.seq fun K31 h31 => ?_
            refine Awp.block ?_
            (refine Awp.region ?_; (repeat (first | refine sQ (hq := Quiet.pickOr rfl rfl rfl rfl) (hk := ?_) | refine sQ (hq := Quiet.pickAnd rfl rfl rfl rfl) (hk := ?_) | refine sQ (hk := ?_) | refine sSkip (hk := ?_) | refine sG (hk := ?_) | refine sOwn (hk := ?_))); refine aSeq_nil ?_)
            refine h31 _ ?_
            refine nT (hk := ?_)
            (refine Awp.region ?_; (repeat (first | refine sQ (hq := Quiet.pickOr rfl rfl rfl rfl) (hk := ?_) | refine sQ (hq := Quiet.pickAnd rfl rfl rfl rfl) (hk := ?_) | refine sQ (hk := ?_) | refine sSkip (hk := ?_) | refine sG (hk := ?_) | refine sOwn (hk := ?_))); refine aSeq_nil ?_)
            refine athen_n ⟨j + 1, ⟨by omega, by omega⟩, by omega, ?_⟩
            rw [hsx, ← Nat.add_assoc]
            exact le_T
          · have hje : sumA b.ins j = sumA b.ins 300 := by
              unfold sumA
              rw [take_end hj (fun h => by
                have h1 : decide ((j : Int) < (b.ins.length : Int)) = true := by simpa using h.1
                have h2 : decide ((j : Int) < 300) = true := by simp; omega
                rw [h1, h2] at hb30
                cases hb30) hj300]
            have hnew : m0 + 1 + b.ins.length + sumA b.ins 300 = n0 + sumBk f.blocks (k + 1) := by rw [hsb, ← hm0]; unfold cntB; omega
            rw [hje, hnew]
            refine Awp.exit ?_
            refine h20 _ ?_
            refine nT (hk := ?_)
            (refine Awp.region ?_; (repeat (first | refine sQ (hq := Quiet.pickOr rfl rfl rfl rfl) (hk := ?_) | refine sQ (hq := Quiet.pickAnd rfl rfl rfl rfl) (hk := ?_) | refine sQ (hk := ?_) | refine sSkip (hk := ?_) | refine sG (hk := ?_) | refine sOwn (hk := ?_))); refine aSeq_nil ?_)
            refine athen_n ⟨k + 1, ⟨by omega, by omega, any_step hb hnk e2⟩, by omega, ?_⟩
            exact le_T
      · have hke : f.blocks.take k = f.blocks.take 300 := take_end hk (fun h => by
          have h1 : decide ((k : Int) < (f.blocks.length : Int)) = true := by simpa using h.1
          have h2 : decide ((k : Int) < 300) = true := by simp; omega
          rw [h1, h2] at hb19
          cases hb19) hk300
        have hsk3 : sumBk f.blocks k = sumBk f.blocks 300 := by unfold sumBk; rw [hke]
        rw [hke] at hnk
        rw [hsk3, ← hsf]
        refine Awp.exit ?_
        refine h14 _ ?_
        refine nT (hk := ?_)
        refine Awp.seq fun K32 h32 => ?_
        (refine Awp.region ?_; (repeat (first | refine sQ (hq := Quiet.pickOr rfl rfl rfl rfl) (hk := ?_) | refine sQ (hq := Quiet.pickAnd rfl rfl rfl rfl) (hk := ?_) | refine sQ (hk := ?_) | refine sSkip (hk := ?_) | refine sG (hk := ?_) | refine sOwn (hk := ?_))); refine aSeq_nil ?_)
        refine h32 _ ?_
        refine nT (hk := ?_)
        refine Awp.cond rfl (fun hb33 => ?_) (fun hb33 => ?_)
        · have e : great14 p = true := by
            unfold great14
            rw [take_any hf hlt70 (show greatF f = true by unfold greatF; rw [show decide ((f.blocks.length : Int) > 100) = true from hb33, Bool.or_true, Bool.or_true])]
            rfl
          refine Awp.seq fun K34 h34 => ?_
          (refine Awp.region ?_; (repeat (first | refine sQ (hq := Quiet.pickOr rfl rfl rfl rfl) (hk := ?_) | refine sQ (hq := Quiet.pickAnd rfl rfl rfl rfl) (hk := ?_) | refine sQ (hk := ?_) | refine sSkip (hk := ?_) | refine sG (hk := ?_) | refine sOwn (hk := ?_))); refine aSeq_nil ?_)
          refine h34 _ ?_
          refine nT (hk := ?_)
          refine Awp.ret ?_
          rw [e]
          exact ⟨.inr rfl, Fin.cl rfl⟩
        · refine Awp.skip ?_
          refine h9 _ ?_
          refine nT (hk := ?_)
          (refine Awp.region ?_; (repeat (first | refine sQ (hq := Quiet.pickOr rfl rfl rfl rfl) (hk := ?_) | refine sQ (hq := Quiet.pickAnd rfl rfl rfl rfl) (hk := ?_) | refine sQ (hk := ?_) | refine sSkip (hk := ?_) | refine sG (hk := ?_) | refine sOwn (hk := ?_))); refine aSeq_nil ?_)
          refine athen_n ⟨i + 1, ⟨by omega, by omega, any_step hf hno (by unfold greatF; rw [e1, hnk, show decide ((f.blocks.length : Int) > 100) = false from hb33]; rfl)⟩, by omega, ?_⟩
          exact le_T
  · have hie : p.funcs.take i = p.funcs.take 70 := take_end hi (fun h => by
      have h1 : decide ((i : Int) < (p.funcs.length : Int)) = true := by simpa using h.1
      have h2 : decide ((i : Int) < 70) = true := by simp; omega
      rw [h1, h2] at hb8
      cases hb8) hi70
    have hs70 : sumFn p.funcs i = sumFn p.funcs 70 := by unfold sumFn; rw [hie]
    rw [hie] at hno
    have e : great14 p = (decide ((p.funcs.length : Int) > 66) || decide ((sumFn p.funcs 70 : Int) > 600)) := by unfold great14; rw [hno]; rfl
    rw [hs70]
    refine Awp.exit ?_
    refine h3 _ ?_
    refine nT (hk := ?_)
    refine Awp.seq fun K35 h35 => ?_
    (refine Awp.region ?_; (repeat (first | refine sQ (hq := Quiet.pickOr rfl rfl rfl rfl) (hk := ?_) | refine sQ (hq := Quiet.pickAnd rfl rfl rfl rfl) (hk := ?_) | refine sQ (hk := ?_) | refine sSkip (hk := ?_) | refine sG (hk := ?_) | refine sOwn (hk := ?_))); refine aSeq_nil ?_)
    refine h35 _ ?_
    refine nT (hk := ?_)
    refine Awp.ret ?_
    rw [e]
    exact ⟨.inr rfl, Fin.cl rfl⟩
end Mu
end
section
/-
  bound: args, rows, some, places, Places, Kept, Name, walked.
  Conditions: at most 2^21 of everything; places below 132.
-/
namespace Mu
open Go Go.RowKit Go.Proofs

/-! ### texts -/
section
variable {P : Program} {C : Ctx} {t : List AV} {h : List ABlk} {o : Oper}
theorem Quiet.cutS2 {ty : TypeId} {x y z : Operand} {s : ByteArray} {k m : Nat} {ik ik' : IntKind} [StrT P ty] (ho : o.op = .slice ty x (some y) (some z) none) (hx : evA t x = .lit (.string s)) (hy : evA t y = .lit (.int ik (k : Int))) (hz : evA t z = .lit (.int ik' (m : Int))) (hk : k ≤ m) (hm : m ≤ s.size) : Quiet P C t h o (.lit (.string (s.extract k m))) :=
  Quiet.of_run fun S ψ w ρ H hρ => by
    have h1 := hρ x (by simp [ho, Op.operands])
    have h2 := hρ y (by simp [ho, Op.operands])
    have h3 := hρ z (by simp [ho, Op.operands])
    rw [hx] at h1
    rw [hy] at h2
    rw [hz] at h3
    unfold AV.rel at h1 h2 h3
    have hr := run_slice_string (P := P) w ty s ik ik' (k : Int) (m : Int) (StrT.eq (P := P) (ty := ty)) (by omega) (by omega) (by omega)
    rw [show ((k : Int).toNat) = k from rfl, show ((m : Int).toNat) = m from rfl] at hr
    exact ⟨_, by simp [execOp, ho, h1, h2, h3, run_sliceAt_string (P := P) w ty _ _ _ _ (StrT.eq (P := P) (ty := ty)), hr]; rfl, by unfold AV.rel; rfl⟩
theorem Quiet.catS {xt yt : TypeId} {x y : Operand} {a b : ByteArray} (ho : o.op = .binOp .add xt x y yt) (hx : evA t x = .lit (.string a)) (hy : evA t y = .lit (.string b)) (hl : a.size + b.size ≤ 1000000) : Quiet P C t h o (.lit (.string (a ++ b))) :=
  Quiet.of_run fun S ψ w ρ H hρ => by
    have h1 := hρ x (by simp [ho, Op.operands])
    have h2 := hρ y (by simp [ho, Op.operands])
    rw [hx] at h1
    rw [hy] at h2
    unfold AV.rel at h1 h2
    have hb : ¬ (9223372036854775807 < (a.size : Int) + (b.size : Int)) := by omega
    have hg : eqGuard BinOp.add xt x y (Value.string a) (Value.string b) = pure () := rfl
    exact ⟨_, by simp [execOp, ho, h1, h2, binOp_string_add, Op.stringOp, hg, hb]; rfl, by unfold AV.rel; rfl⟩
end

/-! ### how many arguments -/
def argsI (f : Func) : Int := if (6 : Int) < (if (0 : Int) > f.args then 0 else f.args) then 6 else (if (0 : Int) > f.args then 0 else f.args)
def argsK (f : Func) : Nat := (argsI f).toNat
theorem argsK_eq (f : Func) : argsI f = (argsK f : Int) ∧ argsK f ≤ 6 := by
  unfold argsK argsI
  constructor <;> (split <;> split <;> omega)
set_option maxRecDepth 100000 in
theorem args21_fn (f : Func) : Fn Tryd.prog 20 [.agg (encFunc f)] (.lit (.int .i64 (argsK f : Int))) := by
  refine Fn.of_awp Tryd.func20 rfl (by kernel_rfl) rfl Tryd.ntmps20 fun C hC => ?_
  simp only [List.length_cons, List.length_nil, Nat.reduceAdd, Nat.reduceSub, List.replicate_succ, List.replicate_zero, List.cons_append, List.nil_append]
  refine Awp.seq fun K1 h1 => ?_
  (refine Awp.region ?_; (repeat (first | refine sQ (hq := Quiet.pickOr rfl rfl rfl rfl) (hk := ?_) | refine sQ (hq := Quiet.pickAnd rfl rfl rfl rfl) (hk := ?_) | refine sQ (hk := ?_) | refine sSkip (hk := ?_) | refine sG (hk := ?_) | refine sOwn (hk := ?_))); refine aSeq_nil ?_)
  refine h1 _ ?_
  refine nT (hk := ?_)
  refine Awp.seq fun K2 h2 => ?_
  (refine Awp.region ?_; (repeat (first | refine sQ (hq := Quiet.pickOr rfl rfl rfl rfl) (hk := ?_) | refine sQ (hq := Quiet.pickAnd rfl rfl rfl rfl) (hk := ?_) | refine sQ (hk := ?_) | refine sSkip (hk := ?_) | refine sG (hk := ?_) | refine sOwn (hk := ?_))); refine aSeq_nil ?_)
  refine h2 _ ?_
  refine nT (hk := ?_)
  refine Awp.ret ?_
  rw [← (argsK_eq f).1]
  exact ⟨.inr rfl, Fin.cl rfl⟩

/-! ### places -/
def fewP : List Int := [8, 9, 10, 11, 12, 13, 4]
def locP : List Int := [16, 17, 18, 19, 20, 21, 22, 23]
def insP : List Int := [24, 25, 26, 27, 28, 29]
def rowP (i : Int) : List Int := if i = 0 then fewP else if i = 1 then locP else insP
theorem arr3 : arrOf Tryd.prog 109 = some (3, 1) := by kernel_rfl
theorem z3 : zeroCells? Tryd.prog 109 = some [.slice none 0 0, .slice none 0 0, .slice none 0 0] := by kernel_rfl
theorem agg3 : aggT Tryd.prog 109 = some (true, 3) := by kernel_rfl
instance inMuBound1 : ZC Tryd.prog 109 [.slice none 0 0, .slice none 0 0, .slice none 0 0] := ⟨by kernel_rfl⟩
instance inMuBound2 : AG Tryd.prog 109 true 3 := ⟨by kernel_rfl⟩
instance inMuBound3 : SZ Tryd.prog 109 3 := ⟨by kernel_rfl⟩
theorem wf_dec {n : Int} (h : (Lit.int .i64 n).wf = true) : wfI .i64 n := h
theorem fits_lits {h : List ABlk} : ∀ l : List Int, okInts l → Fits h tInt (l.map fun n => .lit (.int .i64 n)) l
  | [], _ => .nil
  | n :: l, hw => .cons (Fit.int (hw n (by simp))) (fits_lits l fun x hx => hw x (by simp [hx]))
theorem okI_list {l : List Int} (h : (l.all fun n => (Lit.int .i64 n).wf) = true) : okInts l := fun r hr => List.all_eq_true.1 h r hr
set_option maxRecDepth 100000 in
set_option maxHeartbeats 1000000 in
theorem rows21_fn : Fn Tryd.prog 70 [] (.agg [.bs tInt fewP, .bs tInt locP, .bs tInt insP]) := by
  refine Fn.of_awpC Tryd.func70 rfl (by kernel_rfl) rfl agg3 Tryd.ntmps70 fun C hC => ?_
  simp only [List.length_nil, Nat.sub_zero, List.replicate_succ, List.replicate_zero, List.nil_append]
  refine Awp.seq fun K1 h1 => ?_
  (refine Awp.region ?_; (repeat (first | refine sQ (hq := Quiet.pickOr rfl rfl rfl rfl) (hk := ?_) | refine sQ (hq := Quiet.pickAnd rfl rfl rfl rfl) (hk := ?_) | refine sQ (hk := ?_) | refine sSkip (hk := ?_) | refine sG (hk := ?_) | refine sOwn (hk := ?_))); refine aSeq_nil ?_)
  refine h1 _ ?_
  refine nT (hk := ?_)
  refine Awp.seq fun K2 h2 => ?_
  (refine Awp.region ?_; (repeat (first | refine sQ (hq := Quiet.lt (xs := [.const (.int .i64 8), .const (.int .i64 9), .const (.int .i64 10), .const (.int .i64 11), .const (.int .i64 12), .const (.int .i64 13), .const (.int .i64 4)]) (T := tInt) (ds := fewP) rfl rfl rfl (by rfl) (by decide) (fits_lits fewP (okI_list (by decide)))) (hk := ?_) | refine sQ (hq := Quiet.lt (xs := [.const (.int .i64 16), .const (.int .i64 17), .const (.int .i64 18), .const (.int .i64 19), .const (.int .i64 20), .const (.int .i64 21), .const (.int .i64 22), .const (.int .i64 23)]) (T := tInt) (ds := locP) rfl rfl rfl (by rfl) (by decide) (fits_lits locP (okI_list (by decide)))) (hk := ?_) | refine sQ (hq := Quiet.lt (xs := [.const (.int .i64 24), .const (.int .i64 25), .const (.int .i64 26), .const (.int .i64 27), .const (.int .i64 28), .const (.int .i64 29)]) (T := tInt) (ds := insP) rfl rfl rfl (by rfl) (by decide) (fits_lits insP (okI_list (by decide)))) (hk := ?_) | refine sQ (hq := Quiet.bldA rfl z3 arr3 rfl rfl) (hk := ?_) | refine sQ (hq := Quiet.pickOr rfl rfl rfl rfl) (hk := ?_) | refine sQ (hq := Quiet.pickAnd rfl rfl rfl rfl) (hk := ?_) | refine sQ (hk := ?_) | refine sSkip (hk := ?_) | refine sG (hg := by first | rfl | exact gA_c rfl rfl) (hq := by (intro hg; (try simp only [] at hg); (try simp only [hg, cond_true, Bool.true_and, beq_self_eq_true]); exact Quiet.lt (xs := [.const (.int .i64 8), .const (.int .i64 9), .const (.int .i64 10), .const (.int .i64 11), .const (.int .i64 12), .const (.int .i64 13), .const (.int .i64 4)]) (T := tInt) (ds := fewP) rfl rfl rfl (by rfl) (by decide) (fits_lits fewP (okI_list (by decide))))) (hk := ?_) | refine sG (hg := by first | rfl | exact gA_c rfl rfl) (hq := by (intro hg; (try simp only [] at hg); (try simp only [hg, cond_true, Bool.true_and, beq_self_eq_true]); exact Quiet.lt (xs := [.const (.int .i64 16), .const (.int .i64 17), .const (.int .i64 18), .const (.int .i64 19), .const (.int .i64 20), .const (.int .i64 21), .const (.int .i64 22), .const (.int .i64 23)]) (T := tInt) (ds := locP) rfl rfl rfl (by rfl) (by decide) (fits_lits locP (okI_list (by decide))))) (hk := ?_) | refine sG (hg := by first | rfl | exact gA_c rfl rfl) (hq := by (intro hg; (try simp only [] at hg); (try simp only [hg, cond_true, Bool.true_and, beq_self_eq_true]); exact Quiet.lt (xs := [.const (.int .i64 24), .const (.int .i64 25), .const (.int .i64 26), .const (.int .i64 27), .const (.int .i64 28), .const (.int .i64 29)]) (T := tInt) (ds := insP) rfl rfl rfl (by rfl) (by decide) (fits_lits insP (okI_list (by decide))))) (hk := ?_) | refine sG (hg := by first | rfl | exact gA_c rfl rfl) (hq := by (intro hg; (try simp only [] at hg); (try simp only [hg, cond_true, Bool.true_and, beq_self_eq_true]); exact Quiet.bldA rfl z3 arr3 rfl rfl)) (hk := ?_) | refine sG (hk := ?_) | refine sOwn (hk := ?_))); refine aSeq_nil ?_)
  refine h2 _ ?_
  refine nT (hk := ?_)
  refine Awp.ret ?_
  exact ⟨⟨.inr rfl, 0, _, rfl, rfl, Fin.cl rfl⟩, fun i cells e hi => by cases e; cases hi; rfl⟩
def someP (l : List Int) : List Int := l.flatMap rowP
theorem rowP_len (i : Int) : (rowP i).length ≤ 8 := by
  unfold rowP
  split
  · decide
  · split <;> decide
theorem someP_len (l : List Int) : (someP l).length ≤ 8 * l.length := by
  induction l with
  | nil => simp [someP]
  | cons x l ih =>
    have := rowP_len x
    unfold someP at ih ⊢
    rw [List.flatMap_cons, List.length_append, List.length_cons]
    omega
set_option maxRecDepth 100000 in
set_option maxHeartbeats 1000000 in
theorem some21_fn (l : List Int) (hl : l.length ≤ 3) (h3 : ∀ i ∈ l, i = 0 ∨ i = 1 ∨ i = 2) : Fn Tryd.prog 44 [.bs tInt l] (.bs tInt (someP l)) := by
  refine Fn.of_awp Tryd.func44 rfl (by kernel_rfl) rfl Tryd.ntmps44 fun C hC => ?_
  simp only [List.length_cons, List.length_nil, Nat.reduceAdd, Nat.reduceSub, List.replicate_succ, List.replicate_zero, List.cons_append, List.nil_append]
  refine Awp.seq fun K1 h1 => ?_
  (refine Awp.region ?_; (repeat (first | refine sQ (hq := Quiet.pickOr rfl rfl rfl rfl) (hk := ?_) | refine sQ (hq := Quiet.pickAnd rfl rfl rfl rfl) (hk := ?_) | refine sQ (hk := ?_) | refine sSkip (hk := ?_) | refine sG (hk := ?_) | refine sOwn (hk := ?_))); refine aSeq_nil ?_)
  refine h1 _ ?_
  refine nT (hk := ?_)
  refine Awp.seq fun K2 h2 => ?_
  (refine Awp.region ?_; (repeat (first | refine sQ (hq := Quiet.call rfl rows21_fn rfl rfl rfl) (hk := ?_) | refine sQ (hq := Quiet.pickOr rfl rfl rfl rfl) (hk := ?_) | refine sQ (hq := Quiet.pickAnd rfl rfl rfl rfl) (hk := ?_) | refine sQ (hk := ?_) | refine sSkip (hk := ?_) | refine sG (hg := by first | rfl | exact gA_c rfl rfl) (hq := by (intro hg; (try simp only [] at hg); (try simp only [hg, cond_true, Bool.true_and, beq_self_eq_true]); exact Quiet.call rfl rows21_fn rfl rfl rfl)) (hk := ?_) | refine sG (hk := ?_) | refine sOwn (hk := ?_))); refine aSeq_nil ?_)
  refine h2 _ ?_
  refine nT (hk := ?_)
  refine Awp.seq fun K3 h3' => ?_
  (refine Awp.region ?_; (repeat (first | refine sQ (hq := Quiet.pickOr rfl rfl rfl rfl) (hk := ?_) | refine sQ (hq := Quiet.pickAnd rfl rfl rfl rfl) (hk := ?_) | refine sQ (hk := ?_) | refine sSkip (hk := ?_) | refine sG (hk := ?_) | refine sOwn (hk := ?_))); refine aSeq_nil ?_)
  refine h3' _ ?_
  refine nT (hk := ?_)
  refine Awp.seq fun K4 h4 => ?_
  refine Awp.seq fun K5 h5 => ?_
  (refine Awp.region ?_; (repeat (first | refine sQ (hq := Quiet.pickOr rfl rfl rfl rfl) (hk := ?_) | refine sQ (hq := Quiet.pickAnd rfl rfl rfl rfl) (hk := ?_) | refine sQ (hk := ?_) | refine sSkip (hk := ?_) | refine sG (hk := ?_) | refine sOwn (hk := ?_))); refine aSeq_nil ?_)
  refine h5 _ ?_
  refine nT (hk := ?_)
  refine Awp.block ?_
  refine Awp.loopF (fun p : Nat × Nat => ⟨[.any, .any, .any, .ptr 0 0, .own 1 p.2, .any, .any, .any, .bs tInt l, .lit (.int .i64 (l.length : Int)), .lit (.int .i64 (p.1 : Int)), .any, .any, .any, .any, .any, .any, .any, .any, .any, .any], [.box [.bs tInt fewP, .bs tInt locP, .bs tInt insP], .row p.2 3 tInt (someP (l.take p.1))]⟩) (fun p => p.1 ≤ l.length) (fun p => l.length - p.1) (0, 0) (Nat.zero_le _) ((St.le_nil 4 3 tInt rfl (by decide)).trans (le_T)) ?_
  rintro ⟨k, ver⟩ hk
  dsimp only at hk ⊢
  refine Awp.seq fun K7 h7 => ?_
  (refine Awp.region ?_; (repeat (first | refine sQ (hq := Quiet.pickOr rfl rfl rfl rfl) (hk := ?_) | refine sQ (hq := Quiet.pickAnd rfl rfl rfl rfl) (hk := ?_) | refine sQ (hk := ?_) | refine sSkip (hk := ?_) | refine sG (hk := ?_) | refine sOwn (hk := ?_))); refine aSeq_nil ?_)
  refine h7 _ ?_
  refine nT (hk := ?_)
  refine Awp.seq fun K8 h8 => ?_
  refine Awp.cond rfl (fun hb9 => ?_) (fun hb9 => ?_)
  · have hlt : k < l.length := by simpa using hb9
    obtain ⟨i, hi⟩ : ∃ i, l[k]? = some i := ⟨_, List.getElem?_eq_getElem hlt⟩
    have hlen := someP_len (l.take k)
    have hrl := rowP_len i
    have htk : (l.take k).length ≤ 3 := by simp; omega
    have hsn : someP (l.take (k + 1)) = someP (l.take k) ++ rowP i := by unfold someP; rw [List.take_add_one, hi, List.flatMap_append]; simp
    have hn1 : (someP (l.take k)).length + (rowP i).length ≤ maxLen := by unfold maxLen; omega
    have hn2 : ((someP (l.take k)).length + (rowP i).length) * 8 ≤ 140737488355328 := by omega
    refine Awp.skip ?_
    refine h8 _ ?_
    refine nT (hk := ?_)
    refine Awp.seq fun K10 h10 => ?_
    refine Awp.block ?_
    refine Awp.seq fun K11 h11 => ?_
    (refine Awp.region ?_; (repeat (first | refine sQ (hq := Quiet.pickOr rfl rfl rfl rfl) (hk := ?_) | refine sQ (hq := Quiet.pickAnd rfl rfl rfl rfl) (hk := ?_) | refine sQ (hk := ?_) | refine sSkip (hk := ?_) | refine sG (hk := ?_) | refine sOwn (hk := ?_))); refine aSeq_nil ?_)
    refine h11 _ ?_
    refine nT (hk := ?_)
    rcases h3 i (List.mem_of_getElem? hi) with rfl | rfl | rfl
    · rw [show rowP 0 = fewP from rfl] at hn1 hn2 hsn
      (refine Awp.region ?_; (repeat (first | refine sQ (hq := Quiet.ixArr (k := 0) (n := 3) arr3 rfl rfl rfl rfl (by omega)) (hk := ?_) | refine sQ (hq := Quiet.pickOr rfl rfl rfl rfl) (hk := ?_) | refine sQ (hq := Quiet.pickAnd rfl rfl rfl rfl) (hk := ?_) | refine sQ (hk := ?_) | refine sSkip (hk := ?_) | refine sG (hg := by first | rfl | exact gA_c rfl rfl) (hq := by (intro hg; (try simp only [] at hg); (try simp only [hg, cond_true, Bool.true_and, beq_self_eq_true]); exact Quiet.ixArr (k := 0) (n := 3) arr3 rfl rfl rfl rfl (by omega))) (hk := ?_) | refine sG (hk := ?_) | refine sOwn (hk := ?_))); refine aSeq_nil ?_)
      refine h10 _ ?_
      refine nT (hk := ?_)
      (refine Awp.region ?_; (repeat (first | refine sQ (hq := Quiet.pickOr rfl rfl rfl rfl) (hk := ?_) | refine sQ (hq := Quiet.pickAnd rfl rfl rfl rfl) (hk := ?_) | refine sQ (hk := ?_) | refine sSkip (hk := ?_) | refine sG (hk := ?_) | refine sOwn (hk := ?_))); refine aSeq_nil ?_)
      refine athen_n ⟨(k + 1, ver + 1), by dsimp only; omega, by dsimp only; omega, ?_⟩
      dsimp only
      rw [hsn]
      exact le_T
    · rw [show rowP 1 = locP from rfl] at hn1 hn2 hsn
      (refine Awp.region ?_; (repeat (first | refine sQ (hq := Quiet.ixArr (k := 1) (n := 3) arr3 rfl rfl rfl rfl (by omega)) (hk := ?_) | refine sQ (hq := Quiet.pickOr rfl rfl rfl rfl) (hk := ?_) | refine sQ (hq := Quiet.pickAnd rfl rfl rfl rfl) (hk := ?_) | refine sQ (hk := ?_) | refine sSkip (hk := ?_) | refine sG (hg := by first | rfl | exact gA_c rfl rfl) (hq := by (intro hg; (try simp only [] at hg); (try simp only [hg, cond_true, Bool.true_and, beq_self_eq_true]); exact Quiet.ixArr (k := 1) (n := 3) arr3 rfl rfl rfl rfl (by omega))) (hk := ?_) | refine sG (hk := ?_) | refine sOwn (hk := ?_))); refine aSeq_nil ?_)
      refine h10 _ ?_
      refine nT (hk := ?_)
      (refine Awp.region ?_; (repeat (first | refine sQ (hq := Quiet.pickOr rfl rfl rfl rfl) (hk := ?_) | refine sQ (hq := Quiet.pickAnd rfl rfl rfl rfl) (hk := ?_) | refine sQ (hk := ?_) | refine sSkip (hk := ?_) | refine sG (hk := ?_) | refine sOwn (hk := ?_))); refine aSeq_nil ?_)
      refine athen_n ⟨(k + 1, ver + 1), by dsimp only; omega, by dsimp only; omega, ?_⟩
      dsimp only
      rw [hsn]
      exact le_T
    · rw [show rowP 2 = insP from rfl] at hn1 hn2 hsn
      (refine Awp.region ?_; (repeat (first | refine sQ (hq := Quiet.ixArr (k := 2) (n := 3) arr3 rfl rfl rfl rfl (by omega)) (hk := ?_) | refine sQ (hq := Quiet.pickOr rfl rfl rfl rfl) (hk := ?_) | refine sQ (hq := Quiet.pickAnd rfl rfl rfl rfl) (hk := ?_) | refine sQ (hk := ?_) | refine sSkip (hk := ?_) | refine sG (hg := by first | rfl | exact gA_c rfl rfl) (hq := by (intro hg; (try simp only [] at hg); (try simp only [hg, cond_true, Bool.true_and, beq_self_eq_true]); exact Quiet.ixArr (k := 2) (n := 3) arr3 rfl rfl rfl rfl (by omega))) (hk := ?_) | refine sG (hk := ?_) | refine sOwn (hk := ?_))); refine aSeq_nil ?_)
      refine h10 _ ?_
      refine nT (hk := ?_)
      (refine Awp.region ?_; (repeat (first | refine sQ (hq := Quiet.pickOr rfl rfl rfl rfl) (hk := ?_) | refine sQ (hq := Quiet.pickAnd rfl rfl rfl rfl) (hk := ?_) | refine sQ (hk := ?_) | refine sSkip (hk := ?_) | refine sG (hk := ?_) | refine sOwn (hk := ?_))); refine aSeq_nil ?_)
      refine athen_n ⟨(k + 1, ver + 1), by dsimp only; omega, by dsimp only; omega, ?_⟩
      dsimp only
      rw [hsn]
      exact le_T
  · have hke : k = l.length := by have : ¬ k < l.length := by simpa using hb9
                                  omega
    subst hke
    rw [List.take_length]
    refine Awp.exit ?_
    refine h4 _ ?_
    refine nT (hk := ?_)
    refine Awp.seq fun K12 h12 => ?_
    (refine Awp.region ?_; (repeat (first | refine sQ (hq := Quiet.pickOr rfl rfl rfl rfl) (hk := ?_) | refine sQ (hq := Quiet.pickAnd rfl rfl rfl rfl) (hk := ?_) | refine sQ (hk := ?_) | refine sSkip (hk := ?_) | refine sG (hk := ?_) | refine sOwn (hk := ?_))); refine aSeq_nil ?_)
    refine h12 _ ?_
    refine nT (hk := ?_)
    refine Awp.ret ?_
    exact ⟨.inr rfl, Fin.own rfl⟩

/-! ### the search in a rising row -/
theorem search_fn (l : List Int) (r : Int) (ha : Asc l) (hl : l.length ≤ 2147483648) : Fn Tryd.prog 45 [.bs tInt l, .lit (.int .i64 r)] (.tup [.lit (.int .i64 ((l.countP (· < r) : Nat) : Int)), .lit (.bool (l.contains r))]) := by
  refine ⟨by kernel_rfl, fun w S vs hS hr => ?_⟩
  unfold AV.relL at hr
  obtain ⟨v, us, rfl, hv, h1⟩ := hr
  obtain ⟨us', rfl, h0⟩ := rel_lit1 h1
  unfold AV.relL at h0
  subst h0
  unfold AV.rel at hv
  have hgood : ∀ (n : Nat) (b : Bool) (w' : World), Below w.heap.size w w' → n = l.countP (· < r) → b = l.contains r → Good w S [] ψ0 (.tup [.lit (.int .i64 ((l.countP (· < r) : Nat) : Int)), .lit (.bool (l.contains r))]) (.tuple #[.int .i64 (n : Int), .bool b]) w' := fun n b w' hb e1 e2 => by
    subst e1 e2
    refine ⟨hb, S, fun _ h => h, fun _ h => .inl h, fun k hk => Nat.lt_of_lt_of_le (hS k hk) hb.size, ?_⟩
    unfold AV.rel
    exact ⟨[.int .i64 ((l.countP (· < r) : Nat) : Int), .bool (l.contains r)], rfl, relL_litL [.int .i64 ((l.countP (· < r) : Nat) : Int), .bool (l.contains r)]⟩
  obtain ⟨A, c, rfl⟩ := slice_form hv
  by_cases hz : l = []
  · subst hz
    refine (Tryd.slices_BinarySearch_int_empty A c r w).mono fun e w' ⟨he, hw⟩ => ?_
    subst hw
    exact ⟨_, he, hgood 0 false w' (Below.refl _ _) rfl rfl⟩
  · have hpos : 0 < l.length := List.length_pos_iff.2 hz
    obtain ⟨b, o, e, _⟩ := int_at hv (List.getElem?_eq_getElem hpos)
    cases e
    refine (Tryd.slices_BinarySearch_int b o l.length c l r w (Nat.le_refl _) (by omega) (fun j hj => ?_) ?_).mono fun e w' ⟨he, q, hw⟩ => ?_
    · obtain ⟨b', o', e', _, hc, _⟩ := int_at hv (List.getElem?_eq_getElem hj)
      cases e'
      rw [hc]
      simp [List.getD, hj]
    · rw [List.take_length]
      exact ha.imp fun {a b} h => by omega
    · rw [List.take_length] at he
      subst hw
      exact ⟨_, he, hgood _ _ _ (bdrew (Below.refl _ _) q) rfl rfl⟩

def placesP (cross : List Int) (r : Int) (leaf : Bool) : List Int := if leaf then someP [0] else if cross.contains r then someP [1, 2] else someP [0, 1, 2]
set_option maxRecDepth 100000 in
set_option maxHeartbeats 1000000 in
theorem places21_fn (cross : List Int) (r : Int) (leaf : Bool) (ha : Asc cross) (hl : cross.length ≤ 2147483648) : Fn Tryd.prog 28 [.bs tInt cross, .lit (.int .i64 r), .lit (.bool leaf)] (.bs tInt (placesP cross r leaf)) := by
  refine Fn.of_awp Tryd.func28 rfl (by kernel_rfl) rfl Tryd.ntmps28 fun C hC => ?_
  have w0 : okInts [0] := okI_list (by decide)
  have w1 : okInts [1, 2] := okI_list (by decide)
  have w2 : okInts [0, 1, 2] := okI_list (by decide)
  simp only [List.length_cons, List.length_nil, Nat.reduceAdd, Nat.reduceSub, List.replicate_succ, List.replicate_zero, List.cons_append, List.nil_append]
  refine Awp.seq fun K1 h1 => ?_
  (refine Awp.region ?_; (repeat (first | refine sQ (hq := Quiet.pickOr rfl rfl rfl rfl) (hk := ?_) | refine sQ (hq := Quiet.pickAnd rfl rfl rfl rfl) (hk := ?_) | refine sQ (hk := ?_) | refine sSkip (hk := ?_) | refine sG (hk := ?_) | refine sOwn (hk := ?_))); refine aSeq_nil ?_)
  refine h1 _ ?_
  refine nT (hk := ?_)
  refine Awp.seq fun K2 h2 => ?_
  refine Awp.seq fun K3 h3 => ?_
  (refine Awp.region ?_; (repeat (first | refine sQ (hq := Quiet.pickOr rfl rfl rfl rfl) (hk := ?_) | refine sQ (hq := Quiet.pickAnd rfl rfl rfl rfl) (hk := ?_) | refine sQ (hk := ?_) | refine sSkip (hk := ?_) | refine sG (hk := ?_) | refine sOwn (hk := ?_))); refine aSeq_nil ?_)
  refine h3 _ ?_
  refine nT (hk := ?_)
  refine Awp.cond rfl (fun hb4 => ?_) (fun hb4 => ?_)
  · subst hb4
    refine Awp.seq fun K5 h5 => ?_
    (refine Awp.region ?_; (repeat (first | refine sQ (hq := Quiet.lt (xs := [.const (.int .i64 0)]) (T := tInt) (ds := [0]) rfl rfl rfl (by rfl) (by decide) (fits_lits [0] w0)) (hk := ?_) | refine sQ (hq := Quiet.call rfl (some21_fn [0] (by decide) (by decide)) rfl rfl rfl) (hk := ?_) | refine sQ (hq := Quiet.pickOr rfl rfl rfl rfl) (hk := ?_) | refine sQ (hq := Quiet.pickAnd rfl rfl rfl rfl) (hk := ?_) | refine sQ (hk := ?_) | refine sSkip (hk := ?_) | refine sG (hg := by first | rfl | exact gA_c rfl rfl) (hq := by (intro hg; (try simp only [Bool.and_eq_true, beq_iff_eq] at hg); (try simp only [hg, cond_true, Bool.true_and, beq_self_eq_true]); exact Quiet.lt (xs := [.const (.int .i64 0)]) (T := tInt) (ds := [0]) rfl rfl rfl (by rfl) (by decide) (fits_lits [0] w0))) (hk := ?_) | refine sG (hg := by first | rfl | exact gA_c rfl rfl) (hq := by (intro hg; (try simp only [Bool.and_eq_true, beq_iff_eq] at hg); (try simp only [hg, cond_true, Bool.true_and, beq_self_eq_true]); exact Quiet.call rfl (some21_fn [0] (by decide) (by decide)) rfl rfl rfl)) (hk := ?_) | refine sG (hk := ?_) | refine sOwn (hk := ?_))); refine aSeq_nil ?_)
    refine h5 _ ?_
    refine nT (hk := ?_)
    refine Awp.ret ?_
    exact ⟨.inr rfl, Fin.cl rfl⟩
  · subst hb4
    refine Awp.skip ?_
    refine h2 _ ?_
    refine nT (hk := ?_)
    refine Awp.seq fun K6 h6 => ?_
    refine Awp.seq fun K7 h7 => ?_
    (refine Awp.region ?_; (repeat (first | refine sQ (hq := Quiet.call rfl (search_fn cross r ha hl) rfl rfl rfl) (hk := ?_) | refine sQ (hq := Quiet.pickOr rfl rfl rfl rfl) (hk := ?_) | refine sQ (hq := Quiet.pickAnd rfl rfl rfl rfl) (hk := ?_) | refine sQ (hk := ?_) | refine sSkip (hk := ?_) | refine sG (hg := by first | rfl | exact gA_c rfl rfl) (hq := by (intro hg; (try simp only [Bool.and_eq_true, beq_iff_eq] at hg); (try simp only [hg, cond_true, Bool.true_and, beq_self_eq_true]); exact Quiet.call rfl (search_fn cross r ha hl) rfl rfl rfl)) (hk := ?_) | refine sG (hk := ?_) | refine sOwn (hk := ?_))); refine aSeq_nil ?_)
    refine h7 _ ?_
    refine nT (hk := ?_)
    refine Awp.seq fun K8 h8 => ?_
    (refine Awp.region ?_; (repeat (first | refine sQ (hq := Quiet.pickOr rfl rfl rfl rfl) (hk := ?_) | refine sQ (hq := Quiet.pickAnd rfl rfl rfl rfl) (hk := ?_) | refine sQ (hk := ?_) | refine sSkip (hk := ?_) | refine sG (hk := ?_) | refine sOwn (hk := ?_))); refine aSeq_nil ?_)
    refine h8 _ ?_
    refine nT (hk := ?_)
    refine Awp.cond rfl (fun hb9 => ?_) (fun hb9 => ?_)
    · have e : placesP cross r false = someP [1, 2] := by unfold placesP; rw [if_neg (by simp), if_pos hb9]
      refine Awp.seq fun K10 h10 => ?_
      (refine Awp.region ?_; (repeat (first | refine sQ (hq := Quiet.lt (xs := [.const (.int .i64 1), .const (.int .i64 2)]) (T := tInt) (ds := [1, 2]) rfl rfl rfl (by rfl) (by decide) (fits_lits [1, 2] w1)) (hk := ?_) | refine sQ (hq := Quiet.call rfl (some21_fn [1, 2] (by decide) (by decide)) rfl rfl rfl) (hk := ?_) | refine sQ (hq := Quiet.pickOr rfl rfl rfl rfl) (hk := ?_) | refine sQ (hq := Quiet.pickAnd rfl rfl rfl rfl) (hk := ?_) | refine sQ (hk := ?_) | refine sSkip (hk := ?_) | refine sG (hg := by first | rfl | exact gA_c rfl rfl) (hq := by (intro hg; (try simp only [Bool.and_eq_true, beq_iff_eq] at hg); (try simp only [hg, cond_true, Bool.true_and, beq_self_eq_true]); exact Quiet.lt (xs := [.const (.int .i64 1), .const (.int .i64 2)]) (T := tInt) (ds := [1, 2]) rfl rfl rfl (by rfl) (by decide) (fits_lits [1, 2] w1))) (hk := ?_) | refine sG (hg := by first | rfl | exact gA_c rfl rfl) (hq := by (intro hg; (try simp only [Bool.and_eq_true, beq_iff_eq] at hg); (try simp only [hg, cond_true, Bool.true_and, beq_self_eq_true]); exact Quiet.call rfl (some21_fn [1, 2] (by decide) (by decide)) rfl rfl rfl)) (hk := ?_) | refine sG (hk := ?_) | refine sOwn (hk := ?_))); refine aSeq_nil ?_)
      refine h10 _ ?_
      refine nT (hk := ?_)
      refine Awp.ret ?_
      rw [e]
      exact ⟨.inr rfl, Fin.cl rfl⟩
    · have e : placesP cross r false = someP [0, 1, 2] := by unfold placesP; rw [if_neg (by simp), if_neg (by rw [hb9]; simp)]
      refine Awp.skip ?_
      refine h6 _ ?_
      refine nT (hk := ?_)
      refine Awp.seq fun K11 h11 => ?_
      (refine Awp.region ?_; (repeat (first | refine sQ (hq := Quiet.lt (xs := [.const (.int .i64 0), .const (.int .i64 1), .const (.int .i64 2)]) (T := tInt) (ds := [0, 1, 2]) rfl rfl rfl (by rfl) (by decide) (fits_lits [0, 1, 2] w2)) (hk := ?_) | refine sQ (hq := Quiet.call rfl (some21_fn [0, 1, 2] (by decide) (by decide)) rfl rfl rfl) (hk := ?_) | refine sQ (hq := Quiet.pickOr rfl rfl rfl rfl) (hk := ?_) | refine sQ (hq := Quiet.pickAnd rfl rfl rfl rfl) (hk := ?_) | refine sQ (hk := ?_) | refine sSkip (hk := ?_) | refine sG (hg := by first | rfl | exact gA_c rfl rfl) (hq := by (intro hg; (try simp only [Bool.and_eq_true, beq_iff_eq] at hg); (try simp only [hg, cond_true, Bool.true_and, beq_self_eq_true]); exact Quiet.lt (xs := [.const (.int .i64 0), .const (.int .i64 1), .const (.int .i64 2)]) (T := tInt) (ds := [0, 1, 2]) rfl rfl rfl (by rfl) (by decide) (fits_lits [0, 1, 2] w2))) (hk := ?_) | refine sG (hg := by first | rfl | exact gA_c rfl rfl) (hq := by (intro hg; (try simp only [Bool.and_eq_true, beq_iff_eq] at hg); (try simp only [hg, cond_true, Bool.true_and, beq_self_eq_true]); exact Quiet.call rfl (some21_fn [0, 1, 2] (by decide) (by decide)) rfl rfl rfl)) (hk := ?_) | refine sG (hk := ?_) | refine sOwn (hk := ?_))); refine aSeq_nil ?_)
      refine h11 _ ?_
      refine nT (hk := ?_)
      refine Awp.ret ?_
      rw [e]
      exact ⟨.inr rfl, Fin.cl rfl⟩
theorem crossL_asc (f : Func) : Asc (crossL f) := (regsL_asc f).filter _
theorem crossL_len (f : Func) : (crossL f).length ≤ (regsL f).length := List.length_filter_le _ _
set_option maxRecDepth 100000 in
set_option maxHeartbeats 1000000 in
theorem Places21_fn (f : Func) (r : Int) (leaf : Bool) (ho : okFunc f) (hs : smallF f) (hT : (allReads f).length ≤ 2097152) (hi1 : ∀ b ∈ f.blocks, b.ins.length + 1 ≤ 2097152) : Fn Tryd.prog 10 [.agg (encFunc f), .lit (.int .i64 r), .lit (.bool leaf)] (.bs tInt (placesP (crossL f) r leaf)) := by
  have hcl : (crossL f).length ≤ 2147483648 := by have := crossL_len f; have := Nat.le_trans (regsOf_le _) hT; unfold regsL at *; omega
  refine Fn.of_awp Tryd.func10 rfl (by kernel_rfl) rfl Tryd.ntmps10 fun C hC => ?_
  simp only [List.length_cons, List.length_nil, Nat.reduceAdd, Nat.reduceSub, List.replicate_succ, List.replicate_zero, List.cons_append, List.nil_append]
  refine Awp.seq fun K1 h1 => ?_
  (refine Awp.region ?_; (repeat (first | refine sQ (hq := Quiet.pickOr rfl rfl rfl rfl) (hk := ?_) | refine sQ (hq := Quiet.pickAnd rfl rfl rfl rfl) (hk := ?_) | refine sQ (hk := ?_) | refine sSkip (hk := ?_) | refine sG (hk := ?_) | refine sOwn (hk := ?_))); refine aSeq_nil ?_)
  refine h1 _ ?_
  refine nT (hk := ?_)
  refine Awp.seq fun K2 h2 => ?_
  (refine Awp.region ?_; (repeat (first | refine sQ (hq := Quiet.call rfl (cross_fn f ho hs hT hi1) rfl rfl rfl) (hk := ?_) | refine sQ (hq := Quiet.call rfl (places21_fn (crossL f) r leaf (crossL_asc f) hcl) rfl rfl rfl) (hk := ?_) | refine sQ (hq := Quiet.pickOr rfl rfl rfl rfl) (hk := ?_) | refine sQ (hq := Quiet.pickAnd rfl rfl rfl rfl) (hk := ?_) | refine sQ (hk := ?_) | refine sSkip (hk := ?_) | refine sG (hg := by first | rfl | exact gA_c rfl rfl) (hq := by (intro hg; (try simp only [Bool.and_eq_true, beq_iff_eq] at hg); (try simp only [hg, cond_true, Bool.true_and, beq_self_eq_true]); exact Quiet.call rfl (cross_fn f ho hs hT hi1) rfl rfl rfl)) (hk := ?_) | refine sG (hg := by first | rfl | exact gA_c rfl rfl) (hq := by (intro hg; (try simp only [Bool.and_eq_true, beq_iff_eq] at hg); (try simp only [hg, cond_true, Bool.true_and, beq_self_eq_true]); exact Quiet.call rfl (places21_fn (crossL f) r leaf (crossL_asc f) hcl) rfl rfl rfl)) (hk := ?_) | refine sG (hk := ?_) | refine sOwn (hk := ?_))); refine aSeq_nil ?_)
  refine h2 _ ?_
  refine nT (hk := ?_)
  refine Awp.ret ?_
  exact ⟨.inr rfl, Fin.cl rfl⟩

def keptB (p : Int) : Bool := (decide (p ≥ 16) && decide (p < 30)) || decide (p ≥ 32)
set_option maxRecDepth 100000 in
theorem kept21_fn (p : Int) : Fn Tryd.prog 11 [.lit (.int .i64 p)] (.lit (.bool (keptB p))) := by
  refine Fn.of_awp Tryd.func11 rfl (by kernel_rfl) rfl Tryd.ntmps11 fun C hC => ?_
  simp only [List.length_cons, List.length_nil, Nat.reduceAdd, Nat.reduceSub, List.replicate_succ, List.replicate_zero, List.cons_append, List.nil_append]
  refine Awp.seq fun K1 h1 => ?_
  (refine Awp.region ?_; (repeat (first | refine sQ (hq := Quiet.pickOr rfl rfl rfl rfl) (hk := ?_) | refine sQ (hq := Quiet.pickAnd rfl rfl rfl rfl) (hk := ?_) | refine sQ (hk := ?_) | refine sSkip (hk := ?_) | refine sG (hk := ?_) | refine sOwn (hk := ?_))); refine aSeq_nil ?_)
  refine h1 _ ?_
  refine nT (hk := ?_)
  refine Awp.seq fun K2 h2 => ?_
  (refine Awp.region ?_; (repeat (first | refine sQ (hq := Quiet.pickOr rfl rfl rfl rfl) (hk := ?_) | refine sQ (hq := Quiet.pickAnd rfl rfl rfl rfl) (hk := ?_) | refine sQ (hk := ?_) | refine sSkip (hk := ?_) | refine sG (hk := ?_) | refine sOwn (hk := ?_))); refine aSeq_nil ?_)
  refine h2 _ ?_
  refine nT (hk := ?_)
  refine Awp.ret ?_
  exact ⟨.inr rfl, Fin.cl rfl⟩

/-! ### names -/
def goliS : ByteArray := ⟨#[103, 111, 108, 105]⟩
def decB (n : Nat) : ByteArray := ⟨(Lib.decDigits n).toArray⟩
def nameP (n : Nat) : ByteArray := if n ≥ 32 then ⟨#[115]⟩ ++ decB (n - 32) else goliS.extract (n / 8) (n / 8 + 1) ++ decB (n % 8)
theorem itoa_fn (n : Nat) (hn : n < 100) : Fn Tryd.prog 29 [.lit (.int .i64 (n : Int))] (.lit (.string (decB n))) := by
  refine ⟨by kernel_rfl, fun w S vs hS hr => ?_⟩
  obtain ⟨us', rfl, h0⟩ := rel_lit1 hr
  unfold AV.relL at h0
  subst h0
  refine (Tryd.strconv_Itoa_small n hn w).mono fun e w' ⟨he, hw⟩ => ?_
  subst hw
  exact ⟨_, he, Below.refl _ _, S, fun _ h => h, fun _ h => .inl h, hS, by unfold AV.rel; rfl⟩
theorem decB_size : ∀ n, n < 100 → (decB n).size ≤ 2 := by decide +kernel
set_option maxRecDepth 100000 in
set_option maxHeartbeats 1000000 in
theorem name21_fn (n : Nat) (hn : n < 100) : Fn Tryd.prog 12 [.lit (.int .i64 (n : Int))] (.lit (.string (nameP n))) := by
  refine Fn.of_awp Tryd.func12 rfl (by kernel_rfl) rfl Tryd.ntmps12 fun C hC => ?_
  simp only [List.length_cons, List.length_nil, Nat.reduceAdd, Nat.reduceSub, List.replicate_succ, List.replicate_zero, List.cons_append, List.nil_append]
  refine Awp.seq fun K1 h1 => ?_
  (refine Awp.region ?_; (repeat (first | refine sQ (hq := Quiet.pickOr rfl rfl rfl rfl) (hk := ?_) | refine sQ (hq := Quiet.pickAnd rfl rfl rfl rfl) (hk := ?_) | refine sQ (hk := ?_) | refine sSkip (hk := ?_) | refine sG (hk := ?_) | refine sOwn (hk := ?_))); refine aSeq_nil ?_)
  refine h1 _ ?_
  refine nT (hk := ?_)
  refine Awp.seq fun K2 h2 => ?_
  refine Awp.block ?_
  refine Awp.seq fun K3 h3 => ?_
  (refine Awp.region ?_; (repeat (first | refine sQ (hq := Quiet.pickOr rfl rfl rfl rfl) (hk := ?_) | refine sQ (hq := Quiet.pickAnd rfl rfl rfl rfl) (hk := ?_) | refine sQ (hk := ?_) | refine sSkip (hk := ?_) | refine sG (hk := ?_) | refine sOwn (hk := ?_))); refine aSeq_nil ?_)
  refine h3 _ ?_
  refine nT (hk := ?_)
  refine Awp.cond rfl (fun hb4 => ?_) (fun hb4 => ?_)
  · have := of_decide_eq_true hb4
    omega
  · refine Awp.seq fun K6 h6 => ?_
    (refine Awp.region ?_; (repeat (first | refine sQ (hq := Quiet.pickOr rfl rfl rfl rfl) (hk := ?_) | refine sQ (hq := Quiet.pickAnd rfl rfl rfl rfl) (hk := ?_) | refine sQ (hk := ?_) | refine sSkip (hk := ?_) | refine sG (hk := ?_) | refine sOwn (hk := ?_))); refine aSeq_nil ?_)
    refine h6 _ ?_
    refine nT (hk := ?_)
    refine Awp.cond rfl (fun hb7 => ?_) (fun hb7 => ?_)
    · have hge : n ≥ 32 := by have := of_decide_eq_true hb7; omega
      have e : nameP n = ⟨#[115]⟩ ++ decB (n - 32) := by unfold nameP; rw [if_pos hge]
      have hsub : intBin .sub .i64 (n : Int) 32 = some (.int .i64 ((n - 32 : Nat) : Int)) := by
        unfold intBin
        simp only
        rw [IntWalk.i64_in _ (by omega)]
        congr 2
        omega
      have hsz : (⟨#[115]⟩ : ByteArray).size + (decB (n - 32)).size ≤ 1000000 := by
        have := decB_size (n - 32) (by omega)
        have h1 : (⟨#[115]⟩ : ByteArray).size = 1 := rfl
        omega
      refine Awp.seq fun K8 h8 => ?_
      (refine Awp.region ?_; (repeat (first | refine sQ (hq := Quiet.bin rfl rfl rfl hsub) (hk := ?_) | refine sQ (hq := Quiet.call rfl (itoa_fn (n - 32) (by omega)) rfl rfl rfl) (hk := ?_) | refine sQ (hq := Quiet.catS rfl rfl rfl hsz) (hk := ?_) | refine sQ (hq := Quiet.pickOr rfl rfl rfl rfl) (hk := ?_) | refine sQ (hq := Quiet.pickAnd rfl rfl rfl rfl) (hk := ?_) | refine sQ (hk := ?_) | refine sSkip (hk := ?_) | refine sG (hg := by first | rfl | exact gA_c rfl rfl) (hq := by (intro hg; (try simp only [Bool.and_eq_true, beq_iff_eq] at hg); (try simp only [hg, cond_true, Bool.true_and, beq_self_eq_true]); exact Quiet.bin rfl rfl rfl hsub)) (hk := ?_) | refine sG (hg := by first | rfl | exact gA_c rfl rfl) (hq := by (intro hg; (try simp only [Bool.and_eq_true, beq_iff_eq] at hg); (try simp only [hg, cond_true, Bool.true_and, beq_self_eq_true]); exact Quiet.call rfl (itoa_fn (n - 32) (by omega)) rfl rfl rfl)) (hk := ?_) | refine sG (hg := by first | rfl | exact gA_c rfl rfl) (hq := by (intro hg; (try simp only [Bool.and_eq_true, beq_iff_eq] at hg); (try simp only [hg, cond_true, Bool.true_and, beq_self_eq_true]); exact Quiet.catS rfl rfl rfl hsz)) (hk := ?_) | refine sG (hk := ?_) | refine sOwn (hk := ?_))); refine aSeq_nil ?_)
      refine h8 _ ?_
      refine nT (hk := ?_)
      refine Awp.ret ?_
      rw [e]
      exact ⟨.inr rfl, Fin.cl rfl⟩
    · have hlt : n < 32 := by have := of_decide_eq_false hb7; omega
      have e : nameP n = goliS.extract (n / 8) (n / 8 + 1) ++ decB (n % 8) := by unfold nameP; rw [if_neg (by omega)]
      have hquo : intBin .quo .i64 (n : Int) 8 = some (.int .i64 ((n / 8 : Nat) : Int)) := by
        unfold intBin
        simp only
        rw [if_neg (by decide), show (n : Int).tdiv 8 = ((n / 8 : Nat) : Int) from rfl, IntWalk.i64_in _ (by omega)]
      have hrem : intBin .rem .i64 (n : Int) 8 = some (.int .i64 ((n % 8 : Nat) : Int)) := by
        unfold intBin
        simp only
        rw [if_neg (by decide)]
        rfl
      have hadd : intBin .add .i64 ((n / 8 : Nat) : Int) 1 = some (.int .i64 ((n / 8 + 1 : Nat) : Int)) := by
        unfold intBin
        simp only
        rw [IntWalk.i64_in _ (by omega)]
        rfl
      have hsz : (goliS.extract (n / 8) (n / 8 + 1)).size + (decB (n % 8)).size ≤ 1000000 := by
        have := decB_size (n % 8) (by omega)
        have h1 : (goliS.extract (n / 8) (n / 8 + 1)).size ≤ 4 := by
          rw [ByteArray.size_extract]
          have : goliS.size = 4 := rfl
          omega
        omega
      have hg4 : n / 8 + 1 ≤ goliS.size := by
        have : goliS.size = 4 := rfl
        omega
      refine Awp.skip ?_
      refine h2 _ ?_
      refine nT (hk := ?_)
      refine Awp.seq fun K9 h9 => ?_
      (refine drawD 11 (hh := ?_); (repeat (first | refine qQ (hq := Quiet.bin rfl rfl rfl hquo) (hk := ?_) | refine qQ (hq := Quiet.bin rfl rfl rfl hrem) (hk := ?_) | refine qQ (hq := Quiet.bin rfl rfl rfl hadd) (hk := ?_) | refine qQ (hq := Quiet.cutS2 (s := goliS) rfl rfl rfl rfl (Nat.le_succ _) hg4) (hk := ?_) | refine qQ (hq := Quiet.call rfl (itoa_fn (n % 8) (by omega)) rfl rfl rfl) (hk := ?_) | refine qQ (hq := Quiet.catS rfl rfl rfl hsz) (hk := ?_) | refine qQ (hq := Quiet.pickOr rfl rfl rfl rfl) (hk := ?_) | refine qQ (hq := Quiet.pickAnd rfl rfl rfl rfl) (hk := ?_) | refine qQ (hk := ?_) | refine qSkip (hk := ?_) | refine qG (hg := by first | rfl | exact gA_c rfl rfl) (hq := by (intro hg; (try simp only [Bool.and_eq_true, beq_iff_eq] at hg); (try simp only [hg, cond_true, Bool.true_and, beq_self_eq_true]); exact Quiet.bin rfl rfl rfl hquo)) (hk := ?_) | refine qG (hg := by first | rfl | exact gA_c rfl rfl) (hq := by (intro hg; (try simp only [Bool.and_eq_true, beq_iff_eq] at hg); (try simp only [hg, cond_true, Bool.true_and, beq_self_eq_true]); exact Quiet.bin rfl rfl rfl hrem)) (hk := ?_) | refine qG (hg := by first | rfl | exact gA_c rfl rfl) (hq := by (intro hg; (try simp only [Bool.and_eq_true, beq_iff_eq] at hg); (try simp only [hg, cond_true, Bool.true_and, beq_self_eq_true]); exact Quiet.bin rfl rfl rfl hadd)) (hk := ?_) | refine qG (hg := by first | rfl | exact gA_c rfl rfl) (hq := by (intro hg; (try simp only [Bool.and_eq_true, beq_iff_eq] at hg); (try simp only [hg, cond_true, Bool.true_and, beq_self_eq_true]); exact Quiet.cutS2 (s := goliS) rfl rfl rfl rfl (Nat.le_succ _) hg4)) (hk := ?_) | refine qG (hg := by first | rfl | exact gA_c rfl rfl) (hq := by (intro hg; (try simp only [Bool.and_eq_true, beq_iff_eq] at hg); (try simp only [hg, cond_true, Bool.true_and, beq_self_eq_true]); exact Quiet.call rfl (itoa_fn (n % 8) (by omega)) rfl rfl rfl)) (hk := ?_) | refine qG (hg := by first | rfl | exact gA_c rfl rfl) (hq := by (intro hg; (try simp only [Bool.and_eq_true, beq_iff_eq] at hg); (try simp only [hg, cond_true, Bool.true_and, beq_self_eq_true]); exact Quiet.catS rfl rfl rfl hsz)) (hk := ?_) | refine qG (hk := ?_))); refine aQ_nil ?_; (repeat (first | refine sQ (hq := Quiet.bin rfl rfl rfl hquo) (hk := ?_) | refine sQ (hq := Quiet.bin rfl rfl rfl hrem) (hk := ?_) | refine sQ (hq := Quiet.bin rfl rfl rfl hadd) (hk := ?_) | refine sQ (hq := Quiet.cutS2 (s := goliS) rfl rfl rfl rfl (Nat.le_succ _) hg4) (hk := ?_) | refine sQ (hq := Quiet.call rfl (itoa_fn (n % 8) (by omega)) rfl rfl rfl) (hk := ?_) | refine sQ (hq := Quiet.catS rfl rfl rfl hsz) (hk := ?_) | refine sQ (hq := Quiet.pickOr rfl rfl rfl rfl) (hk := ?_) | refine sQ (hq := Quiet.pickAnd rfl rfl rfl rfl) (hk := ?_) | refine sQ (hk := ?_) | refine sSkip (hk := ?_) | refine sG (hg := by first | rfl | exact gA_c rfl rfl) (hq := by (intro hg; (try simp only [Bool.and_eq_true, beq_iff_eq] at hg); (try simp only [hg, cond_true, Bool.true_and, beq_self_eq_true]); exact Quiet.bin rfl rfl rfl hquo)) (hk := ?_) | refine sG (hg := by first | rfl | exact gA_c rfl rfl) (hq := by (intro hg; (try simp only [Bool.and_eq_true, beq_iff_eq] at hg); (try simp only [hg, cond_true, Bool.true_and, beq_self_eq_true]); exact Quiet.bin rfl rfl rfl hrem)) (hk := ?_) | refine sG (hg := by first | rfl | exact gA_c rfl rfl) (hq := by (intro hg; (try simp only [Bool.and_eq_true, beq_iff_eq] at hg); (try simp only [hg, cond_true, Bool.true_and, beq_self_eq_true]); exact Quiet.bin rfl rfl rfl hadd)) (hk := ?_) | refine sG (hg := by first | rfl | exact gA_c rfl rfl) (hq := by (intro hg; (try simp only [Bool.and_eq_true, beq_iff_eq] at hg); (try simp only [hg, cond_true, Bool.true_and, beq_self_eq_true]); exact Quiet.cutS2 (s := goliS) rfl rfl rfl rfl (Nat.le_succ _) hg4)) (hk := ?_) | refine sG (hg := by first | rfl | exact gA_c rfl rfl) (hq := by (intro hg; (try simp only [Bool.and_eq_true, beq_iff_eq] at hg); (try simp only [hg, cond_true, Bool.true_and, beq_self_eq_true]); exact Quiet.call rfl (itoa_fn (n % 8) (by omega)) rfl rfl rfl)) (hk := ?_) | refine sG (hg := by first | rfl | exact gA_c rfl rfl) (hq := by (intro hg; (try simp only [Bool.and_eq_true, beq_iff_eq] at hg); (try simp only [hg, cond_true, Bool.true_and, beq_self_eq_true]); exact Quiet.catS rfl rfl rfl hsz)) (hk := ?_) | refine sG (hk := ?_) | refine sOwn (hk := ?_))); refine aSeq_nil ?_)
      refine h9 _ ?_
      refine nT (hk := ?_)
      refine Awp.ret ?_
      rw [e]
      exact ⟨.inr rfl, Fin.cl rfl⟩
end Mu
end
section
/-
  bound: Regs, Hints, walked.
  Conditions: at most 2^21 of everything.
-/
namespace Mu
open Go Go.RowKit Go.Proofs

theorem shape_reads_fn (x : Ins) (ho : okIns x) (hl : x.args.length ≤ 2097152) : Fn Tryd.prog 21 [.agg (encIns x)] (.bs tInt (readsC x)) :=
  Fn.of_ints (by kernel_rfl) (readsC_ok ho) fun w vs hr => by
    obtain ⟨v, rfl, hv⟩ := arg1 hr
    obtain ⟨cs, rfl, hc⟩ := rel_agg hv
    exact shape_reads x w cs (put_ins ho hc) hl
theorem shape_writes_fn (x : Ins) (ho : okIns x) : Fn Tryd.prog 22 [.agg (encIns x)] (.tup [.lit (.int .i64 (if writesB x then x.d else 0)), .lit (.bool (writesB x))]) :=
  Fn.of_tup2 (by kernel_rfl) fun w vs hr => by
    obtain ⟨v, rfl, hv⟩ := arg1 hr
    obtain ⟨cs, rfl, hc⟩ := rel_agg hv
    refine (shape_writes x w cs (put_ins ho hc)).mono fun e w' ⟨he, hb⟩ => ⟨?_, hb⟩
    rw [he]
    unfold writesV
    cases writesB x <;> rfl

/-! ### rows laid together -/
theorem flat_next {α β : Type} {g : α → List β} {l : List α} {k : Nat} {x : α} (hx : l[k]? = some x) : (l.take (k + 1)).flatMap g = (l.take k).flatMap g ++ g x := by
  rw [List.take_add_one, hx, List.flatMap_append]
  simp
theorem flat_le {α β : Type} (g : α → List β) (l : List α) (k : Nat) : ((l.take k).flatMap g).length ≤ (l.flatMap g).length := by
  conv => rhs; rw [← List.take_append_drop k l]
  rw [List.flatMap_append, List.length_append]
  omega
theorem flat2_le {β : Type} {g : Ins → List β} {bs : List Block} {b i : Nat} {bl : Block} {x : Ins} (hb : bs[b]? = some bl) (hx : bl.ins[i]? = some x) :
    ((bs.take b).flatMap fun c => c.ins.flatMap g).length + ((bl.ins.take i).flatMap g).length + (g x).length ≤ (bs.flatMap fun c => c.ins.flatMap g).length := by
  have h1 := flat_le (fun c : Block => c.ins.flatMap g) bs (b + 1)
  rw [flat_next hb, List.length_append] at h1
  have h2 := flat_le g bl.ins (i + 1)
  rw [flat_next hx, List.length_append] at h2
  omega
def natI (n : Nat) : List Int := (List.range n).map fun (r : Nat) => (r : Int)
theorem natI_succ (n : Nat) : natI (n + 1) = natI n ++ [(n : Int)] := by unfold natI; rw [List.range_succ, List.map_append]; rfl
theorem natI_len (n : Nat) : (natI n).length = n := by simp [natI]
def blkX (b : Block) : List Int := b.ins.flatMap regsX
def allX (f : Func) : List Int := f.blocks.flatMap blkX
def rawB (f : Func) : List Int := natI (argsK f) ++ allX f
def regsB (f : Func) : List Int := Lib.compact ((rawB f).mergeSort fun x y => decide (x ≤ y))
theorem allX_ok {f : Func} (ho : okFunc f) : okInts (allX f) := fun r hr => by
  obtain ⟨b, hb, hr⟩ := List.mem_flatMap.1 hr
  obtain ⟨x, hx, hr⟩ := List.mem_flatMap.1 hr
  exact regsX_ok ((ho.blocks b hb).ins x hx) r hr
theorem rawB_ok {f : Func} (ho : okFunc f) : okInts (rawB f) := fun r hr => by
  rcases List.mem_append.1 hr with hr | hr
  · unfold natI at hr
    obtain ⟨k, hk, rfl⟩ := List.mem_map.1 hr
    have := List.mem_range.1 hk
    have := (argsK_eq f).2
    exact nat_wf (by omega)
  · exact allX_ok ho r hr
theorem regsB_mem {f : Func} {r : Int} : r ∈ regsB f ↔ r ∈ rawB f := by
  unfold regsB
  rw [(compact_sorted (sorted_mergeSort _)).2, List.mem_mergeSort]
theorem regsB_asc (f : Func) : Asc (regsB f) := (compact_sorted (sorted_mergeSort _)).1
theorem regsB_len (f : Func) : (regsB f).length ≤ (rawB f).length := by
  have := compact_len ((rawB f).mergeSort fun x y => decide (x ≤ y))
  rw [List.length_mergeSort] at this
  exact this

set_option maxRecDepth 100000 in
set_option maxHeartbeats 4000000 in
theorem regs21_fn (f : Func) (ho : okFunc f) (hs : smallF f) (hX : (allX f).length ≤ 2097152) : Fn Tryd.prog 7 [.agg (encFunc f)] (.bs tInt (regsB f)) := by
  have hbl := hs.blocks
  have hk6 := (argsK_eq f).2
  refine Fn.of_awp Tryd.func7 rfl (by kernel_rfl) rfl Tryd.ntmps7 fun C hC => ?_
  simp only [List.length_cons, List.length_nil, Nat.reduceAdd, Nat.reduceSub, List.replicate_succ, List.replicate_zero, List.cons_append, List.nil_append]
  refine Awp.seq fun K1 h1 => ?_
  (refine Awp.region ?_; (repeat (first | refine sQ (hq := Quiet.pickOr rfl rfl rfl rfl) (hk := ?_) | refine sQ (hq := Quiet.pickAnd rfl rfl rfl rfl) (hk := ?_) | refine sQ (hk := ?_) | refine sSkip (hk := ?_) | refine sG (hk := ?_) | refine sOwn (hk := ?_))); refine aSeq_nil ?_)
  refine h1 _ ?_
  refine nT (hk := ?_)
  refine Awp.seq fun K2 h2 => ?_
  (refine Awp.region ?_; (repeat (first | refine sQ (hq := Quiet.pickOr rfl rfl rfl rfl) (hk := ?_) | refine sQ (hq := Quiet.pickAnd rfl rfl rfl rfl) (hk := ?_) | refine sQ (hk := ?_) | refine sSkip (hk := ?_) | refine sG (hk := ?_) | refine sOwn (hk := ?_))); refine aSeq_nil ?_)
  refine h2 _ ?_
  refine nT (hk := ?_)
  refine Awp.seq fun K3 h3 => ?_
  refine Awp.seq fun K4 h4 => ?_
  (refine Awp.region ?_; (repeat (first | refine sQ (hq := Quiet.call rfl (args21_fn f) rfl rfl rfl) (hk := ?_) | refine sQ (hq := Quiet.pickOr rfl rfl rfl rfl) (hk := ?_) | refine sQ (hq := Quiet.pickAnd rfl rfl rfl rfl) (hk := ?_) | refine sQ (hk := ?_) | refine sSkip (hk := ?_) | refine sG (hg := by first | rfl | exact gA_c rfl rfl) (hq := by (intro hg; (try simp only [Bool.and_eq_true, beq_iff_eq] at hg); (try simp only [hg, cond_true, Bool.true_and, beq_self_eq_true]); exact Quiet.call rfl (args21_fn f) rfl rfl rfl)) (hk := ?_) | refine sG (hk := ?_) | refine sOwn (hk := ?_))); refine aSeq_nil ?_)
  refine h4 _ ?_
  refine nT (hk := ?_)
  refine Awp.block ?_
  refine Awp.loopF (fun p : Nat × Nat => ⟨[.any, .ptr 0 0, .any, .own 1 p.2, .any, .any, .any, .any, .any, .any, .any, .any, .lit (.int .i64 (argsK f : Int)), .lit (.int .i64 (p.1 : Int)), .any, .any, .any, .any, .any, .any, .any, .any, .any, .any, .any, .any, .any, .any, .any, .any, .any, .any, .any, .any, .any, .any, .any, .any, .any, .any, .any, .any, .any, .any, .any, .any, .any, .any, .any, .any, .any, .any, .any, .any, .any], [.box (encFunc f), .row p.2 3 tInt (natI p.1)]⟩) (fun p => p.1 ≤ argsK f) (fun p => argsK f - p.1) (0, 0) (Nat.zero_le _) ((St.le_nil 3 3 tInt rfl (by decide)).trans (le_T)) ?_
  rintro ⟨k, ver⟩ hk
  dsimp only at hk ⊢
  refine Awp.seq fun K6 h6 => ?_
  (refine Awp.region ?_; (repeat (first | refine sQ (hq := Quiet.pickOr rfl rfl rfl rfl) (hk := ?_) | refine sQ (hq := Quiet.pickAnd rfl rfl rfl rfl) (hk := ?_) | refine sQ (hk := ?_) | refine sSkip (hk := ?_) | refine sG (hk := ?_) | refine sOwn (hk := ?_))); refine aSeq_nil ?_)
  refine h6 _ ?_
  refine nT (hk := ?_)
  refine Awp.seq fun K7 h7 => ?_
  refine Awp.cond rfl (fun hb8 => ?_) (fun hb8 => ?_)
  · have hlt : k < argsK f := by simpa using hb8
    have hw := nat_wf (k := k) (by omega)
    have hln := natI_len k
    have hsn := natI_succ k
    generalize hL0 : natI k = L0 at hln hsn ⊢
    have hn1 : L0.length + [(k : Int)].length ≤ maxLen := by simp [maxLen]; omega
    have hn2 : (L0.length + [(k : Int)].length) * 8 ≤ 140737488355328 := by simp; omega
    refine Awp.skip ?_
    refine h7 _ ?_
    refine nT (hk := ?_)
    refine Awp.seq fun K9 h9 => ?_
    refine Awp.block ?_
    refine Awp.seq fun K10 h10 => ?_
    (refine Awp.region ?_; (repeat (first | refine sQ (hq := Quiet.pickOr rfl rfl rfl rfl) (hk := ?_) | refine sQ (hq := Quiet.pickAnd rfl rfl rfl rfl) (hk := ?_) | refine sQ (hk := ?_) | refine sSkip (hk := ?_) | refine sG (hk := ?_) | refine sOwn (hk := ?_))); refine aSeq_nil ?_)
    refine h10 _ ?_
    refine nT (hk := ?_)
    (refine Awp.region ?_; (repeat (first | refine sQ (hq := Quiet.pickOr rfl rfl rfl rfl) (hk := ?_) | refine sQ (hq := Quiet.pickAnd rfl rfl rfl rfl) (hk := ?_) | refine sQ (hk := ?_) | refine sSkip (hk := ?_) | refine sG (hk := ?_) | refine sOwn (hk := ?_))); refine aSeq_nil ?_)
    refine h9 _ ?_
    refine nT (hk := ?_)
    (refine Awp.region ?_; (repeat (first | refine sQ (hq := Quiet.pickOr rfl rfl rfl rfl) (hk := ?_) | refine sQ (hq := Quiet.pickAnd rfl rfl rfl rfl) (hk := ?_) | refine sQ (hk := ?_) | refine sSkip (hk := ?_) | refine sG (hk := ?_) | refine sOwn (hk := ?_))); refine aSeq_nil ?_)
    refine athen_n ⟨(k + 1, ver + 1), by dsimp only; omega, by dsimp only; omega, ?_⟩
    dsimp only
    rw [hsn]
    exact le_T
  · have hke : k = argsK f := by have : ¬ k < argsK f := by simpa using hb8
                                 omega
    subst hke
    have hln := natI_len (argsK f)
    refine Awp.exit ?_
    refine h3 _ ?_
    refine nT (hk := ?_)
    refine Awp.seq fun K11 h11 => ?_
    refine Awp.seq fun K12 h12 => ?_
    (refine Awp.region ?_; (repeat (first | refine sQ (hq := Quiet.pickOr rfl rfl rfl rfl) (hk := ?_) | refine sQ (hq := Quiet.pickAnd rfl rfl rfl rfl) (hk := ?_) | refine sQ (hk := ?_) | refine sSkip (hk := ?_) | refine sG (hk := ?_) | refine sOwn (hk := ?_))); refine aSeq_nil ?_)
    refine h12 _ ?_
    refine nT (hk := ?_)
    refine Awp.block ?_
    refine Awp.loopF (fun p : Nat × Nat => ⟨[.any, .ptr 0 0, .any, .own 1 p.2, .any, .any, .any, .any, .any, .any, .any, .any, .any, .any, .any, .any, .any, .any, .any, .any, .any, .any, .bs tBlock f.blocks, .lit (.int .i64 (f.blocks.length : Int)), .lit (.int .i64 (p.1 : Int)), .any, .any, .any, .any, .any, .any, .any, .any, .any, .any, .any, .any, .any, .any, .any, .any, .any, .any, .any, .any, .any, .any, .any, .any, .any, .any, .any, .any, .any, .any], [.box (encFunc f), .row p.2 3 tInt (natI (argsK f) ++ (f.blocks.take p.1).flatMap blkX)]⟩) (fun p => p.1 ≤ f.blocks.length) (fun p => f.blocks.length - p.1) (0, ver) (Nat.zero_le _) (by rw [show natI (argsK f) ++ (f.blocks.take (0, ver).1).flatMap blkX = natI (argsK f) by simp]; exact le_T) ?_
    rintro ⟨b, ver⟩ hb
    dsimp only at hb ⊢
    refine Awp.seq fun K14 h14 => ?_
    (refine Awp.region ?_; (repeat (first | refine sQ (hq := Quiet.pickOr rfl rfl rfl rfl) (hk := ?_) | refine sQ (hq := Quiet.pickAnd rfl rfl rfl rfl) (hk := ?_) | refine sQ (hk := ?_) | refine sSkip (hk := ?_) | refine sG (hk := ?_) | refine sOwn (hk := ?_))); refine aSeq_nil ?_)
    refine h14 _ ?_
    refine nT (hk := ?_)
    refine Awp.seq fun K15 h15 => ?_
    refine Awp.cond rfl (fun hb16 => ?_) (fun hb16 => ?_)
    · have hlt : b < f.blocks.length := by simpa using hb16
      obtain ⟨bl, hblk⟩ : ∃ bl, f.blocks[b]? = some bl := ⟨_, List.getElem?_eq_getElem hlt⟩
      have hmem := List.mem_of_getElem? hblk
      have hob := ho.blocks bl hmem
      have hsb := hs.all bl hmem
      have hil := hsb.ins
      have hfn := flat_next (g := blkX) hblk
      refine Awp.skip ?_
      refine h15 _ ?_
      refine nT (hk := ?_)
      refine Awp.seq fun K17 h17 => ?_
      refine Awp.block ?_
      refine Awp.seq fun K18 h18 => ?_
      (refine Awp.region ?_; (repeat (first | refine sQ (hq := Quiet.pickOr rfl rfl rfl rfl) (hk := ?_) | refine sQ (hq := Quiet.pickAnd rfl rfl rfl rfl) (hk := ?_) | refine sQ (hk := ?_) | refine sSkip (hk := ?_) | refine sG (hk := ?_) | refine sOwn (hk := ?_))); refine aSeq_nil ?_)
      refine h18 _ ?_
      refine nT (hk := ?_)
      refine Awp.seq fun K19 h19 => ?_
      (refine Awp.region ?_; (repeat (first | refine sQ (hq := Quiet.pickOr rfl rfl rfl rfl) (hk := ?_) | refine sQ (hq := Quiet.pickAnd rfl rfl rfl rfl) (hk := ?_) | refine sQ (hk := ?_) | refine sSkip (hk := ?_) | refine sG (hk := ?_) | refine sOwn (hk := ?_))); refine aSeq_nil ?_)
      refine h19 _ ?_
      refine nT (hk := ?_)
      refine Awp.block ?_
      refine Awp.loopF (fun p : Nat × Nat => ⟨[.any, .ptr 0 0, .any, .own 1 p.2, .any, .any, .any, .any, .any, .any, .any, .any, .any, .any, .any, .any, .any, .any, .any, .any, .any, .any, .bs tBlock f.blocks, .lit (.int .i64 (f.blocks.length : Int)), .lit (.int .i64 (b : Int)), .any, .any, .any, .any, .bs tIns bl.ins, .lit (.int .i64 (bl.ins.length : Int)), .lit (.int .i64 (p.1 : Int)), .any, .any, .any, .any, .any, .any, .any, .any, .any, .any, .any, .any, .any, .any, .any, .any, .any, .any, .any, .any, .any, .any, .any], [.box (encFunc f), .row p.2 3 tInt (natI (argsK f) ++ (f.blocks.take b).flatMap blkX ++ (bl.ins.take p.1).flatMap regsX)]⟩) (fun p => p.1 ≤ bl.ins.length) (fun p => bl.ins.length - p.1) (0, ver) (Nat.zero_le _) (by rw [show natI (argsK f) ++ (f.blocks.take b).flatMap blkX ++ (bl.ins.take (0, ver).1).flatMap regsX = natI (argsK f) ++ (f.blocks.take b).flatMap blkX by simp]; exact le_C (.cons (.cons (Cut.nil _)))) ?_
      rintro ⟨i, ver⟩ hi
      dsimp only at hi ⊢
      refine Awp.seq fun K21 h21 => ?_
      (refine Awp.region ?_; (repeat (first | refine sQ (hq := Quiet.pickOr rfl rfl rfl rfl) (hk := ?_) | refine sQ (hq := Quiet.pickAnd rfl rfl rfl rfl) (hk := ?_) | refine sQ (hk := ?_) | refine sSkip (hk := ?_) | refine sG (hk := ?_) | refine sOwn (hk := ?_))); refine aSeq_nil ?_)
      refine h21 _ ?_
      refine nT (hk := ?_)
      refine Awp.seq fun K22 h22 => ?_
      refine Awp.cond rfl (fun hb23 => ?_) (fun hb23 => ?_)
      · have hil2 : i < bl.ins.length := by simpa using hb23
        obtain ⟨x, hx⟩ : ∃ x, bl.ins[i]? = some x := ⟨_, List.getElem?_eq_getElem hil2⟩
        have hxm := List.mem_of_getElem? hx
        have hox := hob.ins x hxm
        have hxl : x.args.length ≤ 2097152 := by have := hsb.all x hxm; omega
        have hxn := flat_next (g := regsX) hx
        have hle := flat2_le (g := regsX) hblk hx
        have hX' : (f.blocks.flatMap fun c => c.ins.flatMap regsX).length ≤ 2097152 := hX
        have hL : (natI (argsK f) ++ (f.blocks.take b).flatMap blkX ++ (bl.ins.take i).flatMap regsX).length + (regsX x).length ≤ 2097160 := by
          rw [List.length_append, List.length_append, hln]
          have : ((f.blocks.take b).flatMap blkX).length = ((f.blocks.take b).flatMap fun c => c.ins.flatMap regsX).length := rfl
          omega
        have hrx : regsX x = readsC x ++ if writesB x then [x.d] else [] := rfl
        generalize hL0 : natI (argsK f) ++ (f.blocks.take b).flatMap blkX ++ (bl.ins.take i).flatMap regsX = L0 at hL ⊢
        rw [hrx, List.length_append] at hL
        have hn1 : L0.length + (readsC x).length ≤ maxLen := by unfold maxLen; omega
        have hn2 : (L0.length + (readsC x).length) * 8 ≤ 140737488355328 := by omega
        refine Awp.skip ?_
        refine h22 _ ?_
        refine nT (hk := ?_)
        refine Awp.seq fun K24 h24 => ?_
        refine Awp.block ?_
        refine Awp.seq fun K25 h25 => ?_
        (refine Awp.region ?_; (repeat (first | refine sQ (hq := Quiet.pickOr rfl rfl rfl rfl) (hk := ?_) | refine sQ (hq := Quiet.pickAnd rfl rfl rfl rfl) (hk := ?_) | refine sQ (hk := ?_) | refine sSkip (hk := ?_) | refine sG (hk := ?_) | refine sOwn (hk := ?_))); refine aSeq_nil ?_)
        refine h25 _ ?_
        refine nT (hk := ?_)
        refine Awp.seq fun K26 h26 => ?_
        (refine Awp.region ?_; (repeat (first | refine sQ (hq := Quiet.call rfl (shape_reads_fn x hox hxl) rfl rfl rfl) (hk := ?_) | refine sQ (hq := Quiet.pickOr rfl rfl rfl rfl) (hk := ?_) | refine sQ (hq := Quiet.pickAnd rfl rfl rfl rfl) (hk := ?_) | refine sQ (hk := ?_) | refine sSkip (hk := ?_) | refine sG (hg := by first | rfl | exact gA_c rfl rfl) (hq := by (intro hg; (try simp only [] at hg); (try simp only [hg, cond_true, Bool.true_and, beq_self_eq_true]); exact Quiet.call rfl (shape_reads_fn x hox hxl) rfl rfl rfl)) (hk := ?_) | refine sG (hk := ?_) | refine sOwn (hk := ?_))); refine aSeq_nil ?_)
        refine h26 _ ?_
        refine nT (hk := ?_)
        refine Awp.seq fun K27 h27 => ?_
        (refine Awp.region ?_; (repeat (first | refine sQ (hq := Quiet.call rfl (shape_writes_fn x hox) rfl rfl rfl) (hk := ?_) | refine sQ (hq := Quiet.pickOr rfl rfl rfl rfl) (hk := ?_) | refine sQ (hq := Quiet.pickAnd rfl rfl rfl rfl) (hk := ?_) | refine sQ (hk := ?_) | refine sSkip (hk := ?_) | refine sG (hg := by first | rfl | exact gA_c rfl rfl) (hq := by (intro hg; (try simp only [Bool.and_eq_true, beq_iff_eq] at hg); (try simp only [hg, cond_true, Bool.true_and, beq_self_eq_true]); exact Quiet.call rfl (shape_writes_fn x hox) rfl rfl rfl)) (hk := ?_) | refine sG (hk := ?_) | refine sOwn (hk := ?_))); refine aSeq_nil ?_)
        refine h27 _ ?_
        refine nT (hk := ?_)
        refine Awp.seq fun K28 h28 => ?_
        (refine Awp.region ?_; (repeat (first | refine sQ (hq := Quiet.pickOr rfl rfl rfl rfl) (hk := ?_) | refine sQ (hq := Quiet.pickAnd rfl rfl rfl rfl) (hk := ?_) | refine sQ (hk := ?_) | refine sSkip (hk := ?_) | refine sG (hk := ?_) | refine sOwn (hk := ?_))); refine aSeq_nil ?_)
        refine h28 _ ?_
        refine nT (hk := ?_)
        refine Awp.cond rfl (fun hb29 => ?_) (fun hb29 => ?_)
        · rw [hb29, if_pos rfl] at hL hrx
          have e1 : (if writesB x = true then x.d else 0) = x.d := if_pos hb29
          have hwd := hox.d
          have hn3 : (L0 ++ readsC x).length + [x.d].length ≤ maxLen := by rw [List.length_append]; simp [maxLen]; simp at hL; omega
          have hn4 : ((L0 ++ readsC x).length + [x.d].length) * 8 ≤ 140737488355328 := by rw [List.length_append]; simp; simp at hL; omega
          rw [e1]
          (refine Awp.region ?_; (repeat (first | refine sQ (hq := Quiet.pickOr rfl rfl rfl rfl) (hk := ?_) | refine sQ (hq := Quiet.pickAnd rfl rfl rfl rfl) (hk := ?_) | refine sQ (hk := ?_) | refine sSkip (hk := ?_) | refine sG (hk := ?_) | refine sOwn (hk := ?_))); refine aSeq_nil ?_)
          refine h24 _ ?_
          refine nT (hk := ?_)
          (refine Awp.region ?_; (repeat (first | refine sQ (hq := Quiet.pickOr rfl rfl rfl rfl) (hk := ?_) | refine sQ (hq := Quiet.pickAnd rfl rfl rfl rfl) (hk := ?_) | refine sQ (hk := ?_) | refine sSkip (hk := ?_) | refine sG (hk := ?_) | refine sOwn (hk := ?_))); refine aSeq_nil ?_)
          refine athen_n ⟨(i + 1, ver + 1 + 1), by dsimp only; omega, by dsimp only; omega, ?_⟩
          dsimp only
          rw [hxn, ← List.append_assoc, hL0, hrx, ← List.append_assoc]
          exact le_C (.cons (.cons (Cut.nil _)))
        · rw [hb29, if_neg (by simp), List.append_nil] at hrx
          refine Awp.skip ?_
          refine h24 _ ?_
          refine nT (hk := ?_)
          (refine Awp.region ?_; (repeat (first | refine sQ (hq := Quiet.pickOr rfl rfl rfl rfl) (hk := ?_) | refine sQ (hq := Quiet.pickAnd rfl rfl rfl rfl) (hk := ?_) | refine sQ (hk := ?_) | refine sSkip (hk := ?_) | refine sG (hk := ?_) | refine sOwn (hk := ?_))); refine aSeq_nil ?_)
          refine athen_n ⟨(i + 1, ver + 1), by dsimp only; omega, by dsimp only; omega, ?_⟩
          dsimp only
          rw [hxn, ← List.append_assoc, hL0, hrx]
          exact le_C (.cons (.cons (Cut.nil _)))
      · have hie : i = bl.ins.length := by have : ¬ i < bl.ins.length := by simpa using hb23
                                           omega
        subst hie
        rw [List.take_length]
        refine Awp.exit ?_
        refine h17 _ ?_
        refine nT (hk := ?_)
        (refine Awp.region ?_; (repeat (first | refine sQ (hq := Quiet.pickOr rfl rfl rfl rfl) (hk := ?_) | refine sQ (hq := Quiet.pickAnd rfl rfl rfl rfl) (hk := ?_) | refine sQ (hk := ?_) | refine sSkip (hk := ?_) | refine sG (hk := ?_) | refine sOwn (hk := ?_))); refine aSeq_nil ?_)
        refine athen_n ⟨(b + 1, ver), by dsimp only; omega, by dsimp only; omega, ?_⟩
        dsimp only
        rw [hfn, ← List.append_assoc]
        exact le_T
    · have hbe : b = f.blocks.length := by have : ¬ b < f.blocks.length := by simpa using hb16
                                           omega
      subst hbe
      rw [List.take_length]
      have hraw : natI (argsK f) ++ f.blocks.flatMap blkX = rawB f := rfl
      rw [hraw]
      have hrl : (rawB f).length ≤ 2147483648 := by unfold rawB; rw [List.length_append, hln]; omega
      have hok := okInts_sort (rawB_ok ho)
      have hcok : okInts (Lib.compact ((rawB f).mergeSort fun x y => decide (x ≤ y))) := fun r hr => hok r ((compact_sorted (sorted_mergeSort _)).2 r |>.1 hr)
      have hsl : ((rawB f).mergeSort fun x y => decide (x ≤ y)).length ≤ 2147483648 := by rw [List.length_mergeSort]; exact hrl
      refine Awp.exit ?_
      refine h11 _ ?_
      refine nT (hk := ?_)
      refine Awp.seq fun K30 h30 => ?_
      (refine Awp.region ?_; (repeat (first | (refine aSeq_t rfl (AOp.sortRow rfl rfl rfl hrl ?_); refine sNt (hk := ?_)) | refine sQ (hq := Quiet.pickOr rfl rfl rfl rfl) (hk := ?_) | refine sQ (hq := Quiet.pickAnd rfl rfl rfl rfl) (hk := ?_) | refine sQ (hk := ?_) | refine sSkip (hk := ?_) | refine sG (hk := ?_) | refine sOwn (hk := ?_))); refine aSeq_nil ?_)
      refine h30 _ ?_
      refine nT (hk := ?_)
      refine Awp.seq fun K31 h31 => ?_
      (refine Awp.region ?_; (repeat (first | (refine aSeq_t rfl (AOp.callRow rfl (compact_row hsl hcok) rfl rfl ?_); refine sNt (hk := ?_)) | refine sQ (hq := Quiet.pickOr rfl rfl rfl rfl) (hk := ?_) | refine sQ (hq := Quiet.pickAnd rfl rfl rfl rfl) (hk := ?_) | refine sQ (hk := ?_) | refine sSkip (hk := ?_) | refine sG (hk := ?_) | refine sOwn (hk := ?_))); refine aSeq_nil ?_)
      refine h31 _ ?_
      refine nT (hk := ?_)
      refine Awp.ret ?_
      exact ⟨.inr rfl, Fin.own rfl⟩
end Mu
end
section
/-
  bound.Hints, walked.
  Conditions: at most 2^21 of everything.
-/
namespace Mu
open Go Go.RowKit Go.Proofs

def ownP (leaf : Bool) : Int := if leaf then 8 else 24
def argH (own : Int) (n : Nat) : List Hint := (List.range n).map fun (r : Nat) => ⟨(r : Int), own + (r : Int)⟩
def callH (l : List Int) (k : Nat) : List Hint := (List.range k).map fun (j : Nat) => ⟨l.getD j 0, 8 + (j : Int)⟩
def hintX (own : Int) (x : Ins) : List Hint := if x.op == 10 then [⟨x.a, own⟩] else if x.op == 5 then ⟨x.d, 8⟩ :: callH x.args (x.args.take 6).length else []
def hintB (own : Int) (b : Block) : List Hint := b.ins.flatMap (hintX own)
def hintsL (f : Func) (leaf : Bool) : List Hint := argH (ownP leaf) (argsK f) ++ f.blocks.flatMap (hintB (ownP leaf))
theorem argH_succ (own : Int) (n : Nat) : argH own (n + 1) = argH own n ++ [⟨(n : Int), own + (n : Int)⟩] := by unfold argH; rw [List.range_succ, List.map_append]; rfl
theorem argH_len (own : Int) (n : Nat) : (argH own n).length = n := by simp [argH]
theorem callH_succ {l : List Int} {k : Nat} {a : Int} (h : l[k]? = some a) : callH l (k + 1) = callH l k ++ [⟨a, 8 + (k : Int)⟩] := by
  unfold callH
  rw [List.range_succ, List.map_append]
  simp only [List.map_cons, List.map_nil, List.getD_eq_getElem?_getD, h, Option.getD_some]
theorem callH_len (l : List Int) (k : Nat) : (callH l k).length = k := by simp [callH]
theorem hintX_len (own : Int) (x : Ins) : (hintX own x).length ≤ 7 := by
  unfold hintX
  split
  · simp
  · split
    · rw [List.length_cons, callH_len, List.length_take]
      omega
    · simp
theorem flat_seven (own : Int) (l : List Ins) : (l.flatMap (hintX own)).length ≤ 7 * l.length := by
  induction l with
  | nil => simp
  | cons x l ih =>
    have := hintX_len own x
    rw [List.flatMap_cons, List.length_append, List.length_cons]
    omega
def allIns (f : Func) : List Ins := f.blocks.flatMap (·.ins)
theorem hint_total (own : Int) (f : Func) : (f.blocks.flatMap (hintB own)).length ≤ 7 * (allIns f).length := by
  have := flat_seven own (allIns f)
  unfold allIns at *
  rw [List.flatMap_assoc] at this
  exact this

set_option maxRecDepth 100000 in
set_option maxHeartbeats 4000000 in
theorem hints21_fn (f : Func) (leaf : Bool) (ho : okFunc f) (hs : smallF f) (hI : (allIns f).length ≤ 2097152) : Fn Tryd.prog 9 [.agg (encFunc f), .lit (.bool leaf)] (.bs tHint (hintsL f leaf)) := by
  have hbl := hs.blocks
  have hk6 := (argsK_eq f).2
  refine Fn.of_awp Tryd.func9 rfl (by kernel_rfl) rfl Tryd.ntmps9 fun C hC => ?_
  simp only [List.length_cons, List.length_nil, Nat.reduceAdd, Nat.reduceSub, List.replicate_succ, List.replicate_zero, List.cons_append, List.nil_append]
  refine Awp.seq fun K1 h1 => ?_
  (refine Awp.region ?_; (repeat (first | refine sQ (hq := Quiet.pickOr rfl rfl rfl rfl) (hk := ?_) | refine sQ (hq := Quiet.pickAnd rfl rfl rfl rfl) (hk := ?_) | refine sQ (hk := ?_) | refine sSkip (hk := ?_) | refine sG (hk := ?_) | refine sOwn (hk := ?_))); refine aSeq_nil ?_)
  refine h1 _ ?_
  refine nT (hk := ?_)
  refine Awp.seq fun K2 h2 => ?_
  (refine Awp.region ?_; (repeat (first | refine sQ (hq := Quiet.pickOr rfl rfl rfl rfl) (hk := ?_) | refine sQ (hq := Quiet.pickAnd rfl rfl rfl rfl) (hk := ?_) | refine sQ (hk := ?_) | refine sSkip (hk := ?_) | refine sG (hk := ?_) | refine sOwn (hk := ?_))); refine aSeq_nil ?_)
  refine h2 _ ?_
  refine nT (hk := ?_)
  refine Awp.seq fun K3 h3 => ?_
  have key : ∀ s' : St, St.le C s' ⟨[.any, .any, .ptr 0 0, .any, .any, .lit (.int .i64 (ownP leaf)), .any, .any, .any, .any, .any, .any, .any, .any, .any, .any, .any, .any, .any, .any, .any, .any, .any, .any, .any, .any, .any, .any, .any, .any, .any, .any, .any, .any, .any, .any, .any, .any, .any, .any, .any, .any, .any, .any, .any, .any, .any, .any, .any, .any, .any, .any, .any, .any, .any, .any, .any, .any, .any, .any, .any, .any, .any, .any, .any, .any, .any, .any, .any, .any, .any, .any, .any, .any, .any, .any, .any, .any, .any, .any, .any, .any, .any, .any, .any, .any], [.box (encFunc f)]⟩ → K3 s' := by
    intro s' hle
    refine h3 _ (Awp.via _ hle ?_)
    have how : 8 ≤ ownP leaf ∧ ownP leaf ≤ 24 := by unfold ownP; split <;> omega
    have hOw : ∀ j : Nat, j ≤ 6 → wfI .i64 (ownP leaf + (j : Int)) := fun j hj => by
      have : wfI .i64 (((ownP leaf).toNat + j : Nat) : Int) := nat_wf (by omega)
      rwa [show (((ownP leaf).toNat + j : Nat) : Int) = ownP leaf + (j : Int) by omega] at this
    have hOw0 : wfI .i64 (ownP leaf) := by have := hOw 0 (by omega); rwa [show ownP leaf + ((0 : Nat) : Int) = ownP leaf by omega] at this
    have htot := hint_total (ownP leaf) f
    generalize hown : ownP leaf = own at how hOw hOw0 htot
    have hfin : hintsL f leaf = argH own (argsK f) ++ f.blocks.flatMap (hintB own) := by unfold hintsL; rw [hown]
    rw [hfin]
    have w8 : wfI .i64 8 := (by decide : (Lit.int .i64 (8 : Int)).wf = true)
    refine Awp.seq fun K6 h6 => ?_
    (refine Awp.region ?_; (repeat (first | refine sQ (hq := Quiet.pickOr rfl rfl rfl rfl) (hk := ?_) | refine sQ (hq := Quiet.pickAnd rfl rfl rfl rfl) (hk := ?_) | refine sQ (hk := ?_) | refine sSkip (hk := ?_) | refine sG (hk := ?_) | refine sOwn (hk := ?_))); refine aSeq_nil ?_)
    refine h6 _ ?_
    refine nT (hk := ?_)
    refine Awp.seq fun K7 h7 => ?_
    refine Awp.seq fun K8 h8 => ?_
    (refine Awp.region ?_; (repeat (first | refine sQ (hq := Quiet.call rfl (args21_fn f) rfl rfl rfl) (hk := ?_) | refine sQ (hq := Quiet.pickOr rfl rfl rfl rfl) (hk := ?_) | refine sQ (hq := Quiet.pickAnd rfl rfl rfl rfl) (hk := ?_) | refine sQ (hk := ?_) | refine sSkip (hk := ?_) | refine sG (hg := by first | rfl | exact gA_c rfl rfl) (hq := by (intro hg; (try simp only [Bool.and_eq_true, beq_iff_eq] at hg); (try simp only [hg, cond_true, Bool.true_and, beq_self_eq_true]); exact Quiet.call rfl (args21_fn f) rfl rfl rfl)) (hk := ?_) | refine sG (hk := ?_) | refine sOwn (hk := ?_))); refine aSeq_nil ?_)
    refine h8 _ ?_
    refine nT (hk := ?_)
    refine Awp.block ?_
    refine Awp.loopF (fun p : Nat × Nat => ⟨[.any, .any, .ptr 0 0, .any, .any, .lit (.int .i64 own), .own 1 p.2, .any, .any, .any, .any, .any, .any, .any, .any, .any, .lit (.int .i64 (argsK f : Int)), .lit (.int .i64 (p.1 : Int)), .any, .any, .any, .any, .any, .any, .any, .any, .any, .any, .any, .any, .any, .any, .any, .any, .any, .any, .any, .any, .any, .any, .any, .any, .any, .any, .any, .any, .any, .any, .any, .any, .any, .any, .any, .any, .any, .any, .any, .any, .any, .any, .any, .any, .any, .any, .any, .any, .any, .any, .any, .any, .any, .any, .any, .any, .any, .any, .any, .any, .any, .any, .any, .any, .any, .any, .any, .any], [.box (encFunc f), .row p.2 34 tHint (argH own p.1)]⟩) (fun p => p.1 ≤ argsK f) (fun p => argsK f - p.1) (0, 0) (Nat.zero_le _) ((St.le_nil 6 34 tHint rfl (by decide)).trans (le_T)) ?_
    rintro ⟨k, ver⟩ hk
    dsimp only at hk ⊢
    refine Awp.seq fun K10 h10 => ?_
    (refine Awp.region ?_; (repeat (first | refine sQ (hq := Quiet.pickOr rfl rfl rfl rfl) (hk := ?_) | refine sQ (hq := Quiet.pickAnd rfl rfl rfl rfl) (hk := ?_) | refine sQ (hk := ?_) | refine sSkip (hk := ?_) | refine sG (hk := ?_) | refine sOwn (hk := ?_))); refine aSeq_nil ?_)
    refine h10 _ ?_
    refine nT (hk := ?_)
    refine Awp.seq fun K11 h11 => ?_
    refine Awp.cond rfl (fun hb12 => ?_) (fun hb12 => ?_)
    · have hlt : k < argsK f := by simpa using hb12
      have hw := nat_wf (k := k) (by omega)
      have hwo := hOw k (by omega)
      have hln := argH_len own k
      have hsn := argH_succ own k
      generalize hL0 : argH own k = L0 at hln hsn ⊢
      have hn1 : L0.length + [(⟨(k : Int), own + (k : Int)⟩ : Hint)].length ≤ maxLen := by simp [maxLen]; omega
      have hn2 : (L0.length + [(⟨(k : Int), own + (k : Int)⟩ : Hint)].length) * 16 ≤ 140737488355328 := by simp; omega
      refine Awp.skip ?_
      refine h11 _ ?_
      refine nT (hk := ?_)
      refine Awp.seq fun K13 h13 => ?_
      refine Awp.block ?_
      refine Awp.seq fun K14 h14 => ?_
      (refine Awp.region ?_; (repeat (first | refine sQ (hq := Quiet.pickOr rfl rfl rfl rfl) (hk := ?_) | refine sQ (hq := Quiet.pickAnd rfl rfl rfl rfl) (hk := ?_) | refine sQ (hk := ?_) | refine sSkip (hk := ?_) | refine sG (hk := ?_) | refine sOwn (hk := ?_))); refine aSeq_nil ?_)
      refine h14 _ ?_
      refine nT (hk := ?_)
      (refine Awp.region ?_; (repeat (first | refine sQ (hq := Quiet.bld (rs := [.lit (.int .i64 (k : Int)), .lit (.int .i64 (own + (k : Int)))]) rfl plHint rfl rfl) (hk := ?_) | refine sQ (hq := Quiet.lt1 (T := tHint) rfl rfl rfl (by rfl) (by decide) (fit_hint hw hwo)) (hk := ?_) | refine sQ (hq := Quiet.pickOr rfl rfl rfl rfl) (hk := ?_) | refine sQ (hq := Quiet.pickAnd rfl rfl rfl rfl) (hk := ?_) | refine sQ (hk := ?_) | refine sSkip (hk := ?_) | refine sG (hg := by first | rfl | exact gA_c rfl rfl) (hq := by (intro hg; (try simp only [] at hg); (try simp only [hg, cond_true, Bool.true_and, beq_self_eq_true]); exact Quiet.bld (rs := [.lit (.int .i64 (k : Int)), .lit (.int .i64 (own + (k : Int)))]) rfl plHint rfl rfl)) (hk := ?_) | refine sG (hg := by first | rfl | exact gA_c rfl rfl) (hq := by (intro hg; (try simp only [] at hg); (try simp only [hg, cond_true, Bool.true_and, beq_self_eq_true]); exact Quiet.lt1 (T := tHint) rfl rfl rfl (by rfl) (by decide) (fit_hint hw hwo))) (hk := ?_) | refine sG (hk := ?_) | refine sOwn (hk := ?_))); refine aSeq_nil ?_)
      refine h13 _ ?_
      refine nT (hk := ?_)
      (refine Awp.region ?_; (repeat (first | refine sQ (hq := Quiet.pickOr rfl rfl rfl rfl) (hk := ?_) | refine sQ (hq := Quiet.pickAnd rfl rfl rfl rfl) (hk := ?_) | refine sQ (hk := ?_) | refine sSkip (hk := ?_) | refine sG (hk := ?_) | refine sOwn (hk := ?_))); refine aSeq_nil ?_)
      refine athen_n ⟨(k + 1, ver + 1), by dsimp only; omega, by dsimp only; omega, ?_⟩
      dsimp only
      rw [hsn]
      exact le_T
    · have hke : k = argsK f := by have : ¬ k < argsK f := by simpa using hb12
                                   omega
      subst hke
      have hln := argH_len own (argsK f)
      generalize hA0 : argH own (argsK f) = A0 at hln ⊢
      refine Awp.exit ?_
      refine h7 _ ?_
      refine nT (hk := ?_)
      refine Awp.seq fun K15 h15 => ?_
      refine Awp.seq fun K16 h16 => ?_
      (refine Awp.region ?_; (repeat (first | refine sQ (hq := Quiet.pickOr rfl rfl rfl rfl) (hk := ?_) | refine sQ (hq := Quiet.pickAnd rfl rfl rfl rfl) (hk := ?_) | refine sQ (hk := ?_) | refine sSkip (hk := ?_) | refine sG (hk := ?_) | refine sOwn (hk := ?_))); refine aSeq_nil ?_)
      refine h16 _ ?_
      refine nT (hk := ?_)
      refine Awp.block ?_
      refine Awp.loopF (fun p : Nat × Nat => ⟨[.any, .any, .ptr 0 0, .any, .any, .lit (.int .i64 own), .own 1 p.2, .any, .any, .any, .any, .any, .any, .any, .any, .any, .any, .any, .any, .any, .any, .any, .any, .any, .any, .any, .any, .any, .any, .any, .bs tBlock f.blocks, .lit (.int .i64 (f.blocks.length : Int)), .lit (.int .i64 (p.1 : Int)), .any, .any, .any, .any, .any, .any, .any, .any, .any, .any, .any, .any, .any, .any, .any, .any, .any, .any, .any, .any, .any, .any, .any, .any, .any, .any, .any, .any, .any, .any, .any, .any, .any, .any, .any, .any, .any, .any, .any, .any, .any, .any, .any, .any, .any, .any, .any, .any, .any, .any, .any, .any, .any], [.box (encFunc f), .row p.2 34 tHint (A0 ++ (f.blocks.take p.1).flatMap (hintB own))]⟩) (fun p => p.1 ≤ f.blocks.length) (fun p => f.blocks.length - p.1) (0, ver) (Nat.zero_le _) (by rw [show A0 ++ (f.blocks.take (0, ver).1).flatMap (hintB own) = A0 by simp]; exact le_T) ?_
      rintro ⟨b, ver⟩ hb
      dsimp only at hb ⊢
      refine Awp.seq fun K18 h18 => ?_
      (refine Awp.region ?_; (repeat (first | refine sQ (hq := Quiet.pickOr rfl rfl rfl rfl) (hk := ?_) | refine sQ (hq := Quiet.pickAnd rfl rfl rfl rfl) (hk := ?_) | refine sQ (hk := ?_) | refine sSkip (hk := ?_) | refine sG (hk := ?_) | refine sOwn (hk := ?_))); refine aSeq_nil ?_)
      refine h18 _ ?_
      refine nT (hk := ?_)
      refine Awp.seq fun K19 h19 => ?_
      refine Awp.cond rfl (fun hb20 => ?_) (fun hb20 => ?_)
      · have hlt : b < f.blocks.length := by simpa using hb20
        obtain ⟨bl, hblk⟩ : ∃ bl, f.blocks[b]? = some bl := ⟨_, List.getElem?_eq_getElem hlt⟩
        have hmem := List.mem_of_getElem? hblk
        have hob := ho.blocks bl hmem
        have hsb := hs.all bl hmem
        have hil := hsb.ins
        have hfn := flat_next (g := hintB own) hblk
        refine Awp.skip ?_
        refine h19 _ ?_
        refine nT (hk := ?_)
        refine Awp.seq fun K21 h21 => ?_
        refine Awp.block ?_
        refine Awp.seq fun K22 h22 => ?_
        (refine Awp.region ?_; (repeat (first | refine sQ (hq := Quiet.pickOr rfl rfl rfl rfl) (hk := ?_) | refine sQ (hq := Quiet.pickAnd rfl rfl rfl rfl) (hk := ?_) | refine sQ (hk := ?_) | refine sSkip (hk := ?_) | refine sG (hk := ?_) | refine sOwn (hk := ?_))); refine aSeq_nil ?_)
        refine h22 _ ?_
        refine nT (hk := ?_)
        refine Awp.seq fun K23 h23 => ?_
        (refine Awp.region ?_; (repeat (first | refine sQ (hq := Quiet.pickOr rfl rfl rfl rfl) (hk := ?_) | refine sQ (hq := Quiet.pickAnd rfl rfl rfl rfl) (hk := ?_) | refine sQ (hk := ?_) | refine sSkip (hk := ?_) | refine sG (hk := ?_) | refine sOwn (hk := ?_))); refine aSeq_nil ?_)
        refine h23 _ ?_
        refine nT (hk := ?_)
        refine Awp.block ?_
        refine Awp.loopF (fun p : Nat × Nat => ⟨[.any, .any, .ptr 0 0, .any, .any, .lit (.int .i64 own), .own 1 p.2, .any, .any, .any, .any, .any, .any, .any, .any, .any, .any, .any, .any, .any, .any, .any, .any, .any, .any, .any, .any, .any, .any, .any, .bs tBlock f.blocks, .lit (.int .i64 (f.blocks.length : Int)), .lit (.int .i64 (b : Int)), .any, .any, .any, .any, .bs tIns bl.ins, .lit (.int .i64 (bl.ins.length : Int)), .lit (.int .i64 (p.1 : Int)), .any, .any, .any, .any, .any, .any, .any, .any, .any, .any, .any, .any, .any, .any, .any, .any, .any, .any, .any, .any, .any, .any, .any, .any, .any, .any, .any, .any, .any, .any, .any, .any, .any, .any, .any, .any, .any, .any, .any, .any, .any, .any, .any, .any, .any, .any], [.box (encFunc f), .row p.2 34 tHint (A0 ++ (f.blocks.take b).flatMap (hintB own) ++ (bl.ins.take p.1).flatMap (hintX own))]⟩) (fun p => p.1 ≤ bl.ins.length) (fun p => bl.ins.length - p.1) (0, ver) (Nat.zero_le _) (by rw [show A0 ++ (f.blocks.take b).flatMap (hintB own) ++ (bl.ins.take (0, ver).1).flatMap (hintX own) = A0 ++ (f.blocks.take b).flatMap (hintB own) by simp]; exact le_C (.cons (.cons (Cut.nil _)))) ?_
        rintro ⟨i, ver⟩ hi
        dsimp only at hi ⊢
        refine Awp.seq fun K25 h25 => ?_
        (refine Awp.region ?_; (repeat (first | refine sQ (hq := Quiet.pickOr rfl rfl rfl rfl) (hk := ?_) | refine sQ (hq := Quiet.pickAnd rfl rfl rfl rfl) (hk := ?_) | refine sQ (hk := ?_) | refine sSkip (hk := ?_) | refine sG (hk := ?_) | refine sOwn (hk := ?_))); refine aSeq_nil ?_)
        refine h25 _ ?_
        refine nT (hk := ?_)
        refine Awp.seq fun K26 h26 => ?_
        refine Awp.cond rfl (fun hb27 => ?_) (fun hb27 => ?_)
        · have hil2 : i < bl.ins.length := by simpa using hb27
          obtain ⟨x, hx⟩ : ∃ x, bl.ins[i]? = some x := ⟨_, List.getElem?_eq_getElem hil2⟩
          have hxm := List.mem_of_getElem? hx
          have hox := hob.ins x hxm
          have hxl : x.args.length ≤ 2097152 := by have := hsb.all x hxm; omega
          have hxn := flat_next (g := hintX own) hx
          have hle := flat2_le (g := hintX own) hblk hx
          have hX' : (f.blocks.flatMap fun c => c.ins.flatMap (hintX own)).length ≤ 14680064 := by
            have : (f.blocks.flatMap fun c => c.ins.flatMap (hintX own)) = f.blocks.flatMap (hintB own) := rfl
            rw [this]
            omega
          have hL : (A0 ++ (f.blocks.take b).flatMap (hintB own) ++ (bl.ins.take i).flatMap (hintX own)).length + (hintX own x).length ≤ 14680070 := by
            rw [List.length_append, List.length_append, hln]
            have : ((f.blocks.take b).flatMap (hintB own)).length = ((f.blocks.take b).flatMap fun c => c.ins.flatMap (hintX own)).length := rfl
            omega
          have hnext : A0 ++ (f.blocks.take b).flatMap (hintB own) ++ (bl.ins.take (i + 1)).flatMap (hintX own) = (A0 ++ (f.blocks.take b).flatMap (hintB own) ++ (bl.ins.take i).flatMap (hintX own)) ++ hintX own x := by rw [hxn, List.append_assoc _ _ (hintX own x)]
          generalize hL0 : A0 ++ (f.blocks.take b).flatMap (hintB own) ++ (bl.ins.take i).flatMap (hintX own) = L0 at hL hnext ⊢
          have hL1 : L0.length ≤ 14680070 := by omega
          refine Awp.skip ?_
          refine h26 _ ?_
          refine nT (hk := ?_)
          refine Awp.seq fun K28 h28 => ?_
          refine Awp.block ?_
          refine Awp.seq fun K29 h29 => ?_
          (refine Awp.region ?_; (repeat (first | refine sQ (hq := Quiet.pickOr rfl rfl rfl rfl) (hk := ?_) | refine sQ (hq := Quiet.pickAnd rfl rfl rfl rfl) (hk := ?_) | refine sQ (hk := ?_) | refine sSkip (hk := ?_) | refine sG (hk := ?_) | refine sOwn (hk := ?_))); refine aSeq_nil ?_)
          refine h29 _ ?_
          refine nT (hk := ?_)
          refine Awp.seq fun K30 h30 => ?_
          (refine Awp.region ?_; (repeat (first | refine sQ (hq := Quiet.pickOr rfl rfl rfl rfl) (hk := ?_) | refine sQ (hq := Quiet.pickAnd rfl rfl rfl rfl) (hk := ?_) | refine sQ (hk := ?_) | refine sSkip (hk := ?_) | refine sG (hk := ?_) | refine sOwn (hk := ?_))); refine aSeq_nil ?_)
          refine h30 _ ?_
          refine nT (hk := ?_)
          refine Awp.block ?_
          refine Awp.seq fun K31 h31 => ?_
          (refine Awp.region ?_; (repeat (first | refine sQ (hq := Quiet.pickOr rfl rfl rfl rfl) (hk := ?_) | refine sQ (hq := Quiet.pickAnd rfl rfl rfl rfl) (hk := ?_) | refine sQ (hk := ?_) | refine sSkip (hk := ?_) | refine sG (hk := ?_) | refine sOwn (hk := ?_))); refine aSeq_nil ?_)
          refine h31 _ ?_
          refine nT (hk := ?_)
          refine Awp.cond rfl (fun hb32 => ?_) (fun hb32 => ?_)
          · have e : hintX own x = [⟨x.a, own⟩] := by unfold hintX; rw [if_pos hb32]
            have hn1 : L0.length + [(⟨x.a, own⟩ : Hint)].length ≤ maxLen := by simp [maxLen]; omega
            have hn2 : (L0.length + [(⟨x.a, own⟩ : Hint)].length) * 16 ≤ 140737488355328 := by simp; omega
            (refine Awp.region ?_; (repeat (first | refine sQ (hq := Quiet.bld (rs := [.lit (.int .i64 x.a), .lit (.int .i64 own)]) rfl plHint rfl rfl) (hk := ?_) | refine sQ (hq := Quiet.lt1 (T := tHint) rfl rfl rfl (by rfl) (by decide) (fit_hint hox.a hOw0)) (hk := ?_) | refine sQ (hq := Quiet.pickOr rfl rfl rfl rfl) (hk := ?_) | refine sQ (hq := Quiet.pickAnd rfl rfl rfl rfl) (hk := ?_) | refine sQ (hk := ?_) | refine sSkip (hk := ?_) | refine sG (hg := by first | rfl | exact gA_c rfl rfl) (hq := by (intro hg; (try simp only [] at hg); (try simp only [hg, cond_true, Bool.true_and, beq_self_eq_true]); exact Quiet.bld (rs := [.lit (.int .i64 x.a), .lit (.int .i64 own)]) rfl plHint rfl rfl)) (hk := ?_) | refine sG (hg := by first | rfl | exact gA_c rfl rfl) (hq := by (intro hg; (try simp only [] at hg); (try simp only [hg, cond_true, Bool.true_and, beq_self_eq_true]); exact Quiet.lt1 (T := tHint) rfl rfl rfl (by rfl) (by decide) (fit_hint hox.a hOw0))) (hk := ?_) | refine sG (hk := ?_) | refine sOwn (hk := ?_))); refine aSeq_nil ?_)
            refine h28 _ ?_
            refine nT (hk := ?_)
            (refine Awp.region ?_; (repeat (first | refine sQ (hq := Quiet.pickOr rfl rfl rfl rfl) (hk := ?_) | refine sQ (hq := Quiet.pickAnd rfl rfl rfl rfl) (hk := ?_) | refine sQ (hk := ?_) | refine sSkip (hk := ?_) | refine sG (hk := ?_) | refine sOwn (hk := ?_))); refine aSeq_nil ?_)
            refine athen_n ⟨(i + 1, ver + 1), by dsimp only; omega, by dsimp only; omega, ?_⟩
            dsimp only
            rw [hnext, e]
            exact le_C (.cons (.cons (Cut.nil _)))
          · refine Awp.seq fun K33 h33 => ?_
            (refine Awp.region ?_; (repeat (first | refine sQ (hq := Quiet.pickOr rfl rfl rfl rfl) (hk := ?_) | refine sQ (hq := Quiet.pickAnd rfl rfl rfl rfl) (hk := ?_) | refine sQ (hk := ?_) | refine sSkip (hk := ?_) | refine sG (hk := ?_) | refine sOwn (hk := ?_))); refine aSeq_nil ?_)
            refine h33 _ ?_
            refine nT (hk := ?_)
            refine Awp.cond rfl (fun hb34 => ?_) (fun hb34 => ?_)
            · have e : hintX own x = ⟨x.d, 8⟩ :: callH x.args (x.args.take 6).length := by unfold hintX; rw [if_neg (by rw [hb32]; simp), if_pos hb34]
              have hn1 : L0.length + [(⟨x.d, 8⟩ : Hint)].length ≤ maxLen := by simp [maxLen]; omega
              have hn2 : (L0.length + [(⟨x.d, 8⟩ : Hint)].length) * 16 ≤ 140737488355328 := by simp; omega
              refine Awp.seq fun K35 h35 => ?_
              (refine Awp.region ?_; (repeat (first | refine sQ (hq := Quiet.bld (rs := [.lit (.int .i64 x.d), .lit (.int .i64 8)]) rfl plHint rfl rfl) (hk := ?_) | refine sQ (hq := Quiet.lt1 (T := tHint) rfl rfl rfl (by rfl) (by decide) (fit_hint hox.d w8)) (hk := ?_) | refine sQ (hq := Quiet.pickOr rfl rfl rfl rfl) (hk := ?_) | refine sQ (hq := Quiet.pickAnd rfl rfl rfl rfl) (hk := ?_) | refine sQ (hk := ?_) | refine sSkip (hk := ?_) | refine sG (hg := by first | rfl | exact gA_c rfl rfl) (hq := by (intro hg; (try simp only [] at hg); (try simp only [hg, cond_true, Bool.true_and, beq_self_eq_true]); exact Quiet.bld (rs := [.lit (.int .i64 x.d), .lit (.int .i64 8)]) rfl plHint rfl rfl)) (hk := ?_) | refine sG (hg := by first | rfl | exact gA_c rfl rfl) (hq := by (intro hg; (try simp only [] at hg); (try simp only [hg, cond_true, Bool.true_and, beq_self_eq_true]); exact Quiet.lt1 (T := tHint) rfl rfl rfl (by rfl) (by decide) (fit_hint hox.d w8))) (hk := ?_) | refine sG (hk := ?_) | refine sOwn (hk := ?_))); refine aSeq_nil ?_)
              refine h35 _ ?_
              refine nT (hk := ?_)
              refine Awp.seq fun K36 h36 => ?_
              have hmin : (if (6 : Int) < (x.args.length : Int) then (6 : Int) else (x.args.length : Int)) = ((x.args.take 6).length : Int) := by rw [List.length_take]; split <;> omega
              have hml : (x.args.take 6).length ≤ x.args.length := by rw [List.length_take]; omega
              have hm6 : (x.args.take 6).length ≤ 6 := by rw [List.length_take]; omega
              (refine Awp.region ?_; (repeat (first | refine sQ (hq := Quiet.slc (l := 0) (m := (x.args.take 6).length) rfl rfl rfl rfl ⟨_, congrArg (fun z => AV.lit (Value.int .i64 z)) hmin⟩ (Nat.zero_le _) hml) (hk := ?_) | refine sQ (hq := Quiet.pickOr rfl rfl rfl rfl) (hk := ?_) | refine sQ (hq := Quiet.pickAnd rfl rfl rfl rfl) (hk := ?_) | refine sQ (hk := ?_) | refine sSkip (hk := ?_) | refine sG (hg := by first | rfl | exact gA_c rfl rfl) (hq := by (intro hg; (try simp only [Bool.and_eq_true, beq_iff_eq] at hg); (try simp only [hg, cond_true, Bool.true_and, beq_self_eq_true]); exact Quiet.slc (l := 0) (m := (x.args.take 6).length) rfl rfl rfl rfl ⟨_, congrArg (fun z => AV.lit (Value.int .i64 z)) hmin⟩ (Nat.zero_le _) hml)) (hk := ?_) | refine sG (hk := ?_) | refine sOwn (hk := ?_))); refine aSeq_nil ?_)
              have hSl : ((x.args.take (x.args.take 6).length).drop 0).length = (x.args.take 6).length := by rw [List.length_drop, List.length_take]; omega
              have hSg : ∀ j, j < (x.args.take 6).length → ((x.args.take (x.args.take 6).length).drop 0)[j]? = x.args[j]? := fun j hj => by rw [List.drop_zero, List.getElem?_take_of_lt hj]
              generalize hm0 : (x.args.take 6).length = m at hml hm6 hSl hSg e ⊢
              generalize hS0 : (x.args.take m).drop 0 = S at hSl hSg ⊢
              refine h36 _ ?_
              refine nT (hk := ?_)
              refine Awp.block ?_
              refine Awp.loopF (fun p : Nat × Nat => ⟨[.any, .any, .ptr 0 0, .any, .any, .lit (.int .i64 own), .own 1 p.2, .any, .any, .any, .any, .any, .any, .any, .any, .any, .any, .any, .any, .any, .any, .any, .any, .any, .any, .any, .any, .any, .any, .any, .bs tBlock f.blocks, .lit (.int .i64 (f.blocks.length : Int)), .lit (.int .i64 (b : Int)), .any, .any, .any, .any, .bs tIns bl.ins, .lit (.int .i64 (bl.ins.length : Int)), .lit (.int .i64 (i : Int)), .any, .any, .any, .any, .any, .any, .any, .any, .any, .any, .any, .any, .any, .any, .any, .any, .any, .any, .any, .any, .any, .any, .any, .any, .any, .any, .any, .any, .bs tInt S, .lit (.int .i64 (S.length : Int)), .lit (.int .i64 (p.1 : Int)), .any, .any, .any, .any, .any, .any, .any, .any, .any, .any, .any, .any, .any, .any, .any], [.box (encFunc f), .row p.2 34 tHint (L0 ++ [⟨x.d, 8⟩] ++ callH x.args p.1)]⟩) (fun p => p.1 ≤ S.length) (fun p => S.length - p.1) (0, ver + 1) (Nat.zero_le _) (by rw [show L0 ++ [⟨x.d, 8⟩] ++ callH x.args (0, ver + 1).1 = L0 ++ [⟨x.d, 8⟩] by simp [callH]]; exact le_C (.cons (.cons (Cut.nil _)))) ?_
              rintro ⟨j, ver⟩ hj
              dsimp only at hj ⊢
              refine Awp.seq fun K38 h38 => ?_
              (refine Awp.region ?_; (repeat (first | refine sQ (hq := Quiet.pickOr rfl rfl rfl rfl) (hk := ?_) | refine sQ (hq := Quiet.pickAnd rfl rfl rfl rfl) (hk := ?_) | refine sQ (hk := ?_) | refine sSkip (hk := ?_) | refine sG (hk := ?_) | refine sOwn (hk := ?_))); refine aSeq_nil ?_)
              refine h38 _ ?_
              refine nT (hk := ?_)
              refine Awp.seq fun K39 h39 => ?_
              refine Awp.cond rfl (fun hb40 => ?_) (fun hb40 => ?_)
              · have hjl : j < S.length := by simpa using hb40
                obtain ⟨a, ha⟩ : ∃ a, S[j]? = some a := ⟨_, List.getElem?_eq_getElem hjl⟩
                have haa : x.args[j]? = some a := by rw [← hSg j (by omega)]; exact ha
                have hwa := hox.args a (List.mem_of_getElem? haa)
                have hw8 : wfI .i64 (8 + (j : Int)) := by
                  have : wfI .i64 ((8 + j : Nat) : Int) := nat_wf (by omega)
                  rwa [show ((8 + j : Nat) : Int) = 8 + (j : Int) by omega] at this
                have hcs := callH_succ haa
                have hcl := callH_len x.args j
                generalize hC0 : callH x.args j = C0 at hcs hcl ⊢
                have hn3 : (L0 ++ [(⟨x.d, 8⟩ : Hint)] ++ C0).length + [(⟨a, 8 + (j : Int)⟩ : Hint)].length ≤ maxLen := by simp [maxLen]; omega
                have hn4 : ((L0 ++ [(⟨x.d, 8⟩ : Hint)] ++ C0).length + [(⟨a, 8 + (j : Int)⟩ : Hint)].length) * 16 ≤ 140737488355328 := by simp; omega
                refine Awp.skip ?_
                refine h39 _ ?_
                refine nT (hk := ?_)
                refine Awp.seq fun K41 h41 => ?_
                refine Awp.block ?_
                refine Awp.seq fun K42 h42 => ?_
                (refine Awp.region ?_; (repeat (first | refine sQ (hq := Quiet.pickOr rfl rfl rfl rfl) (hk := ?_) | refine sQ (hq := Quiet.pickAnd rfl rfl rfl rfl) (hk := ?_) | refine sQ (hk := ?_) | refine sSkip (hk := ?_) | refine sG (hk := ?_) | refine sOwn (hk := ?_))); refine aSeq_nil ?_)
                refine h42 _ ?_
                refine nT (hk := ?_)
                (refine Awp.region ?_; (repeat (first | refine sQ (hq := Quiet.bld (rs := [.lit (.int .i64 a), .lit (.int .i64 (8 + (j : Int)))]) rfl plHint rfl rfl) (hk := ?_) | refine sQ (hq := Quiet.lt1 (T := tHint) rfl rfl rfl (by rfl) (by decide) (fit_hint hwa hw8)) (hk := ?_) | refine sQ (hq := Quiet.pickOr rfl rfl rfl rfl) (hk := ?_) | refine sQ (hq := Quiet.pickAnd rfl rfl rfl rfl) (hk := ?_) | refine sQ (hk := ?_) | refine sSkip (hk := ?_) | refine sG (hg := by first | rfl | exact gA_c rfl rfl) (hq := by (intro hg; (try simp only [] at hg); (try simp only [hg, cond_true, Bool.true_and, beq_self_eq_true]); exact Quiet.bld (rs := [.lit (.int .i64 a), .lit (.int .i64 (8 + (j : Int)))]) rfl plHint rfl rfl)) (hk := ?_) | refine sG (hg := by first | rfl | exact gA_c rfl rfl) (hq := by (intro hg; (try simp only [] at hg); (try simp only [hg, cond_true, Bool.true_and, beq_self_eq_true]); exact Quiet.lt1 (T := tHint) rfl rfl rfl (by rfl) (by decide) (fit_hint hwa hw8))) (hk := ?_) | refine sG (hk := ?_) | refine sOwn (hk := ?_))); refine aSeq_nil ?_)
                refine h41 _ ?_
                refine nT (hk := ?_)
                (refine Awp.region ?_; (repeat (first | refine sQ (hq := Quiet.pickOr rfl rfl rfl rfl) (hk := ?_) | refine sQ (hq := Quiet.pickAnd rfl rfl rfl rfl) (hk := ?_) | refine sQ (hk := ?_) | refine sSkip (hk := ?_) | refine sG (hk := ?_) | refine sOwn (hk := ?_))); refine aSeq_nil ?_)
                refine athen_n ⟨(j + 1, ver + 1), by dsimp only; omega, by dsimp only; omega, ?_⟩
                dsimp only
                rw [hcs, ← List.append_assoc]
                exact le_T
              · have hje : j = S.length := by have : ¬ j < S.length := by simpa using hb40
                                              omega
                subst hje
                refine Awp.exit ?_
                refine h28 _ ?_
                refine nT (hk := ?_)
                (refine Awp.region ?_; (repeat (first | refine sQ (hq := Quiet.pickOr rfl rfl rfl rfl) (hk := ?_) | refine sQ (hq := Quiet.pickAnd rfl rfl rfl rfl) (hk := ?_) | refine sQ (hk := ?_) | refine sSkip (hk := ?_) | refine sG (hk := ?_) | refine sOwn (hk := ?_))); refine aSeq_nil ?_)
                refine athen_n ⟨(i + 1, ver), by dsimp only; omega, by dsimp only; omega, ?_⟩
                dsimp only
                rw [hnext, e, hSl, List.append_assoc L0]
                exact le_T
            · have e : hintX own x = [] := by unfold hintX; rw [if_neg (by rw [hb32]; simp), if_neg (by rw [hb34]; simp)]
              refine Awp.skip ?_
              refine h28 _ ?_
              refine nT (hk := ?_)
              (refine Awp.region ?_; (repeat (first | refine sQ (hq := Quiet.pickOr rfl rfl rfl rfl) (hk := ?_) | refine sQ (hq := Quiet.pickAnd rfl rfl rfl rfl) (hk := ?_) | refine sQ (hk := ?_) | refine sSkip (hk := ?_) | refine sG (hk := ?_) | refine sOwn (hk := ?_))); refine aSeq_nil ?_)
              refine athen_n ⟨(i + 1, ver), by dsimp only; omega, by dsimp only; omega, ?_⟩
              dsimp only
              rw [hnext, e, List.append_nil]
              exact le_C (.cons (.cons (Cut.nil _)))
        · have hie : i = bl.ins.length := by have : ¬ i < bl.ins.length := by simpa using hb27
                                             omega
          subst hie
          rw [List.take_length]
          refine Awp.exit ?_
          refine h21 _ ?_
          refine nT (hk := ?_)
          (refine Awp.region ?_; (repeat (first | refine sQ (hq := Quiet.pickOr rfl rfl rfl rfl) (hk := ?_) | refine sQ (hq := Quiet.pickAnd rfl rfl rfl rfl) (hk := ?_) | refine sQ (hk := ?_) | refine sSkip (hk := ?_) | refine sG (hk := ?_) | refine sOwn (hk := ?_))); refine aSeq_nil ?_)
          refine athen_n ⟨(b + 1, ver), by dsimp only; omega, by dsimp only; omega, ?_⟩
          dsimp only
          rw [hfn, ← List.append_assoc]
          exact le_T
      · have hbe : b = f.blocks.length := by have : ¬ b < f.blocks.length := by simpa using hb20
                                             omega
        subst hbe
        rw [List.take_length]
        refine Awp.exit ?_
        refine h15 _ ?_
        refine nT (hk := ?_)
        refine Awp.seq fun K43 h43 => ?_
        (refine Awp.region ?_; (repeat (first | refine sQ (hq := Quiet.pickOr rfl rfl rfl rfl) (hk := ?_) | refine sQ (hq := Quiet.pickAnd rfl rfl rfl rfl) (hk := ?_) | refine sQ (hk := ?_) | refine sSkip (hk := ?_) | refine sG (hk := ?_) | refine sOwn (hk := ?_))); refine aSeq_nil ?_)
        refine h43 _ ?_
        refine nT (hk := ?_)
        refine Awp.ret ?_
        subst hA0
        exact ⟨.inr rfl, Fin.own rfl⟩
  refine Awp.seq fun K4 h4 => ?_
  (refine Awp.region ?_; (repeat (first | refine sQ (hq := Quiet.pickOr rfl rfl rfl rfl) (hk := ?_) | refine sQ (hq := Quiet.pickAnd rfl rfl rfl rfl) (hk := ?_) | refine sQ (hk := ?_) | refine sSkip (hk := ?_) | refine sG (hk := ?_) | refine sOwn (hk := ?_))); refine aSeq_nil ?_)
  refine h4 _ ?_
  refine nT (hk := ?_)
  refine Awp.cond rfl (fun hb5 => ?_) (fun hb5 => ?_)
  · subst hb5
    (refine Awp.region ?_; (repeat (first | refine sQ (hq := Quiet.pickOr rfl rfl rfl rfl) (hk := ?_) | refine sQ (hq := Quiet.pickAnd rfl rfl rfl rfl) (hk := ?_) | refine sQ (hk := ?_) | refine sSkip (hk := ?_) | refine sG (hk := ?_) | refine sOwn (hk := ?_))); refine aSeq_nil ?_)
    refine key _ ?_
    exact le_T
  · subst hb5
    refine Awp.skip ?_
    refine key _ ?_
    exact le_T
end Mu
end
section
/-
  What bound.Hints comes to, in plain terms, for a function of a program that may be.
  Conditions: none.
-/
namespace Mu
open Go Go.RowKit Go.Proofs

section
variable {P : Program} {C : Ctx} {t : List AV} {h : List ABlk} {o : Oper}
theorem Quiet.conv {src dst : TypeId} {x : Operand} {k q : IntKind} {n m : Int} (hs : (P.underlying src).isSome = true) (hd : P.underlying dst = some (.int k)) (ho : o.op = .convert src dst x) (hx : evA t x = .lit (.int q n)) (hm : k.wrap n = m) : Quiet P C t h o (.lit (.int k m)) :=
  Quiet.of_run fun S ψ w ρ _ hρ => by
    have h1 := hρ x (by simp [ho, Op.operands])
    rw [hx] at h1
    unfold AV.rel at h1
    have hk : P.intKind dst = k := by simp [Program.intKind, hd]
    have hr := run_convert_int w src dst q n hs (by rw [hk]; exact hd)
    rw [hk] at hr
    refine ⟨.int k (k.wrap n), ?_, by rw [hm]; unfold AV.rel; rfl⟩
    simp [execOp, ho, h1, hr]
theorem Quiet.remP {xt yt : TypeId} {x y : Operand} {k : IntKind} {a b c : Nat} (hb : 0 < b) (hc : a % b = c) (ho : o.op = .binOp .rem xt x y yt) (hx : evA t x = .lit (.int k (a : Int))) (hy : evA t y = .lit (.int k (b : Int))) : Quiet P C t h o (.lit (.int k (c : Int))) := by
  refine Quiet.bin ho hx hy ?_
  unfold intBin
  have : ¬ (b : Int) = 0 := by omega
  simp only [if_neg this]
  rw [← hc, Int.tmod_eq_emod_of_nonneg (by omega)]
  rfl
end
/-- how many wishes an instruction has, as the statement counts -/
def wantX (x : Ins) : Int := (if x.op == 10 then 1 else 0) + (if x.op == 5 then 1 + (x.args.length : Int) else 0)
/-- what a program that may be gives its functions -/
structure Ok21 (f : Func) : Prop where
  args0 : 0 ≤ f.args
  args6 : f.args ≤ 6
  calls : ∀ b ∈ f.blocks, ∀ x ∈ b.ins, x.op = 5 → x.args.length ≤ 6
theorem badF_ok {p : Prog} {n : Nat} {f : Func} (h : funcB p n f = true) : 0 ≤ f.args ∧ f.args ≤ 6 := by
  unfold funcB at h
  simp only [Bool.and_eq_true, Bool.not_eq_true'] at h
  have h1 := h.2.1
  unfold badF at h1
  simp only [Bool.or_eq_false_iff, decide_eq_false_iff_not] at h1
  omega
theorem ok21_of {p : Prog} (h : checkO p = none) {n : Nat} {f : Func} (hf : p.funcs[n]? = some f) : Ok21 f := by
  obtain ⟨h1, h2, _⟩ := (chk_ok h).2 n f hf
  obtain ⟨a0, a6⟩ := badF_ok h1
  refine ⟨a0, a6, fun b hb x hx h5 => ?_⟩
  obtain ⟨i, hi⟩ := List.mem_iff_getElem?.1 hb
  have h6 := h2 i b hi
  unfold blockB at h6
  simp only [Bool.and_eq_true, Bool.not_eq_true'] at h6
  obtain ⟨k, hk⟩ := List.mem_iff_getElem?.1 hx
  have hkl : k < b.ins.length := (List.getElem?_eq_some_iff.1 hk).1
  have h7 := List.any_eq_false.1 h6.2.2 k (List.mem_range.2 hkl)
  unfold badAt badI at h7
  rw [hk] at h7
  simp only [Option.elim, Bool.or_eq_true, not_or, Bool.not_eq_true, Bool.not_eq_false'] at h7
  have h8 := h7.2
  unfold oneB at h8
  simp only [Bool.and_eq_true, Bool.not_eq_true'] at h8
  have h9 := h8.2.2.2.1
  rw [h5] at h9
  simp only [beq_self_eq_true, Bool.true_and] at h9
  unfold bad5 at h9
  simp only [Bool.or_eq_false_iff, decide_eq_false_iff_not, bne_eq_false_iff_eq] at h9
  obtain ⟨⟨c0, c1⟩, c2⟩ := h9
  obtain ⟨g, hg⟩ : ∃ g, p.funcs[x.f.toNat]? = some g := ⟨_, List.getElem?_eq_getElem (by omega)⟩
  unfold argsN at c2
  rw [hg] at c2
  simp only [Option.elim] at c2
  have := badF_ok ((chk_ok h).2 _ g hg).1
  omega
theorem want_len {own : Int} {x : Ins} (hc : x.op = 5 → x.args.length ≤ 6) : ((hintX own x).length : Int) = wantX x := by
  unfold hintX wantX
  by_cases h10 : x.op = 10
  · simp [h10]
  · by_cases h5 : x.op = 5
    · have := hc h5
      simp only [h5, callH_len, List.length_take, show ((5 : Int) == 10) = false from by decide, Bool.false_eq_true, if_false, beq_self_eq_true, if_true, List.length_cons]
      omega
    · simp [h10, h5]
def wantL (f : Func) : Int := f.args + ((f.blocks.flatMap (hintB 8)).length : Int)
theorem hintX_own (a b : Int) (x : Ins) : (hintX a x).length = (hintX b x).length := by
  unfold hintX
  split
  · rfl
  · split <;> rfl
theorem hintB_own (a b : Int) (f : Func) : (f.blocks.flatMap (hintB a)).length = (f.blocks.flatMap (hintB b)).length := by
  have hB : ∀ l : List Ins, (l.flatMap (hintX a)).length = (l.flatMap (hintX b)).length := by
    intro l
    induction l with
    | nil => rfl
    | cons x l ih => rw [List.flatMap_cons, List.flatMap_cons, List.length_append, List.length_append, ih, hintX_own a b]
  generalize f.blocks = l
  induction l with
  | nil => rfl
  | cons x l ih =>
    rw [List.flatMap_cons, List.flatMap_cons, List.length_append, List.length_append, ih]
    unfold hintB
    rw [hB]
theorem argsK_ok {f : Func} (h : Ok21 f) : (argsK f : Int) = f.args := by
  rw [← (argsK_eq f).1]
  unfold argsI
  have := h.args0
  have := h.args6
  split <;> split <;> omega
theorem hints_len {f : Func} (h : Ok21 f) (leaf : Bool) : ((hintsL f leaf).length : Int) = wantL f := by
  unfold hintsL wantL
  rw [List.length_append, argH_len, hintB_own (ownP leaf) 8]
  have := argsK_ok h
  omega
/-- what each wish is -/
theorem hint_each {f : Func} (h : Ok21 f) {leaf : Bool} {i : Nat} {q : Hint} (hq : (hintsL f leaf)[i]? = some q) :
    q.r ∈ regsB f ∧ ((8 ≤ q.at_ ∧ q.at_ ≤ 13) ∨ (leaf = false ∧ 24 ≤ q.at_ ∧ q.at_ ≤ 29)) ∧ ((i : Int) < f.args → q.r = i) := by
  have ha := argsK_ok h
  have h6 := h.args6
  unfold hintsL at hq
  by_cases hi : i < argsK f
  · rw [List.getElem?_append_left (by rw [argH_len]; exact hi)] at hq
    unfold argH at hq
    rw [List.getElem?_map, List.getElem?_range hi] at hq
    cases hq
    refine ⟨regsB_mem.2 (List.mem_append_left _ (List.mem_map.2 ⟨i, List.mem_range.2 hi, rfl⟩)), ?_, fun _ => rfl⟩
    unfold ownP
    cases leaf
    · right
      refine ⟨rfl, ?_, ?_⟩ <;> simp only [Bool.false_eq_true, if_false] <;> omega
    · left
      refine ⟨?_, ?_⟩ <;> simp only [if_true] <;> omega
  · have hm : q ∈ f.blocks.flatMap (hintB (ownP leaf)) := by
      rw [List.getElem?_append_right (by rw [argH_len]; omega)] at hq
      exact List.mem_of_getElem? hq
    obtain ⟨b, hb, hm⟩ := List.mem_flatMap.1 hm
    obtain ⟨x, hx, hm⟩ := List.mem_flatMap.1 hm
    have hreg : ∀ r ∈ regsX x, r ∈ regsB f := fun r hr => regsB_mem.2 (List.mem_append_right _ (List.mem_flatMap.2 ⟨b, hb, List.mem_flatMap.2 ⟨x, hx, hr⟩⟩))
    suffices hs : q.r ∈ regsX x ∧ ((8 ≤ q.at_ ∧ q.at_ ≤ 13) ∨ (leaf = false ∧ 24 ≤ q.at_ ∧ q.at_ ≤ 29)) from ⟨hreg _ hs.1, hs.2, fun hlt => by omega⟩
    unfold hintX at hm
    split at hm
    · rename_i h10
      have h10 : x.op = 10 := by simpa using h10
      simp only [List.mem_cons, List.not_mem_nil, or_false] at hm
      subst hm
      refine ⟨?_, ?_⟩
      · unfold regsX readsC
        rw [h10]
        exact List.mem_append_left _ (by simp [hasS])
      · unfold ownP
        cases leaf <;> simp
    · split at hm
      · rename_i h5
        have h5 : x.op = 5 := by simpa using h5
        rcases List.mem_cons.1 hm with hm | hm
        · subst hm
          refine ⟨?_, .inl ⟨by dsimp only; omega, by dsimp only; omega⟩⟩
          unfold regsX writesB
          rw [h5]
          exact List.mem_append_right _ (by simp [hasS])
        · unfold callH at hm
          obtain ⟨j, hj, rfl⟩ := List.mem_map.1 hm
          have hj := List.mem_range.1 hj
          rw [List.length_take] at hj
          refine ⟨?_, .inl ⟨by dsimp only; omega, by dsimp only; omega⟩⟩
          have hjl : j < x.args.length := by omega
          show x.args.getD j 0 ∈ regsX x
          rw [List.getD_eq_getElem?_getD, List.getElem?_eq_getElem hjl]
          unfold regsX readsC
          rw [h5]
          exact List.mem_append_left _ (List.mem_append_right _ (by simp [hasS]))
      · cases hm
end Mu
end
section
/-
  Records of two integers that are compared; muntinref21.Same; muntinlaw21.example.
  Conditions: none.
-/
namespace Mu
open Go Go.RowKit Go.Proofs

def int64T (P : Program) (ty : TypeId) : Bool := match P.underlying ty with | some (.int .i64) => true | _ => false
theorem int64T_spec {P : Program} {ty : TypeId} (h : int64T P ty = true) : P.underlying ty = some (.int .i64) := by
  unfold int64T at h
  split at h
  · assumption
  · cases h
/-- a record type of two integers, as '==' reads it -/
def two64 (P : Program) (ty : TypeId) : Bool :=
  (match P.underlying ty with
    | some (.struct fs) => (match fs.toList with
      | [f, g] => f.name != "_" && g.name != "_" && int64T P f.type && int64T P g.type && f.offset == 0 && g.offset == 1
      | _ => false)
    | _ => false) && !P.stoodInHeld ty && !P.eqGuardType P.depth ty
section
variable {P : Program} {w : World}
theorem run_part_int {e : TypeId} {k : IntKind} {xs : Array Value} {off : Nat} {v : Value} (he : P.underlying e = some (.int k)) (hx : xs[off]? = some v) : (part e xs off).run P w = .ok v w := by
  simp [part, isAgg, run_underlying he, hx]
theorem run_same2 {ty : TypeId} {a b c d : Int} (h : two64 P ty = true) : (Op.equalIn 10000 ty (.agg #[.int .i64 a, .int .i64 b]) (.agg #[.int .i64 c, .int .i64 d])).run P w = .ok (a == c && b == d) w ∧ P.eqGuardType P.depth ty = false := by
  unfold two64 at h
  simp only [Bool.and_eq_true, Bool.not_eq_true'] at h
  obtain ⟨⟨h1, h2⟩, h3⟩ := h
  refine ⟨?_, h3⟩
  split at h1
  · rename_i fs hfs
    split at h1
    · rename_i f g hfg
      simp only [Bool.and_eq_true, bne_iff_ne, ne_eq, beq_iff_eq] at h1
      obtain ⟨⟨⟨⟨⟨n1, n2⟩, t1⟩, t2⟩, o1⟩, o2⟩ := h1
      have hF : P.fieldsOf ty = fs := by unfold Program.fieldsOf; rw [hfs]
      have t1 := int64T_spec t1
      have t2 := int64T_spec t2
      rw [show (10000 : Nat) = 9999 + 1 from rfl, run_equalIn_struct w 9999 ty _ _ (by rw [hF]; exact hfs) h2, hF, hfg]
      have p1 : ∀ (xs : Array Value) (v : Value), xs[0]? = some v → (part f.type xs f.offset).run P w = .ok v w := fun xs v hv => run_part_int t1 (by rw [o1]; exact hv)
      have p2 : ∀ (xs : Array Value) (v : Value), xs[1]? = some v → (part g.type xs g.offset).run P w = .ok v w := fun xs v hv => run_part_int t2 (by rw [o2]; exact hv)
      have q1 : (Op.equalIn 9999 f.type (.int .i64 a) (.int .i64 c)).run P w = .ok (a == c) w := run_equalIn_int (P := P) w 9998 f.type .i64 .i64 a c t1
      have q2 : (Op.equalIn 9999 g.type (.int .i64 b) (.int .i64 d)).run P w = .ok (b == d) w := run_equalIn_int (P := P) w 9998 g.type .i64 .i64 b d t2
      have r1 : (part f.type #[Value.int .i64 a, .int .i64 b] f.offset).run P w = .ok (.int .i64 a) w := p1 _ _ rfl
      have r2 : (part f.type #[Value.int .i64 c, .int .i64 d] f.offset).run P w = .ok (.int .i64 c) w := p1 _ _ rfl
      have r3 : (part g.type #[Value.int .i64 a, .int .i64 b] g.offset).run P w = .ok (.int .i64 b) w := p2 _ _ rfl
      have r4 : (part g.type #[Value.int .i64 c, .int .i64 d] g.offset).run P w = .ok (.int .i64 d) w := p2 _ _ rfl
      simp only [Op.eqFields, n1, n2, ne_eq, not_false_eq_true, if_true, Sem.run_bind]
      rw [r1, Result.andThen_ok, r2, Result.andThen_ok, q1, Result.andThen_ok]
      by_cases e : a = c
      · subst e
        simp only [beq_self_eq_true, Bool.not_true, Bool.false_eq_true, if_false, Bool.true_and, Sem.run_bind]
        rw [r3, Result.andThen_ok, r4, Result.andThen_ok, q2, Result.andThen_ok]
        cases (b == d) <;> rfl
      · have : (a == c) = false := by simpa using e
        rw [this]
        rfl
    · cases h1
  · cases h1
end
section
variable {P : Program} {C : Ctx} {t : List AV} {h : List ABlk} {o : Oper}
theorem Quiet.neq2 {xt yt : TypeId} {x y : Operand} {a b c d : Int} (hT : two64 P xt = true) (ho : o.op = .binOp .neq xt x y yt) (hx : evA t x = .agg [.lit (.int .i64 a), .lit (.int .i64 b)]) (hy : evA t y = .agg [.lit (.int .i64 c), .lit (.int .i64 d)]) : Quiet P C t h o (.lit (.bool (!(a == c && b == d)))) :=
  Quiet.of_run fun S ψ w ρ _ hρ => by
    have h1 := hρ x (by simp [ho, Op.operands])
    have h2 := hρ y (by simp [ho, Op.operands])
    rw [hx] at h1
    rw [hy] at h2
    simp only [AV.rel, AV.relL] at h1 h2
    obtain ⟨_, h1, _, _, rfl, rfl, _, _, rfl, rfl, rfl⟩ := h1
    obtain ⟨_, h2, _, _, rfl, rfl, _, _, rfl, rfl, rfl⟩ := h2
    obtain ⟨e1, e2⟩ := run_same2 (w := w) (a := a) (b := b) (c := c) (d := d) hT
    refine ⟨_, ?_, by unfold AV.rel; rfl⟩
    simp only [execOp, ho, h1, h2, Sem.run_bind]
    rw [run_eqGuard_agg w .neq xt x y _ _ e2, Result.andThen_ok, run_neq_struct, e1, Result.andThen_ok]
    rfl
end
theorem two_hint : two64 Tryd.prog 34 = true := by kernel_rfl
instance inMuSame211 : DecidableEq Hint := fun a b => decidable_of_iff (a.r = b.r ∧ a.at_ = b.at_) ⟨fun ⟨h1, h2⟩ => by cases a; cases b; cases h1; cases h2; rfl, fun h => by rw [h]; exact ⟨rfl, rfl⟩⟩
def sameH (a b : List Hint) : Bool := decide (a.length = b.length) && (List.range a.length).all fun i => match a[i]?, b[i]? with | some x, some y => (x.r == y.r && x.at_ == y.at_) | _, _ => false
set_option maxRecDepth 100000 in
theorem same21_fn (a b : List Hint) (hl : a.length ≤ 1000000000) : Fn Tryd.prog 19 [.bs tHint a, .bs tHint b] (.lit (.bool (decide (a = b)))) := by
  refine Fn.of_awp Tryd.func19 rfl (by kernel_rfl) rfl Tryd.ntmps19 fun C hC => ?_
  simp only [List.length_cons, List.length_nil, Nat.reduceAdd, Nat.reduceSub, List.replicate_succ, List.replicate_zero, List.cons_append, List.nil_append]
  refine Awp.seq fun K1 h1 => ?_
  (refine Awp.region ?_; (repeat (first | refine sQ (hk := ?_) | refine sSkip (hk := ?_) | refine sOwn (hk := ?_))); refine aSeq_nil ?_)
  refine h1 _ ?_
  refine nT (hk := ?_)
  refine Awp.seq fun K2 h2 => ?_
  refine Awp.seq fun K3 h3 => ?_
  (refine Awp.region ?_; (repeat (first | refine sQ (hk := ?_) | refine sSkip (hk := ?_) | refine sOwn (hk := ?_))); refine aSeq_nil ?_)
  refine h3 _ ?_
  refine nT (hk := ?_)
  refine Awp.cond rfl (fun hb4 => ?_) (fun hb4 => ?_)
  · have hne : a.length ≠ b.length := by
      intro e
      rw [e] at hb4
      simp at hb4
    have hne' : ¬ a = b := fun e => hne (by rw [e])
    refine Awp.seq fun K5 h5 => ?_
    (refine Awp.region ?_; (repeat (first | refine sQ (hk := ?_) | refine sSkip (hk := ?_) | refine sOwn (hk := ?_))); refine aSeq_nil ?_)
    refine h5 _ ?_
    refine nT (hk := ?_)
    refine Awp.ret ?_
    rw [decide_eq_false hne']
    exact ⟨.inr rfl, Fin.cl rfl⟩
  · have hlen : a.length = b.length := by
      have : ((a.length : Int) != (b.length : Int)) = false := hb4
      simp only [bne_eq_false_iff_eq] at this
      omega
    refine Awp.skip ?_
    refine h2 _ ?_
    refine nT (hk := ?_)
    refine Awp.seq fun K6 h6 => ?_
    refine Awp.seq fun K7 h7 => ?_
    (refine Awp.region ?_; (repeat (first | refine sQ (hk := ?_) | refine sSkip (hk := ?_) | refine sOwn (hk := ?_))); refine aSeq_nil ?_)
    refine h7 _ ?_
    refine nT (hk := ?_)
    refine Awp.block ?_
    refine Awp.loopF (fun i : Nat => ⟨[.bs tHint a, .bs tHint b, .any, .any, .any, .lit (.int .i64 (i : Int)), .any, .any, .any, .any, .any, .any, .any, .any, .any, .any, .any, .any, .any, .any, .any, .any, .any, .any, .any, .any], []⟩) (fun i => i ≤ a.length ∧ a.take i = b.take i) (fun i => a.length - i) 0 ⟨Nat.zero_le _, rfl⟩ (le_T) ?_
    rintro i ⟨hi, heq⟩
    refine Awp.seq fun K9 h9 => ?_
    refine Awp.seq fun K10 h10 => ?_
    (refine Awp.region ?_; (repeat (first | refine sQ (hk := ?_) | refine sSkip (hk := ?_) | refine sOwn (hk := ?_))); refine aSeq_nil ?_)
    refine h10 _ ?_
    refine nT (hk := ?_)
    refine Awp.cond rfl (fun hb11 => ?_) (fun hb11 => ?_)
    · have hlt : i < a.length := by simpa using hb11
      obtain ⟨x, hx⟩ : ∃ x, a[i]? = some x := ⟨_, List.getElem?_eq_getElem hlt⟩
      obtain ⟨y, hy⟩ : ∃ y, b[i]? = some y := ⟨_, List.getElem?_eq_getElem (by omega)⟩
      obtain ⟨x0, x1⟩ := x
      obtain ⟨y0, y1⟩ := y
      refine Awp.skip ?_
      refine h9 _ ?_
      refine nT (hk := ?_)
      refine Awp.seq fun K12 h12 => ?_
      refine Awp.block ?_
      refine Awp.seq fun K13 h13 => ?_
      (refine drawD 9 (hh := ?_); (repeat (first | refine qQ (hq := Quiet.neq2 two_hint rfl rfl rfl) (hk := ?_) | refine qQ (hk := ?_) | refine qSkip (hk := ?_))); refine aQ_nil ?_; (repeat (first | refine sQ (hq := Quiet.neq2 two_hint rfl rfl rfl) (hk := ?_) | refine sQ (hk := ?_) | refine sSkip (hk := ?_) | refine sOwn (hk := ?_))); refine aSeq_nil ?_)
      refine h13 _ ?_
      refine nT (hk := ?_)
      refine Awp.cond rfl (fun hb14 => ?_) (fun hb14 => ?_)
      · have hne : ¬ a = b := by
          intro e
          subst e
          rw [hx] at hy
          cases hy
          simp at hb14
        refine Awp.seq fun K15 h15 => ?_
        (refine Awp.region ?_; (repeat (first | refine sQ (hk := ?_) | refine sSkip (hk := ?_) | refine sOwn (hk := ?_))); refine aSeq_nil ?_)
        refine h15 _ ?_
        refine nT (hk := ?_)
        refine Awp.ret ?_
        rw [decide_eq_false hne]
        exact ⟨.inr rfl, Fin.cl rfl⟩
      · have hxy : (!(x0 == y0 && x1 == y1)) = false := hb14
        simp only [Bool.not_eq_false', Bool.and_eq_true, beq_iff_eq] at hxy
        obtain ⟨rfl, rfl⟩ := hxy
        refine Awp.skip ?_
        refine h12 _ ?_
        refine nT (hk := ?_)
        (refine Awp.region ?_; (repeat (first | refine sQ (hk := ?_) | refine sSkip (hk := ?_) | refine sOwn (hk := ?_))); refine aSeq_nil ?_)
        refine athen_n ⟨i + 1, ⟨by omega, by rw [List.take_add_one, List.take_add_one, hx, hy, heq]⟩, by omega, le_T⟩
    · have hie : i = a.length := by have : ¬ i < a.length := by simpa using hb11
                                    omega
      have hab : a = b := by
        rw [hie, List.take_length, hlen, List.take_length] at heq
        exact heq
      refine Awp.exit ?_
      refine h6 _ ?_
      refine nT (hk := ?_)
      refine Awp.seq fun K16 h16 => ?_
      (refine Awp.region ?_; (repeat (first | refine sQ (hk := ?_) | refine sSkip (hk := ?_) | refine sOwn (hk := ?_))); refine aSeq_nil ?_)
      refine h16 _ ?_
      refine nT (hk := ?_)
      refine Awp.ret ?_
      rw [decide_eq_true hab]
      exact ⟨.inr rfl, Fin.cl rfl⟩

theorem wf_decK {k : IntKind} {n : Int} (h : (Lit.int k n).wf = true) : wfI k n := h
def e21I0 : Ins := ⟨5, 2, 0, 0, 0, 0, [1], 0, 0⟩
def e21I1 : Ins := ⟨1, 2, 2, 0, 0, 0, [], 0, 0⟩
def e21I2 : Ins := ⟨10, 0, 2, 0, 0, 0, [], 0, 0⟩
def e21B : Block := ⟨noName, [e21I0, e21I1, e21I2]⟩
def e21F : Func := ⟨noName, 2, 3, [e21B]⟩
theorem e21I0_ok : okIns e21I0 := ⟨wf_decK (by decide), wf_decK (by decide), wf_decK (by decide), wf_decK (by decide), wf_decK (by decide), wf_decK (by decide), wf_decK (by decide), wf_decK (by decide), fun y hy => by
  simp only [e21I0, List.mem_cons, List.not_mem_nil, or_false] at hy
  subst hy
  exact wf_decK (by decide)⟩
theorem e21I1_ok : okIns e21I1 := okI_dec _ (by decide)
theorem e21I2_ok : okIns e21I2 := okI_dec _ (by decide)
theorem e21B_ok : okBlock e21B := ⟨noName_ok, fun x hx => by
  simp only [e21B, List.mem_cons, List.not_mem_nil, or_false] at hx
  rcases hx with rfl | rfl | rfl
  · exact e21I0_ok
  · exact e21I1_ok
  · exact e21I2_ok⟩
theorem e21F_ok : okFunc e21F := ⟨noName_ok, (by decide : (Lit.int .i64 (2 : Int)).wf = true), (by decide : (Lit.int .i64 (3 : Int)).wf = true), fun x hx => by
  simp only [e21F, List.mem_cons, List.not_mem_nil, or_false] at hx
  subst hx
  exact e21B_ok⟩
theorem e21F_small : smallF e21F := ⟨by decide, fun x hx => by
  simp only [e21F, List.mem_cons, List.not_mem_nil, or_false] at hx
  subst hx
  exact ⟨by decide, fun y hy => by
    simp only [e21B, List.mem_cons, List.not_mem_nil, or_false] at hy
    rcases hy with rfl | rfl | rfl <;> decide⟩⟩
set_option maxRecDepth 100000 in
set_option maxHeartbeats 4000000 in
theorem example21_fn : Fn Tryd.prog 17 [] (.agg (encFunc e21F)) := by
  refine Fn.of_awpC Tryd.func17 rfl (by kernel_rfl) rfl (show aggT Tryd.prog 24 = some (true, 4) by kernel_rfl) Tryd.ntmps17 fun C hC => ?_
  simp only [List.length_nil, Nat.sub_zero, List.replicate_succ, List.replicate_zero, List.nil_append]
  refine Awp.seq fun K1 h1 => ?_
  (refine Awp.region ?_; (repeat (first | refine sQ (hk := ?_) | refine sSkip (hk := ?_) | refine sOwn (hk := ?_))); refine aSeq_nil ?_)
  refine h1 _ ?_
  refine nT (hk := ?_)
  refine Awp.seq fun K2 h2 => ?_
  refine Awp.region ?_
  refine aSeq_t rfl (AOp.q (Quiet.lt (xs := [.const (.int .i64 1)]) (T := tInt) (ds := [1]) rfl rfl rfl (by rfl) (by decide) (fits_lits [1] (okI_list (by decide)))) ?_)
  refine sNt (hk := ?_)
  refine aSeq_t rfl (AOp.q (r := .agg (encIns e21I0)) (Quiet.bld rfl plIns rfl rfl) ?_)
  refine sNt (hk := ?_)
  refine aSeq_t rfl (AOp.q (r := .agg (encIns0 e21I1)) (Quiet.bld rfl plIns rfl rfl) ?_)
  refine sNt (hk := ?_)
  refine aSeq_t rfl (AOp.q (r := .agg (encIns0 e21I2)) (Quiet.bld rfl plIns rfl rfl) ?_)
  refine sNt (hk := ?_)
  refine aSeq_t rfl (AOp.q (Quiet.lt (xs := [.tmp 2, .tmp 3, .tmp 4]) (T := tIns) (ds := [e21I0, e21I1, e21I2]) rfl rfl rfl (by rfl) (by decide) (.cons (Fit.agg fun _ _ _ _ h => put_ins e21I0_ok h) (.cons (Fit.agg fun _ _ _ _ h => put_ins0 e21I1_ok rfl h) (.cons (Fit.agg fun _ _ _ _ h => put_ins0 e21I2_ok rfl h) .nil)))) ?_)
  refine sNt (hk := ?_)
  refine aSeq_t rfl (AOp.q (r := .agg (encBlock e21B)) (Quiet.bld rfl plBlock rfl rfl) ?_)
  refine sNt (hk := ?_)
  refine aSeq_t rfl (AOp.q (Quiet.lt (xs := [.tmp 6]) (T := tBlock) (ds := [e21B]) rfl rfl rfl (by rfl) (by decide) (.cons (Fit.agg fun _ _ _ _ h => put_block noName_ok h) .nil)) ?_)
  refine sNt (hk := ?_)
  refine aSeq_t rfl (AOp.q (r := .agg (encFunc e21F)) (Quiet.bld rfl plFunc rfl rfl) ?_)
  refine sNt (hk := ?_)
  (first | refine sQ (hk := ?_) | refine sSkip (hk := ?_) | refine sOwn (hk := ?_))
  refine aSeq_nil ?_
  refine h2 _ ?_
  refine nT (hk := ?_)
  refine Awp.ret ?_
  refine ⟨⟨.inr rfl, 0, _, rfl, rfl, Fin.cl rfl⟩, fun i cells h1 h2 => ?_⟩
  have : i = 0 := by injection h1 with h1; exact h1.symm
  subst this
  injection h2 with h2
  injection h2 with h2
  rw [← h2]
  rfl
end Mu
end
section
/-
  muntinlaw21.head, walked.
  Conditions: none.
-/
namespace Mu
open Go Go.RowKit Go.Proofs

def keptL21 : List Int := [16, 17, 18, 19, 20, 21, 22, 23, 24, 25, 26, 27, 28, 29]
def bothL21 : List Int := fewP ++ keptL21
def hintL21 : List Hint := [⟨0, 24⟩, ⟨1, 25⟩, ⟨2, 8⟩, ⟨1, 8⟩, ⟨2, 24⟩]
theorem e21_places0 : placesP (crossL e21F) 0 false = keptL21 := by decide +kernel
theorem e21_places2 : placesP (crossL e21F) 2 false = bothL21 := by decide +kernel
theorem e21_placesL : placesP (crossL e21F) 0 true = fewP := by decide +kernel
theorem e21_hints : hintsL e21F false = hintL21 := by decide +kernel
theorem e21_reads : (allReads e21F).length ≤ 2097152 := by decide +kernel
theorem e21_ins : (allIns e21F).length ≤ 2097152 := by decide +kernel
theorem e21_blk : ∀ b ∈ e21F.blocks, b.ins.length + 1 ≤ 2097152 := fun b hb => by
  simp only [e21F, List.mem_cons, List.not_mem_nil, or_false] at hb
  subst hb
  decide
theorem sameSelf (l : List Int) (hl : l.length ≤ 2097152) : Fn Tryd.prog 18 [.bs tInt l, .bs tInt l] (.lit (.bool true)) := by
  have := same_fn l l hl
  rwa [decide_eq_true rfl] at this
theorem sameSelfH (l : List Hint) (hl : l.length ≤ 1000000000) : Fn Tryd.prog 19 [.bs tHint l, .bs tHint l] (.lit (.bool true)) := by
  have := same21_fn l l hl
  rwa [decide_eq_true rfl] at this
theorem Quiet.eqSelf {P : Program} {C : Ctx} {t : List AV} {h : List ABlk} {o : Oper} {xt yt : TypeId} {x y : Operand} {a : ByteArray} (ho : o.op = .binOp .eql xt x y yt) (hx : evA t x = .lit (.string a)) (hy : evA t y = .lit (.string a)) : Quiet P C t h o (.lit (.bool true)) := by
  have := Quiet.eqS (P := P) (C := C) (h := h) ho hx hy
  rwa [show (a == a) = true from by first | (show (a.data == a.data) = true; exact beq_self_eq_true _) | (cases a; rfl) | (cases a; simp) | exact beq_self_eq_true a] at this
theorem name_g4 : nameP 4 = ⟨#[103, 52]⟩ := by decide +kernel
theorem name_o5 : nameP 13 = ⟨#[111, 53]⟩ := by decide +kernel
theorem name_i0 : nameP 24 = ⟨#[105, 48]⟩ := by decide +kernel
theorem name_s10 : nameP 42 = ⟨#[115, 49, 48]⟩ := by decide +kernel
set_option maxRecDepth 100000 in
set_option maxHeartbeats 4000000 in
theorem head21_fn : Fn Tryd.prog 6 [] (.lit (.bool true)) := by
  have hP0 := Places21_fn e21F 0 false e21F_ok e21F_small e21_reads e21_blk
  have hP2 := Places21_fn e21F 2 false e21F_ok e21F_small e21_reads e21_blk
  have hPL := Places21_fn e21F 0 true e21F_ok e21F_small e21_reads e21_blk
  have hH := hints21_fn e21F false e21F_ok e21F_small e21_ins
  rw [e21_places0] at hP0
  rw [e21_places2] at hP2
  rw [e21_placesL] at hPL
  rw [e21_hints] at hH
  have hN4 : Fn Tryd.prog 12 [.lit (.int .i64 4)] (.lit (.string (nameP 4))) := name21_fn 4 (by decide)
  have hN13 : Fn Tryd.prog 12 [.lit (.int .i64 13)] (.lit (.string (nameP 13))) := name21_fn 13 (by decide)
  have hN24 : Fn Tryd.prog 12 [.lit (.int .i64 24)] (.lit (.string (nameP 24))) := name21_fn 24 (by decide)
  have hN42 : Fn Tryd.prog 12 [.lit (.int .i64 42)] (.lit (.string (nameP 42))) := name21_fn 42 (by decide)
  rw [name_g4] at hN4
  rw [name_o5] at hN13
  rw [name_i0] at hN24
  rw [name_s10] at hN42
  have hK24 : Fn Tryd.prog 11 [.lit (.int .i64 24)] (.lit (.bool true)) := kept21_fn 24
  have hK30 : Fn Tryd.prog 11 [.lit (.int .i64 30)] (.lit (.bool false)) := kept21_fn 30
  have hs1 := sameSelf keptL21 (by decide)
  have hs2 := sameSelf bothL21 (by decide)
  have hs3 := sameSelf fewP (by decide)
  have hs4 := sameSelfH hintL21 (by decide)
  refine Fn.of_awp Tryd.func6 rfl (by kernel_rfl) rfl Tryd.ntmps6 fun C hC => ?_
  simp only [List.length_nil, Nat.sub_zero, List.replicate_succ, List.replicate_zero, List.nil_append]
  refine Awp.seq fun K1 h1 => ?_
  (refine Awp.region ?_; (repeat (first | refine sQ (hk := ?_) | refine sSkip (hk := ?_) | refine sOwn (hk := ?_))); refine aSeq_nil ?_)
  refine h1 _ ?_
  refine nT (hk := ?_)
  refine Awp.seq fun K2 h2 => ?_
  (refine Awp.region ?_; (repeat (first | refine sQ (hq := Quiet.call rfl example21_fn rfl rfl rfl) (hk := ?_) | refine sQ (hk := ?_) | refine sSkip (hk := ?_) | refine sOwn (hk := ?_))); refine aSeq_nil ?_)
  refine h2 _ ?_
  refine nT (hk := ?_)
  refine Awp.seq fun K3 h3 => ?_
  (refine Awp.region ?_; (repeat (first | refine sQ (hq := Quiet.lt (xs := [.const (.int .i64 16), .const (.int .i64 17), .const (.int .i64 18), .const (.int .i64 19), .const (.int .i64 20), .const (.int .i64 21), .const (.int .i64 22), .const (.int .i64 23), .const (.int .i64 24), .const (.int .i64 25), .const (.int .i64 26), .const (.int .i64 27), .const (.int .i64 28), .const (.int .i64 29)]) (T := tInt) (ds := keptL21) rfl rfl rfl (by rfl) (by decide) (fits_lits keptL21 (okI_list (by decide)))) (hk := ?_) | refine sQ (hk := ?_) | refine sSkip (hk := ?_) | refine sOwn (hk := ?_))); refine aSeq_nil ?_)
  refine h3 _ ?_
  refine nT (hk := ?_)
  refine Awp.seq fun K4 h4 => ?_
  (refine Awp.region ?_; (repeat (first | refine sQ (hq := Quiet.lt (xs := [.const (.int .i64 8), .const (.int .i64 9), .const (.int .i64 10), .const (.int .i64 11), .const (.int .i64 12), .const (.int .i64 13), .const (.int .i64 4)]) (T := tInt) (ds := fewP) rfl rfl rfl (by rfl) (by decide) (fits_lits fewP (okI_list (by decide)))) (hk := ?_) | refine sQ (hk := ?_) | refine sSkip (hk := ?_) | refine sOwn (hk := ?_))); refine aSeq_nil ?_)
  refine h4 _ ?_
  refine nT (hk := ?_)
  refine Awp.seq fun K5 h5 => ?_
  refine Awp.region ?_
  iterate 7 (first | refine sQ (hq := Quiet.call rfl hP0 rfl rfl rfl) (hk := ?_) | refine sQ (hq := Quiet.call rfl hs1 rfl rfl rfl) (hk := ?_) | refine sQ (hq := Quiet.call rfl hP2 rfl rfl rfl) (hk := ?_) | refine sQ (hk := ?_) | refine sSkip (hk := ?_) | refine sOwn (hk := ?_))
  refine aSeq_t rfl (AOp.lit (s := ⟨_, _⟩) (T := tInt) (xs := []) (ds := []) (e := 3) (bytes := 8) rfl rfl rfl (by kernel_rfl) (by decide) (by decide) .nil ?_)
  refine sNt (hk := ?_)
  (first | refine sQ (hk := ?_) | refine sSkip (hk := ?_) | refine sOwn (hk := ?_))
  refine aSeq_t rfl (AOp.app (T := tInt) (l := []) (l2 := fewP) rfl rfl rfl rfl rfl (by decide) (by decide) ?_)
  refine sNt (hk := ?_)
  (first | refine sQ (hk := ?_) | refine sSkip (hk := ?_) | refine sOwn (hk := ?_))
  refine aSeq_t rfl (AOp.app (T := tInt) (l := fewP) (l2 := keptL21) rfl rfl rfl rfl rfl (by decide) (by decide) ?_)
  refine sNt (hk := ?_)
  (repeat (first | refine sQ (hq := Quiet.lend rfl hs2 (.cl rfl (.own rfl .nil))) (hk := ?_) | refine sQ (hq := Quiet.call rfl hPL rfl rfl rfl) (hk := ?_) | refine sQ (hq := Quiet.call rfl hs3 rfl rfl rfl) (hk := ?_) | refine sQ (hq := Quiet.call rfl hH rfl rfl rfl) (hk := ?_) | refine sQ (hq := Quiet.call rfl hs4 rfl rfl rfl) (hk := ?_) | refine sQ (hq := Quiet.call rfl hN4 rfl rfl rfl) (hk := ?_) | refine sQ (hq := Quiet.call rfl hN13 rfl rfl rfl) (hk := ?_) | refine sQ (hq := Quiet.call rfl hN24 rfl rfl rfl) (hk := ?_) | refine sQ (hq := Quiet.call rfl hN42 rfl rfl rfl) (hk := ?_) | refine sQ (hq := Quiet.call rfl hK24 rfl rfl rfl) (hk := ?_) | refine sQ (hq := Quiet.call rfl hK30 rfl rfl rfl) (hk := ?_) | refine sQ (hq := Quiet.eqSelf rfl rfl rfl) (hk := ?_) | refine sQ (hq := Quiet.bld rfl plHint rfl rfl) (hk := ?_) | refine sQ (hq := Quiet.lt (xs := [.tmp 30, .tmp 31, .tmp 32, .tmp 33, .tmp 34]) (T := tHint) (ds := hintL21) rfl rfl rfl (by rfl) (by decide) (.cons (fit_hint (wf_decK (by decide)) (wf_decK (by decide))) (.cons (fit_hint (wf_decK (by decide)) (wf_decK (by decide))) (.cons (fit_hint (wf_decK (by decide)) (wf_decK (by decide))) (.cons (fit_hint (wf_decK (by decide)) (wf_decK (by decide))) (.cons (fit_hint (wf_decK (by decide)) (wf_decK (by decide))) .nil)))))) (hk := ?_) | refine sQ (hk := ?_) | refine sSkip (hk := ?_) | refine sOwn (hk := ?_)))
  refine aSeq_nil ?_
  refine h5 _ ?_
  refine nT (hk := ?_)
  refine Awp.ret ?_
  exact ⟨.inr rfl, Fin.cl rfl⟩
end Mu
end
section
/-
  muntinlaw21.BoundHints, walked: it answers true of any program.
  Conditions: data of at most 2^21 everywhere.
-/
namespace Mu
open Go Go.RowKit Go.Proofs
instance inMuLaw21H1 : AG Tryd.prog 5 false 1 := ⟨by kernel_rfl⟩
instance inMuLaw21H2 : SZ Tryd.prog 5 1 := ⟨by kernel_rfl⟩

theorem chk_ne {p : Prog} (h : checkO p = none) : 0 < p.funcs.length := by
  unfold checkO at h
  split at h
  · cases h
  · rename_i h0
    unfold bad0 at h0
    simp only [Bool.or_eq_true, decide_eq_true_eq, not_or] at h0
    omega
theorem any_next {l : List Int} {k : Nat} {r q : Int} (h : l[k]? = some r) : (l.take (k + 1)).any (· == q) = ((l.take k).any (· == q) || (r == q)) := by
  rw [List.take_add_one, h, List.any_append]
  simp
theorem any_mem {l : List Int} {q : Int} (h : q ∈ l) : l.any (· == q) = true := List.any_eq_true.2 ⟨q, h, by simp⟩
def preW (f : Func) (b : Nat) : List Hint := (f.blocks.take b).flatMap (hintB 8)
def preI (bl : Block) (i : Nat) : List Hint := (bl.ins.take i).flatMap (hintX 8)
theorem pre_le {f : Func} {b i : Nat} {bl : Block} {x : Ins} (hb : f.blocks[b]? = some bl) (hx : bl.ins[i]? = some x) : (preW f b).length + (preI bl i).length + (hintX 8 x).length ≤ 7 * (allIns f).length := by
  have h1 := flat2_le (g := hintX 8) hb hx
  have h2 := hint_total 8 f
  unfold preW preI
  have e : (f.blocks.flatMap fun c => c.ins.flatMap (hintX 8)) = f.blocks.flatMap (hintB 8) := rfl
  have e2 : ((f.blocks.take b).flatMap fun c => c.ins.flatMap (hintX 8)) = (f.blocks.take b).flatMap (hintB 8) := rfl
  rw [e, e2] at h1
  omega
theorem preW_next {f : Func} {b : Nat} {bl : Block} (hb : f.blocks[b]? = some bl) : (preW f (b + 1)).length = (preW f b).length + (preI bl bl.ins.length).length := by
  unfold preW preI
  rw [flat_next hb, List.length_append, List.take_length]
  rfl
theorem preI_next {bl : Block} {i : Nat} {x : Ins} (hx : bl.ins[i]? = some x) : (preI bl (i + 1)).length = (preI bl i).length + (hintX 8 x).length := by
  unfold preI
  rw [flat_next hx, List.length_append]
theorem preW_zero (f : Func) : (preW f 0).length = 0 := rfl
theorem preI_zero (bl : Block) : (preI bl 0).length = 0 := rfl
theorem preW_all (f : Func) : f.args + ((preW f f.blocks.length).length : Int) = wantL f := by unfold preW wantL; rw [List.take_length]

set_option maxRecDepth 100000 in
set_option maxHeartbeats 4000000 in
theorem boundHints21_fn (p : Prog) (a : Nat) (leaf : Bool) (hp : smallP p) (ha : a ≤ 255) (hX : ∀ f ∈ p.funcs, (allX f).length ≤ 2097152) (hI : ∀ f ∈ p.funcs, (allIns f).length ≤ 2097152) : Fn Tryd.prog 4 [.agg (encProg p), .lit (.int .u8 (a : Int)), .lit (.bool leaf)] (.lit (.bool true)) := by
  have hpl := hp.funcs
  have hgr := great14_fn p hp
  have hck := check14_fn p hp
  refine Fn.of_awp Tryd.func4 rfl (by kernel_rfl) rfl Tryd.ntmps4 fun C hC => ?_
  simp only [List.length_cons, List.length_nil, Nat.reduceAdd, Nat.reduceSub, List.replicate_succ, List.replicate_zero, List.cons_append, List.nil_append]
  refine Awp.seq fun K1 h1 => ?_
  (refine Awp.region ?_; (repeat (first | refine sQ (hq := Quiet.pickOr rfl rfl rfl rfl) (hk := ?_) | refine sQ (hq := Quiet.pickAnd rfl rfl rfl rfl) (hk := ?_) | refine sQ (hk := ?_) | refine sSkip (hk := ?_) | refine sG (hk := ?_) | refine sOwn (hk := ?_))); refine aSeq_nil ?_)
  refine h1 _ ?_
  refine nT (hk := ?_)
  refine Awp.seq fun K2 h2 => ?_
  rcases hc : checkO p with _ | ⟨l, c⟩
  · rw [hc] at hck
    have hck' : Fn Tryd.prog 13 [.agg (encProg p)] (.tup [.agg [.lit (.int .i64 0), .lit (.int .i64 0)], .lit (.int .i64 0)]) := hck
    have hn0 := chk_ne hc
    obtain ⟨n, hn⟩ : ∃ n, a % p.funcs.length = n := ⟨_, rfl⟩
    have hnl : n < p.funcs.length := by rw [← hn]; exact Nat.mod_lt _ hn0
    obtain ⟨f, hf⟩ : ∃ f, p.funcs[n]? = some f := ⟨_, List.getElem?_eq_getElem hnl⟩
    have hfm := List.mem_of_getElem? hf
    have ho := hp.ok f hfm
    have hs := hp.small f hfm
    have hXf := hX f hfm
    have hIf := hI f hfm
    have hbl := hs.blocks
    have hok := ok21_of hc hf
    have ha0 := hok.args0
    have ha6 := hok.args6
    have hcv : IntKind.i64.wrap (a : Int) = (a : Int) := IntWalk.i64_in _ ⟨by omega, by omega⟩
    have hu8 : (Tryd.prog.underlying 5).isSome = true := by kernel_rfl
    have hi64 : Tryd.prog.underlying 3 = some (.int .i64) := by kernel_rfl
    have hhl := hints_len hok leaf
    have hrl : (regsB f).length ≤ 2097158 := by
      have h1 := regsB_len f
      have h2 := natI_len (argsK f)
      have h3 := (argsK_eq f).2
      unfold rawB at h1
      rw [List.length_append] at h1
      omega
    have hll : (hintsL f leaf).length ≤ 20000000 := by
      have h1 := hint_total 8 f
      unfold wantL at hhl
      omega
    have hwl : (((hintsL f leaf).length : Int) != wantL f) = false := by rw [hhl]; simp
    rcases hgp : great14 p with _ | _
    · rw [hgp] at hgr
      (refine Awp.region ?_; (repeat (first | refine sQ (hq := Quiet.call rfl hck' rfl rfl rfl) (hk := ?_) | refine sQ (hq := Quiet.pickOr rfl rfl rfl rfl) (hk := ?_) | refine sQ (hq := Quiet.pickAnd rfl rfl rfl rfl) (hk := ?_) | refine sQ (hk := ?_) | refine sSkip (hk := ?_) | refine sG (hg := by first | rfl | exact gA_c rfl rfl) (hq := by (intro hg; (try simp only [] at hg); (try simp only [hg, cond_true, Bool.true_and, beq_self_eq_true]); exact Quiet.call rfl hck' rfl rfl rfl)) (hk := ?_) | refine sG (hk := ?_) | refine sOwn (hk := ?_))); refine aSeq_nil ?_)
      refine h2 _ ?_
      refine nT (hk := ?_)
      refine Awp.seq fun K3 h3 => ?_
      refine Awp.seq fun K4 h4 => ?_
      (refine Awp.region ?_; (repeat (first | refine sQ (hq := Quiet.call rfl hgr rfl rfl rfl) (hk := ?_) | refine sQ (hq := Quiet.pickOr rfl rfl rfl rfl) (hk := ?_) | refine sQ (hq := Quiet.pickAnd rfl rfl rfl rfl) (hk := ?_) | refine sQ (hk := ?_) | refine sSkip (hk := ?_) | refine sG (hg := by first | rfl | exact gA_c rfl rfl) (hq := by (intro hg; (try simp only [Bool.and_eq_true, beq_iff_eq] at hg); (try simp only [hg, cond_true, Bool.true_and, beq_self_eq_true]); exact Quiet.call rfl hgr rfl rfl rfl)) (hk := ?_) | refine sG (hk := ?_) | refine sOwn (hk := ?_))); refine aSeq_nil ?_)
      refine h4 _ ?_
      refine nT (hk := ?_)
      refine Awp.cond rfl (fun hb5 => by cases hb5) (fun hb5 => ?_)
      refine Awp.skip ?_
      refine h3 _ ?_
      refine nT (hk := ?_)
      refine Awp.seq fun K7 h7 => ?_
      (refine Awp.drawE 24 11 10 (by kernel_rfl) (by kernel_rfl) (by decide) rfl rfl ?_; simp only [List.take_succ_cons, List.take_zero, List.drop_succ_cons, List.drop_zero]; (repeat ((first | (refine bQ_t rfl rfl rfl ?_; (first | refine BOp.q (Quiet.conv hu8 hi64 rfl rfl hcv) ⟨rfl, ?_⟩ | refine BOp.q (Quiet.remP hn0 hn rfl rfl rfl) ⟨rfl, ?_⟩ | refine BOp.q (Quiet.move rfl (by (conv => lhs; whnf); try rfl)) ⟨rfl, ?_⟩ | refine BOp.q (Quiet.assign rfl (by (conv => lhs; whnf); try rfl)) ⟨rfl, ?_⟩ | refine BOp.q (Quiet.fa_ptr rfl rfl rfl) ⟨rfl, ?_⟩ | refine BOp.q (Quiet.fa_bp rfl rfl) ⟨rfl, ?_⟩ | refine BOp.q (Quiet.fa_rp rfl rfl rfl) ⟨rfl, ?_⟩ | refine BOp.q (Quiet.load_ptr rfl rfl rfl rfl) ⟨rfl, ?_⟩ | refine BOp.q (Quiet.load_bp rfl rfl rfl) ⟨rfl, ?_⟩ | refine BOp.q (Quiet.load_rp rfl rfl rfl (by assumption) rfl) ⟨rfl, ?_⟩ | refine BOp.q (Quiet.loadA_ptr rfl rfl rfl rfl) ⟨rfl, ?_⟩ | refine BOp.q (Quiet.loadA_bp rfl rfl rfl) ⟨rfl, ?_⟩ | refine BOp.q (Quiet.ix rfl rfl rfl rfl (by assumption)) ⟨rfl, ?_⟩ | refine BOp.q (Quiet.ixi rfl rfl rfl rfl (by first | decide | omega) (by assumption)) ⟨rfl, ?_⟩ | refine BOp.q (Quiet.ixo rfl rfl rfl rfl rfl (by first | assumption | omega)) ⟨rfl, ?_⟩ | refine BOp.q (Quiet.ixoi rfl rfl rfl rfl rfl (by first | decide | omega) (by first | assumption | omega)) ⟨rfl, ?_⟩ | refine BOp.q (Quiet.ln rfl rfl) ⟨rfl, ?_⟩ | refine BOp.q (Quiet.lno rfl rfl rfl) ⟨rfl, ?_⟩ | refine BOp.q (Quiet.lnl rfl rfl) ⟨rfl, ?_⟩ | refine BOp.q (Quiet.add64 rfl rfl rfl (by omega)) ⟨rfl, ?_⟩ | refine BOp.q (Quiet.sub64 rfl rfl rfl (by omega)) ⟨rfl, ?_⟩ | refine BOp.q (Quiet.binb rfl rfl rfl rfl (by assumption)) ⟨rfl, ?_⟩ | refine BOp.q (Quiet.bin rfl rfl rfl rfl) ⟨rfl, ?_⟩ | refine BOp.q (Quiet.bnot rfl rfl) ⟨rfl, ?_⟩ | refine BOp.q (Quiet.pick rfl rfl (by (conv => lhs; whnf); try rfl)) ⟨rfl, ?_⟩ | refine BOp.q (Quiet.extract rfl rfl rfl) ⟨rfl, ?_⟩ | refine BOp.q (Quiet.lt1 rfl rfl rfl (by rfl) (by decide) (by first | exact Fit.bool | exact Fit.bs | exact Fit.int (by assumption))) ⟨rfl, ?_⟩ | refine BOp.q (Quiet.max2 rfl rfl rfl) ⟨rfl, ?_⟩ | refine BOp.q (Quiet.min2 rfl rfl rfl) ⟨rfl, ?_⟩)) | refine bQ_skip rfl rfl rfl ?_ | refine bQ_al rfl rfl rfl rfl ?_); refine bQ_nt (by (try simp only [putA, List.set_cons_zero, List.set_cons_succ]); exact rfl) ?_)); refine bQ_nil ?_; (repeat ((first | (refine aSeq_t rfl ?_; (first | refine AOp.q (Quiet.conv hu8 hi64 rfl rfl hcv) ?_ | refine AOp.q (Quiet.remP hn0 hn rfl rfl rfl) ?_ | refine AOp.q (Quiet.move rfl (by (conv => lhs; whnf); try rfl)) ?_ | refine AOp.q (Quiet.assign rfl (by (conv => lhs; whnf); try rfl)) ?_ | refine AOp.q (Quiet.fa_ptr rfl rfl rfl) ?_ | refine AOp.q (Quiet.fa_bp rfl rfl) ?_ | refine AOp.q (Quiet.fa_rp rfl rfl rfl) ?_ | refine AOp.q (Quiet.load_ptr rfl rfl rfl rfl) ?_ | refine AOp.q (Quiet.load_bp rfl rfl rfl) ?_ | refine AOp.q (Quiet.load_rp rfl rfl rfl (by assumption) rfl) ?_ | refine AOp.q (Quiet.loadA_ptr rfl rfl rfl rfl) ?_ | refine AOp.q (Quiet.loadA_bp rfl rfl rfl) ?_ | refine AOp.q (Quiet.ix rfl rfl rfl rfl (by assumption)) ?_ | refine AOp.q (Quiet.ixi rfl rfl rfl rfl (by first | decide | omega) (by assumption)) ?_ | refine AOp.q (Quiet.ixo rfl rfl rfl rfl rfl (by first | assumption | omega)) ?_ | refine AOp.q (Quiet.ixoi rfl rfl rfl rfl rfl (by first | decide | omega) (by first | assumption | omega)) ?_ | refine AOp.q (Quiet.ln rfl rfl) ?_ | refine AOp.q (Quiet.lno rfl rfl rfl) ?_ | refine AOp.q (Quiet.lnl rfl rfl) ?_ | refine AOp.q (Quiet.add64 rfl rfl rfl (by omega)) ?_ | refine AOp.q (Quiet.sub64 rfl rfl rfl (by omega)) ?_ | refine AOp.q (Quiet.binb rfl rfl rfl rfl (by assumption)) ?_ | refine AOp.q (Quiet.bin rfl rfl rfl rfl) ?_ | refine AOp.q (Quiet.bnot rfl rfl) ?_ | refine AOp.q (Quiet.pick rfl rfl (by (conv => lhs; whnf); try rfl)) ?_ | refine AOp.q (Quiet.extract rfl rfl rfl) ?_ | refine AOp.q (Quiet.lt1 rfl rfl rfl (by rfl) (by decide) (by first | exact Fit.bool | exact Fit.bs | exact Fit.int (by assumption))) ?_ | refine AOp.q (Quiet.max2 rfl rfl rfl) ?_ | refine AOp.q (Quiet.min2 rfl rfl rfl) ?_ | refine AOp.box rfl Parts0.agg ?_ | refine AOp.al rfl ?_ | refine AOp.stBox rfl rfl rfl (Parts.aggB rfl) rfl (Nat.le_of_ble_eq_true rfl) ?_ | refine AOp.app rfl rfl rfl rfl rfl (by first | assumption | (simp [maxLen]; done) | (simp [maxLen]; omega)) (by first | assumption | (simp; done) | (simp; omega)) ?_ | refine AOp.stRow rfl rfl rfl (by assumption) (by first | exact Fit.bool | exact Fit.bs | exact Fit.int (by assumption)) rfl ?_)) | refine aSeq_skip rfl ?_); refine aSeq_nt (by (try simp only [putA]); exact rfl) (by (try simp only [List.nil_append, List.cons_append, List.set_cons_zero, List.set_cons_succ, List.length_nil, List.length_cons, Nat.reduceAdd]); exact rfl) ?_)); refine aSeq_nil ?_)
      refine h7 _ ?_
      refine nT (hk := ?_)
      refine Awp.seq fun K8 h8 => ?_
      refine Awp.seq fun K9 h9 => ?_
      (refine Awp.region ?_; (repeat (first | refine sQ (hq := Quiet.pickOr rfl rfl rfl rfl) (hk := ?_) | refine sQ (hq := Quiet.pickAnd rfl rfl rfl rfl) (hk := ?_) | refine sQ (hk := ?_) | refine sSkip (hk := ?_) | refine sG (hk := ?_) | refine sOwn (hk := ?_))); refine aSeq_nil ?_)
      refine h9 _ ?_
      refine nT (hk := ?_)
      refine Awp.cond rfl (fun hb10 => ?_) (fun hb10 => ?_)
      · refine Awp.seq fun K11 h11 => ?_
        (refine Awp.region ?_; (repeat (first | refine sQ (hq := Quiet.call rfl head21_fn rfl rfl rfl) (hk := ?_) | refine sQ (hq := Quiet.pickOr rfl rfl rfl rfl) (hk := ?_) | refine sQ (hq := Quiet.pickAnd rfl rfl rfl rfl) (hk := ?_) | refine sQ (hk := ?_) | refine sSkip (hk := ?_) | refine sG (hg := by first | rfl | exact gA_c rfl rfl) (hq := by (intro hg; (try simp only [Bool.and_eq_true, beq_iff_eq] at hg); (try simp only [hg, cond_true, Bool.true_and, beq_self_eq_true]); exact Quiet.call rfl head21_fn rfl rfl rfl)) (hk := ?_) | refine sG (hk := ?_) | refine sOwn (hk := ?_))); refine aSeq_nil ?_)
        refine h11 _ ?_
        refine nT (hk := ?_)
        refine Awp.ret ?_
        exact ⟨.inr rfl, Fin.cl rfl⟩
      · refine Awp.skip ?_
        refine h8 _ ?_
        refine nT (hk := ?_)
        refine Awp.seq fun K12 h12 => ?_
        (refine Awp.region ?_; (repeat (first | refine sQ (hq := Quiet.pickOr rfl rfl rfl rfl) (hk := ?_) | refine sQ (hq := Quiet.pickAnd rfl rfl rfl rfl) (hk := ?_) | refine sQ (hk := ?_) | refine sSkip (hk := ?_) | refine sG (hk := ?_) | refine sOwn (hk := ?_))); refine aSeq_nil ?_)
        refine h12 _ ?_
        refine nT (hk := ?_)
        refine Awp.seq fun K13 h13 => ?_
        refine Awp.seq fun K14 h14 => ?_
        (refine Awp.region ?_; (repeat (first | refine sQ (hq := Quiet.pickOr rfl rfl rfl rfl) (hk := ?_) | refine sQ (hq := Quiet.pickAnd rfl rfl rfl rfl) (hk := ?_) | refine sQ (hk := ?_) | refine sSkip (hk := ?_) | refine sG (hk := ?_) | refine sOwn (hk := ?_))); refine aSeq_nil ?_)
        refine h14 _ ?_
        refine nT (hk := ?_)
        refine Awp.block ?_
        refine Awp.loopF (fun b : Nat => ⟨[.any, .any, .lit (.bool leaf), .ptr 0 0, .any, .any, .any, .any, .any, .ptr 2 0, .lit (.int .i64 (f.args + ((preW f b).length : Int))), .lit (.int .i64 (b : Int)), .any, .any, .any, .any, .any, .any, .any, .any, .any, .any, .any, .any, .any, .any, .any, .any, .any, .any, .any, .any, .any, .any, .any, .any, .any, .any, .any, .any, .any, .any, .any, .any, .any, .any, .any, .any, .any, .any, .any, .any, .any, .any, .any, .any, .any, .any, .any, .any, .any, .any, .any, .any, .any, .any, .any, .any, .any, .any, .any, .any, .any, .any, .any, .any, .any, .any, .any, .any, .any, .any, .any, .any, .any, .any, .any, .any, .any, .any, .any, .any, .any, .any, .any, .any, .any, .any, .any, .any, .any, .any, .any, .any, .any, .any, .any, .any, .any, .any, .any, .any, .any, .any, .any, .any, .any, .any, .any, .any, .any, .any, .any, .any, .any, .any, .any, .any, .any, .any, .any, .any, .any, .any, .any, .any, .any, .any, .any, .any, .any, .any, .any, .any, .any, .any, .any, .any, .any, .any, .any, .any, .any, .any, .any, .any, .any, .any, .any, .any, .any, .any, .any, .any, .any, .any, .any, .any, .any, .any, .any, .any, .any, .any, .any, .any, .any, .any, .any, .any, .any, .any, .any, .any], [.box (encProg p), .dead, .box (encFunc f)]⟩) (fun b => b ≤ f.blocks.length) (fun b => f.blocks.length - b) 0 (Nat.zero_le _) (by rw [preW_zero f, show f.args + ((0 : Nat) : Int) = f.args by omega]; exact le_C (.cons (.dead (.cons (Cut.nil _))))) ?_
        intro b hb
        dsimp only at hb ⊢
        refine Awp.seq fun K16 h16 => ?_
        refine Awp.seq fun K17 h17 => ?_
        (refine Awp.region ?_; (repeat (first | refine sQ (hq := Quiet.pickOr rfl rfl rfl rfl) (hk := ?_) | refine sQ (hq := Quiet.pickAnd rfl rfl rfl rfl) (hk := ?_) | refine sQ (hk := ?_) | refine sSkip (hk := ?_) | refine sG (hk := ?_) | refine sOwn (hk := ?_))); refine aSeq_nil ?_)
        refine h17 _ ?_
        refine nT (hk := ?_)
        refine Awp.cond rfl (fun hb18 => ?_) (fun hb18 => ?_)
        · have hlt : b < f.blocks.length := by simpa using hb18
          obtain ⟨bl, hblk⟩ : ∃ bl, f.blocks[b]? = some bl := ⟨_, List.getElem?_eq_getElem hlt⟩
          have hmem := List.mem_of_getElem? hblk
          have hob := ho.blocks bl hmem
          have hsb := hs.all bl hmem
          have hil := hsb.ins
          have hpn := preW_next hblk
          refine Awp.skip ?_
          refine h16 _ ?_
          refine nT (hk := ?_)
          refine Awp.seq fun K19 h19 => ?_
          refine Awp.block ?_
          refine Awp.seq fun K20 h20 => ?_
          (refine Awp.region ?_; (repeat (first | refine sQ (hq := Quiet.pickOr rfl rfl rfl rfl) (hk := ?_) | refine sQ (hq := Quiet.pickAnd rfl rfl rfl rfl) (hk := ?_) | refine sQ (hk := ?_) | refine sSkip (hk := ?_) | refine sG (hk := ?_) | refine sOwn (hk := ?_))); refine aSeq_nil ?_)
          refine h20 _ ?_
          refine nT (hk := ?_)
          refine Awp.block ?_
          refine Awp.loopF (fun i : Nat => ⟨[.any, .any, .lit (.bool leaf), .ptr 0 0, .any, .any, .any, .any, .any, .ptr 2 0, .lit (.int .i64 (f.args + (((preW f b).length + (preI bl i).length : Nat) : Int))), .lit (.int .i64 (b : Int)), .lit (.int .i64 (i : Int)), .any, .any, .any, .any, .any, .any, .any, .any, .any, .any, .any, .any, .any, .any, .any, .any, .any, .any, .any, .any, .any, .any, .any, .any, .any, .any, .any, .any, .any, .any, .any, .any, .any, .any, .any, .any, .any, .any, .any, .any, .any, .any, .any, .any, .any, .any, .any, .any, .any, .any, .any, .any, .any, .any, .any, .any, .any, .any, .any, .any, .any, .any, .any, .any, .any, .any, .any, .any, .any, .any, .any, .any, .any, .any, .any, .any, .any, .any, .any, .any, .any, .any, .any, .any, .any, .any, .any, .any, .any, .any, .any, .any, .any, .any, .any, .any, .any, .any, .any, .any, .any, .any, .any, .any, .any, .any, .any, .any, .any, .any, .any, .any, .any, .any, .any, .any, .any, .any, .any, .any, .any, .any, .any, .any, .any, .any, .any, .any, .any, .any, .any, .any, .any, .any, .any, .any, .any, .any, .any, .any, .any, .any, .any, .any, .any, .any, .any, .any, .any, .any, .any, .any, .any, .any, .any, .any, .any, .any, .any, .any, .any, .any, .any, .any, .any, .any, .any, .any, .any, .any, .any], [.box (encProg p), .dead, .box (encFunc f)]⟩) (fun i => i ≤ bl.ins.length) (fun i => bl.ins.length - i) 0 (Nat.zero_le _) (by rw [preI_zero bl, Nat.add_zero]; exact le_T) ?_
          intro i hi
          dsimp only at hi ⊢
          obtain ⟨W, hW⟩ : ∃ W : Int, f.args + (((preW f b).length + (preI bl i).length : Nat) : Int) = W := ⟨_, rfl⟩
          rw [hW]
          refine Awp.seq fun K22 h22 => ?_
          refine Awp.seq fun K23 h23 => ?_
          (refine Awp.region ?_; (repeat (first | refine sQ (hq := Quiet.pickOr rfl rfl rfl rfl) (hk := ?_) | refine sQ (hq := Quiet.pickAnd rfl rfl rfl rfl) (hk := ?_) | refine sQ (hk := ?_) | refine sSkip (hk := ?_) | refine sG (hk := ?_) | refine sOwn (hk := ?_))); refine aSeq_nil ?_)
          refine h23 _ ?_
          refine nT (hk := ?_)
          refine Awp.cond rfl (fun hb24 => ?_) (fun hb24 => ?_)
          · have hil2 : i < bl.ins.length := by simpa using hb24
            obtain ⟨x, hx⟩ : ∃ x, bl.ins[i]? = some x := ⟨_, List.getElem?_eq_getElem hil2⟩
            have hxm := List.mem_of_getElem? hx
            have hxl : x.args.length ≤ 2097152 := by have := hsb.all x hxm; omega
            have hple := pre_le hblk hx
            have hin := preI_next hx
            have hwx := want_len (own := 8) (hok.calls bl hmem x hxm)
            have hW0 : 0 ≤ W ∧ W ≤ 20000000 := by omega
            have hWn : f.args + (((preW f b).length + (preI bl (i + 1)).length : Nat) : Int) = W + wantX x := by omega
            refine Awp.skip ?_
            refine h22 _ ?_
            refine nT (hk := ?_)
            refine Awp.seq fun K25 h25 => ?_
            refine Awp.block ?_
            refine Awp.seq fun K26 h26 => ?_
            (refine Awp.region ?_; (repeat (first | refine sQ (hq := Quiet.pickOr rfl rfl rfl rfl) (hk := ?_) | refine sQ (hq := Quiet.pickAnd rfl rfl rfl rfl) (hk := ?_) | refine sQ (hk := ?_) | refine sSkip (hk := ?_) | refine sG (hk := ?_) | refine sOwn (hk := ?_))); refine aSeq_nil ?_)
            refine h26 _ ?_
            refine nT (hk := ?_)
            refine Awp.seq fun K27 h27 => ?_
            refine Awp.seq fun K28 h28 => ?_
            (refine Awp.region ?_; (repeat (first | refine sQ (hq := Quiet.pickOr rfl rfl rfl rfl) (hk := ?_) | refine sQ (hq := Quiet.pickAnd rfl rfl rfl rfl) (hk := ?_) | refine sQ (hk := ?_) | refine sSkip (hk := ?_) | refine sG (hk := ?_) | refine sOwn (hk := ?_))); refine aSeq_nil ?_)
            refine h28 _ ?_
            refine nT (hk := ?_)
            refine Awp.cond rfl (fun hb29 => ?_) (fun hb29 => ?_)
            · have h10 : x.op = 10 := by simpa using hb29
              have hw1 : wantX x = 1 := by unfold wantX; rw [h10]; rfl
              (refine Awp.region ?_; (repeat (first | refine sQ (hq := Quiet.pickOr rfl rfl rfl rfl) (hk := ?_) | refine sQ (hq := Quiet.pickAnd rfl rfl rfl rfl) (hk := ?_) | refine sQ (hk := ?_) | refine sSkip (hk := ?_) | refine sG (hk := ?_) | refine sOwn (hk := ?_))); refine aSeq_nil ?_)
              refine h27 _ ?_
              refine nT (hk := ?_)
              refine Awp.seq fun K30 h30 => ?_
              (refine Awp.region ?_; (repeat (first | refine sQ (hq := Quiet.pickOr rfl rfl rfl rfl) (hk := ?_) | refine sQ (hq := Quiet.pickAnd rfl rfl rfl rfl) (hk := ?_) | refine sQ (hk := ?_) | refine sSkip (hk := ?_) | refine sG (hk := ?_) | refine sOwn (hk := ?_))); refine aSeq_nil ?_)
              refine h30 _ ?_
              refine nT (hk := ?_)
              refine Awp.cond rfl (fun hb31 => ?_) (fun hb31 => ?_)
              · have h5 : x.op = 5 := by simpa using hb31
                omega
              · refine Awp.skip ?_
                refine h25 _ ?_
                refine nT (hk := ?_)
                (refine Awp.region ?_; (repeat (first | refine sQ (hq := Quiet.pickOr rfl rfl rfl rfl) (hk := ?_) | refine sQ (hq := Quiet.pickAnd rfl rfl rfl rfl) (hk := ?_) | refine sQ (hk := ?_) | refine sSkip (hk := ?_) | refine sG (hk := ?_) | refine sOwn (hk := ?_))); refine aSeq_nil ?_)
                refine athen_n ⟨i + 1, by omega, by omega, ?_⟩
                try dsimp only
                rw [hWn, hw1]
                exact le_C (.cons (.cons (.cons (Cut.nil _))))
            · have h10 : ¬ x.op = 10 := by simpa using hb29
              refine Awp.skip ?_
              refine h27 _ ?_
              refine nT (hk := ?_)
              refine Awp.seq fun K32 h32 => ?_
              (refine Awp.region ?_; (repeat (first | refine sQ (hq := Quiet.pickOr rfl rfl rfl rfl) (hk := ?_) | refine sQ (hq := Quiet.pickAnd rfl rfl rfl rfl) (hk := ?_) | refine sQ (hk := ?_) | refine sSkip (hk := ?_) | refine sG (hk := ?_) | refine sOwn (hk := ?_))); refine aSeq_nil ?_)
              refine h32 _ ?_
              refine nT (hk := ?_)
              refine Awp.cond rfl (fun hb33 => ?_) (fun hb33 => ?_)
              · have h5 : x.op = 5 := by simpa using hb33
                have hw1 : W + wantX x = W + 1 + (x.args.length : Int) := by unfold wantX; rw [h5]; simp; omega
                (refine Awp.region ?_; (repeat (first | refine sQ (hq := Quiet.pickOr rfl rfl rfl rfl) (hk := ?_) | refine sQ (hq := Quiet.pickAnd rfl rfl rfl rfl) (hk := ?_) | refine sQ (hk := ?_) | refine sSkip (hk := ?_) | refine sG (hk := ?_) | refine sOwn (hk := ?_))); refine aSeq_nil ?_)
                refine h25 _ ?_
                refine nT (hk := ?_)
                (refine Awp.region ?_; (repeat (first | refine sQ (hq := Quiet.pickOr rfl rfl rfl rfl) (hk := ?_) | refine sQ (hq := Quiet.pickAnd rfl rfl rfl rfl) (hk := ?_) | refine sQ (hk := ?_) | refine sSkip (hk := ?_) | refine sG (hk := ?_) | refine sOwn (hk := ?_))); refine aSeq_nil ?_)
                refine athen_n ⟨i + 1, by omega, by omega, ?_⟩
                try dsimp only
                rw [hWn, hw1]
                exact le_C (.cons (.cons (.cons (Cut.nil _))))
              · have h5 : ¬ x.op = 5 := by simpa using hb33
                have hw1 : W + wantX x = W := by unfold wantX; rw [if_neg (by simpa using h10), if_neg (by simpa using h5)]; omega
                refine Awp.skip ?_
                refine h25 _ ?_
                refine nT (hk := ?_)
                (refine Awp.region ?_; (repeat (first | refine sQ (hq := Quiet.pickOr rfl rfl rfl rfl) (hk := ?_) | refine sQ (hq := Quiet.pickAnd rfl rfl rfl rfl) (hk := ?_) | refine sQ (hk := ?_) | refine sSkip (hk := ?_) | refine sG (hk := ?_) | refine sOwn (hk := ?_))); refine aSeq_nil ?_)
                refine athen_n ⟨i + 1, by omega, by omega, ?_⟩
                try dsimp only
                rw [hWn, hw1]
                exact le_C (.cons (.cons (.cons (Cut.nil _))))
          · have hie : i = bl.ins.length := by have : ¬ i < bl.ins.length := by simpa using hb24
                                               omega
            have hWn : f.args + ((preW f (b + 1)).length : Int) = W := by rw [hpn, ← hie, hW]
            refine Awp.exit ?_
            refine h19 _ ?_
            refine nT (hk := ?_)
            (refine Awp.region ?_; (repeat (first | refine sQ (hq := Quiet.pickOr rfl rfl rfl rfl) (hk := ?_) | refine sQ (hq := Quiet.pickAnd rfl rfl rfl rfl) (hk := ?_) | refine sQ (hk := ?_) | refine sSkip (hk := ?_) | refine sG (hk := ?_) | refine sOwn (hk := ?_))); refine aSeq_nil ?_)
            refine athen_n ⟨b + 1, by omega, by omega, ?_⟩
            try dsimp only
            rw [hWn]
            exact le_T
        · have hbe : b = f.blocks.length := by have : ¬ b < f.blocks.length := by simpa using hb18
                                               omega
          subst hbe
          rw [preW_all f]
          refine Awp.exit ?_
          refine h13 _ ?_
          refine nT (hk := ?_)
          refine Awp.seq fun K34 h34 => ?_
          (refine drawD 7 (hh := ?_); (repeat (first | refine qQ (hq := Quiet.call rfl (hints21_fn f leaf ho hs hIf) rfl rfl rfl) (hk := ?_) | refine qQ (hq := Quiet.call rfl (regs21_fn f ho hs hXf) rfl rfl rfl) (hk := ?_) | refine qQ (hq := Quiet.pickOr rfl rfl rfl rfl) (hk := ?_) | refine qQ (hq := Quiet.pickAnd rfl rfl rfl rfl) (hk := ?_) | refine qQ (hk := ?_) | refine qSkip (hk := ?_) | refine qG (hg := by first | rfl | exact gA_c rfl rfl) (hq := by (intro hg; (try simp only [Bool.and_eq_true, beq_iff_eq] at hg); (try simp only [hg, cond_true, Bool.true_and, beq_self_eq_true]); exact Quiet.call rfl (hints21_fn f leaf ho hs hIf) rfl rfl rfl)) (hk := ?_) | refine qG (hg := by first | rfl | exact gA_c rfl rfl) (hq := by (intro hg; (try simp only [Bool.and_eq_true, beq_iff_eq] at hg); (try simp only [hg, cond_true, Bool.true_and, beq_self_eq_true]); exact Quiet.call rfl (regs21_fn f ho hs hXf) rfl rfl rfl)) (hk := ?_) | refine qG (hk := ?_))); refine aQ_nil ?_; (repeat (first | refine sQ (hq := Quiet.call rfl (hints21_fn f leaf ho hs hIf) rfl rfl rfl) (hk := ?_) | refine sQ (hq := Quiet.call rfl (regs21_fn f ho hs hXf) rfl rfl rfl) (hk := ?_) | refine sQ (hq := Quiet.pickOr rfl rfl rfl rfl) (hk := ?_) | refine sQ (hq := Quiet.pickAnd rfl rfl rfl rfl) (hk := ?_) | refine sQ (hk := ?_) | refine sSkip (hk := ?_) | refine sG (hg := by first | rfl | exact gA_c rfl rfl) (hq := by (intro hg; (try simp only [Bool.and_eq_true, beq_iff_eq] at hg); (try simp only [hg, cond_true, Bool.true_and, beq_self_eq_true]); exact Quiet.call rfl (hints21_fn f leaf ho hs hIf) rfl rfl rfl)) (hk := ?_) | refine sG (hg := by first | rfl | exact gA_c rfl rfl) (hq := by (intro hg; (try simp only [Bool.and_eq_true, beq_iff_eq] at hg); (try simp only [hg, cond_true, Bool.true_and, beq_self_eq_true]); exact Quiet.call rfl (regs21_fn f ho hs hXf) rfl rfl rfl)) (hk := ?_) | refine sG (hk := ?_) | refine sOwn (hk := ?_))); refine aSeq_nil ?_)
          refine h34 _ ?_
          refine nT (hk := ?_)
          refine Awp.seq fun K35 h35 => ?_
          refine Awp.seq fun K36 h36 => ?_
          (refine Awp.region ?_; (repeat (first | refine sQ (hq := Quiet.pickOr rfl rfl rfl rfl) (hk := ?_) | refine sQ (hq := Quiet.pickAnd rfl rfl rfl rfl) (hk := ?_) | refine sQ (hk := ?_) | refine sSkip (hk := ?_) | refine sG (hk := ?_) | refine sOwn (hk := ?_))); refine aSeq_nil ?_)
          refine h36 _ ?_
          refine nT (hk := ?_)
          refine Awp.cond rfl (fun hb37 => ?_) (fun hb37 => ?_)
          · cases hb37
          · refine Awp.skip ?_
            refine h35 _ ?_
            refine nT (hk := ?_)
            refine Awp.seq fun K39 h39 => ?_
            refine Awp.seq fun K40 h40 => ?_
            (refine Awp.region ?_; (repeat (first | refine sQ (hq := Quiet.pickOr rfl rfl rfl rfl) (hk := ?_) | refine sQ (hq := Quiet.pickAnd rfl rfl rfl rfl) (hk := ?_) | refine sQ (hk := ?_) | refine sSkip (hk := ?_) | refine sG (hk := ?_) | refine sOwn (hk := ?_))); refine aSeq_nil ?_)
            refine h40 _ ?_
            refine nT (hk := ?_)
            refine Awp.block ?_
            refine Awp.loopF (fun i : Nat => ⟨[.any, .any, .lit (.bool leaf), .ptr 0 0, .any, .any, .any, .any, .any, .ptr 2 0, .any, .any, .any, .any, .bs tHint (hintsL f leaf), .bs tInt (regsB f), .lit (.int .i64 (i : Int)), .any, .any, .any, .any, .any, .any, .any, .any, .any, .any, .any, .any, .any, .any, .any, .any, .any, .any, .any, .any, .any, .any, .any, .any, .any, .any, .any, .any, .any, .any, .any, .any, .any, .any, .any, .any, .any, .any, .any, .any, .any, .any, .any, .any, .any, .any, .any, .any, .any, .any, .any, .any, .any, .any, .any, .any, .any, .any, .any, .any, .any, .any, .any, .any, .any, .any, .any, .any, .any, .any, .any, .any, .any, .any, .any, .any, .any, .any, .any, .any, .any, .any, .any, .any, .any, .any, .any, .any, .any, .any, .any, .any, .any, .any, .any, .any, .any, .any, .any, .any, .any, .any, .any, .any, .any, .any, .any, .any, .any, .any, .any, .any, .any, .any, .any, .any, .any, .any, .any, .any, .any, .any, .any, .any, .any, .any, .any, .any, .any, .any, .any, .any, .any, .any, .any, .any, .any, .any, .any, .any, .any, .any, .any, .any, .any, .any, .any, .any, .any, .any, .any, .any, .any, .any, .any, .any, .any, .any, .any, .any, .any, .any, .any, .any, .any, .any, .any], [.box (encProg p), .dead, .box (encFunc f)]⟩) (fun i => i ≤ (hintsL f leaf).length) (fun i => (hintsL f leaf).length - i) 0 (Nat.zero_le _) (le_T) ?_
            intro i hi
            dsimp only at hi ⊢
            refine Awp.seq fun K42 h42 => ?_
            refine Awp.seq fun K43 h43 => ?_
            (refine Awp.region ?_; (repeat (first | refine sQ (hq := Quiet.pickOr rfl rfl rfl rfl) (hk := ?_) | refine sQ (hq := Quiet.pickAnd rfl rfl rfl rfl) (hk := ?_) | refine sQ (hk := ?_) | refine sSkip (hk := ?_) | refine sG (hk := ?_) | refine sOwn (hk := ?_))); refine aSeq_nil ?_)
            refine h43 _ ?_
            refine nT (hk := ?_)
            refine Awp.cond rfl (fun hb44 => ?_) (fun hb44 => ?_)
            · have hlt : i < (hintsL f leaf).length := by simpa using hb44
              obtain ⟨q, hq⟩ : ∃ q, (hintsL f leaf)[i]? = some q := ⟨_, List.getElem?_eq_getElem hlt⟩
              obtain ⟨hq1, hq2, hq3⟩ := hint_each hok hq
              refine Awp.skip ?_
              refine h42 _ ?_
              refine nT (hk := ?_)
              refine Awp.seq fun K45 h45 => ?_
              refine Awp.block ?_
              refine Awp.seq fun K46 h46 => ?_
              (refine Awp.region ?_; (repeat (first | refine sQ (hq := Quiet.pickOr rfl rfl rfl rfl) (hk := ?_) | refine sQ (hq := Quiet.pickAnd rfl rfl rfl rfl) (hk := ?_) | refine sQ (hk := ?_) | refine sSkip (hk := ?_) | refine sG (hk := ?_) | refine sOwn (hk := ?_))); refine aSeq_nil ?_)
              refine h46 _ ?_
              refine nT (hk := ?_)
              refine Awp.seq fun K47 h47 => ?_
              refine Awp.seq fun K48 h48 => ?_
              (refine Awp.region ?_; (repeat (first | refine sQ (hq := Quiet.pickOr rfl rfl rfl rfl) (hk := ?_) | refine sQ (hq := Quiet.pickAnd rfl rfl rfl rfl) (hk := ?_) | refine sQ (hk := ?_) | refine sSkip (hk := ?_) | refine sG (hk := ?_) | refine sOwn (hk := ?_))); refine aSeq_nil ?_)
              refine h48 _ ?_
              refine nT (hk := ?_)
              refine Awp.block ?_
              refine Awp.loopF (fun k : Nat => ⟨[.any, .any, .lit (.bool leaf), .ptr 0 0, .any, .any, .any, .any, .any, .ptr 2 0, .any, .any, .any, .any, .bs tHint (hintsL f leaf), .bs tInt (regsB f), .lit (.int .i64 (i : Int)), .lit (.bool (((regsB f).take k).any (· == q.r))), .lit (.int .i64 (k : Int)), .any, .any, .any, .any, .any, .any, .any, .any, .any, .any, .any, .any, .any, .any, .any, .any, .any, .any, .any, .any, .any, .any, .any, .any, .any, .any, .any, .any, .any, .any, .any, .any, .any, .any, .any, .any, .any, .any, .any, .any, .any, .any, .any, .any, .any, .any, .any, .any, .any, .any, .any, .any, .any, .any, .any, .any, .any, .any, .any, .any, .any, .any, .any, .any, .any, .any, .any, .any, .any, .any, .any, .any, .any, .any, .any, .any, .any, .any, .any, .any, .any, .any, .any, .any, .any, .any, .any, .any, .any, .any, .any, .any, .any, .any, .any, .any, .any, .any, .any, .any, .any, .any, .any, .any, .any, .any, .any, .any, .any, .any, .any, .any, .any, .any, .any, .any, .any, .any, .any, .any, .any, .any, .any, .any, .any, .any, .any, .any, .any, .any, .any, .any, .any, .any, .any, .any, .any, .any, .any, .any, .any, .any, .any, .any, .any, .any, .any, .any, .any, .any, .any, .any, .any, .any, .any, .any, .any, .any, .any, .any, .any, .any, .any, .any, .any], [.box (encProg p), .dead, .box (encFunc f)]⟩) (fun k => k ≤ (regsB f).length) (fun k => (regsB f).length - k) 0 (Nat.zero_le _) (le_T) ?_
              intro k hk
              dsimp only at hk ⊢
              refine Awp.seq fun K50 h50 => ?_
              refine Awp.seq fun K51 h51 => ?_
              (refine Awp.region ?_; (repeat (first | refine sQ (hq := Quiet.pickOr rfl rfl rfl rfl) (hk := ?_) | refine sQ (hq := Quiet.pickAnd rfl rfl rfl rfl) (hk := ?_) | refine sQ (hk := ?_) | refine sSkip (hk := ?_) | refine sG (hk := ?_) | refine sOwn (hk := ?_))); refine aSeq_nil ?_)
              refine h51 _ ?_
              refine nT (hk := ?_)
              refine Awp.cond rfl (fun hb52 => ?_) (fun hb52 => ?_)
              · have hklt : k < (regsB f).length := by simpa using hb52
                obtain ⟨r, hr⟩ : ∃ r, (regsB f)[k]? = some r := ⟨_, List.getElem?_eq_getElem hklt⟩
                have han := any_next (q := q.r) hr
                generalize hB0 : ((regsB f).take k).any (· == q.r) = B0 at han ⊢
                refine Awp.skip ?_
                refine h50 _ ?_
                refine nT (hk := ?_)
                refine Awp.seq fun K53 h53 => ?_
                refine Awp.block ?_
                (refine drawD 14 (hh := ?_); (repeat (first | refine qQ (hq := Quiet.pickOr rfl rfl rfl rfl) (hk := ?_) | refine qQ (hq := Quiet.pickAnd rfl rfl rfl rfl) (hk := ?_) | refine qQ (hk := ?_) | refine qSkip (hk := ?_) | refine qG (hk := ?_))); refine aQ_nil ?_; (repeat (first | refine sQ (hq := Quiet.pickOr rfl rfl rfl rfl) (hk := ?_) | refine sQ (hq := Quiet.pickAnd rfl rfl rfl rfl) (hk := ?_) | refine sQ (hk := ?_) | refine sSkip (hk := ?_) | refine sG (hk := ?_) | refine sOwn (hk := ?_))); refine aSeq_nil ?_)
                refine h53 _ ?_
                refine nT (hk := ?_)
                (refine Awp.region ?_; (repeat (first | refine sQ (hq := Quiet.pickOr rfl rfl rfl rfl) (hk := ?_) | refine sQ (hq := Quiet.pickAnd rfl rfl rfl rfl) (hk := ?_) | refine sQ (hk := ?_) | refine sSkip (hk := ?_) | refine sG (hk := ?_) | refine sOwn (hk := ?_))); refine aSeq_nil ?_)
                refine athen_n ⟨k + 1, by omega, by omega, ?_⟩
                try dsimp only
                rw [han]
                exact le_T
              · have hke : k = (regsB f).length := by have : ¬ k < (regsB f).length := by simpa using hb52
                                                      omega
                subst hke
                rw [List.take_length, any_mem hq1]
                refine Awp.exit ?_
                refine h47 _ ?_
                refine nT (hk := ?_)
                refine Awp.seq fun K54 h54 => ?_
                (refine Awp.region ?_; (repeat (first | refine sQ (hq := Quiet.pickOr rfl rfl rfl rfl) (hk := ?_) | refine sQ (hq := Quiet.pickAnd rfl rfl rfl rfl) (hk := ?_) | refine sQ (hk := ?_) | refine sSkip (hk := ?_) | refine sG (hk := ?_) | refine sOwn (hk := ?_))); refine aSeq_nil ?_)
                refine h54 _ ?_
                refine nT (hk := ?_)
                refine Awp.seq fun K55 h55 => ?_
                (refine Awp.region ?_; (repeat (first | refine sQ (hq := Quiet.pickOr rfl rfl rfl rfl) (hk := ?_) | refine sQ (hq := Quiet.pickAnd rfl rfl rfl rfl) (hk := ?_) | refine sQ (hk := ?_) | refine sSkip (hk := ?_) | refine sG (hk := ?_) | refine sOwn (hk := ?_))); refine aSeq_nil ?_)
                refine h55 _ ?_
                refine nT (hk := ?_)
                refine Awp.seq fun K56 h56 => ?_
                obtain ⟨q0, q1⟩ := q
                dsimp only at hq1 hq2 hq3 ⊢
                have e3 : (decide ((i : Int) < f.args) && (q0 != (i : Int))) = false := by
                  by_cases hia : (i : Int) < f.args
                  · rw [hq3 hia]; simp
                  · simp [hia]
                rcases hq2 with ⟨g1, g2⟩ | ⟨g0, g1, g2⟩
                · have e1 : (decide (q1 ≥ 8) && decide (q1 ≤ 13)) = true := by simp; omega
                  have e2 : (decide (q1 ≥ 24) && decide (q1 ≤ 29)) = false := by simp; omega
                  rw [e1, e2]
                  (refine Awp.region ?_; (repeat (first | refine sQ (hq := Quiet.pickOr rfl rfl rfl rfl) (hk := ?_) | refine sQ (hq := Quiet.pickAnd rfl rfl rfl rfl) (hk := ?_) | refine sQ (hk := ?_) | refine sSkip (hk := ?_) | refine sG (hk := ?_) | refine sOwn (hk := ?_))); refine aSeq_nil ?_)
                  refine h56 _ ?_
                  refine nT (hk := ?_)
                  refine Awp.cond rfl (fun hb57 => ?_) (fun hb57 => ?_)
                  · exfalso
                    rw [e3] at hb57
                    revert hb57
                    cases leaf <;> decide
                  · refine Awp.skip ?_
                    refine h45 _ ?_
                    refine nT (hk := ?_)
                    (refine Awp.region ?_; (repeat (first | refine sQ (hq := Quiet.pickOr rfl rfl rfl rfl) (hk := ?_) | refine sQ (hq := Quiet.pickAnd rfl rfl rfl rfl) (hk := ?_) | refine sQ (hk := ?_) | refine sSkip (hk := ?_) | refine sG (hk := ?_) | refine sOwn (hk := ?_))); refine aSeq_nil ?_)
                    refine athen_n ⟨i + 1, by omega, by omega, ?_⟩
                    exact le_T
                · have e1 : (decide (q1 ≥ 8) && decide (q1 ≤ 13)) = false := by simp; omega
                  have e2 : (decide (q1 ≥ 24) && decide (q1 ≤ 29)) = true := by simp; omega
                  subst g0
                  rw [e1, e2]
                  (refine Awp.region ?_; (repeat (first | refine sQ (hq := Quiet.pickOr rfl rfl rfl rfl) (hk := ?_) | refine sQ (hq := Quiet.pickAnd rfl rfl rfl rfl) (hk := ?_) | refine sQ (hk := ?_) | refine sSkip (hk := ?_) | refine sG (hk := ?_) | refine sOwn (hk := ?_))); refine aSeq_nil ?_)
                  refine h56 _ ?_
                  refine nT (hk := ?_)
                  refine Awp.cond rfl (fun hb57 => ?_) (fun hb57 => ?_)
                  · exfalso
                    rw [e3] at hb57
                    revert hb57
                    decide
                  · refine Awp.skip ?_
                    refine h45 _ ?_
                    refine nT (hk := ?_)
                    (refine Awp.region ?_; (repeat (first | refine sQ (hq := Quiet.pickOr rfl rfl rfl rfl) (hk := ?_) | refine sQ (hq := Quiet.pickAnd rfl rfl rfl rfl) (hk := ?_) | refine sQ (hk := ?_) | refine sSkip (hk := ?_) | refine sG (hk := ?_) | refine sOwn (hk := ?_))); refine aSeq_nil ?_)
                    refine athen_n ⟨i + 1, by omega, by omega, ?_⟩
                    exact le_T
            · refine Awp.exit ?_
              refine h39 _ ?_
              refine nT (hk := ?_)
              refine Awp.seq fun K59 h59 => ?_
              (refine Awp.region ?_; (repeat (first | refine sQ (hq := Quiet.call rfl head21_fn rfl rfl rfl) (hk := ?_) | refine sQ (hq := Quiet.pickOr rfl rfl rfl rfl) (hk := ?_) | refine sQ (hq := Quiet.pickAnd rfl rfl rfl rfl) (hk := ?_) | refine sQ (hk := ?_) | refine sSkip (hk := ?_) | refine sG (hg := by first | rfl | exact gA_c rfl rfl) (hq := by (intro hg; (try simp only [Bool.and_eq_true, beq_iff_eq] at hg); (try simp only [hg, cond_true, Bool.true_and, beq_self_eq_true]); exact Quiet.call rfl head21_fn rfl rfl rfl)) (hk := ?_) | refine sG (hk := ?_) | refine sOwn (hk := ?_))); refine aSeq_nil ?_)
              refine h59 _ ?_
              refine nT (hk := ?_)
              refine Awp.ret ?_
              exact ⟨.inr rfl, Fin.cl rfl⟩
    · rw [hgp] at hgr
      (refine Awp.region ?_; (repeat (first | refine sQ (hq := Quiet.call rfl hck' rfl rfl rfl) (hk := ?_) | refine sQ (hq := Quiet.pickOr rfl rfl rfl rfl) (hk := ?_) | refine sQ (hq := Quiet.pickAnd rfl rfl rfl rfl) (hk := ?_) | refine sQ (hk := ?_) | refine sSkip (hk := ?_) | refine sG (hg := by first | rfl | exact gA_c rfl rfl) (hq := by (intro hg; (try simp only [] at hg); (try simp only [hg, cond_true, Bool.true_and, beq_self_eq_true]); exact Quiet.call rfl hck' rfl rfl rfl)) (hk := ?_) | refine sG (hk := ?_) | refine sOwn (hk := ?_))); refine aSeq_nil ?_)
      refine h2 _ ?_
      refine nT (hk := ?_)
      refine Awp.seq fun K3 h3 => ?_
      refine Awp.seq fun K4 h4 => ?_
      (refine Awp.region ?_; (repeat (first | refine sQ (hq := Quiet.call rfl hgr rfl rfl rfl) (hk := ?_) | refine sQ (hq := Quiet.pickOr rfl rfl rfl rfl) (hk := ?_) | refine sQ (hq := Quiet.pickAnd rfl rfl rfl rfl) (hk := ?_) | refine sQ (hk := ?_) | refine sSkip (hk := ?_) | refine sG (hg := by first | rfl | exact gA_c rfl rfl) (hq := by (intro hg; (try simp only [Bool.and_eq_true, beq_iff_eq] at hg); (try simp only [hg, cond_true, Bool.true_and, beq_self_eq_true]); exact Quiet.call rfl hgr rfl rfl rfl)) (hk := ?_) | refine sG (hk := ?_) | refine sOwn (hk := ?_))); refine aSeq_nil ?_)
      refine h4 _ ?_
      refine nT (hk := ?_)
      refine Awp.cond rfl (fun hb5 => ?_) (fun hb5 => by cases hb5)
      refine Awp.seq fun K6 h6 => ?_
      (refine Awp.region ?_; (repeat (first | refine sQ (hq := Quiet.call rfl head21_fn rfl rfl rfl) (hk := ?_) | refine sQ (hq := Quiet.pickOr rfl rfl rfl rfl) (hk := ?_) | refine sQ (hq := Quiet.pickAnd rfl rfl rfl rfl) (hk := ?_) | refine sQ (hk := ?_) | refine sSkip (hk := ?_) | refine sG (hg := by first | rfl | exact gA_c rfl rfl) (hq := by (intro hg; (try simp only [Bool.and_eq_true, beq_iff_eq] at hg); (try simp only [hg, cond_true, Bool.true_and, beq_self_eq_true]); exact Quiet.call rfl head21_fn rfl rfl rfl)) (hk := ?_) | refine sG (hk := ?_) | refine sOwn (hk := ?_))); refine aSeq_nil ?_)
      refine h6 _ ?_
      refine nT (hk := ?_)
      refine Awp.ret ?_
      exact ⟨.inr rfl, Fin.cl rfl⟩
  · rw [hc] at hck
    have hck' : Fn Tryd.prog 13 [.agg (encProg p)] (.tup [.agg [.lit (.int .i64 l), .lit (.int .i64 c)], .lit (.int .i64 140)]) := hck
    (refine Awp.region ?_; (repeat (first | refine sQ (hq := Quiet.call rfl hck' rfl rfl rfl) (hk := ?_) | refine sQ (hq := Quiet.pickOr rfl rfl rfl rfl) (hk := ?_) | refine sQ (hq := Quiet.pickAnd rfl rfl rfl rfl) (hk := ?_) | refine sQ (hk := ?_) | refine sSkip (hk := ?_) | refine sG (hg := by first | rfl | exact gA_c rfl rfl) (hq := by (intro hg; (try simp only [] at hg); (try simp only [hg, cond_true, Bool.true_and, beq_self_eq_true]); exact Quiet.call rfl hck' rfl rfl rfl)) (hk := ?_) | refine sG (hk := ?_) | refine sOwn (hk := ?_))); refine aSeq_nil ?_)
    refine h2 _ ?_
    refine nT (hk := ?_)
    refine Awp.seq fun K3 h3 => ?_
    refine Awp.seq fun K4 h4 => ?_
    (refine Awp.region ?_; (repeat (first | refine sQ (hq := Quiet.call rfl hgr rfl rfl rfl) (hk := ?_) | refine sQ (hq := Quiet.pickOr rfl rfl rfl rfl) (hk := ?_) | refine sQ (hq := Quiet.pickAnd rfl rfl rfl rfl) (hk := ?_) | refine sQ (hk := ?_) | refine sSkip (hk := ?_) | refine sG (hg := by first | rfl | exact gA_c rfl rfl) (hq := by (intro hg; (try simp only [beq_iff_eq] at hg); (try simp only [hg, cond_true, beq_self_eq_true]); exact Quiet.call rfl hgr rfl rfl rfl)) (hk := ?_) | refine sG (hk := ?_) | refine sOwn (hk := ?_))); refine aSeq_nil ?_)
    refine h4 _ ?_
    refine nT (hk := ?_)
    refine Awp.cond rfl (fun hb5 => ?_) (fun hb5 => ?_)
    · refine Awp.seq fun K6 h6 => ?_
      (refine Awp.region ?_; (repeat (first | refine sQ (hq := Quiet.call rfl head21_fn rfl rfl rfl) (hk := ?_) | refine sQ (hq := Quiet.pickOr rfl rfl rfl rfl) (hk := ?_) | refine sQ (hq := Quiet.pickAnd rfl rfl rfl rfl) (hk := ?_) | refine sQ (hk := ?_) | refine sSkip (hk := ?_) | refine sG (hg := by first | rfl | exact gA_c rfl rfl) (hq := by (intro hg; (try simp only [Bool.and_eq_true, beq_iff_eq] at hg); (try simp only [hg, cond_true, Bool.true_and, beq_self_eq_true]); exact Quiet.call rfl head21_fn rfl rfl rfl)) (hk := ?_) | refine sG (hk := ?_) | refine sOwn (hk := ?_))); refine aSeq_nil ?_)
      refine h6 _ ?_
      refine nT (hk := ?_)
      refine Awp.ret ?_
      exact ⟨.inr rfl, Fin.cl rfl⟩
    · exact absurd hb5 (by simp)
end Mu
end
section
/-
  What a bulk of at most 2^21 gives of a program and its functions, for the Bound laws.
  Conditions: none.
-/
namespace Mu
open Go Go.RowKit Go.Proofs
theorem ok_prog {w : World} {S : Nat → Prop} {cs : List Value} {p : Prog} (h : tProg.RS w S cs p) : ∀ f ∈ p.funcs, okFunc f := by
  obtain ⟨A, c, A', c', _, _, _, hf⟩ := tProg_R.1 h
  exact ok_slice (T := tFunc) (p := okFunc) (fun _ _ h => ok_func h) hf
theorem small_prog {p : Prog} (hb : tProg.bulk p ≤ 2097152) (ho : ∀ f ∈ p.funcs, okFunc f) : smallP p :=
  ⟨Nat.le_trans (prog_funcs_le p) hb, Nat.le_trans (prog_threads_le p) hb, ho, fun _ hf => small_func (Nat.le_trans (prog_func_le hf) hb)⟩
theorem rel_prog {W : World} {S : Nat → Prop} {h : List ABlk} {ψ : Nat → Value} {cs : List Value} {p : Prog} (hR : tProg.RS W S cs p) : AV.rel W S h ψ (.agg (encProg p)) (.agg cs.toArray) := by
  unfold AV.rel
  exact ⟨cs, rfl, EncOf.ok (T := tProg) W S h ψ cs p hR⟩
theorem regs_ins (l : List Ins) : (l.flatMap regsX).length ≤ bulkL tIns.bulk l := by
  induction l with
  | nil => simp [bulkL]
  | cons x l ih =>
    have h1 := readsC_len2 x
    have h2 := bulk_ins x
    have h3 := bulkL_length one_int x.args
    have h4 : (regsX x).length ≤ (readsC x).length + 1 := by
      unfold regsX
      rw [List.length_append]
      split <;> simp
    simp only [List.flatMap_cons, List.length_append, bulkL]
    omega
theorem regs_blocks (l : List Block) : (l.flatMap fun b => b.ins.flatMap regsX).length ≤ bulkL tBlock.bulk l := by
  induction l with
  | nil => simp [bulkL]
  | cons b l ih =>
    have h1 := regs_ins b.ins
    have h2 := bulk_block b
    simp only [List.flatMap_cons, List.length_append, bulkL]
    omega
theorem allX_func {f : Func} (h : tFunc.bulk f ≤ 2097152) : (allX f).length ≤ 2097152 := by
  have h1 := regs_blocks f.blocks
  have h2 := bulk_func f
  have e : (allX f).length = (f.blocks.flatMap fun b => b.ins.flatMap regsX).length := rfl
  omega
theorem ins_blocks (l : List Block) : (l.flatMap fun b => b.ins).length ≤ bulkL tBlock.bulk l := by
  induction l with
  | nil => simp [bulkL]
  | cons b l ih =>
    have h1 := bulkL_length one_ins b.ins
    have h2 := bulk_block b
    simp only [List.flatMap_cons, List.length_append, bulkL]
    omega
theorem allIns_func {f : Func} (h : tFunc.bulk f ≤ 2097152) : (allIns f).length ≤ 2097152 := by
  have h1 := ins_blocks f.blocks
  have h2 := bulk_func f
  have e : (allIns f).length = (f.blocks.flatMap fun b => b.ins).length := rfl
  omega
end Mu
end
section
/-
  The arguments of a row, read; what a call that makes new blocks only leaves of them.
  Conditions: none.
-/
namespace Mu
open Go Go.RowKit Go.ChangeShapes Go.WideShapes Go.Proofs

theorem laid_out : laidOutB Tryd.prog = true := by kernel_rfl
mutual
theorem bulk_le {H : Type} : ∀ d : DataW H, bulkD d ≤ YteeekjidkjdpjaaDoor.Rows.uptoBulk d
  | .lit (.string _) => Nat.le_refl _
  | .lit (.bool _) => Nat.le_refl _
  | .lit (.int _ _) => Nat.le_refl _
  | .lit (.float _ _) => Nat.le_refl _
  | .lit .nil => Nat.le_refl _
  | .nil => Nat.le_refl _
  | .ptr d => by show 1 ≤ YteeekjidkjdpjaaDoor.Rows.uptoBulk d + 1; omega
  | .slice e s => by
    have h1 := bulks_le e
    have h2 := bulks_le s
    show bulkD.go e + bulkD.go s + 1 ≤ YteeekjidkjdpjaaDoor.Rows.uptoBulkAll e + YteeekjidkjdpjaaDoor.Rows.uptoBulkAll s + 1
    omega
  | .agg p => by
    have h1 := bulks_le p
    show bulkD.go p + 1 ≤ YteeekjidkjdpjaaDoor.Rows.uptoBulkAll p + 1
    omega
  | .iface _ d => by show 1 ≤ YteeekjidkjdpjaaDoor.Rows.uptoBulk d + 1; omega
  | .map m => by show 1 ≤ YteeekjidkjdpjaaDoor.Rows.uptoBulkEntries m + 1; omega
  | .held _ => Nat.le_refl _
theorem bulks_le {H : Type} : ∀ l : List (DataW H), bulkD.go l ≤ YteeekjidkjdpjaaDoor.Rows.uptoBulkAll l
  | [] => Nat.le_refl _
  | d :: r => by
    have h1 := bulk_le d
    have h2 := bulks_le r
    show bulkD d + bulkD.go r ≤ YteeekjidkjdpjaaDoor.Rows.uptoBulk d + YteeekjidkjdpjaaDoor.Rows.uptoBulkAll r
    omega
end

/-- an argument of a type that is read: a value of many cells -/
theorem open_many {α : Type} {t : TypeId} {T : Ty α} {H : Type} {enc : TypeId × Value → H} {W : World} {v : Value} {d : DataW H} {p : List MemPlace} (ho : Opens Tryd.prog t T) (hs : 1 < T.size)
    (h : DataW.Trod enc Tryd.prog W 0 (fun _ => true) true t v d p) (hp : ∀ x ∈ p, x.block < W.heap.size) :
    ∃ cs x, v = .agg cs.toArray ∧ T.R W W.heap.size cs x ∧ T.bulk x ≤ YteeekjidkjdpjaaDoor.Rows.uptoBulk d := by
  obtain ⟨fuel, hf⟩ := h
  obtain ⟨x, hR, hb⟩ := ho.go H enc W 0 _ true fuel _ (d, p) W.heap.size hf hp
  have hl := T.len hR
  refine ⟨v.cells.toList, x, ?_, hR, Nat.le_trans hb (bulk_le d)⟩
  cases v <;> first
    | (simp [Value.cells] at hl; omega)
    | simp [Value.cells]
/-- an argument of a type that is read: a value of one cell -/
theorem open_one {α : Type} {t : TypeId} {T : Ty α} {H : Type} {enc : TypeId × Value → H} {W : World} {v : Value} {d : DataW H} {p : List MemPlace} (ho : Opens Tryd.prog t T)
    (h : DataW.Trod enc Tryd.prog W 0 (fun _ => true) true t v d p) (hp : ∀ x ∈ p, x.block < W.heap.size) (hv : v.cells = #[v]) :
    ∃ x, T.R W W.heap.size [v] x ∧ T.bulk x ≤ YteeekjidkjdpjaaDoor.Rows.uptoBulk d := by
  obtain ⟨fuel, hf⟩ := h
  obtain ⟨x, hR, hb⟩ := ho.go H enc W 0 _ true fuel _ (d, p) W.heap.size hf hp
  rw [hv] at hR
  exact ⟨x, hR, Nat.le_trans hb (bulk_le d)⟩
/-- what an argument read as, it reads as behind a call that makes new blocks only -/
theorem stays {t : TypeId} {H : Type} {enc : TypeId × Value → H} {W W' : World} {v : Value} {d : DataW H} {p : List MemPlace} (hr : Tryd.prog.readableRec t = true) (ht : t < Tryd.prog.types.size)
    (h : DataW.Trod enc Tryd.prog W 0 (fun _ => true) true t v d p) (hb : Below W.heap.size W W') (hp : ∀ x ∈ p, x.block < W.heap.size) :
    DataW.Trod enc Tryd.prog W' 0 (fun b => decide (b < W.heap.size)) true t v d p := Below.trod laid_out hr ht h hb hp
end Mu
end
