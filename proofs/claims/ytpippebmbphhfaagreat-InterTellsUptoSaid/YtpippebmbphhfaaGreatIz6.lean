/-
  Own texts laid together, part 6: MuLaw18M, MuRef18T, MuLaw18Z, MuLaw18Y, MuOpen.
  Conditions: as each part says.
-/
import Derived.Test.YtpippebmbphhfaaGreatIz5
import Derived.Test.YtpippebmbphhfaaGreatRows
import Derived.Carry
import Derived.OpenShut
import Derived.ProofKit
section
/-
  muntinlaw18.InterMore, walked: it answers true of any function, place and register.
  Conditions: at most 1500000 of everything in all.
-/
namespace Mu
open Go Go.RowKit Go.Proofs

theorem fine_func {f : Func} (ho : okFunc f) (h : tFunc.bulk f ≤ 2097152) : FineF f := ⟨ho, small_func h, reads_func h, allX_func h, ins1_func h⟩
theorem edges_len {f : Func} (hA : (allX f).length ≤ 2097152) : (edgesL f).length ≤ 4398046511104 := Nat.le_trans (List.length_filter_le _ _) (edges_row hA).lens
theorem moves_len {f : Func} (hA : (allX f).length ≤ 2097152) : (mvL f).length ≤ 4398046511104 := Nat.le_trans (List.length_filter_le _ _) (edges_row hA).lens
theorem cross_len {f : Func} (hT : (allReads f).length ≤ 2097152) : (crossL f).length ≤ 2097152 := Nat.le_trans (List.length_filter_le _ _) (Nat.le_trans (regsOf_le _) hT)
theorem allL_at {f : Func} {b : Nat} (hb : b < f.blocks.length) : ixD (allL f) (b : Int) = blockL f b := ixD_of (by unfold allL; rw [List.getElem?_map, List.getElem?_range hb]; rfl)
theorem blockL_at {f : Func} {b i : Nat} (hi : i < (insOf f b).length) : (blockL f b)[i + 1]? = some (placeL f (regsL f) b (i + 1)) := by
  unfold blockL
  rw [List.getElem?_map, List.getElem?_range (by omega)]
  rfl
end Mu
end
section
/-
  The document's Edges, Moves, Near answer as inter's do: plainly, over what the code computes.
  Conditions: at most 2^21 of everything.
-/
namespace Mu
open Go Go.RowKit Go.Proofs

/-- rounds that may end early, always with the same answer -/
theorem loop_any {ρ : Type} {step : Int → M (Int ⊕ (Unit ⊕ ρ))} {p : Nat → Bool} {v : ρ} {n : Nat}
    (h : ∀ k, k < n → (step (k : Int)).to (if p k then .inr (.inr v) else .inl ((k + 1 : Nat) : Int))) (ho : (step (n : Int)).to (.inr (.inl ()))) : (M.loop step 0).to (if (List.range n).any p then .inr v else .inl ()) := by
  have key : ∀ (d k : Nat), k + d = n → (M.loop step (k : Int)).to (if (List.range' k d).any p then .inr v else .inl ()) := by
    intro d
    induction d with
    | zero =>
      intro k hk
      have : k = n := by omega
      subst this
      exact M.loop_out ho
    | succ d ih =>
      intro k hk
      have hs := h k (by omega)
      rw [List.range'_succ, List.any_cons]
      by_cases hp : p k = true
      · rw [hp] at hs ⊢
        exact M.loop_out hs
      · have hp : p k = false := by simpa using hp
        rw [hp] at hs ⊢
        rw [Bool.false_or]
        exact M.loop_in hs (ih (k + 1) (by omega))
  have := key n 0 (by omega)
  rwa [← List.range_eq_range'] at this
theorem els_any {ρ : Type} {x : M (Unit ⊕ ρ)} {c : Bool} {v d : ρ} (h : x.to (if c then .inr v else .inl ())) : (M.els x fun _ => M.ok d).to (if c then v else d) := by
  cases c
  · exact M.els_l h (M.ok_to _)
  · exact M.els_r h
theorem any_get {α : Type} {l : List α} {p : Nat → Bool} {q : α → Bool} (h : ∀ k x, l[k]? = some x → p k = q x) : (List.range l.length).any p = l.any q := by
  rw [Bool.eq_iff_iff, List.any_eq_true, List.any_eq_true]
  constructor
  · rintro ⟨k, hk, hp⟩
    have hk := List.mem_range.1 hk
    exact ⟨l[k], List.getElem_mem hk, by rw [← h k _ (List.getElem?_eq_getElem hk)]; exact hp⟩
  · rintro ⟨x, hx, hq⟩
    obtain ⟨k, hk⟩ := List.mem_iff_getElem?.1 hx
    exact ⟨k, List.mem_range.2 (List.getElem?_eq_some_iff.1 hk).1, by rw [h k x hk]; exact hq⟩
theorem rin_to {l : List Int} {n : Int} (hn : l.length ≤ 4611686018427387904) : (r18_in l n).to (l.contains n) := by
  have h := loop_any (step := r18_in_L4 l n) (p := fun k => l.getD k 0 == n) (v := true) (n := l.length) (fun k hk => ?_) ?_
  · unfold r18_in
    have h2 := els_any (d := false) h
    rw [any_get (q := fun x => x == n) fun k x hx => by rw [List.getD, hx]; rfl] at h2
    have e : (if (l.any fun x => x == n) = true then true else false) = l.contains n := by
      rw [show l.contains n = l.any fun x => x == n by rw [List.contains_eq_any_beq]; congr 1; funext x; exact Bool.beq_comm ..]
      cases l.any fun x => x == n <;> rfl
    rwa [e] at h2
  · obtain ⟨x, hx⟩ : ∃ x, l[k]? = some x := ⟨_, List.getElem?_eq_getElem hk⟩
    have hd : l.getD k 0 = x := by rw [List.getD, hx]; rfl
    unfold r18_in_L4
    rw [ixD_of hx, hd, i64n hk hn]
    refine M.t_to (decide_eq_true (by omega)) (M.chk_to (inBd_nat hk) ?_)
    by_cases h : (x == n) = true
    · rw [h]; exact M.t_to rfl (M.ok_to _)
    · have h : (x == n) = false := by simpa using h
      rw [h]; exact M.f_to rfl (M.ok_to _)
  · unfold r18_in_L4
    exact M.f_to (decide_eq_false (by omega)) (M.ok_to _)

/-! ### one writes the one, with the other one live behind it -/
def oneU (a b : Int) (q : Ins × List Int) : Bool := writesB q.1 && (q.1.d == a) && q.2.contains b && !((q.1.op == 2) && (q.1.a == b))
def oneW (f : Func) (a b : Int) : Bool := (stepsL f).any (oneU a b)
theorem one_any {f : Func} {a b : Int} : ((List.range f.blocks.length).any fun k => (List.range (insOf f k).length).any fun i => oneU a b ((insOf f k).getD i default, placeL f (regsL f) k (i + 1))) = oneW f a b := by
  unfold oneW
  rw [Bool.eq_iff_iff, List.any_eq_true, List.any_eq_true]
  constructor
  · rintro ⟨k, hk, h⟩
    obtain ⟨i, hi, h⟩ := List.any_eq_true.1 h
    have hi := List.mem_range.1 hi
    refine ⟨_, mem_steps.2 ⟨k, i, List.mem_range.1 hk, ?_, rfl⟩, h⟩
    dsimp only
    rw [List.getD, List.getElem?_eq_getElem hi]
    rfl
  · rintro ⟨q, hq, h⟩
    obtain ⟨k, i, hk, hx, hl⟩ := mem_steps.1 hq
    refine ⟨k, List.mem_range.2 hk, List.any_eq_true.2 ⟨i, List.mem_range.2 (List.getElem?_eq_some_iff.1 hx).1, ?_⟩⟩
    rw [List.getD, hx, ← hl]
    exact h
theorem place_len18 {f : Func} (c : FineF f) (b i : Nat) : (placeL f (regsL f) b i).length ≤ 2097152 := Nat.le_trans (List.length_filter_le _ _) (Nat.le_trans (regsOf_le _) c.reads)
theorem writes_to {x : Ins} (ho : okIns x) : (r14_Writes x).to (if writesB x then x.d else 0, writesB x) := M.chk_to (okInsB_iff.2 ho) (M.ok_to _)
theorem one18_to {f : Func} (c : FineF f) (a b : Int) : (r18_one f (allL f) a b).to (oneW f a b) := by
  have hbl := c.small.blocks
  have h := loop_any (step := r18_one_L4 f (allL f) a b) (p := fun k => (List.range (insOf f k).length).any fun i => oneU a b ((insOf f k).getD i default, placeL f (regsL f) k (i + 1))) (v := true) (n := f.blocks.length) (fun k hk => ?_) ?_
  · unfold r18_one
    have h2 := els_any (d := false) h
    rw [one_any] at h2
    have e : (if oneW f a b = true then true else false) = oneW f a b := by cases oneW f a b <;> rfl
    rwa [e] at h2
  · obtain ⟨bl, hb⟩ : ∃ bl, f.blocks[k]? = some bl := ⟨_, List.getElem?_eq_getElem hk⟩
    have hI : insOf f k = bl.ins := by unfold insOf; rw [hb]
    have hin := c.ins bl (List.mem_of_getElem? hb)
    have h3 : ixD f.blocks (k : Int) = bl := ixD_of hb
    have b3 : inBd f.blocks (k : Int) = true := inBd_nat hk
    have hi := loop_any (step := r18_one_L10 f (allL f) a b (k : Int)) (p := fun i => oneU a b ((insOf f k).getD i default, placeL f (regsL f) k (i + 1))) (v := (Sum.inr (Sum.inr true) : Int ⊕ (Unit ⊕ Bool))) (n := bl.ins.length) (fun i hi => ?_) ?_
    · unfold r18_one_L4
      rw [i64n hk (by omega)]
      refine M.t_to (decide_eq_true (by omega)) ?_
      rw [hI]
      rw [hI] at hi
      have h9 := els_any (d := (Sum.inl ((k + 1 : Nat) : Int) : Int ⊕ (Unit ⊕ Bool))) hi
      exact h9
    · obtain ⟨x, hx⟩ : ∃ x, bl.ins[i]? = some x := ⟨_, List.getElem?_eq_getElem hi⟩
      have hd : (insOf f k).getD i default = x := by rw [hI, List.getD, hx]; rfl
      have h4 : ixD bl.ins (i : Int) = x := ixD_of hx
      have b4 : inBd bl.ins (i : Int) = true := inBd_nat hi
      have hox := (c.ok.blocks bl (List.mem_of_getElem? hb)).ins x (List.mem_of_getElem? hx)
      have h1 := allL_at hk
      have hbi := blockL_at (f := f) (b := k) (i := i) (by rw [hI]; exact hi)
      have h2 : ixD (blockL f k) ((i + 1 : Nat) : Int) = placeL f (regsL f) k (i + 1) := ixD_of hbi
      have b1 : inBd (allL f) (k : Int) = true := inBd_nat (by unfold allL; simpa using hk)
      have b2 : inBd (blockL f k) ((i + 1 : Nat) : Int) = true := inBd_nat (List.getElem?_eq_some_iff.1 hbi).1
      have hr := rin_to (l := placeL f (regsL f) k (i + 1)) (n := b) (by have := place_len18 c k (i + 1); omega)
      rw [hd]
      unfold r18_one_L10
      rw [h3, h4, i64n hi (by omega), h1, h2]
      refine M.chk_to b3 (M.t_to (decide_eq_true (by omega)) (M.chk_to b3 (M.chk_to b4 (M.bnd_to (writes_to hox) ?_))))
      dsimp only
      generalize hg : (writesB x && ((if writesB x = true then x.d else 0) == a)) = g
      have hg2 : (writesB x && (x.d == a)) = g := by
        rw [← hg]
        cases writesB x <;> rfl
      refine M.chk_to (by rw [b1, Bool.or_true]) (M.chk_to (by rw [b2, Bool.or_true]) (M.bnd_to (a := g && (placeL f (regsL f) k (i + 1)).contains b) ?_ ?_))
      · cases g
        · exact M.whn_f rfl
        · exact M.whn_t rfl hr
      · have e : oneU a b (x, placeL f (regsL f) k (i + 1)) = ((g && (g && (placeL f (regsL f) k (i + 1)).contains b)) && (!((x.op == 2) && (x.a == b)))) := by
          unfold oneU
          dsimp only
          rw [hg2]
          cases g <;> simp
        rw [e]
        generalize ((g && (g && (placeL f (regsL f) k (i + 1)).contains b)) && (!((x.op == 2) && (x.a == b)))) = z
        cases z
        · exact M.f_to rfl (M.ok_to _)
        · exact M.t_to rfl (M.ok_to _)
    · unfold r18_one_L10
      rw [h3]
      exact M.chk_to b3 (M.f_to (decide_eq_false (by omega)) (M.ok_to _))
  · unfold r18_one_L4
    exact M.f_to (decide_eq_false (by omega)) (M.ok_to _)

/-! ### two part -/
def part18 (f : Func) (a b : Int) : Bool := !(a == b) && (oneW f a b || oneW f b a || (decide (0 < f.blocks.length) && (firstL f).contains a && (firstL f).contains b))
theorem firstL_at {f : Func} (h : 0 < f.blocks.length) : (blockL f 0)[0]? = some (firstL f) := by
  unfold firstL
  rw [if_neg (by omega), blockL_first]
  rfl
theorem firstL_len {f : Func} (c : FineF f) : (firstL f).length ≤ 2097152 := by
  unfold firstL
  split
  · simp
  · rw [blockL_first]
    exact Nat.le_trans (List.length_filter_le _ _) (Nat.le_trans (regsOf_le _) c.reads)
theorem part18_to {f : Func} (c : FineF f) (a b : Int) : (r18_Part f (allL f) a b).to (part18 f a b) := by
  unfold r18_Part part18
  by_cases hab : (a == b) = true
  · rw [hab]
    exact M.t_to rfl (M.ok_to _)
  · have hab : (a == b) = false := by simpa using hab
    rw [hab]
    refine M.f_to rfl (M.bnd_to (one18_to c a b) (M.bnd_to (a := !oneW f a b && oneW f b a) ?_ ?_))
    · cases oneW f a b
      · exact M.whn_t rfl (one18_to c b a)
      · exact M.whn_f rfl
    · by_cases h1 : (oneW f a b || oneW f b a) = true
      · rw [h1]
        refine M.t_to ?_ (M.ok_to _)
        revert h1
        cases oneW f a b <;> cases oneW f b a <;> simp
      · have h1 : (oneW f a b || oneW f b a) = false := by simpa using h1
        rw [h1]
        refine M.f_to ?_ ?_
        · revert h1
          cases oneW f a b <;> cases oneW f b a <;> simp
        have hal : (allL f).length = f.blocks.length := by simp [allL]
        by_cases h0 : 0 < f.blocks.length
        · have e : decide (((allL f).length : Int) > 0) = true := decide_eq_true (by omega)
          have e2 : decide (0 < f.blocks.length) = true := decide_eq_true h0
          have x1 : ixD (allL f) 0 = blockL f 0 := allL_at h0
          have x2 : ixD (blockL f 0) 0 = firstL f := ixD_of (k := 0) (firstL_at h0)
          have b1 : inBd (allL f) 0 = true := inBd_nat (k := 0) (by omega)
          have b2 : inBd (blockL f 0) 0 = true := inBd_nat (k := 0) (List.getElem?_eq_some_iff.1 (firstL_at h0)).1
          have hl := firstL_len c
          rw [e, e2, x1, x2, b1, b2]
          refine M.chk_to rfl (M.chk_to rfl (M.bnd_to (M.whn_t rfl (rin_to (by omega))) (M.chk_to (Bool.or_true _) (M.chk_to (Bool.or_true _) (M.bnd_to (a := (firstL f).contains a && (firstL f).contains b) ?_ ?_)))))
          · cases (firstL f).contains a
            · exact M.whn_f rfl
            · exact M.whn_t rfl (rin_to (by omega))
          · refine M.to_ok.2 ?_
            cases (firstL f).contains a <;> rfl
        · have e : decide (((allL f).length : Int) > 0) = false := decide_eq_false (by omega)
          have e2 : decide (0 < f.blocks.length) = false := decide_eq_false h0
          rw [e, e2]
          exact M.chk_to rfl (M.chk_to rfl (M.bnd_to (M.whn_f rfl) (M.chk_to rfl (M.chk_to rfl (M.bnd_to (M.whn_f rfl) (M.ok_to _))))))

/-! ### a move -/
def mvQ (d a : Int) (x : Ins) : Bool := ((x.op == 2) && (x.d == d)) && (x.a == a)
def moves18 (f : Func) (d a : Int) : Bool := f.blocks.any fun bl => bl.ins.any (mvQ d a)
theorem moves18_to {f : Func} (c : FineF f) (d a : Int) : (r18_moves f d a).to (moves18 f d a) := by
  have hbl := c.small.blocks
  have h := loop_any (step := r18_moves_L4 f d a) (p := fun k => (f.blocks.getD k default).ins.any (mvQ d a)) (v := true) (n := f.blocks.length) (fun k hk => ?_) ?_
  · unfold r18_moves
    have h2 := els_any (d := false) h
    rw [any_get (q := fun bl : Block => bl.ins.any (mvQ d a)) fun k x hx => by rw [List.getD, hx]; rfl] at h2
    have e : (if (f.blocks.any fun bl => bl.ins.any (mvQ d a)) = true then true else false) = moves18 f d a := by
      unfold moves18
      cases f.blocks.any fun bl => bl.ins.any (mvQ d a) <;> rfl
    rwa [e] at h2
  · obtain ⟨bl, hb⟩ : ∃ bl, f.blocks[k]? = some bl := ⟨_, List.getElem?_eq_getElem hk⟩
    have hin := c.ins bl (List.mem_of_getElem? hb)
    have h3 : ixD f.blocks (k : Int) = bl := ixD_of hb
    have b3 : inBd f.blocks (k : Int) = true := inBd_nat hk
    have hd : f.blocks.getD k default = bl := by rw [List.getD, hb]; rfl
    have hi := loop_any (step := r18_moves_L10 f d a (k : Int)) (p := fun i => mvQ d a (bl.ins.getD i default)) (v := (Sum.inr (Sum.inr true) : Int ⊕ (Unit ⊕ Bool))) (n := bl.ins.length) (fun i hi => ?_) ?_
    · unfold r18_moves_L4
      rw [i64n hk (by omega), hd]
      refine M.t_to (decide_eq_true (by omega)) ?_
      rw [any_get (q := mvQ d a) fun k x hx => by rw [List.getD, hx]; rfl] at hi
      have h9 := els_any (d := (Sum.inl ((k + 1 : Nat) : Int) : Int ⊕ (Unit ⊕ Bool))) hi
      exact h9
    · obtain ⟨x, hx⟩ : ∃ x, bl.ins[i]? = some x := ⟨_, List.getElem?_eq_getElem hi⟩
      have hdx : bl.ins.getD i default = x := by rw [List.getD, hx]; rfl
      have h4 : ixD bl.ins (i : Int) = x := ixD_of hx
      have b4 : inBd bl.ins (i : Int) = true := inBd_nat hi
      rw [hdx]
      unfold r18_moves_L10
      rw [h3, h4, i64n hi (by omega)]
      refine M.chk_to b3 (M.t_to (decide_eq_true (by omega)) (M.chk_to b3 (M.chk_to b4 ?_)))
      unfold mvQ
      generalize (((x.op == 2) && (x.d == d)) && (x.a == a)) = z
      cases z
      · exact M.f_to rfl (M.ok_to _)
      · exact M.t_to rfl (M.ok_to _)
    · unfold r18_moves_L10
      rw [h3]
      exact M.chk_to b3 (M.f_to (decide_eq_false (by omega)) (M.ok_to _))
  · unfold r18_moves_L4
    exact M.f_to (decide_eq_false (by omega)) (M.ok_to _)

/-! ### rows of pairs -/
theorem rowB_ok {n b : Nat} (hn : n ≤ 4398046511104) (hb : b ≤ 16) : rowB n b = true := by
  unfold rowB
  rw [Bool.and_eq_true]
  refine ⟨decide_eq_true (by unfold maxLen; omega), decide_eq_true ?_⟩
  have : n * b ≤ 4398046511104 * 16 := Nat.mul_le_mul hn hb
  omega
theorem okPairB_of {a b : Int} (ha : wf64 a) (hb : wf64 b) : okPairB ⟨a, b⟩ = true := by
  unfold okPairB
  rw [Bool.and_eq_true]
  exact ⟨ha, hb⟩
theorem edges_in18 {f : Func} (c : FineF f) {i : Nat} {a : Int} (hi : (regs18L f)[i]? = some a) : ∀ (d k : Nat) (l : List Pair), k + d = (regs18L f).length → l.length + d ≤ 4398046511104 →
    (M.loop (r18_Edges_L12 f (regs18L f) (allL f) (i : Int)) ((k : Int), l)).to (l ++ (((regs18L f).drop k).map fun b => (⟨a, b⟩ : Pair)).filter fun x => part18 f x.a x.b) := by
  have hw := regs18_wf c.ok
  have hR := regs18_le c.all
  intro d
  induction d with
  | zero =>
    intro k l hk hl
    rw [List.drop_of_length_le (by omega), List.map_nil, List.filter_nil, List.append_nil]
    refine M.loop_out ?_
    unfold r18_Edges_L12
    exact M.f_to (decide_eq_false (by omega)) (M.ok_to _)
  | succ d ih =>
    intro k l hk hl
    have hkl : k < (regs18L f).length := by omega
    obtain ⟨b, hb⟩ : ∃ b, (regs18L f)[k]? = some b := ⟨_, List.getElem?_eq_getElem hkl⟩
    have hbe : (regs18L f)[k] = b := by rw [List.getElem?_eq_getElem hkl] at hb; exact Option.some.inj hb
    have b1 : inBd (regs18L f) (i : Int) = true := inBd_nat (List.getElem?_eq_some_iff.1 hi).1
    have b2 : inBd (regs18L f) (k : Int) = true := inBd_nat hkl
    rw [List.drop_eq_getElem_cons hkl, hbe, List.map_cons, List.filter_cons]
    dsimp only
    by_cases hp : part18 f a b = true
    · rw [if_pos hp]
      have := ih (k + 1) (l ++ [⟨a, b⟩]) (by omega) (by simp only [List.length_append, List.length_cons, List.length_nil]; omega)
      rw [List.append_assoc] at this
      refine M.loop_in (s' := (((k + 1 : Nat) : Int), l ++ [⟨a, b⟩])) ?_ this
      unfold r18_Edges_L12
      dsimp only
      rw [ixD_of hi, ixD_of hb, i64n hkl (by omega)]
      refine M.t_to (decide_eq_true (by omega)) (M.bnd_to (M.chk_to b1 (M.chk_to b2 (M.bnd_to (part18_to c a b) (M.t_to hp (M.chk_to b1 (M.chk_to b2 (M.chk_to (okPairB_of (hw _ (List.mem_of_getElem? hi)) (hw _ (List.mem_of_getElem? hb))) (M.chk_to (rowB_ok (by simp only [List.length_cons, List.length_nil]; omega) (by omega)) (M.ok_to _))))))))) (M.ok_to _))
    · rw [if_neg hp]
      refine M.loop_in (s' := (((k + 1 : Nat) : Int), l)) ?_ (ih (k + 1) l (by omega) (by omega))
      unfold r18_Edges_L12
      dsimp only
      rw [ixD_of hi, ixD_of hb, i64n hkl (by omega)]
      exact M.t_to (decide_eq_true (by omega)) (M.bnd_to (M.chk_to b1 (M.chk_to b2 (M.bnd_to (part18_to c a b) (M.f_to (by simpa using hp) (M.ok_to _))))) (M.ok_to _))
theorem edges_out18 {f : Func} (c : FineF f) : ∀ (d i : Nat) (l : List Pair), i + d = (regs18L f).length → l.length + (pairsOf ((regs18L f).drop i)).length ≤ 4398046511104 →
    (M.loop (r18_Edges_L6 f (regs18L f) (allL f)) ((i : Int), l)).to (l ++ (pairsOf ((regs18L f).drop i)).filter fun x => part18 f x.a x.b) := by
  have hR := regs18_le c.all
  intro d
  induction d with
  | zero =>
    intro i l hi hl
    rw [List.drop_of_length_le (by omega)]
    refine M.loop_out ?_
    unfold r18_Edges_L6
    have := M.f_to (c := decide ((i : Int) < ((regs18L f).length : Int))) (x := (M.bnd (M.loop (r18_Edges_L12 f (regs18L f) (allL f) (i : Int)) (IntKind.i64.wrap ((i : Int) + 1), l)) fun l16 => M.ok (.inl (IntKind.i64.wrap ((i : Int) + 1), l16)) : M ((Int × List Pair) ⊕ List Pair))) (decide_eq_false (by omega)) (M.ok_to (.inr l))
    simpa [pairsOf] using this
  | succ d ih =>
    intro i l hi hl
    have hil : i < (regs18L f).length := by omega
    obtain ⟨a, ha⟩ : ∃ a, (regs18L f)[i]? = some a := ⟨_, List.getElem?_eq_getElem hil⟩
    have hae : (regs18L f)[i] = a := by rw [List.getElem?_eq_getElem hil] at ha; exact Option.some.inj ha
    rw [List.drop_eq_getElem_cons hil, hae] at hl ⊢
    unfold pairsOf at hl ⊢
    rw [List.length_append, List.length_map] at hl
    rw [List.filter_append, ← List.append_assoc]
    have hin := edges_in18 c ha (d := (regs18L f).length - (i + 1)) (i + 1) l (by omega) (by rw [List.length_drop] at hl; omega)
    refine M.loop_in (s' := (((i + 1 : Nat) : Int), _)) ?_ (ih (i + 1) (l ++ ((List.drop (i + 1) (regs18L f)).map fun b => (⟨a, b⟩ : Pair)).filter fun x => part18 f x.a x.b) (by omega) ?_)
    · unfold r18_Edges_L6
      dsimp only
      rw [i64n hil (by omega)]
      exact M.t_to (decide_eq_true (by omega)) (M.bnd_to hin (M.ok_to _))
    · rw [List.length_append]
      have := List.length_filter_le (fun x : Pair => part18 f x.a x.b) ((List.drop (i + 1) (regs18L f)).map fun b => (⟨a, b⟩ : Pair))
      rw [List.length_map] at this
      omega
theorem pairs_le18 {f : Func} (c : FineF f) : (pairsOf (regs18L f)).length ≤ 4398046511104 := (edges_row c.all).lens
theorem edges18_to {f : Func} (c : FineF f) : (r18_Edges f).to ((pairsOf (regs18L f)).filter fun x => part18 f x.a x.b) := by
  have hf := fineF_iff.2 c
  unfold r18_Edges
  refine M.bnd_to (M.chk_to hf (M.ok_to (regs18L f))) (M.bnd_to (M.chk_to hf (M.ok_to (allL f))) (M.bnd_to (a := (pairsOf (regs18L f)).filter fun x => part18 f x.a x.b) ?_ (M.ok_to _)))
  have := edges_out18 c (regs18L f).length 0 [] (by omega) (by have := pairs_le18 c; simpa using this)
  simpa using this
/-- two part as inter says -/
theorem one_edge {f : Func} {a b : Int} : oneW f a b = true ↔ ∃ q ∈ stepsL f, writesB q.1 = true ∧ q.1.d = a ∧ b ∈ q.2 ∧ edgeR q b = true := by
  unfold oneW
  rw [List.any_eq_true]
  constructor
  · rintro ⟨q, hq, h⟩
    unfold oneU at h
    simp only [Bool.and_eq_true, beq_iff_eq, List.contains_iff_mem, Bool.not_eq_true', Bool.and_eq_false_iff, beq_eq_false_iff_ne] at h
    obtain ⟨⟨⟨h1, h2⟩, h3⟩, h4⟩ := h
    refine ⟨q, hq, h1, h2, h3, ?_⟩
    unfold edgeR
    simp only [h1, Bool.true_and, Bool.or_eq_true, bne_iff_ne, ne_eq]
    rcases h4 with h4 | h4
    · exact .inl h4
    · exact .inr fun e => h4 e.symm
  · rintro ⟨q, hq, h1, h2, h3, h4⟩
    refine ⟨q, hq, ?_⟩
    unfold oneU
    simp only [Bool.and_eq_true, beq_iff_eq, List.contains_iff_mem, Bool.not_eq_true', Bool.and_eq_false_iff, beq_eq_false_iff_ne]
    refine ⟨⟨⟨h1, h2⟩, h3⟩, ?_⟩
    unfold edgeR at h4
    simp only [h1, Bool.true_and, Bool.or_eq_true, bne_iff_ne, ne_eq] at h4
    rcases h4 with h4 | h4
    · exact .inl h4
    · exact .inr fun e => h4 e.symm
theorem mem_pairOf {a b : Int} {x : Pair} (hx : x.a < x.b) : x ∈ pairOf a b ↔ (x.a = a ∧ x.b = b) ∨ (x.a = b ∧ x.b = a) := by
  unfold pairOf
  obtain ⟨u, v⟩ := x
  dsimp only at hx ⊢
  by_cases h : a = b
  · rw [if_pos h]
    simp only [List.not_mem_nil, false_iff]
    omega
  · rw [if_neg h]
    simp only [List.mem_cons, List.not_mem_nil, or_false, Pair.mk.injEq]
    rw [Int.min_def, Int.max_def]
    split <;> omega
theorem part_edge {f : Func} {x : Pair} (hx : x.a < x.b) : part18 f x.a x.b = edgesS f x := by
  have hne : x.a ≠ x.b := by omega
  rw [Bool.eq_iff_iff, edgesS_iff]
  unfold part18
  have e : (x.a == x.b) = false := by simpa using hne
  rw [e]
  simp only [Bool.not_false, Bool.true_and, Bool.or_eq_true, Bool.and_eq_true, decide_eq_true_eq, List.contains_iff_mem, one_edge]
  constructor
  · rintro ((⟨q, hq, h1, h2, h3, h4⟩ | ⟨q, hq, h1, h2, h3, h4⟩) | ⟨⟨_, h1⟩, h2⟩)
    · exact .inl ⟨q, hq, mem_edgeA.2 ⟨x.b, h3, h4, (mem_pairOf hx).2 (.inl ⟨h2.symm, rfl⟩)⟩⟩
    · exact .inl ⟨q, hq, mem_edgeA.2 ⟨x.a, h3, h4, (mem_pairOf hx).2 (.inr ⟨rfl, h2.symm⟩)⟩⟩
    · exact .inr (mem_edgeF.2 ⟨x.a, h1, x.b, h2, (mem_pairOf hx).2 (.inl ⟨rfl, rfl⟩)⟩)
  · rintro (⟨q, hq, h⟩ | h)
    · obtain ⟨r, hr, he, hp⟩ := mem_edgeA.1 h
      have hw : writesB q.1 = true := by unfold edgeR at he; rw [Bool.and_eq_true] at he; exact he.1
      rcases (mem_pairOf hx).1 hp with ⟨e1, e2⟩ | ⟨e1, e2⟩
      · exact .inl (.inl ⟨q, hq, hw, e1.symm, by rw [e2]; exact hr, by rw [e2]; exact he⟩)
      · exact .inl (.inr ⟨q, hq, hw, e2.symm, by rw [e1]; exact hr, by rw [e1]; exact he⟩)
    · obtain ⟨a, ha, b, hb, hp⟩ := mem_edgeF.1 h
      have h0 : 0 < f.blocks.length := by
        rcases Nat.eq_zero_or_pos f.blocks.length with h0 | h0
        · unfold firstL at ha; rw [if_pos h0] at ha; cases ha
        · exact h0
      rcases (mem_pairOf hx).1 hp with ⟨e1, e2⟩ | ⟨e1, e2⟩
      · exact .inr ⟨⟨h0, by rw [e1]; exact ha⟩, by rw [e2]; exact hb⟩
      · exact .inr ⟨⟨h0, by rw [e1]; exact hb⟩, by rw [e2]; exact ha⟩
theorem edges18_eq (f : Func) : ((pairsOf (regs18L f)).filter fun x => part18 f x.a x.b) = edgesL f := by
  unfold edgesL asPairs
  refine List.filter_congr fun x hx => ?_
  exact part_edge ((mem_pairsOf (regs18_asc f).1).1 hx).2.2

/-! ### moves' rows -/
def mv18 (f : Func) (a b : Int) : Bool := moves18 f a b || moves18 f b a
theorem moves_if18 {f : Func} (c : FineF f) (a b : Int) {ρ : Type} {x y : M ρ} {z : ρ} {q : Bool} (hq : q = true) (hx : mv18 f a b = true → x.to z) (hy : mv18 f a b = false → y.to z) :
    (M.bnd (r18_moves f a b) fun r22 => M.chk (!(!r22) || q) (M.chk (!(!r22) || q) (M.bnd (M.whn (!r22) false (r18_moves f b a)) fun r25 => M.cnd (r22 || r25) x y))).to z := by
  refine M.bnd_to (moves18_to c a b) (M.chk_to (by rw [hq, Bool.or_true]) (M.chk_to (by rw [hq, Bool.or_true]) (M.bnd_to (a := !moves18 f a b && moves18 f b a) ?_ ?_)))
  · cases moves18 f a b
    · exact M.whn_t rfl (moves18_to c b a)
    · exact M.whn_f rfl
  · have e : (moves18 f a b || (!moves18 f a b && moves18 f b a)) = mv18 f a b := by unfold mv18; cases moves18 f a b <;> rfl
    rw [e]
    cases h : mv18 f a b
    · exact M.f_to rfl (hy h)
    · exact M.t_to rfl (hx h)
theorem moves_in18 {f : Func} (c : FineF f) {i : Nat} {a : Int} (hi : (regs18L f)[i]? = some a) : ∀ (d k : Nat) (l : List Pair), k + d = (regs18L f).length → l.length + d ≤ 4398046511104 →
    (M.loop (r18_Moves_L12 f (regs18L f) (i : Int)) ((k : Int), l)).to (l ++ (((regs18L f).drop k).map fun b => (⟨a, b⟩ : Pair)).filter fun x => mv18 f x.a x.b) := by
  have hw := regs18_wf c.ok
  have hR := regs18_le c.all
  intro d
  induction d with
  | zero =>
    intro k l hk hl
    rw [List.drop_of_length_le (by omega), List.map_nil, List.filter_nil, List.append_nil]
    refine M.loop_out ?_
    unfold r18_Moves_L12
    exact M.f_to (decide_eq_false (by omega)) (M.ok_to _)
  | succ d ih =>
    intro k l hk hl
    have hkl : k < (regs18L f).length := by omega
    obtain ⟨b, hb⟩ : ∃ b, (regs18L f)[k]? = some b := ⟨_, List.getElem?_eq_getElem hkl⟩
    have hbe : (regs18L f)[k] = b := by rw [List.getElem?_eq_getElem hkl] at hb; exact Option.some.inj hb
    have b1 : inBd (regs18L f) (i : Int) = true := inBd_nat (List.getElem?_eq_some_iff.1 hi).1
    have b2 : inBd (regs18L f) (k : Int) = true := inBd_nat hkl
    rw [List.drop_eq_getElem_cons hkl, hbe, List.map_cons, List.filter_cons]
    dsimp only
    have hS : ∀ z : List Pair, (mv18 f a b = true → l ++ [⟨a, b⟩] = z) → (mv18 f a b = false → l = z) → (r18_Moves_L12 f (regs18L f) (i : Int) ((k : Int), l)).to (.inl (((k + 1 : Nat) : Int), z)) := fun z h1 h2 => by
      unfold r18_Moves_L12
      dsimp only
      rw [ixD_of hi, ixD_of hb, i64n hkl (by omega), b1, b2]
      refine M.t_to (decide_eq_true (by omega)) (M.bnd_to (M.chk_to rfl (M.chk_to rfl (moves_if18 c a b rfl (fun h => ?_) fun h => ?_))) (M.ok_to _))
      · rw [← h1 h]
        exact M.chk_to rfl (M.chk_to rfl (M.chk_to (okPairB_of (hw _ (List.mem_of_getElem? hi)) (hw _ (List.mem_of_getElem? hb))) (M.chk_to (rowB_ok (by simp only [List.length_cons, List.length_nil]; omega) (by omega)) (M.ok_to _))))
      · rw [← h2 h]
        exact M.ok_to _
    by_cases hp : mv18 f a b = true
    · rw [if_pos hp]
      have := ih (k + 1) (l ++ [⟨a, b⟩]) (by omega) (by simp only [List.length_append, List.length_cons, List.length_nil]; omega)
      rw [List.append_assoc] at this
      exact M.loop_in (hS _ (fun _ => rfl) fun h => by rw [hp] at h; cases h) this
    · rw [if_neg hp]
      exact M.loop_in (hS _ (fun h => absurd h hp) fun _ => rfl) (ih (k + 1) l (by omega) (by omega))
theorem moves_out18 {f : Func} (c : FineF f) : ∀ (d i : Nat) (l : List Pair), i + d = (regs18L f).length → l.length + (pairsOf ((regs18L f).drop i)).length ≤ 4398046511104 →
    (M.loop (r18_Moves_L6 f (regs18L f)) ((i : Int), l)).to (l ++ (pairsOf ((regs18L f).drop i)).filter fun x => mv18 f x.a x.b) := by
  have hR := regs18_le c.all
  intro d
  induction d with
  | zero =>
    intro i l hi hl
    rw [List.drop_of_length_le (by omega)]
    refine M.loop_out ?_
    unfold r18_Moves_L6
    have := M.f_to (c := decide ((i : Int) < ((regs18L f).length : Int))) (x := (M.bnd (M.loop (r18_Moves_L12 f (regs18L f) (i : Int)) (IntKind.i64.wrap ((i : Int) + 1), l)) fun l16 => M.ok (.inl (IntKind.i64.wrap ((i : Int) + 1), l16)) : M ((Int × List Pair) ⊕ List Pair))) (decide_eq_false (by omega)) (M.ok_to (.inr l))
    simpa [pairsOf] using this
  | succ d ih =>
    intro i l hi hl
    have hil : i < (regs18L f).length := by omega
    obtain ⟨a, ha⟩ : ∃ a, (regs18L f)[i]? = some a := ⟨_, List.getElem?_eq_getElem hil⟩
    have hae : (regs18L f)[i] = a := by rw [List.getElem?_eq_getElem hil] at ha; exact Option.some.inj ha
    rw [List.drop_eq_getElem_cons hil, hae] at hl ⊢
    unfold pairsOf at hl ⊢
    rw [List.length_append, List.length_map] at hl
    rw [List.filter_append, ← List.append_assoc]
    have hin := moves_in18 c ha (d := (regs18L f).length - (i + 1)) (i + 1) l (by omega) (by rw [List.length_drop] at hl; omega)
    refine M.loop_in (s' := (((i + 1 : Nat) : Int), _)) ?_ (ih (i + 1) (l ++ ((List.drop (i + 1) (regs18L f)).map fun b => (⟨a, b⟩ : Pair)).filter fun x => mv18 f x.a x.b) (by omega) ?_)
    · unfold r18_Moves_L6
      dsimp only
      rw [i64n hil (by omega)]
      exact M.t_to (decide_eq_true (by omega)) (M.bnd_to hin (M.ok_to _))
    · rw [List.length_append]
      have := List.length_filter_le (fun x : Pair => mv18 f x.a x.b) ((List.drop (i + 1) (regs18L f)).map fun b => (⟨a, b⟩ : Pair))
      rw [List.length_map] at this
      omega
theorem moves18_iff {f : Func} {a b : Int} : moves18 f a b = true ↔ ∃ q ∈ stepsL f, q.1.op = 2 ∧ q.1.d = a ∧ q.1.a = b := by
  unfold moves18
  rw [List.any_eq_true]
  constructor
  · rintro ⟨bl, hb, h⟩
    obtain ⟨x, hx, h⟩ := List.any_eq_true.1 h
    obtain ⟨k, hk⟩ := List.mem_iff_getElem?.1 hb
    obtain ⟨i, hi⟩ := List.mem_iff_getElem?.1 hx
    unfold mvQ at h
    simp only [Bool.and_eq_true, beq_iff_eq] at h
    exact ⟨(x, placeL f (regsL f) k (i + 1)), mem_steps.2 ⟨k, i, (List.getElem?_eq_some_iff.1 hk).1, by unfold insOf; rw [hk]; exact hi, rfl⟩, h.1.1, h.1.2, h.2⟩
  · rintro ⟨q, hq, h1, h2, h3⟩
    obtain ⟨⟨bl, hb, hx⟩, _⟩ := steps_ins hq
    refine ⟨bl, hb, List.any_eq_true.2 ⟨q.1, hx, ?_⟩⟩
    unfold mvQ
    simp [h1, h2, h3]
theorem moves_row18 {f : Func} {x : Pair} (hx : x.a < x.b) : mv18 f x.a x.b = mvK f (stepsL f).length x := by
  rw [Bool.eq_iff_iff, movesS_iff]
  unfold mv18
  rw [Bool.or_eq_true, moves18_iff, moves18_iff]
  constructor
  · rintro (⟨q, hq, h1, h2, h3⟩ | ⟨q, hq, h1, h2, h3⟩)
    · exact ⟨q, hq, by unfold mvA; rw [if_pos h1]; exact (mem_pairOf hx).2 (.inl ⟨h2.symm, h3.symm⟩)⟩
    · exact ⟨q, hq, by unfold mvA; rw [if_pos h1]; exact (mem_pairOf hx).2 (.inr ⟨h3.symm, h2.symm⟩)⟩
  · rintro ⟨q, hq, h⟩
    unfold mvA at h
    split at h
    · rename_i h1
      rcases (mem_pairOf hx).1 h with ⟨e1, e2⟩ | ⟨e1, e2⟩
      · exact .inl ⟨q, hq, h1, e1.symm, e2.symm⟩
      · exact .inr ⟨q, hq, h1, e2.symm, e1.symm⟩
    · cases h
theorem movesR18_to {f : Func} (c : FineF f) : (r18_Moves f).to (mvL f) := by
  have hf := fineF_iff.2 c
  have e : ((pairsOf (regs18L f)).filter fun x => mv18 f x.a x.b) = mvL f := by
    unfold mvL asPairs
    exact List.filter_congr fun x hx => moves_row18 ((mem_pairsOf (regs18_asc f).1).1 hx).2.2
  unfold r18_Moves
  refine M.bnd_to (M.chk_to hf (M.ok_to (regs18L f))) (M.bnd_to (a := mvL f) ?_ (M.ok_to _))
  have := moves_out18 c (regs18L f).length 0 [] (by omega) (by have := pairs_le18 c; simpa using this)
  rw [← e]
  simpa using this

/-! ### near -/
theorem part18_comm {f : Func} {a b : Int} : part18 f a b = part18 f b a := by
  unfold part18
  rw [show (a == b) = (b == a) from Bool.beq_comm ..]
  cases (b == a) <;> cases oneW f a b <;> cases oneW f b a <;> cases decide (0 < f.blocks.length) <;> cases (firstL f).contains a <;> cases (firstL f).contains b <;> rfl
theorem near_cond {f : Func} {r y : Int} : ((regs18L f).contains r && part18 f r y) = (r != y && edgesS f ⟨min r y, max r y⟩) := by
  by_cases h : r = y
  · subst h
    unfold part18
    simp
  · have e : (r != y) = true := by simpa using h
    have h1 : part18 f r y = edgesS f ⟨min r y, max r y⟩ := by
      rcases Int.lt_or_lt_of_ne h with hl | hl
      · rw [Int.min_eq_left (by omega), Int.max_eq_right (by omega)]
        exact part_edge (x := ⟨r, y⟩) hl
      · rw [Int.min_eq_right (by omega), Int.max_eq_left (by omega), part18_comm]
        exact part_edge (x := ⟨y, r⟩) hl
    rw [e, h1, Bool.true_and]
    cases hS : edgesS f ⟨min r y, max r y⟩
    · rw [Bool.and_false]
    · obtain ⟨q1, q2, _⟩ := edgesS_in f _ hS
      rw [Bool.and_true, List.contains_iff_mem]
      dsimp only at q1 q2
      rcases Int.lt_or_lt_of_ne h with hl | hl
      · rw [Int.min_eq_left (by omega)] at q1; exact q1
      · rw [Int.max_eq_left (by omega)] at q2; exact q2
theorem near_loop18 {f : Func} (c : FineF f) (r : Int) : ∀ (d k : Nat) (l : List Int), k + d = (regs18L f).length → l.length + d ≤ 4398046511104 →
    (M.loop (r18_Near_L6 f r (regs18L f) (allL f)) ((k : Int), l)).to (l ++ ((regs18L f).drop k).filter fun y => (regs18L f).contains r && part18 f r y) := by
  have hw := regs18_wf c.ok
  have hR := regs18_le c.all
  intro d
  induction d with
  | zero =>
    intro k l hk hl
    rw [List.drop_of_length_le (by omega), List.filter_nil, List.append_nil]
    refine M.loop_out ?_
    unfold r18_Near_L6
    exact M.f_to (decide_eq_false (by omega)) (M.ok_to _)
  | succ d ih =>
    intro k l hk hl
    have hkl : k < (regs18L f).length := by omega
    obtain ⟨b, hb⟩ : ∃ b, (regs18L f)[k]? = some b := ⟨_, List.getElem?_eq_getElem hkl⟩
    have hbe : (regs18L f)[k] = b := by rw [List.getElem?_eq_getElem hkl] at hb; exact Option.some.inj hb
    have b2 : inBd (regs18L f) (k : Int) = true := inBd_nat hkl
    have hin := rin_to (l := regs18L f) (n := r) (by omega)
    rw [List.drop_eq_getElem_cons hkl, hbe, List.filter_cons]
    have hS : ∀ z : List Int, (((regs18L f).contains r && part18 f r b) = true → l ++ [b] = z) → (((regs18L f).contains r && part18 f r b) = false → l = z) → (r18_Near_L6 f r (regs18L f) (allL f) ((k : Int), l)).to (.inl (((k + 1 : Nat) : Int), z)) := fun z h1 h2 => by
      unfold r18_Near_L6
      dsimp only
      rw [ixD_of hb, i64n hkl (by omega), b2]
      refine M.t_to (decide_eq_true (by omega)) (M.bnd_to (M.bnd_to hin (M.chk_to (Bool.or_true _) (M.bnd_to (a := (regs18L f).contains r && part18 f r b) ?_ ?_))) (M.ok_to _))
      · cases (regs18L f).contains r
        · exact M.whn_f rfl
        · exact M.whn_t rfl (part18_to c r b)
      · have e : ((regs18L f).contains r && ((regs18L f).contains r && part18 f r b)) = ((regs18L f).contains r && part18 f r b) := by cases (regs18L f).contains r <;> rfl
        rw [e]
        cases h : ((regs18L f).contains r && part18 f r b)
        · rw [← h2 h]; exact M.f_to rfl (M.ok_to _)
        · rw [← h1 h]; exact M.t_to rfl (M.chk_to rfl (M.chk_to (hw _ (List.mem_of_getElem? hb)) (M.chk_to (rowB_ok (by simp only [List.length_cons, List.length_nil]; omega) (by omega)) (M.ok_to _))))
    by_cases hp : ((regs18L f).contains r && part18 f r b) = true
    · rw [if_pos hp]
      have := ih (k + 1) (l ++ [b]) (by omega) (by simp only [List.length_append, List.length_cons, List.length_nil]; omega)
      rw [List.append_assoc] at this
      exact M.loop_in (hS _ (fun _ => rfl) fun h => by rw [hp] at h; cases h) this
    · rw [if_neg hp]
      exact M.loop_in (hS _ (fun h => absurd h hp) fun _ => rfl) (ih (k + 1) l (by omega) (by omega))
theorem near18_to {f : Func} (c : FineF f) (r : Int) : (r18_Near f r).to (nearL f r) := by
  have hf := fineF_iff.2 c
  have hR := regs18_le c.all
  have e : ((regs18L f).filter fun y => (regs18L f).contains r && part18 f r y) = nearL f r := by
    unfold nearL
    exact List.filter_congr fun y _ => near_cond
  unfold r18_Near
  refine M.bnd_to (M.chk_to hf (M.ok_to (regs18L f))) (M.bnd_to (M.chk_to hf (M.ok_to (allL f))) (M.bnd_to (a := nearL f r) ?_ (M.ok_to _)))
  have := near_loop18 c r (regs18L f).length 0 [] (by omega) (by simp only [List.length_nil]; omega)
  rw [← e]
  simpa using this
theorem edgesR18_to {f : Func} (c : FineF f) : (r18_Edges f).to (edgesL f) := by
  have := edges18_to c
  rwa [edges18_eq] at this
end Mu
end
section
/-
  muntinlaw18.InterTells: what it computes.
  Conditions: none.
-/
namespace Mu
open Go Go.RowKit Go.Proofs

def law18_InterTells (f : Func) (rP1 : Int) : M Bool := M.bnd (r18_Great f) fun r2 => M.cnd r2 (M.bnd law18_head fun r4 => M.ok r4) (M.bnd (inter_Edges f) fun r5 => M.bnd (r18_Edges f) fun r6 => M.bnd (r18_Same r5 r6) fun r7 => M.bnd (M.whn r7 [] (inter_Moves f)) fun r8 => M.bnd (M.whn r7 [] (r18_Moves f)) fun r9 => M.bnd (M.whn r7 false (r18_Same r8 r9)) fun r10 => M.bnd (M.whn (r7 && r10) [] (inter_Cross f)) fun r11 => M.bnd (M.whn (r7 && r10) [] (r18_Cross f)) fun r12 => M.bnd (M.whn (r7 && r10) false (r14_SameInts r11 r12)) fun r13 => M.bnd (M.whn ((r7 && r10) && r13) [] (inter_Near f rP1)) fun r14 => M.bnd (M.whn ((r7 && r10) && r13) [] (r18_Near f rP1)) fun r15 => M.bnd (M.whn ((r7 && r10) && r13) false (r14_SameInts r14 r15)) fun r16 => M.bnd (M.whn (((r7 && r10) && r13) && r16) false law18_head) fun r17 => M.ok ((((r7 && r10) && r13) && r16) && r17))
set_option maxRecDepth 100000 in
set_option maxHeartbeats 4000000 in
theorem law18_InterTells_l {f : Func} {rP1 : Int} {r : Bool} (H : (law18_InterTells f rP1).to r) : Fn Tryz.prog 3 [.agg (encFunc f), .lit (.int .i64 rP1)] (.lit (.bool r)) := by
  delta law18_InterTells at H
  try dsimp only at H
  refine Fn.of_awp Tryz.func3 rfl (by kernel_rfl) rfl Tryz.ntmps3 fun C hC => ?_
  simp only [List.length_cons, List.length_nil, Nat.reduceAdd, Nat.reduceSub, List.replicate_succ, List.replicate_zero, List.cons_append, List.nil_append]
  refine wR (hx := by ((refine aSeq_t rfl (AOp.boxI 0 rfl rfl Parts0.agg ?_); refine sNtM (ht := set2) (hk := ?_)); refine sA (hq := Quiet.assign rfl getC) (ht := set4) (hk := ?_); exact wEnd rfl)) (hk := ?_)
  refine Awp.seq fun Khs1 hs1 => ?_
  obtain ⟨r2, k2, H⟩ := M.to_bnd.1 H
  have k2 := r18_Great_l k2
  refine wR (hx := by (refine sA (hq := Quiet.loadA_ptr rfl get2 rfl rfl) (ht := set5) (hk := ?_); refine sA (hq := Quiet.callA rfl rfl k2 rfl rfl) (ht := set6) (hk := ?_); exact wEnd rfl)) (hk := ?_)
  refine Awp.cond rfl (fun hb3 => ?_) (fun hb3 => ?_)
  · have H := M.to_t hb3 H
    obtain ⟨r4, k4, H⟩ := M.to_bnd.1 H
    have k4 := law18_head_l k4
    refine wR (hx := by (refine sA (hq := Quiet.callA rfl rfl k4 rfl rfl) (ht := set7) (hk := ?_); refine sA (hq := Quiet.assign rfl get7) (ht := set4) (hk := ?_); exact wEnd rfl)) (hk := ?_)
    obtain rfl := M.to_ok.1 H
    exact Awp.ret ⟨.inr rfl, Fin.cl rfl⟩
  · have H := M.to_f hb3 H
    refine Awp.skip ?_
    refine hs1 _ ?_
    refine nT (hk := ?_)
    obtain ⟨r5, k5, H⟩ := M.to_bnd.1 H
    have k5 := inter_Edges_l k5
    obtain ⟨r6, k6, H⟩ := M.to_bnd.1 H
    have k6 := r18_Edges_l k6
    obtain ⟨r7, k7, H⟩ := M.to_bnd.1 H
    have k7 := r18_Same_l k7
    obtain ⟨r8, k8, H⟩ := M.to_bnd.1 H
    obtain ⟨r9, k9, H⟩ := M.to_bnd.1 H
    obtain ⟨r10, k10, H⟩ := M.to_bnd.1 H
    obtain ⟨r11, k11, H⟩ := M.to_bnd.1 H
    obtain ⟨r12, k12, H⟩ := M.to_bnd.1 H
    obtain ⟨r13, k13, H⟩ := M.to_bnd.1 H
    obtain ⟨r14, k14, H⟩ := M.to_bnd.1 H
    obtain ⟨r15, k15, H⟩ := M.to_bnd.1 H
    obtain ⟨r16, k16, H⟩ := M.to_bnd.1 H
    obtain ⟨r17, k17, H⟩ := M.to_bnd.1 H
    refine wD 32 (hq := by (refine qA (hq := Quiet.loadA_ptr rfl get2 rfl rfl) (ht := (setS8 set0)) (hk := ?_); refine qA (hq := Quiet.callA rfl rfl k5 rfl rfl) (ht := (setS8 set1)) (hk := ?_); refine qA (hq := Quiet.loadA_ptr rfl get2 rfl rfl) (ht := (setS8 set2)) (hk := ?_); refine qA (hq := Quiet.callA rfl rfl k6 rfl rfl) (ht := (setS8 set3)) (hk := ?_); refine qA (hq := Quiet.callA rfl rfl k7 rfl rfl) (ht := (setS8 set4)) (hk := ?_); refine qA (hq := Quiet.move rfl (getS8 get4)) (ht := (setS8 set5)) (hk := ?_); refine qG (g := r7) (hg := gA_t rfl) (hq := fun hg => Quiet.loadA_ptr rfl get2 rfl rfl) (ht := (setS8 set6)) (hk := ?_); refine qG (g := r7) (hg := gA_t rfl) (hq := fun hg => by ((try simp only [cndT hg]); (try simp only [cndA hg]); exact Quiet.callA rfl rfl (inter_Moves_l (M.to_whn k8 hg)) rfl rfl)) (ht := (setS8 set7)) (hk := ?_); refine qG (g := r7) (hg := gA_t rfl) (hq := fun hg => Quiet.loadA_ptr rfl get2 rfl rfl) (ht := (setS8 (setS8 set0))) (hk := ?_); refine qG (g := r7) (hg := gA_t rfl) (hq := fun hg => by ((try simp only [cndT hg]); (try simp only [cndA hg]); exact Quiet.callA rfl rfl (r18_Moves_l (M.to_whn k9 hg)) rfl rfl)) (ht := (setS8 (setS8 set1))) (hk := ?_); refine qG (g := r7) (hg := gA_t rfl) (hq := fun hg => by ((try simp only [cndT hg]); (try simp only [cndA hg]); exact Quiet.callA rfl rfl (r18_Same_l (M.to_whn k10 hg)) rfl rfl)) (ht := (setS8 (setS8 set2))) (hk := ?_); refine qA (hq := Quiet.pickAndB rfl (getS8 get5) (getS8 (getS8 get2)) getC) (ht := (setS8 (setS8 set3))) (hk := ?_); refine qA (hq := Quiet.move rfl (getS8 (getS8 get3))) (ht := (setS8 (setS8 set4))) (hk := ?_); refine qG (g := (r7 && r10)) (hg := gA_t rfl) (hq := fun hg => Quiet.loadA_ptr rfl get2 rfl rfl) (ht := (setS8 (setS8 set5))) (hk := ?_); refine qG (g := (r7 && r10)) (hg := gA_t rfl) (hq := fun hg => by ((try simp only [cndT hg]); (try simp only [cndA hg]); exact Quiet.callA rfl rfl (inter_Cross_l (M.to_whn k11 hg)) rfl rfl)) (ht := (setS8 (setS8 set6))) (hk := ?_); refine qG (g := (r7 && r10)) (hg := gA_t rfl) (hq := fun hg => Quiet.loadA_ptr rfl get2 rfl rfl) (ht := (setS8 (setS8 set7))) (hk := ?_); refine qG (g := (r7 && r10)) (hg := gA_t rfl) (hq := fun hg => by ((try simp only [cndT hg]); (try simp only [cndA hg]); exact Quiet.callA rfl rfl (r18_Cross_l (M.to_whn k12 hg)) rfl rfl)) (ht := (setS8 (setS8 (setS8 set0)))) (hk := ?_); refine qG (g := (r7 && r10)) (hg := gA_t rfl) (hq := fun hg => by ((try simp only [cndT hg]); (try simp only [cndA hg]); exact Quiet.callA rfl rfl (r14_SameInts_l (M.to_whn k13 hg)) rfl rfl)) (ht := (setS8 (setS8 (setS8 set1)))) (hk := ?_); refine qA (hq := Quiet.pickAndB rfl (getS8 (getS8 get4)) (getS8 (getS8 (getS8 get1))) getC) (ht := (setS8 (setS8 (setS8 set2)))) (hk := ?_); refine qA (hq := Quiet.move rfl (getS8 (getS8 (getS8 get2)))) (ht := (setS8 (setS8 (setS8 set3)))) (hk := ?_); refine qG (g := ((r7 && r10) && r13)) (hg := gA_t rfl) (hq := fun hg => Quiet.loadA_ptr rfl get2 rfl rfl) (ht := (setS8 (setS8 (setS8 set4)))) (hk := ?_); refine qG (g := ((r7 && r10) && r13)) (hg := gA_t rfl) (hq := fun hg => Quiet.move rfl get1) (ht := (setS8 (setS8 (setS8 set5)))) (hk := ?_); refine qG (g := ((r7 && r10) && r13)) (hg := gA_t rfl) (hq := fun hg => by ((try simp only [cndT hg]); (try simp only [cndA hg]); exact Quiet.callA rfl rfl (inter_Near_l (M.to_whn k14 hg)) rfl rfl)) (ht := (setS8 (setS8 (setS8 set6)))) (hk := ?_); refine qG (g := ((r7 && r10) && r13)) (hg := gA_t rfl) (hq := fun hg => Quiet.loadA_ptr rfl get2 rfl rfl) (ht := (setS8 (setS8 (setS8 set7)))) (hk := ?_); refine qG (g := ((r7 && r10) && r13)) (hg := gA_t rfl) (hq := fun hg => Quiet.move rfl get1) (ht := (setS32 set0)) (hk := ?_); refine qG (g := ((r7 && r10) && r13)) (hg := gA_t rfl) (hq := fun hg => by ((try simp only [cndT hg]); (try simp only [cndA hg]); exact Quiet.callA rfl rfl (r18_Near_l (M.to_whn k15 hg)) rfl rfl)) (ht := (setS32 set1)) (hk := ?_); refine qG (g := ((r7 && r10) && r13)) (hg := gA_t rfl) (hq := fun hg => by ((try simp only [cndT hg]); (try simp only [cndA hg]); exact Quiet.callA rfl rfl (r14_SameInts_l (M.to_whn k16 hg)) rfl rfl)) (ht := (setS32 set2)) (hk := ?_); refine qA (hq := Quiet.pickAndB rfl (getS8 (getS8 (getS8 get3))) (getS32 get2) getC) (ht := (setS32 set3)) (hk := ?_); refine qA (hq := Quiet.move rfl (getS32 get3)) (ht := (setS32 set4)) (hk := ?_); refine qG (g := (((r7 && r10) && r13) && r16)) (hg := gA_t rfl) (hq := fun hg => by ((try simp only [cndT hg]); (try simp only [cndA hg]); exact Quiet.callA rfl rfl (law18_head_l (M.to_whn k17 hg)) rfl rfl)) (ht := (setS32 set5)) (hk := ?_); refine qA (hq := Quiet.pickAndB rfl (getS32 get4) (getS32 get5) getC) (ht := (setS32 set6)) (hk := ?_); refine qA (hq := Quiet.assign rfl (getS32 get6)) (ht := set4) (hk := ?_); exact qEnd rfl)) (hx := by (exact wEnd rfl)) (hk := ?_)
    obtain rfl := M.to_ok.1 H
    exact Awp.ret ⟨.inr rfl, Fin.cl rfl⟩
end Mu
end
section
/-
  muntinlaw18.InterTells answers true of any function and register: plainly, over what its code computes.
  Conditions: at most 2^21 of everything.
-/
namespace Mu
open Go Go.RowKit Go.Proofs

theorem sameI18 {l : List Int} (h : l.length ≤ 2097152) : (r14_SameInts l l).to true := M.chk_to (decide_eq_true h) (M.to_ok.2 (decide_eq_true rfl))
theorem nearL_few {f : Func} (c : FineF f) (n : Int) : (nearL f n).length ≤ 2097152 := Nat.le_trans (List.length_filter_le _ _) (regs18_le c.all)
theorem tells18_to {f : Func} (c : FineF f) (r : Int) : (law18_InterTells f r).to true := by
  have hf := fineF_iff.2 c
  have hel := edges_len c.all
  have hml := moves_len c.all
  have hs1 := same18_self (edgesL f) (by omega)
  have hs2 := same18_self (mvL f) (by omega)
  have hs3 := sameI18 (cross_len c.reads)
  have hs4 := sameI18 (nearL_few c r)
  unfold law18_InterTells
  refine M.bnd_to (M.chk_to hf (M.ok_to (great18 f))) ?_
  rcases great18 f with _ | _
  · exact M.f_to rfl (M.bnd_to (M.chk_to hf (M.ok_to (edgesL f))) (M.bnd_to (edgesR18_to c) (M.bnd_to hs1 (M.bnd_to (M.whn_t rfl (M.chk_to hf (M.ok_to (mvL f)))) (M.bnd_to (M.whn_t rfl (movesR18_to c)) (M.bnd_to (M.whn_t rfl hs2)
      (M.bnd_to (M.whn_t rfl (M.chk_to hf (M.ok_to (crossL f)))) (M.bnd_to (M.whn_t rfl (M.chk_to hf (M.ok_to (crossL f)))) (M.bnd_to (M.whn_t rfl hs3)
      (M.bnd_to (M.whn_t rfl (M.chk_to hf (M.ok_to (nearL f r)))) (M.bnd_to (M.whn_t rfl (near18_to c r)) (M.bnd_to (M.whn_t rfl hs4) (M.bnd_to (M.whn_t rfl (M.ok_to true)) (M.ok_to _))))))))))))))
  · exact M.t_to rfl (M.bnd_to (M.ok_to true) (M.ok_to _))
theorem interTells18_fn (f : Func) (r : Int) (ho : okFunc f) (hbk : tFunc.bulk f ≤ 2097152) : Fn Tryz.prog 3 [.agg (encFunc f), .lit (.int .i64 r)] (.lit (.bool true)) := law18_InterTells_l (tells18_to (fine_func ho hbk) r)
end Mu
end
section
/-
  The arguments of a row, read; what a call that makes new blocks only leaves of them.
  Conditions: none.
-/
namespace Mu
open Go Go.RowKit Go.ChangeShapes Go.WideShapes Go.Proofs

theorem laid_out : laidOutB Tryz.prog = true := by kernel_rfl
mutual
theorem bulk_le {H : Type} : ∀ d : DataW H, bulkD d ≤ YtpippebmbphhfaaGreat.Rows.uptoBulk d
  | .lit (.string _) => Nat.le_refl _
  | .lit (.bool _) => Nat.le_refl _
  | .lit (.int _ _) => Nat.le_refl _
  | .lit (.float _ _) => Nat.le_refl _
  | .lit .nil => Nat.le_refl _
  | .nil => Nat.le_refl _
  | .ptr d => by show 1 ≤ YtpippebmbphhfaaGreat.Rows.uptoBulk d + 1; omega
  | .slice e s => by
    have h1 := bulks_le e
    have h2 := bulks_le s
    show bulkD.go e + bulkD.go s + 1 ≤ YtpippebmbphhfaaGreat.Rows.uptoBulkAll e + YtpippebmbphhfaaGreat.Rows.uptoBulkAll s + 1
    omega
  | .agg p => by
    have h1 := bulks_le p
    show bulkD.go p + 1 ≤ YtpippebmbphhfaaGreat.Rows.uptoBulkAll p + 1
    omega
  | .iface _ d => by show 1 ≤ YtpippebmbphhfaaGreat.Rows.uptoBulk d + 1; omega
  | .map m => by show 1 ≤ YtpippebmbphhfaaGreat.Rows.uptoBulkEntries m + 1; omega
  | .held _ => Nat.le_refl _
theorem bulks_le {H : Type} : ∀ l : List (DataW H), bulkD.go l ≤ YtpippebmbphhfaaGreat.Rows.uptoBulkAll l
  | [] => Nat.le_refl _
  | d :: r => by
    have h1 := bulk_le d
    have h2 := bulks_le r
    show bulkD d + bulkD.go r ≤ YtpippebmbphhfaaGreat.Rows.uptoBulk d + YtpippebmbphhfaaGreat.Rows.uptoBulkAll r
    omega
end

/-- an argument of a type that is read: a value of many cells -/
theorem open_many {α : Type} {t : TypeId} {T : Ty α} {H : Type} {enc : TypeId × Value → H} {W : World} {v : Value} {d : DataW H} {p : List MemPlace} (ho : Opens Tryz.prog t T) (hs : 1 < T.size)
    (h : DataW.Trod enc Tryz.prog W 0 (fun _ => true) true t v d p) (hp : ∀ x ∈ p, x.block < W.heap.size) :
    ∃ cs x, v = .agg cs.toArray ∧ T.R W W.heap.size cs x ∧ T.bulk x ≤ YtpippebmbphhfaaGreat.Rows.uptoBulk d := by
  obtain ⟨fuel, hf⟩ := h
  obtain ⟨x, hR, hb⟩ := ho.go H enc W 0 _ true fuel _ (d, p) W.heap.size hf hp
  have hl := T.len hR
  refine ⟨v.cells.toList, x, ?_, hR, Nat.le_trans hb (bulk_le d)⟩
  cases v <;> first
    | (simp [Value.cells] at hl; omega)
    | simp [Value.cells]
/-- what an argument read as, it reads as behind a call that makes new blocks only -/
theorem stays {t : TypeId} {H : Type} {enc : TypeId × Value → H} {W W' : World} {v : Value} {d : DataW H} {p : List MemPlace} (hr : Tryz.prog.readableRec t = true) (ht : t < Tryz.prog.types.size)
    (h : DataW.Trod enc Tryz.prog W 0 (fun _ => true) true t v d p) (hb : Below W.heap.size W W') (hp : ∀ x ∈ p, x.block < W.heap.size) :
    DataW.Trod enc Tryz.prog W' 0 (fun b => decide (b < W.heap.size)) true t v d p := Below.trod laid_out hr ht h hb hp
end Mu
end
