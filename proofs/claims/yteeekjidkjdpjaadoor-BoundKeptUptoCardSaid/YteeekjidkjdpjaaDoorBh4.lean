/-
  Own texts laid together, part 4: MuAll, MuLiveF, MuSteps, ShelfK, MuKeys, MuCross, ShelfB, MuLaw17A, MuHint, MuArr, MuRef14A, MuRef14B, MuOwnC, MuRef14C, MuStr, MuRef12, MuLaw17B, MuLaw17C, MuRef14D, MuRef14E, MuRef14P, MuChkP, MuRowP.
  Conditions: as each part says.
-/
import Derived.Test.YteeekjidkjdpjaaDoorBh3
import Derived.Shelf.Small.Bits
import Derived.Shelf.Small.Wraps
import Derived.Shelf.Strconv.Itoa0
import Derived.Shelf.Strconv.Itoa1
import Derived.Shelf.LaysM
import Derived.Shelf.Strconv.Itoa2
import Derived.Shelf.Strconv.Itoa3
import Derived.Ground.Names2Prog
import Derived.Shelf.Slices.SearchI
import Derived.Shelf.Slices.Empties
import Derived.Test.YteeekjidkjdpjaaDoorProg
import Derived.Laws.Strings3
section
/-
  live.all, walked: the row of sets of what is live behind blocks.
  Conditions: at most 2^21 of everything.
-/
namespace Mu
open Go Go.RowKit Go.Proofs Go.Maps
instance : AG Tryd.prog 106 false 1 := ⟨by kernel_rfl⟩
instance : SZ Tryd.prog 106 1 := ⟨by kernel_rfl⟩
instance : ES Tryd.prog 106 1 := ⟨by kernel_rfl⟩
instance : SL Tryd.prog 106 := ⟨by kernel_rfl⟩
instance : RT Tryd.prog 106 105 1 8 := ⟨by kernel_rfl⟩
instance : AG Tryd.prog 105 false 1 := ⟨by kernel_rfl⟩
instance : SZ Tryd.prog 105 1 := ⟨by kernel_rfl⟩
instance : ZC Tryd.prog 105 [.map none] := ⟨by kernel_rfl⟩

theorem athen_x {i : Nat} {K : St → Prop} {Q : Exit → St → Prop} {s : St} (h : Q (.exit i) s) : athen K Q (.exit i) s := h
theorem ablock_hit {id : Nat} {Q : Exit → St → Prop} {s : St} (h : Q .normal s) : ablock id Q (.exit id) s := by simp [ablock, h]
theorem ablock_n {id : Nat} {Q : Exit → St → Prop} {s : St} (h : Q .normal s) : ablock id Q .normal s := h
theorem z1set : zeroOne Tryd.prog 106 = some (105, .map none, 8) := by kernel_rfl
theorem undSet : Tryd.prog.underlying 105 = some (.map 3 3) := by kernel_rfl
theorem regsOf_le (l : List Int) : (regsOf l).length ≤ l.length := by
  have key : ∀ (l acc : List Int), (l.foldl insR acc).length ≤ acc.length + l.length := by
    intro l
    induction l with
    | nil => intro acc; simp
    | cons x l ih =>
      intro acc
      have := ih (insR acc x)
      have h2 : (insR acc x).length ≤ acc.length + 1 := by
        unfold insR
        split
        · omega
        · rw [sortedL_len]; simp
      simp only [List.foldl_cons, List.length_cons]
      omega
  simpa [regsOf] using key l []
theorem regsR_of (f : Func) (ho : okFunc f) (hT : (allReads f).length ≤ 2097152) : RegsR (regsL f) := by
  refine ⟨regsL_asc f, fun x hx => ?_, ?_⟩
  · obtain ⟨b, h1, y, h2, h3⟩ := regsL_mem.1 hx
    exact readsC_ok ((ho.blocks b h1).ins y h2) x h3
  · have := regsOf_le (allReads f)
    unfold regsL
    omega

/-- the cells of the row: sets that are there, and none behind -/
def cellsM (ms : List Nat) (n : Nat) : List AV := ms.map cellM ++ List.replicate (n - ms.length) (.lit (.map none))
theorem cellsM_put {ms : List Nat} {n b m : Nat} (hb : ms.length = b) (_hn : b < n) : (cellsM ms n).take b ++ [cellM m] ++ (cellsM ms n).drop (b + 1) = cellsM (ms ++ [m]) n := by
  unfold cellsM
  have h1 : (ms.map cellM).length = b := by simp [hb]
  rw [List.take_append_of_le_length (by omega), List.take_of_length_le (by omega), List.drop_append, List.drop_eq_nil_of_le (by simp; omega), List.nil_append, h1, List.drop_replicate, List.map_append, List.length_append, List.append_assoc, List.append_assoc]
  congr 3
  simp
  omega
theorem cellsM_len {ms : List Nat} {n : Nat} (h : ms.length ≤ n) : (cellsM ms n).length = n := by
  unfold cellsM
  simp
  omega
theorem cellsM_full {ms : List Nat} {n : Nat} (h : ms.length = n) : cellsM ms n = ms.map cellM := by
  unfold cellsM
  rw [h]
  simp
def i64s (l : List Nat) : List Int := l.map fun k : Nat => (k : Int)
theorem i64s_len (l : List Nat) : (i64s l).length = l.length := by simp [i64s]
theorem i64s_snoc (l : List Nat) (b : Nat) : i64s (l ++ [b]) = i64s l ++ [(b : Int)] := by simp [i64s]
/-- what is live behind the first of so many instructions at a block's end -/
def bkS (ds : List Ins) (S : Int → Bool) (k : Nat) : Int → Bool := inS (ds.drop (ds.length - k)) S
theorem bkS_zero (ds : List Ins) (S : Int → Bool) : bkS ds S 0 = S := by
  unfold bkS
  rw [Nat.sub_zero, List.drop_eq_nil_of_le (Nat.le_refl _)]
  rfl
theorem bkS_all (ds : List Ins) (S : Int → Bool) : bkS ds S ds.length = inS ds S := by
  unfold bkS
  rw [Nat.sub_self]
  rfl
theorem bkS_succ {ds : List Ins} {S : Int → Bool} {k : Nat} {d : Ins} (hd : ds[ds.length - 1 - k]? = some d) (hk : k < ds.length) : bkS ds S (k + 1) = backS d (bkS ds S k) := by
  unfold bkS
  have h1 : ds.length - (k + 1) = ds.length - 1 - k := by omega
  have h2 : ds.length - k = ds.length - 1 - k + 1 := by omega
  rw [h1, h2, List.drop_eq_getElem_cons (by omega)]
  have : ds[ds.length - 1 - k] = d := by
    rw [List.getElem?_eq_getElem (by omega)] at hd
    exact Option.some.inj hd
  rw [this]
  rfl
theorem bkS_sub {ds : List Ins} {L : List Int} {S : Int → Bool} (h : Sub L S) (hx : ∀ x ∈ ds, ∀ r ∈ readsC x, r ∈ L) (k : Nat) : Sub L (bkS ds S k) :=
  h.inS fun x hm => hx x (List.mem_of_mem_drop hm)
theorem lackBd {a b c : Nat} (hb : b ≤ 2097152) (hc : c ≤ 2097152) (h : a ≤ b * c) : a ≤ 4398046511104 := Nat.le_trans h (Nat.le_trans (Nat.mul_le_mul hb hc) (by decide))

set_option maxRecDepth 100000 in
set_option maxHeartbeats 4000000 in
theorem all_fn (f : Func) (ho : okFunc f) (hs : smallF f) (hT : (allReads f).length ≤ 2097152) : Fn Tryd.prog 68 [.agg (encFunc f)] (.bs tSet ((List.range f.blocks.length).map (outS f))) := by
  have hbl := hs.blocks
  have hRR := regsR_of f ho hT
  have hLl : (regsL f).length ≤ 2097152 := Nat.le_trans (regsOf_le _) hT
  have hLr : ∀ b ∈ f.blocks, ∀ x ∈ b.ins, ∀ r ∈ readsC x, r ∈ regsL f := fun b hb x hx r hr => regsL_mem.2 ⟨b, hb, x, hx, hr⟩
  have hmk : 8 * f.blocks.length ≤ 281474976710656 := by omega
  have hmx : f.blocks.length ≤ maxLen := by unfold maxLen; omega
  refine Fn.of_awpM Tryd.func68 rfl (by kernel_rfl) rfl Tryd.ntmps68 fun C hC hrd => ?_
  simp only [List.length_cons, List.length_nil, Nat.reduceAdd, Nat.reduceSub, List.replicate_succ, List.replicate_zero, List.cons_append, List.nil_append]
  refine Awp.seq fun K1 h1 => ?_
  (refine Awp.region ?_; (repeat (first | refine sQ (hk := ?_) | refine sSkip (hk := ?_) | refine sOwn (hk := ?_))); refine aSeq_nil ?_)
  refine h1 _ ?_
  refine nT (hk := ?_)
  refine Awp.open_box 1 rfl rfl rfl (fun g => [.any, .lit (.pointer (some ⟨g, 0, none⟩)), .any, .any, .any, .any, .any, .any, .any, .any, .any, .any, .any, .any, .any, .any, .any, .any, .any, .any, .any, .any, .any, .any, .any, .any, .any, .any, .any, .any, .any, .any, .any, .any, .any, .any, .any, .any, .any, .any, .any, .any, .any, .any, .any, .any, .any, .any, .any, .any, .any, .any, .any, .any, .any, .any, .any, .any, .any, .any, .any, .any, .any, .any, .any, .any, .any, .any, .any, .any, .any, .any, .any, .any, .any, .any, .any, .any, .any, .any, .any, .any, .any, .any, .any, .any, .any, .any, .any, .any, .any, .any, .any, .any, .any, .any, .any, .any, .any, .any, .any, .any, .any]) (fun g => (by (repeat (first | exact OpnB.nil | refine OpnB.ptr ?_ | refine OpnB.any ?_ | refine OpnB.keep rfl ?_)))) fun g1 => ?_
  refine Awp.seq fun K2 h2 => ?_
  (refine Awp.region ?_; (repeat (first | refine sQ (hk := ?_) | refine sSkip (hk := ?_) | refine sOwn (hk := ?_))))
  refine aSeq_t rfl (AOp.mkL rfl z1set rfl rfl hmk hmx fun O => ?_)
  refine sNt (hk := ?_)
  (repeat (first | refine sQ (hk := ?_) | refine sSkip (hk := ?_) | refine sOwn (hk := ?_)))
  refine aSeq_nil ?_
  refine h2 _ ?_
  refine nT (hk := ?_)
  refine Awp.via ⟨[.any, .lit (.pointer (some ⟨g1, 0, none⟩)), .any, .lit (.slice (some ⟨O, 0, none⟩) f.blocks.length f.blocks.length), .any, .any, .any, .any, .any, .any, .any, .any, .any, .any, .any, .any, .any, .any, .any, .any, .any, .any, .any, .any, .any, .any, .any, .any, .any, .any, .any, .any, .any, .any, .any, .any, .any, .any, .any, .any, .any, .any, .any, .any, .any, .any, .any, .any, .any, .any, .any, .any, .any, .any, .any, .any, .any, .any, .any, .any, .any, .any, .any, .any, .any, .any, .any, .any, .any, .any, .any, .any, .any, .any, .any, .any, .any, .any, .any, .any, .any, .any, .any, .any, .any, .any, .any, .any, .any, .any, .any, .any, .any, .any, .any, .any, .any, .any, .any, .any, .any, .any, .any], [.res (marksR []), .res (boxR g1 (encFunc f)), .res (boxR O (List.replicate f.blocks.length (.lit (.map none))))]⟩ (le_T) ?_
  refine Awp.seq fun K3 h3 => ?_
  suffices hM3 : ∀ s' : St, St.le C s' ⟨[.any, .lit (.pointer (some ⟨g1, 0, none⟩)), .any, .lit (.slice (some ⟨O, 0, none⟩) f.blocks.length f.blocks.length), .own 3 0, .bs tInt.slice (befN f f.blocks.length), .any, .any, .any, .any, .any, .any, .any, .any, .any, .any, .any, .any, .any, .any, .any, .any, .any, .any, .any, .any, .any, .any, .any, .any, .any, .any, .any, .any, .any, .any, .any, .any, .any, .any, .any, .any, .any, .any, .any, .any, .any, .any, .any, .any, .any, .any, .any, .any, .any, .any, .any, .any, .any, .any, .any, .any, .any, .any, .any, .any, .any, .any, .any, .any, .any, .any, .any, .any, .any, .any, .any, .any, .any, .any, .any, .any, .any, .any, .any, .any, .any, .any, .any, .any, .any, .any, .any, .any, .any, .any, .any, .any, .any, .any, .any, .any, .any], [.res (marksR []), .res (boxR g1 (encFunc f)), .res (boxR O (List.replicate f.blocks.length (.lit (.map none)))), .row 0 3 tInt []]⟩ → K3 s' by
    (refine Awp.drawT 0 (by kernel_rfl) (by kernel_rfl) ?_; refine aQ_nil ?_; (refine tStep [0, 4] (tC ?_ (tC ?_ tAll_nil)); ((first | refine oQ (hq := Quiet.call rfl (before_fn f ho hs) rfl rfl rfl) (hk := ?_) | refine oQ (hk := ?_)); (refine tStep [1, 4] (tC ?_ (tC ?_ tAll_nil)); ((first | refine oQ (hq := Quiet.call rfl (before_fn f ho hs) rfl rfl rfl) (hk := ?_) | refine oQ (hk := ?_)); (refine tStep [2, 4] (tC ?_ (tC ?_ tAll_nil)); ((first | refine oQ (hq := Quiet.call rfl (before_fn f ho hs) rfl rfl rfl) (hk := ?_) | refine oQ (hk := ?_)); (refine tStep [3, 4] (tC ?_ (tC ?_ tAll_nil)); ((refine AOp.mk0 (T := tInt) (m := 1) (e := 3) rfl rfl (by decide) rfl rfl hmk hmx ?_; refine tNt (hk := ?_)); (refine tStep [4] (tC ?_ tAll_nil); ((first | refine oQ (hq := Quiet.call rfl (before_fn f ho hs) rfl rfl rfl) (hk := ?_) | refine oQ (hk := ?_)); (refine tStep [5] (tC ?_ tAll_nil); ((first | refine oQ (hq := Quiet.call rfl (before_fn f ho hs) rfl rfl rfl) (hk := ?_) | refine oQ (hk := ?_)); (refine tStep [6] (tC ?_ tAll_nil); ((first | refine oQ (hq := Quiet.call rfl (before_fn f ho hs) rfl rfl rfl) (hk := ?_) | refine oQ (hk := ?_)); (refine tStep [7] (tC ?_ tAll_nil); ((first | refine oQ (hq := Quiet.call rfl (before_fn f ho hs) rfl rfl rfl) (hk := ?_) | refine oQ (hk := ?_)); (exact tDone (hM3 _ (le_T)))))))))))); ((first | refine oQ (hq := Quiet.call rfl (before_fn f ho hs) rfl rfl rfl) (hk := ?_) | refine oQ (hk := ?_)); (refine tStep [3, 5] (tC ?_ (tC ?_ tAll_nil)); ((refine AOp.mk0 (T := tInt) (m := 1) (e := 3) rfl rfl (by decide) rfl rfl hmk hmx ?_; refine tNt (hk := ?_)); (refine tStep [5] (tC ?_ tAll_nil); ((first | refine oQ (hq := Quiet.call rfl (before_fn f ho hs) rfl rfl rfl) (hk := ?_) | refine oQ (hk := ?_)); (refine tStep [6] (tC ?_ tAll_nil); ((first | refine oQ (hq := Quiet.call rfl (before_fn f ho hs) rfl rfl rfl) (hk := ?_) | refine oQ (hk := ?_)); (refine tStep [7] (tC ?_ tAll_nil); ((first | refine oQ (hq := Quiet.call rfl (before_fn f ho hs) rfl rfl rfl) (hk := ?_) | refine oQ (hk := ?_)); (exact tDone (hM3 _ (le_T)))))))))); ((first | refine oQ (hq := Quiet.call rfl (before_fn f ho hs) rfl rfl rfl) (hk := ?_) | refine oQ (hk := ?_)); (refine tStep [3] (tC ?_ tAll_nil); ((refine AOp.mk0 (T := tInt) (m := 1) (e := 3) rfl rfl (by decide) rfl rfl hmk hmx ?_; refine tNt (hk := ?_)); (refine tStep [6] (tC ?_ tAll_nil); ((first | refine oQ (hq := Quiet.call rfl (before_fn f ho hs) rfl rfl rfl) (hk := ?_) | refine oQ (hk := ?_)); (refine tStep [7] (tC ?_ tAll_nil); ((first | refine oQ (hq := Quiet.call rfl (before_fn f ho hs) rfl rfl rfl) (hk := ?_) | refine oQ (hk := ?_)); (exact tDone (hM3 _ (le_T)))))))))))))); ((first | refine oQ (hq := Quiet.call rfl (before_fn f ho hs) rfl rfl rfl) (hk := ?_) | refine oQ (hk := ?_)); (refine tStep [2, 5] (tC ?_ (tC ?_ tAll_nil)); ((first | refine oQ (hq := Quiet.call rfl (before_fn f ho hs) rfl rfl rfl) (hk := ?_) | refine oQ (hk := ?_)); (refine tStep [3, 5] (tC ?_ (tC ?_ tAll_nil)); ((refine AOp.mk0 (T := tInt) (m := 1) (e := 3) rfl rfl (by decide) rfl rfl hmk hmx ?_; refine tNt (hk := ?_)); (refine tStep [5] (tC ?_ tAll_nil); ((first | refine oQ (hq := Quiet.call rfl (before_fn f ho hs) rfl rfl rfl) (hk := ?_) | refine oQ (hk := ?_)); (refine tStep [6] (tC ?_ tAll_nil); ((first | refine oQ (hq := Quiet.call rfl (before_fn f ho hs) rfl rfl rfl) (hk := ?_) | refine oQ (hk := ?_)); (refine tStep [7] (tC ?_ tAll_nil); ((first | refine oQ (hq := Quiet.call rfl (before_fn f ho hs) rfl rfl rfl) (hk := ?_) | refine oQ (hk := ?_)); (exact tDone (hM3 _ (le_T)))))))))); ((first | refine oQ (hq := Quiet.call rfl (before_fn f ho hs) rfl rfl rfl) (hk := ?_) | refine oQ (hk := ?_)); (refine tStep [3] (tC ?_ tAll_nil); ((refine AOp.mk0 (T := tInt) (m := 1) (e := 3) rfl rfl (by decide) rfl rfl hmk hmx ?_; refine tNt (hk := ?_)); (refine tStep [6] (tC ?_ tAll_nil); ((first | refine oQ (hq := Quiet.call rfl (before_fn f ho hs) rfl rfl rfl) (hk := ?_) | refine oQ (hk := ?_)); (refine tStep [7] (tC ?_ tAll_nil); ((first | refine oQ (hq := Quiet.call rfl (before_fn f ho hs) rfl rfl rfl) (hk := ?_) | refine oQ (hk := ?_)); (exact tDone (hM3 _ (le_T)))))))))))); ((first | refine oQ (hq := Quiet.call rfl (before_fn f ho hs) rfl rfl rfl) (hk := ?_) | refine oQ (hk := ?_)); (refine tStep [2] (tC ?_ tAll_nil); ((first | refine oQ (hq := Quiet.call rfl (before_fn f ho hs) rfl rfl rfl) (hk := ?_) | refine oQ (hk := ?_)); (refine tStep [3] (tC ?_ tAll_nil); ((refine AOp.mk0 (T := tInt) (m := 1) (e := 3) rfl rfl (by decide) rfl rfl hmk hmx ?_; refine tNt (hk := ?_)); (refine tStep [6] (tC ?_ tAll_nil); ((first | refine oQ (hq := Quiet.call rfl (before_fn f ho hs) rfl rfl rfl) (hk := ?_) | refine oQ (hk := ?_)); (refine tStep [7] (tC ?_ tAll_nil); ((first | refine oQ (hq := Quiet.call rfl (before_fn f ho hs) rfl rfl rfl) (hk := ?_) | refine oQ (hk := ?_)); (exact tDone (hM3 _ (le_T)))))))))))))))); ((first | refine oQ (hq := Quiet.call rfl (before_fn f ho hs) rfl rfl rfl) (hk := ?_) | refine oQ (hk := ?_)); (refine tStep [1, 5] (tC ?_ (tC ?_ tAll_nil)); ((first | refine oQ (hq := Quiet.call rfl (before_fn f ho hs) rfl rfl rfl) (hk := ?_) | refine oQ (hk := ?_)); (refine tStep [2, 5] (tC ?_ (tC ?_ tAll_nil)); ((first | refine oQ (hq := Quiet.call rfl (before_fn f ho hs) rfl rfl rfl) (hk := ?_) | refine oQ (hk := ?_)); (refine tStep [3, 5] (tC ?_ (tC ?_ tAll_nil)); ((refine AOp.mk0 (T := tInt) (m := 1) (e := 3) rfl rfl (by decide) rfl rfl hmk hmx ?_; refine tNt (hk := ?_)); (refine tStep [5] (tC ?_ tAll_nil); ((first | refine oQ (hq := Quiet.call rfl (before_fn f ho hs) rfl rfl rfl) (hk := ?_) | refine oQ (hk := ?_)); (refine tStep [6] (tC ?_ tAll_nil); ((first | refine oQ (hq := Quiet.call rfl (before_fn f ho hs) rfl rfl rfl) (hk := ?_) | refine oQ (hk := ?_)); (refine tStep [7] (tC ?_ tAll_nil); ((first | refine oQ (hq := Quiet.call rfl (before_fn f ho hs) rfl rfl rfl) (hk := ?_) | refine oQ (hk := ?_)); (exact tDone (hM3 _ (le_T)))))))))); ((first | refine oQ (hq := Quiet.call rfl (before_fn f ho hs) rfl rfl rfl) (hk := ?_) | refine oQ (hk := ?_)); (refine tStep [3] (tC ?_ tAll_nil); ((refine AOp.mk0 (T := tInt) (m := 1) (e := 3) rfl rfl (by decide) rfl rfl hmk hmx ?_; refine tNt (hk := ?_)); (refine tStep [6] (tC ?_ tAll_nil); ((first | refine oQ (hq := Quiet.call rfl (before_fn f ho hs) rfl rfl rfl) (hk := ?_) | refine oQ (hk := ?_)); (refine tStep [7] (tC ?_ tAll_nil); ((first | refine oQ (hq := Quiet.call rfl (before_fn f ho hs) rfl rfl rfl) (hk := ?_) | refine oQ (hk := ?_)); (exact tDone (hM3 _ (le_T)))))))))))); ((first | refine oQ (hq := Quiet.call rfl (before_fn f ho hs) rfl rfl rfl) (hk := ?_) | refine oQ (hk := ?_)); (refine tStep [2] (tC ?_ tAll_nil); ((first | refine oQ (hq := Quiet.call rfl (before_fn f ho hs) rfl rfl rfl) (hk := ?_) | refine oQ (hk := ?_)); (refine tStep [3] (tC ?_ tAll_nil); ((refine AOp.mk0 (T := tInt) (m := 1) (e := 3) rfl rfl (by decide) rfl rfl hmk hmx ?_; refine tNt (hk := ?_)); (refine tStep [6] (tC ?_ tAll_nil); ((first | refine oQ (hq := Quiet.call rfl (before_fn f ho hs) rfl rfl rfl) (hk := ?_) | refine oQ (hk := ?_)); (refine tStep [7] (tC ?_ tAll_nil); ((first | refine oQ (hq := Quiet.call rfl (before_fn f ho hs) rfl rfl rfl) (hk := ?_) | refine oQ (hk := ?_)); (exact tDone (hM3 _ (le_T)))))))))))))); ((first | refine oQ (hq := Quiet.call rfl (before_fn f ho hs) rfl rfl rfl) (hk := ?_) | refine oQ (hk := ?_)); (refine tStep [1] (tC ?_ tAll_nil); ((first | refine oQ (hq := Quiet.call rfl (before_fn f ho hs) rfl rfl rfl) (hk := ?_) | refine oQ (hk := ?_)); (refine tStep [2] (tC ?_ tAll_nil); ((first | refine oQ (hq := Quiet.call rfl (before_fn f ho hs) rfl rfl rfl) (hk := ?_) | refine oQ (hk := ?_)); (refine tStep [3] (tC ?_ tAll_nil); ((refine AOp.mk0 (T := tInt) (m := 1) (e := 3) rfl rfl (by decide) rfl rfl hmk hmx ?_; refine tNt (hk := ?_)); (refine tStep [6] (tC ?_ tAll_nil); ((first | refine oQ (hq := Quiet.call rfl (before_fn f ho hs) rfl rfl rfl) (hk := ?_) | refine oQ (hk := ?_)); (refine tStep [7] (tC ?_ tAll_nil); ((first | refine oQ (hq := Quiet.call rfl (before_fn f ho hs) rfl rfl rfl) (hk := ?_) | refine oQ (hk := ?_)); (exact tDone (hM3 _ (le_T)))))))))))))))))); ((first | refine oQ (hq := Quiet.call rfl (before_fn f ho hs) rfl rfl rfl) (hk := ?_) | refine oQ (hk := ?_)); (refine tStep [0, 5] (tC ?_ (tC ?_ tAll_nil)); ((first | refine oQ (hq := Quiet.call rfl (before_fn f ho hs) rfl rfl rfl) (hk := ?_) | refine oQ (hk := ?_)); (refine tStep [1, 5] (tC ?_ (tC ?_ tAll_nil)); ((first | refine oQ (hq := Quiet.call rfl (before_fn f ho hs) rfl rfl rfl) (hk := ?_) | refine oQ (hk := ?_)); (refine tStep [2, 5] (tC ?_ (tC ?_ tAll_nil)); ((first | refine oQ (hq := Quiet.call rfl (before_fn f ho hs) rfl rfl rfl) (hk := ?_) | refine oQ (hk := ?_)); (refine tStep [3, 5] (tC ?_ (tC ?_ tAll_nil)); ((refine AOp.mk0 (T := tInt) (m := 1) (e := 3) rfl rfl (by decide) rfl rfl hmk hmx ?_; refine tNt (hk := ?_)); (refine tStep [5] (tC ?_ tAll_nil); ((first | refine oQ (hq := Quiet.call rfl (before_fn f ho hs) rfl rfl rfl) (hk := ?_) | refine oQ (hk := ?_)); (refine tStep [6] (tC ?_ tAll_nil); ((first | refine oQ (hq := Quiet.call rfl (before_fn f ho hs) rfl rfl rfl) (hk := ?_) | refine oQ (hk := ?_)); (refine tStep [7] (tC ?_ tAll_nil); ((first | refine oQ (hq := Quiet.call rfl (before_fn f ho hs) rfl rfl rfl) (hk := ?_) | refine oQ (hk := ?_)); (exact tDone (hM3 _ (le_T)))))))))); ((first | refine oQ (hq := Quiet.call rfl (before_fn f ho hs) rfl rfl rfl) (hk := ?_) | refine oQ (hk := ?_)); (refine tStep [3] (tC ?_ tAll_nil); ((refine AOp.mk0 (T := tInt) (m := 1) (e := 3) rfl rfl (by decide) rfl rfl hmk hmx ?_; refine tNt (hk := ?_)); (refine tStep [6] (tC ?_ tAll_nil); ((first | refine oQ (hq := Quiet.call rfl (before_fn f ho hs) rfl rfl rfl) (hk := ?_) | refine oQ (hk := ?_)); (refine tStep [7] (tC ?_ tAll_nil); ((first | refine oQ (hq := Quiet.call rfl (before_fn f ho hs) rfl rfl rfl) (hk := ?_) | refine oQ (hk := ?_)); (exact tDone (hM3 _ (le_T)))))))))))); ((first | refine oQ (hq := Quiet.call rfl (before_fn f ho hs) rfl rfl rfl) (hk := ?_) | refine oQ (hk := ?_)); (refine tStep [2] (tC ?_ tAll_nil); ((first | refine oQ (hq := Quiet.call rfl (before_fn f ho hs) rfl rfl rfl) (hk := ?_) | refine oQ (hk := ?_)); (refine tStep [3] (tC ?_ tAll_nil); ((refine AOp.mk0 (T := tInt) (m := 1) (e := 3) rfl rfl (by decide) rfl rfl hmk hmx ?_; refine tNt (hk := ?_)); (refine tStep [6] (tC ?_ tAll_nil); ((first | refine oQ (hq := Quiet.call rfl (before_fn f ho hs) rfl rfl rfl) (hk := ?_) | refine oQ (hk := ?_)); (refine tStep [7] (tC ?_ tAll_nil); ((first | refine oQ (hq := Quiet.call rfl (before_fn f ho hs) rfl rfl rfl) (hk := ?_) | refine oQ (hk := ?_)); (exact tDone (hM3 _ (le_T)))))))))))))); ((first | refine oQ (hq := Quiet.call rfl (before_fn f ho hs) rfl rfl rfl) (hk := ?_) | refine oQ (hk := ?_)); (refine tStep [1] (tC ?_ tAll_nil); ((first | refine oQ (hq := Quiet.call rfl (before_fn f ho hs) rfl rfl rfl) (hk := ?_) | refine oQ (hk := ?_)); (refine tStep [2] (tC ?_ tAll_nil); ((first | refine oQ (hq := Quiet.call rfl (before_fn f ho hs) rfl rfl rfl) (hk := ?_) | refine oQ (hk := ?_)); (refine tStep [3] (tC ?_ tAll_nil); ((refine AOp.mk0 (T := tInt) (m := 1) (e := 3) rfl rfl (by decide) rfl rfl hmk hmx ?_; refine tNt (hk := ?_)); (refine tStep [6] (tC ?_ tAll_nil); ((first | refine oQ (hq := Quiet.call rfl (before_fn f ho hs) rfl rfl rfl) (hk := ?_) | refine oQ (hk := ?_)); (refine tStep [7] (tC ?_ tAll_nil); ((first | refine oQ (hq := Quiet.call rfl (before_fn f ho hs) rfl rfl rfl) (hk := ?_) | refine oQ (hk := ?_)); (exact tDone (hM3 _ (le_T)))))))))))))))); ((first | refine oQ (hq := Quiet.call rfl (before_fn f ho hs) rfl rfl rfl) (hk := ?_) | refine oQ (hk := ?_)); (refine tStep [0] (tC ?_ tAll_nil); ((first | refine oQ (hq := Quiet.call rfl (before_fn f ho hs) rfl rfl rfl) (hk := ?_) | refine oQ (hk := ?_)); (refine tStep [1] (tC ?_ tAll_nil); ((first | refine oQ (hq := Quiet.call rfl (before_fn f ho hs) rfl rfl rfl) (hk := ?_) | refine oQ (hk := ?_)); (refine tStep [2] (tC ?_ tAll_nil); ((first | refine oQ (hq := Quiet.call rfl (before_fn f ho hs) rfl rfl rfl) (hk := ?_) | refine oQ (hk := ?_)); (refine tStep [3] (tC ?_ tAll_nil); ((refine AOp.mk0 (T := tInt) (m := 1) (e := 3) rfl rfl (by decide) rfl rfl hmk hmx ?_; refine tNt (hk := ?_)); (refine tStep [6] (tC ?_ tAll_nil); ((first | refine oQ (hq := Quiet.call rfl (before_fn f ho hs) rfl rfl rfl) (hk := ?_) | refine oQ (hk := ?_)); (refine tStep [7] (tC ?_ tAll_nil); ((first | refine oQ (hq := Quiet.call rfl (before_fn f ho hs) rfl rfl rfl) (hk := ?_) | refine oQ (hk := ?_)); (exact tDone (hM3 _ (le_T))))))))))))))))))))
  intro s' hle
  · refine h3 _ (Awp.via _ hle ?_)
    refine Awp.via _ (St.le_res0 (R := mapsR [] []) (fun _ _ => ⟨rfl, List.nodup_nil, fun i m S hm => by simp at hm⟩) (fun g hg => by cases hg) rfl) ?_
    refine Awp.seq fun K4 h4 => ?_
    refine Awp.seq fun K5 h5 => ?_
    (refine Awp.region ?_; (repeat (first | refine sQ (hk := ?_) | refine sSkip (hk := ?_) | refine sOwn (hk := ?_))); refine aSeq_nil ?_)
    refine h5 _ ?_
    refine nT (hk := ?_)
    refine Awp.block ?_
    refine Awp.loopF (fun p : Nat × Nat × List Nat => ⟨[.any, .lit (.pointer (some ⟨g1, 0, none⟩)), .any, .lit (.slice (some ⟨O, 0, none⟩) f.blocks.length f.blocks.length), .own 3 p.2.1, .bs tInt.slice (befN f f.blocks.length), .any, .any, .any, .any, .any, .any, .any, .any, .any, .any, .any, .any, .any, .any, .any, .any, .any, .any, .any, .any, .lit (.int .i64 (f.blocks.length : Int)), .lit (.int .i64 (p.1 : Int)), .any, .any, .any, .any, .any, .any, .any, .any, .any, .any, .any, .any, .any, .any, .any, .any, .any, .any, .any, .any, .any, .any, .any, .any, .any, .any, .any, .any, .any, .any, .any, .any, .any, .any, .any, .any, .any, .any, .any, .any, .any, .any, .any, .any, .any, .any, .any, .any, .any, .any, .any, .any, .any, .any, .any, .any, .any, .any, .any, .any, .any, .any, .any, .any, .any, .any, .any, .any, .any, .any, .any, .any, .any, .any, .any], [.res (marksR []), .res (boxR g1 (encFunc f)), .res (boxR O (cellsM p.2.2 f.blocks.length)), .row p.2.1 3 tInt (i64s (List.range p.1)), .res (mapsR p.2.2 (List.replicate p.1 fun _ => false))]⟩) (fun p => p.1 ≤ f.blocks.length ∧ p.2.2.length = p.1) (fun p => f.blocks.length - p.1) (0, 0, []) ⟨Nat.zero_le _, rfl⟩ (le_T) ?_
    rintro ⟨b, ver, ms⟩ ⟨hbn, hms⟩
    dsimp only at hbn hms ⊢
    refine Awp.seq fun K7 h7 => ?_
    (refine Awp.region ?_; (repeat (first | refine sQ (hk := ?_) | refine sSkip (hk := ?_) | refine sOwn (hk := ?_))); refine aSeq_nil ?_)
    refine h7 _ ?_
    refine nT (hk := ?_)
    refine Awp.seq fun K8 h8 => ?_
    refine Awp.cond rfl (fun hb9 => ?_) (fun hb9 => ?_)
    · have hlt : b < f.blocks.length := by simpa using hb9
      have hclen : b + [cellM 0].length ≤ (cellsM ms f.blocks.length).length := by rw [cellsM_len (by omega)]; exact hlt
      have hw := nat_wf (k := b) (by omega)
      have hn1 : (i64s (List.range b)).length + [(b : Int)].length ≤ maxLen := by rw [i64s_len]; simp [maxLen]; omega
      have hn2 : ((i64s (List.range b)).length + [(b : Int)].length) * 8 ≤ 140737488355328 := by rw [i64s_len]; simp; omega
      refine Awp.skip ?_
      refine h8 _ ?_
      refine nT (hk := ?_)
      refine Awp.seq fun K10 h10 => ?_
      refine Awp.block ?_
      refine Awp.seq fun K11 h11 => ?_
      (refine Awp.region ?_; (repeat (first | refine sQ (hk := ?_) | refine sSkip (hk := ?_) | refine sOwn (hk := ?_))); refine aSeq_nil ?_)
      refine h11 _ ?_
      refine nT (hk := ?_)
      refine Awp.seq fun K12 h12 => ?_
      (refine Awp.region ?_; (repeat (first | refine sQ (hk := ?_) | refine sSkip (hk := ?_) | refine sOwn (hk := ?_))))
      refine aSeq_t rfl (AOp.mkMap rfl fun m => ?_)
      refine sNt (hk := ?_)
      (repeat (first | refine sQ (hk := ?_) | refine sSkip (hk := ?_) | refine sOwn (hk := ?_)))
      refine aSeq_t rfl (AOp.stL (i := 2) (new := [cellM m]) rfl rfl rfl (Parts.one (One.lit rfl)) rfl rfl hclen ?_)
      refine sNt (hk := ?_)
      refine aSeq_nil ?_
      rw [cellsM_put hms hlt]
      refine h12 _ ?_
      refine nT (hk := ?_)
      refine Awp.via _ (St.le_maps (i := 4) (j := 5) (by decide) rfl rfl) ?_
      (refine Awp.region ?_; (repeat (first | refine sQ (hk := ?_) | refine sSkip (hk := ?_) | refine sOwn (hk := ?_))); refine aSeq_nil ?_)
      refine h10 _ ?_
      refine nT (hk := ?_)
      (refine Awp.region ?_; (repeat (first | refine sQ (hk := ?_) | refine sSkip (hk := ?_) | refine sOwn (hk := ?_))); refine aSeq_nil ?_)
      refine athen_n ⟨(b + 1, ver + 1, ms ++ [m]), ⟨by omega, by simp [hms]⟩, by dsimp only; omega, ?_⟩
      dsimp only
      rw [List.range_succ, i64s_snoc, List.replicate_succ']
      exact le_C (Cut.cons (Cut.cons (Cut.cons (Cut.cons (Cut.cons (Cut.nil _))))))
    · refine Awp.exit ?_
      have hbe : b = f.blocks.length := by have : ¬ b < f.blocks.length := by simpa using hb9
                                           omega
      subst hbe
      refine h4 _ ?_
      refine nT (hk := ?_)
      rw [cellsM_full hms]
      refine Awp.seq fun K13 h13 => ?_
      refine Awp.block ?_
      have hI0 : AllI f (regsL f) (List.range f.blocks.length) (List.replicate f.blocks.length fun _ => false) := AllI.start fun b => List.mem_range
      have hlk := lack_le (regsL f) (List.replicate f.blocks.length fun _ => false)
      rw [List.length_replicate] at hlk
      have hlk2 := lackBd hbl hLl hlk
      refine Awp.loopF (fun p : List Nat × Nat × List Nat × List (Int → Bool) => ⟨[.any, .lit (.pointer (some ⟨g1, 0, none⟩)), .any, .lit (.slice (some ⟨O, 0, none⟩) f.blocks.length f.blocks.length), .own 3 p.2.1, .bs tInt.slice (befN f f.blocks.length), .any, .any, .any, .any, .any, .any, .any, .any, .any, .any, .any, .any, .any, .any, .any, .any, .any, .any, .any, .any, .any, .any, .any, .any, .any, .any, .any, .any, .any, .any, .any, .any, .any, .any, .any, .any, .any, .any, .any, .any, .any, .any, .any, .any, .any, .any, .any, .any, .any, .any, .any, .any, .any, .any, .any, .any, .any, .any, .any, .any, .any, .any, .any, .any, .any, .any, .any, .any, .any, .any, .any, .any, .any, .any, .any, .any, .any, .any, .any, .any, .any, .any, .any, .any, .any, .any, .any, .any, .any, .any, .any, .any, .any, .any, .any, .any, .any], [.res (marksR p.1), .res (boxR g1 (encFunc f)), .res (boxR O (ms.map cellM)), .row p.2.1 3 tInt (i64s p.2.2.1), .res (mapsR ms p.2.2.2)]⟩) (fun p => AllI f (regsL f) p.2.2.1 p.2.2.2 ∧ 2 * lackS (regsL f) p.2.2.2 + p.2.2.1.length ≤ 10000000000000) (fun p => 2 * lackS (regsL f) p.2.2.2 + p.2.2.1.length) ([], ver, List.range f.blocks.length, List.replicate f.blocks.length fun _ => false) ⟨hI0, by dsimp only; rw [List.length_range]; omega⟩ (le_T) ?_
      rintro ⟨ds, ver, wait, Ss⟩ ⟨hI, hmu⟩
      dsimp only at hI hmu ⊢
      refine Awp.seq fun K15 h15 => ?_
      refine Awp.seq fun K16 h16 => ?_
      (refine Awp.region ?_; (repeat (first | refine sQ (hk := ?_) | refine sSkip (hk := ?_) | refine sOwn (hk := ?_))); refine aSeq_nil ?_)
      refine h16 _ ?_
      refine nT (hk := ?_)
      refine Awp.cond rfl (fun hb17 => ?_) (fun hb17 => ?_)
      · have hne : wait ≠ [] := fun e => by subst e; simp [i64s] at hb17
        obtain ⟨w0, b, rfl⟩ : ∃ w0 b, wait = w0 ++ [b] := ⟨_, _, (List.dropLast_concat_getLast hne).symm⟩
        have hl : (i64s (w0 ++ [b])).length = w0.length + 1 := by rw [i64s_len]; simp
        have hwl : w0.length ≤ 10000000000000 := by simp at hmu; omega
        have hx0 : (i64s (w0 ++ [b]))[(((i64s (w0 ++ [b])).length : Int) - 1).toNat]? = some (b : Int) := by
          rw [hl, i64s_snoc, show (((w0.length + 1 : Nat) : Int) - 1).toNat = (i64s w0).length by rw [i64s_len]; omega]
          simp
        have hcut : AV.lit (.int .i64 (((i64s (w0 ++ [b])).length : Int) - 1)) = .lit (.int .i64 (w0.length : Int)) := by
          rw [hl, show (((w0.length + 1 : Nat) : Int) - 1) = (w0.length : Int) by omega]
        have hcl : w0.length ≤ (i64s (w0 ++ [b])).length := by omega
        have htk : (i64s (w0 ++ [b])).take w0.length = i64s w0 := by rw [i64s_snoc, ← i64s_len w0]; simp
        have hbn : b < f.blocks.length := hI.lt b (by simp)
        obtain ⟨m, hm⟩ : ∃ m, ms[b]? = some m := ⟨_, List.getElem?_eq_getElem (by omega)⟩
        obtain ⟨S, hS⟩ : ∃ S, Ss[b]? = some S := ⟨_, List.getElem?_eq_getElem (by rw [hI.len]; exact hbn)⟩
        obtain ⟨bl, hblk⟩ : ∃ bl, f.blocks[b]? = some bl := ⟨_, List.getElem?_eq_getElem hbn⟩
        have hat : at_ Ss b = S := by unfold at_; rw [List.getD_eq_getElem?_getD, hS]; rfl
        have hins : insOf f b = bl.ins := by unfold insOf; rw [hblk]
        have hmem := List.mem_of_getElem? hblk
        have hsb := hs.all bl hmem
        have hob := ho.blocks bl hmem
        have hSs : Sub (regsL f) S := by have := hI.sub b; rwa [hat] at this
        have hmc : (ms.map cellM)[b]? = some (cellM m) := by rw [List.getElem?_map, hm]; rfl
        refine Awp.skip ?_
        refine h15 _ ?_
        refine nT (hk := ?_)
        refine Awp.block ?_
        refine Awp.seq fun K18 h18 => ?_
        (refine Awp.region ?_; (repeat (first | refine sQ (hk := ?_) | refine sSkip (hk := ?_) | refine sOwn (hk := ?_))); refine aSeq_nil ?_)
        refine h18 _ ?_
        refine nT (hk := ?_)
        refine Awp.seq fun K19 h19 => ?_
        (refine Awp.region ?_; (repeat (first | refine sQ (hk := ?_) | refine sSkip (hk := ?_) | refine sOwn (hk := ?_))))
        refine aSeq_t rfl (AOp.cutRow (i := 3) (m := w0.length) rfl rfl rfl rfl ⟨.i64, hcut⟩ hcl ?_)
        refine sNt (hk := ?_)
        (repeat (first | refine sQ (hk := ?_) | refine sSkip (hk := ?_) | refine sOwn (hk := ?_)))
        refine aSeq_nil ?_
        rw [htk]
        refine h19 _ ?_
        refine nT (hk := ?_)
        refine Awp.seq fun K20 h20 => ?_
        (refine Awp.region ?_; (repeat (first | refine sQ (hk := ?_) | refine sSkip (hk := ?_) | refine sOwn (hk := ?_))))
        refine aSeq_t rfl (AOp.callRNew (i := 4) rfl rfl (clone_maps hm hS) (fun _ => rfl) rfl rfl fun mn => ?_)
        refine sNt (hk := ?_)
        (repeat (first | (refine aSeq_t rfl (AOp.stBox (new := [_]) rfl rfl rfl (Parts.one (One.lit rfl)) rfl (Nat.le_of_ble_eq_true rfl) ?_); refine sNt (hk := ?_)) | refine sQ (hk := ?_) | refine sSkip (hk := ?_) | refine sOwn (hk := ?_)))
        refine aSeq_nil ?_
        refine h20 _ ?_
        refine nT (hk := ?_)
        refine Awp.open_box 6 rfl rfl rfl (fun g => [.any, .lit (.pointer (some ⟨g1, 0, none⟩)), .any, .lit (.slice (some ⟨O, 0, none⟩) f.blocks.length f.blocks.length), .own 3 (ver + 1), .bs tInt.slice (befN f f.blocks.length), .any, .lit (.int .i64 (b : Int)), .lit (.pointer (some ⟨g, 0, none⟩)), .any, .any, .any, .any, .any, .any, .any, .any, .any, .any, .any, .any, .any, .any, .any, .any, .any, .any, .any, .any, .any, .any, .any, .any, .any, .any, .any, .any, .any, .any, .any, .any, .any, .any, .any, .any, .any, .any, .any, .any, .any, .any, .any, .any, .any, .any, .any, .any, .any, .any, .any, .any, .any, .any, .any, .any, .any, .any, .any, .any, .any, .any, .any, .any, .any, .any, .any, .any, .any, .any, .any, .any, .any, .any, .any, .any, .any, .any, .any, .any, .any, .any, .any, .any, .any, .any, .any, .any, .any, .any, .any, .any, .any, .any]) (fun g => (by (repeat (first | exact OpnB.nil | refine OpnB.ptr ?_ | refine OpnB.any ?_ | refine OpnB.keep rfl ?_)))) fun gn => ?_
        refine Awp.open_row 3 rfl rfl (fun v => [.any, .lit (.pointer (some ⟨g1, 0, none⟩)), .any, .lit (.slice (some ⟨O, 0, none⟩) f.blocks.length f.blocks.length), .lit v, .bs tInt.slice (befN f f.blocks.length), .any, .lit (.int .i64 (b : Int)), .lit (.pointer (some ⟨gn, 0, none⟩)), .any, .any, .any, .any, .any, .any, .any, .any, .any, .any, .any, .any, .any, .any, .any, .any, .any, .any, .any, .any, .any, .any, .any, .any, .any, .any, .any, .any, .any, .any, .any, .any, .any, .any, .any, .any, .any, .any, .any, .any, .any, .any, .any, .any, .any, .any, .any, .any, .any, .any, .any, .any, .any, .any, .any, .any, .any, .any, .any, .any, .any, .any, .any, .any, .any, .any, .any, .any, .any, .any, .any, .any, .any, .any, .any, .any, .any, .any, .any, .any, .any, .any, .any, .any, .any, .any, .any, .any, .any, .any, .any, .any, .any, .any]) (fun v => (by (repeat (first | exact Opn.nil | refine Opn.own ?_ | refine Opn.any ?_ | refine Opn.keep rfl ?_)))) fun vw => ?_
        refine Awp.seq fun K21 h21 => ?_
        refine Awp.seq fun K22 h22 => ?_
        (refine Awp.region ?_; (repeat (first | refine sQ (hk := ?_) | refine sSkip (hk := ?_) | refine sOwn (hk := ?_))))
        refine aSeq_t rfl (AOp.callNew rfl (backward_new bl.ins) (fun _ => rfl) rfl rfl fun p => ?_)
        refine sNt (hk := ?_)
        (repeat (first | refine sQ (hk := ?_) | refine sSkip (hk := ?_) | refine sOwn (hk := ?_)))
        refine aSeq_nil ?_
        refine h22 _ ?_
        refine nT (hk := ?_)
        refine Awp.via ⟨[.any, .lit (.pointer (some ⟨g1, 0, none⟩)), .any, .lit (.slice (some ⟨O, 0, none⟩) f.blocks.length f.blocks.length), .lit vw, .bs tInt.slice (befN f f.blocks.length), .any, .lit (.int .i64 (b : Int)), .lit (.pointer (some ⟨gn, 0, none⟩)), .any, .any, .any, .any, .any, .any, .any, .any, .any, .any, .any, .any, .any, .any, .any, .any, .any, .any, .any, .any, .any, .any, .any, .any, .any, .any, .any, .any, .any, .any, .any, .any, .any, .any, .any, .any, .any, .any, .any, .any, .any, .any, .any, .any, .any, .any, .any, .any, .any, .any, .any, .any, .any, .any, .any, .lit (bkF p), .any, .any, .any, .any, .any, .any, .any, .any, .any, .any, .any, .any, .any, .any, .any, .any, .any, .any, .any, .any, .any, .any, .any, .any, .any, .any, .any, .any, .any, .any, .any, .any, .any, .any, .any, .any, .any, .any], [.res (marksR ds), .res (boxR g1 (encFunc f)), .res (boxR O (ms.map cellM)), .res (rowR vw 3 tInt (i64s w0)), .res (mapsR ms Ss), .res (mapR S mn), .res (boxR gn [cellM mn]), .res (bkR bl.ins p)]⟩ (le_T) ?_
        refine Awp.block ?_
        obtain ⟨sg, hsg⟩ : ∃ sg : (Int → Bool) → List ABlk, sg = fun T => [.dead, .res (boxR g1 (encFunc f)), .res (boxR O (ms.map cellM)), .res (rowR vw 3 tInt (i64s w0)), .res (mapsR ms Ss), .res (mapR T mn), .res (boxR gn [cellM mn]), .dead] := ⟨_, rfl⟩
        refine Awp.rangeK 7 0 (fun k => sg (bkS bl.ins S k)) hrd (by kernel_rfl) rfl rfl rfl rfl ?hdrop ?hd1 ?hd2 ?hd3 rfl (bkE_cl _) (bkE_len _) (fun w T h1 h2 h3 => backward_iter bl.ins hsb.ins p w T h1 h2 h3) ?hround ?hdone
        case hdrop =>
          rw [bkS_zero, hsg]
          exact ⟨Cut.dead (Cut.cons (Cut.cons (Cut.cons (Cut.cons (Cut.cons (Cut.cons (Cut.dead (Cut.nil _)))))))), fun b hb => List.all_eq_true.1 (show bdH [.dead, .res (boxR g1 (encFunc f)), .res (boxR O (ms.map cellM)), .res (rowR vw 3 tInt (i64s w0)), .res (mapsR ms Ss), .res (mapR S mn), .res (boxR gn [cellM mn]), .dead] = true from rfl) b hb⟩
        case hd1 => rw [hsg]; rfl
        case hd2 => intro k; rw [hsg]; rfl
        case hd3 => intro k; rw [hsg]; rfl
        case hround =>
          intro k hk C' hr'
          obtain ⟨d, hd⟩ : ∃ d, bl.ins[bl.ins.length - 1 - k]? = some d := ⟨_, List.getElem?_eq_getElem (by omega)⟩
          have hmd := List.mem_of_getElem? hd
          have hbk : bkE bl.ins k = [.lit (.int .i64 ((bl.ins.length - 1 - k : Nat) : Int)), .agg (encIns d)] := by unfold bkE; rw [hd]
          have hsub := bkS_sub hSs (hLr bl hmem) k
          have hal : d.args.length ≤ 2097152 := by have := hsb.all d hmd; omega
          rw [hbk, hsg]
          refine Awp.nt2 (t' := [.any, .lit (.pointer (some ⟨g1, 0, none⟩)), .any, .lit (.slice (some ⟨O, 0, none⟩) f.blocks.length f.blocks.length), .lit vw, .bs tInt.slice (befN f f.blocks.length), .any, .lit (.int .i64 (b : Int)), .lit (.pointer (some ⟨gn, 0, none⟩)), .any, .any, .any, .any, .any, .any, .any, .any, .any, .any, .any, .any, .any, .any, .any, .any, .any, .any, .any, .any, .any, .any, .any, .any, .any, .any, .any, .any, .any, .any, .any, .any, .any, .any, .any, .any, .any, .any, .any, .any, .any, .any, .any, .any, .any, .any, .any, .any, .any, .any, .any, .any, .any, .any, .any, .lit (bkF p), .lit (.int .i64 ((bl.ins.length - 1 - k : Nat) : Int)), .agg (encIns d), .any, .any, .any, .any, .any, .any, .any, .any, .any, .any, .any, .any, .any, .any, .any, .any, .any, .any, .any, .any, .any, .any, .any, .any, .any, .any, .any, .any, .any, .any, .any, .any, .any, .any, .any, .any]) rfl rfl ?_
          (refine Awp.region ?_; (repeat (first | refine sQ (hk := ?_) | refine sSkip (hk := ?_) | refine sOwn (hk := ?_))); refine aSeq_nil ?_)
          refine athen_n ?_
          intro C'' hr''
          refine nT (hk := ?_)
          refine Awp.block ?_
          (refine Awp.region ?_; (repeat (first | refine sQ (hk := ?_) | refine sSkip (hk := ?_) | refine sOwn (hk := ?_))))
          refine aSeq_t rfl (AOp.callTurn (i := 5) rfl rfl (back_turn d _ (regsL f) mn (hob.ins d hmd) hal hRR hsub.inR (hLr bl hmem d hmd)) (fun _ => rfl) rfl rfl fun _ => ?_)
          refine sNt (hk := ?_)
          refine aSeq_nil ?_
          refine ⟨rfl, ?_⟩
          rw [bkS_succ hd hk]
          exact ⟨Cut.cons (Cut.cons (Cut.cons (Cut.cons (Cut.cons (Cut.cons (Cut.cons (Cut.cons (Cut.nil _)))))))), fun b hb => List.all_eq_true.1 (show bdH [.dead, .res (boxR g1 (encFunc f)), .res (boxR O (ms.map cellM)), .res (rowR vw 3 tInt (i64s w0)), .res (mapsR ms Ss), .res (mapR (backS d (bkS bl.ins S k)) mn), .res (boxR gn [cellM mn]), .dead] = true from rfl) b hb⟩
        case hdone =>
          intro D
          have hbf : (befN f f.blocks.length)[b]? = some (befL f b) := by
            unfold befL
            rw [List.getD_eq_getElem?_getD, List.getElem?_eq_getElem (by rw [befN_length]; exact hbn)]
            rfl
          have hbe := befN_le f f.blocks.length _ (List.mem_of_getElem? hbf)
          have hNs : Sub (regsL f) (inS bl.ins S) := hSs.inS (hLr bl hmem)
          rw [bkS_all, hsg]
          refine h21 _ ?_
          refine Awp.nt2 (t' := [.any, .lit (.pointer (some ⟨g1, 0, none⟩)), .any, .lit (.slice (some ⟨O, 0, none⟩) f.blocks.length f.blocks.length), .lit vw, .bs tInt.slice (befN f f.blocks.length), .any, .lit (.int .i64 (b : Int)), .lit (.pointer (some ⟨gn, 0, none⟩)), .any, .any, .any, .any, .any, .any, .any, .any, .any, .any, .any, .any, .any, .any, .any, .any, .any, .any, .any, .any, .any, .any, .any, .any, .any, .any, .any, .any, .any, .any, .any, .any, .any, .any, .any, .any, .any, .any, .any, .any, .any, .any, .any, .any, .any, .any, .any, .any, .any, .any, .any, .any, .any, .any, .any, .lit (bkF p), .any, .any, .any, .any, .any, .any, .any, .any, .any, .any, .any, .any, .any, .any, .any, .any, .any, .any, .any, .any, .any, .any, .any, .any, .any, .any, .any, .any, .any, .any, .any, .any, .any, .any, .any, .any, .any, .any]) (h' := [.res (marksR (D :: ds)), .res (boxR g1 (encFunc f)), .res (boxR O (ms.map cellM)), .res (rowR vw 3 tInt (i64s w0)), .res (mapsR ms Ss), .res (mapR (inS bl.ins S) mn), .res (boxR gn [cellM mn]), .dead]) rfl rfl ?_
          refine Awp.via _ (St.le_close 3 (ver := ver + 1) (t' := [.any, .lit (.pointer (some ⟨g1, 0, none⟩)), .any, .lit (.slice (some ⟨O, 0, none⟩) f.blocks.length f.blocks.length), .own 3 (ver + 1), .bs tInt.slice (befN f f.blocks.length), .any, .lit (.int .i64 (b : Int)), .lit (.pointer (some ⟨gn, 0, none⟩)), .any, .any, .any, .any, .any, .any, .any, .any, .any, .any, .any, .any, .any, .any, .any, .any, .any, .any, .any, .any, .any, .any, .any, .any, .any, .any, .any, .any, .any, .any, .any, .any, .any, .any, .any, .any, .any, .any, .any, .any, .any, .any, .any, .any, .any, .any, .any, .any, .any, .any, .any, .any, .any, .any, .any, .any, .any, .any, .any, .any, .any, .any, .any, .any, .any, .any, .any, .any, .any, .any, .any, .any, .any, .any, .any, .any, .any, .any, .any, .any, .any, .any, .any, .any, .any, .any, .any, .any, .any, .any, .any, .any, .any, .any]) rfl rfl (by (try simp only []); (repeat (first | exact Cls.nil | refine Cls.own ?_ | refine Cls.any ?_ | refine Cls.keep rfl ?_)))) ?_
          refine Awp.seq fun K30 h30 => ?_
          (refine Awp.region ?_; (repeat (first | refine sQ (hk := ?_) | refine sSkip (hk := ?_) | refine sOwn (hk := ?_))); refine aSeq_nil ?_)
          refine h30 _ ?_
          refine nT (hk := ?_)
          refine Awp.block ?_
          refine Awp.loopF (fun p : Nat × Nat × List Nat × List (Int → Bool) => ⟨[.any, .lit (.pointer (some ⟨g1, 0, none⟩)), .any, .lit (.slice (some ⟨O, 0, none⟩) f.blocks.length f.blocks.length), .own 3 p.2.1, .bs tInt.slice (befN f f.blocks.length), .any, .any, .lit (.pointer (some ⟨gn, 0, none⟩)), .any, .any, .any, .any, .any, .any, .any, .any, .any, .any, .any, .any, .any, .any, .any, .any, .any, .any, .any, .any, .any, .any, .any, .any, .any, .any, .any, .any, .any, .any, .any, .any, .any, .any, .any, .any, .any, .any, .any, .any, .any, .any, .any, .any, .any, .any, .any, .any, .any, .any, .any, .any, .any, .any, .any, .any, .any, .any, .any, .any, .any, .any, .any, .any, .bs tInt (befL f b), .lit (.int .i64 ((befL f b).length : Int)), .lit (.int .i64 (p.1 : Int)), .any, .any, .any, .any, .any, .any, .any, .any, .any, .any, .any, .any, .any, .any, .any, .any, .any, .any, .any, .any, .any, .any, .any, .any, .any, .any, .any], [.res (marksR (D :: ds)), .res (boxR g1 (encFunc f)), .res (boxR O (ms.map cellM)), .row p.2.1 3 tInt (i64s p.2.2.1), .res (mapsR ms p.2.2.2), .res (mapR (inS bl.ins S) mn), .res (boxR gn [cellM mn]), .dead]⟩) (fun p => p.1 ≤ (befL f b).length ∧ AllJ f (regsL f) b w0 Ss ((befL f b).take p.1) p.2.2.1 p.2.2.2) (fun p => (befL f b).length - p.1) (0, ver + 1, w0, Ss) ⟨Nat.zero_le _, hI.split⟩ (le_T) ?_
          rintro ⟨i, v2, wt, Ts⟩ ⟨hil, hJ⟩
          dsimp only at hil hJ ⊢
          have hless := hJ.less
          have hwt : wt.length ≤ 10000000000000 := by simp at hmu; omega
          refine Awp.seq fun K31 h31 => ?_
          (refine Awp.region ?_; (repeat (first | refine sQ (hk := ?_) | refine sSkip (hk := ?_) | refine sOwn (hk := ?_))); refine aSeq_nil ?_)
          refine h31 _ ?_
          refine nT (hk := ?_)
          refine Awp.seq fun K32 h32 => ?_
          refine Awp.cond rfl (fun hb33 => ?_) (fun hb33 => ?_)
          · have hlt : i < (befL f b).length := by simpa using hb33
            obtain ⟨x, hxb⟩ : ∃ x, (befL f b)[i]? = some x := ⟨_, List.getElem?_eq_getElem hlt⟩
            obtain ⟨k, hek, rfl⟩ := (befL_mem hbn x).1 (List.mem_of_getElem? hxb)
            have hkn := (edge_src hek).1
            obtain ⟨mk, hmk2⟩ : ∃ mk, ms[k]? = some mk := ⟨_, List.getElem?_eq_getElem (by omega)⟩
            obtain ⟨T, hTk⟩ : ∃ T, Ts[k]? = some T := ⟨_, List.getElem?_eq_getElem (by rw [hJ.len]; exact hkn)⟩
            have hmck : (ms.map cellM)[k]? = some (cellM mk) := by rw [List.getElem?_map, hmk2]; rfl
            have hatT : at_ Ts k = T := by unfold at_; rw [List.getD_eq_getElem?_getD, hTk]; rfl
            have hTs : Sub (regsL f) T := by have := hJ.sub k; rwa [hatT] at this
            have hUs : Sub (regsL f) (uni T (inS bl.ins S)) := fun r hr => by
              unfold uni at hr
              rw [Bool.or_eq_true] at hr
              rcases hr with hr | hr
              · exact hTs r hr
              · exact hNs r hr
            have hTk2 : (Ts.set k (uni T (inS bl.ins S)))[k]? = some (uni T (inS bl.ins S)) := List.getElem?_set_self (by rw [hJ.len]; exact hkn)
            have hstep := hJ.step hI hek hTk (by rw [hins]; exact hLr bl hmem)
            dsimp only at hstep
            rw [hins, hat] at hstep
            have htk2 : (befL f b).take (i + 1) = (befL f b).take i ++ [(k : Int)] := by rw [List.take_add_one, hxb]; rfl
            rw [← htk2] at hstep
            have hw := nat_wf (k := k) (by omega)
            have hn1 : (i64s wt).length + [(k : Int)].length ≤ maxLen := by rw [i64s_len]; simp [maxLen]; omega
            have hn2 : ((i64s wt).length + [(k : Int)].length) * 8 ≤ 140737488355328 := by rw [i64s_len]; simp; omega
            refine Awp.skip ?_
            refine h32 _ ?_
            refine nT (hk := ?_)
            refine Awp.seq fun K34 h34 => ?_
            refine Awp.block ?_
            refine Awp.seq fun K35 h35 => ?_
            (refine Awp.region ?_; (repeat (first | refine sQ (hk := ?_) | refine sSkip (hk := ?_) | refine sOwn (hk := ?_))); refine aSeq_nil ?_)
            refine h35 _ ?_
            refine nT (hk := ?_)
            refine Awp.seq fun K36 h36 => ?_
            (refine Awp.region ?_; (repeat (first | refine sQ (hq := Quiet.lenM (i := 4) rfl undSet rfl rfl (mapsR_set hmk2 hTk) hRR hTs.inR) (hk := ?_) | refine sQ (hk := ?_) | refine sSkip (hk := ?_) | refine sOwn (hk := ?_))); refine aSeq_nil ?_)
            refine h36 _ ?_
            refine nT (hk := ?_)
            refine Awp.seq fun K37 h37 => ?_
            (refine drawD 5 (hh := ?_); (repeat (first | refine qQ (hk := ?_) | refine qSkip (hk := ?_))); refine aQ_nil ?_; (repeat (first | (refine aSeq_t rfl (AOp.callTurn2 (i := 4) (j := 5) (by decide) rfl rfl rfl (copy_turn2 hmk2 hTk hRR hTs.inR hNs.inR) (fun _ => rfl) rfl rfl fun _ => ?_); refine sNt (hk := ?_)) | refine sQ (hk := ?_) | refine sSkip (hk := ?_) | refine sOwn (hk := ?_))); refine aSeq_nil ?_)
            refine h37 _ ?_
            refine nT (hk := ?_)
            refine Awp.seq fun K38 h38 => ?_
            rcases hc : decide ((((regsL f).filter (uni T (inS bl.ins S))).length : Int) > (((regsL f).filter T).length : Int)) with _ | _
            · rw [if_neg (by simpa using hc)] at hstep
              (refine Awp.region ?_; (repeat (first | refine sQ (hq := Quiet.lenM (i := 4) rfl undSet rfl rfl (mapsR_set hmk2 hTk2) hRR hUs.inR) (hk := ?_) | refine sQ (hk := ?_) | refine sSkip (hk := ?_) | refine sOwn (hk := ?_))); refine aSeq_nil ?_)
              refine h38 _ ?_
              refine nT (hk := ?_)
              refine Awp.cond rfl (fun hb39 => by cases hb39) (fun hb39 => ?_)
              refine Awp.skip ?_
              refine h34 _ ?_
              refine nT (hk := ?_)
              (refine Awp.region ?_; (repeat (first | refine sQ (hk := ?_) | refine sSkip (hk := ?_) | refine sOwn (hk := ?_))); refine aSeq_nil ?_)
              refine athen_n ⟨(i + 1, v2, wt, Ts.set k (uni T (inS bl.ins S))), ⟨by omega, hstep⟩, by dsimp only; omega, ?_⟩
              exact le_T
            · rw [if_pos (by simpa using hc)] at hstep
              (refine Awp.region ?_; (repeat (first | refine sQ (hq := Quiet.lenM (i := 4) rfl undSet rfl rfl (mapsR_set hmk2 hTk2) hRR hUs.inR) (hk := ?_) | refine sQ (hk := ?_) | refine sSkip (hk := ?_) | refine sOwn (hk := ?_))); refine aSeq_nil ?_)
              refine h38 _ ?_
              refine nT (hk := ?_)
              refine Awp.cond rfl (fun hb39 => ?_) (fun hb39 => by cases hb39)
              (refine Awp.region ?_; (repeat (first | refine sQ (hk := ?_) | refine sSkip (hk := ?_) | refine sOwn (hk := ?_))); refine aSeq_nil ?_)
              refine h34 _ ?_
              refine nT (hk := ?_)
              (refine Awp.region ?_; (repeat (first | refine sQ (hk := ?_) | refine sSkip (hk := ?_) | refine sOwn (hk := ?_))); refine aSeq_nil ?_)
              refine athen_n ⟨(i + 1, v2 + 1, wt ++ [k], Ts.set k (uni T (inS bl.ins S))), ⟨by omega, hstep⟩, by dsimp only; omega, ?_⟩
              dsimp only
              rw [i64s_snoc]
              exact le_T
          · refine Awp.exit ?_
            have hie : i = (befL f b).length := by have : ¬ i < (befL f b).length := by simpa using hb33
                                                   omega
            subst hie
            rw [List.take_length] at hJ
            refine athen_x (athen_x ?_)
            refine ablock_hit ?_
            refine ablock_n ?_
            refine athen_n ⟨(D :: ds, v2, wt, Ts), ⟨hJ.done_all hI, by dsimp only; simp at hmu; omega⟩, by dsimp only; simp; omega, ?_⟩
            dsimp only
            exact le_C (Cut.cons (Cut.cons (Cut.cons (Cut.cons (Cut.cons (Cut.nil _))))))
      · refine Awp.exit ?_
        have hw0 : wait = [] := List.eq_nil_of_length_eq_zero (by
          have : ¬ (0 : Int) < ((i64s wait).length : Int) := by simpa using hb17
          rw [i64s_len] at this
          omega)
        subst hw0
        refine h13 _ ?_
        refine nT (hk := ?_)
        have hend := hI.end_
        have hln := hI.len
        subst hend
        refine Awp.via _ (St.le_setsA (i := 2) (j := 4) (by decide) rfl rfl) ?_
        refine Awp.seq fun K23 h23 => ?_
        (refine Awp.region ?_; (repeat (first | refine sQ (hk := ?_) | refine sSkip (hk := ?_) | refine sOwn (hk := ?_))); refine aSeq_nil ?_)
        refine h23 _ ?_
        refine nT (hk := ?_)
        refine Awp.ret ?_
        exact ⟨.inr rfl, ds, rfl, rfl, Fin.sets (i := 2) (p := (O, ms)) rfl hln hmx⟩
end Mu
end
section
/-
  live.In, Out, At, Most, walked.
  Conditions: at most 2^21 of everything.
-/
namespace Mu
open Go Go.RowKit Go.Proofs Go.Maps
instance : AG Tryd.prog 81 false 1 := ⟨by kernel_rfl⟩
instance : SZ Tryd.prog 81 1 := ⟨by kernel_rfl⟩
instance : ES Tryd.prog 81 1 := ⟨by kernel_rfl⟩
instance : SL Tryd.prog 81 := ⟨by kernel_rfl⟩
instance : RT Tryd.prog 81 27 1 24 := ⟨by kernel_rfl⟩
instance : AG Tryd.prog 27 false 1 := ⟨by kernel_rfl⟩
instance : SZ Tryd.prog 27 1 := ⟨by kernel_rfl⟩
instance : ES Tryd.prog 27 1 := ⟨by kernel_rfl⟩
instance : SL Tryd.prog 27 := ⟨by kernel_rfl⟩
instance : RT Tryd.prog 27 3 1 8 := ⟨by kernel_rfl⟩
instance : AG Tryd.prog 22 false 1 := ⟨by kernel_rfl⟩
instance : SZ Tryd.prog 22 1 := ⟨by kernel_rfl⟩
instance : ES Tryd.prog 22 2 := ⟨by kernel_rfl⟩
instance : SL Tryd.prog 22 := ⟨by kernel_rfl⟩
instance : RT Tryd.prog 22 47 2 40 := ⟨by kernel_rfl⟩
instance : AG Tryd.prog 47 true 2 := ⟨by kernel_rfl⟩
instance : SZ Tryd.prog 47 2 := ⟨by kernel_rfl⟩

theorem places_fold {R : List Int} {ds : List Ins} {S : Int → Bool} : ∀ (k : Nat), k ≤ ds.length → ∀ p : (Int → Bool) × List (List Int), p.1 = inS (ds.drop k) S → p.2.length = ds.length + 1 →
    ((List.range k).reverse.foldl (stepP R ds) p).2 = (List.range k).map (fun j => R.filter (inS (ds.drop j) S)) ++ p.2.drop k
  | 0, _, p, _, _ => by simp
  | k + 1, hk, p, h1, h2 => by
    have hd : ds[k]? = some (ds[k]'(by omega)) := List.getElem?_eq_getElem (by omega)
    have hb : stepB ds p.1 k = inS (ds.drop k) S := by
      unfold stepB
      rw [hd, h1, List.drop_eq_getElem_cons (i := k) (by omega)]
      rfl
    rw [List.range_succ, List.reverse_append, List.reverse_singleton, List.singleton_append, List.foldl_cons, places_fold k (by omega) (stepP R ds p k) hb (by simp [stepP, h2])]
    simp only [stepP, hb, List.map_append, List.map_cons, List.map_nil, List.append_assoc, List.singleton_append]
    congr 1
    rw [List.drop_eq_getElem_cons (i := k) (by simp; omega), List.getElem_set_self, List.drop_set_of_lt (by omega)]
theorem placesL_eq (R : List Int) (ds : List Ins) (S : Int → Bool) : placesL R ds S = (List.range (ds.length + 1)).map fun i => R.filter (inS (ds.drop i) S) := by
  unfold placesL placesN
  rw [places_fold ds.length (Nat.le_refl _) _ (by rw [List.drop_eq_nil_of_le (Nat.le_refl _)]; rfl) (by simp), List.range_succ, List.map_append]
  congr 1
  rw [List.drop_set]
  simp [List.drop_replicate, inS]
/-- what is live at the places of a block -/
theorem atL_eq (f : Func) (b : Nat) : placesL (regsL f) (insOf f b) (outS f b) = blockL f b := by
  rw [placesL_eq]
  unfold blockL placeL
  refine List.map_congr_left fun i _ => ?_
  congr 1
  funext r
  exact (liveAt_eq f (outS f b) b i (fun r => outS_iff) r).symm
theorem blockL_len (f : Func) (b : Nat) : (blockL f b).length = (insOf f b).length + 1 := by simp [blockL]
theorem allL_len (f : Func) : (allL f).length = f.blocks.length := by simp [allL]
noncomputable def inL (f : Func) (b : Nat) : List Int := (regsL f).filter (inS (insOf f b) (outS f b))
noncomputable def outL (f : Func) (b : Nat) : List Int := (regsL f).filter (outS f b)
noncomputable def inF (f : Func) : List (List Int) := (List.range f.blocks.length).map (inL f)
noncomputable def outF (f : Func) : List (List Int) := (List.range f.blocks.length).map (outL f)
def atF (f : Func) (b : Int) : List (List Int) := if 0 ≤ b ∧ b < f.blocks.length then blockL f b.toNat else []
def mxI (n : Int) (l : List Int) : Int := if (l.length : Int) > n then (l.length : Int) else n
def mxB (n : Int) (ls : List (List Int)) : Int := ls.foldl mxI n
def mostF (f : Func) : Int := (allL f).foldl mxB 0
theorem blockL_first (f : Func) (b : Nat) : (blockL f b)[0]? = some (inL f b) := by
  rw [← atL_eq, placesL_eq, List.getElem?_map, List.getElem?_range (by omega)]
  rfl
theorem blockL_last (f : Func) (b : Nat) : (blockL f b)[(insOf f b).length]? = some (outL f b) := by
  rw [← atL_eq, placesL_eq, List.getElem?_map, List.getElem?_range (by omega)]
  simp [inS, outL]
theorem range_snoc {α : Type} (g : Nat → α) (b : Nat) : (List.range (b + 1)).map g = (List.range b).map g ++ [g b] := by rw [List.range_succ, List.map_append]; rfl

theorem Fin.nilRow {h : List ABlk} {α : Type} {T : Ty α} (hm : mkD h = [] := by rfl) : Fin h (.lit (.slice none 0 0)) (.bs T []) := ⟨hm, fun C S ψ w v hC H hv => ⟨S, fun _ h => h, fun _ h => .inl h, H.lt, by
  unfold AV.rel at hv ⊢
  rw [hv]
  exact T.slice_nilS _ _⟩⟩

set_option maxRecDepth 100000 in
set_option maxHeartbeats 1000000 in
theorem at_fn (f : Func) (b : Int) (ho : okFunc f) (hs : smallF f) (hT : (allReads f).length ≤ 2097152) : Fn Tryd.prog 41 [.agg (encFunc f), .lit (.int .i64 b)] (.bs tInt.slice (atF f b)) := by
  have hbl := hs.blocks
  have hRR := regsR_of f ho hT
  have hLr : ∀ b ∈ f.blocks, ∀ x ∈ b.ins, ∀ r ∈ readsC x, r ∈ regsL f := fun b hb x hx r hr => regsL_mem.2 ⟨b, hb, x, hx, hr⟩
  refine Fn.of_awp Tryd.func41 rfl (by kernel_rfl) rfl Tryd.ntmps41 fun C hC => ?_
  simp only [List.length_cons, List.length_nil, Nat.reduceAdd, Nat.reduceSub, List.replicate_succ, List.replicate_zero, List.cons_append, List.nil_append]
  refine Awp.seq fun K1 h1 => ?_
  (refine Awp.region ?_; (repeat (first | refine sQ (hk := ?_) | refine sSkip (hk := ?_) | refine sOwn (hk := ?_))); refine aSeq_nil ?_)
  refine h1 _ ?_
  refine nT (hk := ?_)
  refine Awp.seq fun K2 h2 => ?_
  refine Awp.seq fun K3 h3 => ?_
  rcases hd1 : decide (b < 0) with _ | _
  · rcases hd2 : decide (b ≥ (f.blocks.length : Int)) with _ | _
    · have h0 : 0 ≤ b := by simpa using hd1
      have hlt : b.toNat < f.blocks.length := by have : b < (f.blocks.length : Int) := by simpa using hd2
                                                 omega
      obtain ⟨bl, hblk⟩ : ∃ bl, f.blocks[b.toNat]? = some bl := ⟨_, List.getElem?_eq_getElem hlt⟩
      have hmem := List.mem_of_getElem? hblk
      have hins : insOf f b.toNat = bl.ins := by unfold insOf; rw [hblk]
      have hset : ((List.range f.blocks.length).map (outS f))[b.toNat]? = some (outS f b.toNat) := by rw [List.getElem?_map, List.getElem?_range hlt]; rfl
      have hres : atF f b = placesL (regsL f) bl.ins (outS f b.toNat) := by
        unfold atF
        rw [if_pos ⟨h0, by omega⟩, ← hins, atL_eq]
      (refine Awp.region ?_; (repeat (first | refine sQ (hk := ?_) | refine sSkip (hk := ?_) | refine sOwn (hk := ?_))); refine aSeq_nil ?_)
      refine h3 _ ?_
      refine nT (hk := ?_)
      refine Awp.cond rfl (fun hb4 => by cases hb4) (fun hb4 => ?_)
      refine Awp.skip ?_
      refine h2 _ ?_
      refine nT (hk := ?_)
      refine Awp.seq fun K6 h6 => ?_
      (refine drawD 12 (hh := ?_); (repeat (first | refine qQ (hq := Quiet.call rfl (all_fn f ho hs hT) rfl rfl rfl) (hk := ?_) | refine qQ (hq := Quiet.call rfl (places_fn bl (outS f b.toNat) (regsL f) (ho.blocks bl hmem) (hs.all bl hmem) hRR (outS_sub hLr _) (hLr bl hmem)) rfl rfl rfl) (hk := ?_) | refine qQ (hk := ?_) | refine qSkip (hk := ?_))); refine aQ_nil ?_; (repeat (first | refine sQ (hq := Quiet.call rfl (all_fn f ho hs hT) rfl rfl rfl) (hk := ?_) | refine sQ (hq := Quiet.call rfl (places_fn bl (outS f b.toNat) (regsL f) (ho.blocks bl hmem) (hs.all bl hmem) hRR (outS_sub hLr _) (hLr bl hmem)) rfl rfl rfl) (hk := ?_) | refine sQ (hk := ?_) | refine sSkip (hk := ?_) | refine sOwn (hk := ?_))); refine aSeq_nil ?_)
      refine h6 _ ?_
      refine nT (hk := ?_)
      refine Awp.ret ?_
      rw [hres]
      exact ⟨.inr rfl, Fin.cl rfl⟩
    · have hres : atF f b = [] := by
        have : (f.blocks.length : Int) ≤ b := by simpa using hd2
        unfold atF
        rw [if_neg (by omega)]
      (refine Awp.region ?_; (repeat (first | refine sQ (hk := ?_) | refine sSkip (hk := ?_) | refine sOwn (hk := ?_))); refine aSeq_nil ?_)
      refine h3 _ ?_
      refine nT (hk := ?_)
      refine Awp.cond rfl (fun hb4 => ?_) (fun hb4 => by cases hb4)
      refine Awp.seq fun K5 h5 => ?_
      (refine Awp.region ?_; (repeat (first | refine sQ (hk := ?_) | refine sSkip (hk := ?_) | refine sOwn (hk := ?_))); refine aSeq_nil ?_)
      refine h5 _ ?_
      refine nT (hk := ?_)
      refine Awp.ret ?_
      rw [hres]
      exact ⟨.inr rfl, Fin.nilRow⟩
  · have hres : atF f b = [] := by
      have : b < 0 := by simpa using hd1
      unfold atF
      rw [if_neg (by omega)]
    (refine Awp.region ?_; (repeat (first | refine sQ (hk := ?_) | refine sSkip (hk := ?_) | refine sOwn (hk := ?_))); refine aSeq_nil ?_)
    refine h3 _ ?_
    refine nT (hk := ?_)
    refine Awp.cond rfl (fun hb4 => ?_) (fun hb4 => by cases hb4)
    refine Awp.seq fun K5 h5 => ?_
    (refine Awp.region ?_; (repeat (first | refine sQ (hk := ?_) | refine sSkip (hk := ?_) | refine sOwn (hk := ?_))); refine aSeq_nil ?_)
    refine h5 _ ?_
    refine nT (hk := ?_)
    refine Awp.ret ?_
    rw [hres]
    exact ⟨.inr rfl, Fin.nilRow⟩

theorem fold_take_succ {α β : Type} (g : β → α → β) (z : β) {l : List α} {i : Nat} {x : α} (h : l[i]? = some x) : (l.take (i + 1)).foldl g z = g ((l.take i).foldl g z) x := by
  rw [List.take_add_one, h, List.foldl_append]
  rfl
end Mu
end
section
/-
  inter.steps, the iterator over a function's instructions and what is live behind each: its contract.
  Conditions: at most 2^21 of everything.
-/
namespace Mu
open Go Go.RowKit Go.Proofs Go.Shelf
attribute [local go_sem] Oper.semAt_some

/-! ### rows laid one behind the other -/
def offL {α : Type} (g : Nat → List α) (b : Nat) : Nat := ((List.range b).flatMap g).length
theorem offL_succ {α : Type} (g : Nat → List α) (b : Nat) : offL g (b + 1) = offL g b + (g b).length := by
  unfold offL
  rw [List.range_succ, List.flatMap_append, List.length_append]
  simp
theorem offL_mono {α : Type} (g : Nat → List α) (b k : Nat) : offL g b ≤ offL g (b + k) := by
  induction k with
  | zero => exact Nat.le_refl _
  | succ k ih => rw [← Nat.add_assoc, offL_succ]; omega
theorem offL_at {α : Type} (g : Nat → List α) : ∀ (n b i : Nat), b < n → i < (g b).length → ((List.range n).flatMap g)[offL g b + i]? = (g b)[i]?
  | 0, b, i, h, _ => by omega
  | n + 1, b, i, h, hi => by
    rw [List.range_succ, List.flatMap_append]
    by_cases hb : b = n
    · subst hb
      rw [List.getElem?_append_right (by unfold offL; omega)]
      unfold offL
      simp
    · have h1 : offL g b + i < ((List.range n).flatMap g).length := by
        have h2 := offL_mono g (b + 1) (n - (b + 1))
        rw [show b + 1 + (n - (b + 1)) = n by omega, offL_succ] at h2
        unfold offL at h2 ⊢
        omega
      rw [List.getElem?_append_left h1]
      exact offL_at g n b i (by omega) hi

/-- the instructions of a block, each with what is live behind it -/
def stepsB (f : Func) (b : Nat) : List (Ins × List Int) := (insOf f b).zip ((blockL f b).drop 1)
def stepsL (f : Func) : List (Ins × List Int) := (List.range f.blocks.length).flatMap (stepsB f)
theorem stepsB_len (f : Func) (b : Nat) : (stepsB f b).length = (insOf f b).length := by
  unfold stepsB
  rw [List.length_zip, List.length_drop, blockL_len]
  omega
theorem stepsB_at {f : Func} {b i : Nat} {x : Ins} {l : List Int} (hx : (insOf f b)[i]? = some x) (hl : (blockL f b)[i + 1]? = some l) : (stepsB f b)[i]? = some (x, l) := by
  unfold stepsB
  rw [List.getElem?_zip_eq_some]
  refine ⟨hx, ?_⟩
  rw [List.getElem?_drop, Nat.add_comm]
  exact hl
theorem stepsL_at {f : Func} {b i : Nat} {x : Ins} {l : List Int} (hb : b < f.blocks.length) (hx : (insOf f b)[i]? = some x) (hl : (blockL f b)[i + 1]? = some l) : (stepsL f)[offL (stepsB f) b + i]? = some (x, l) := by
  have h := stepsB_at hx hl
  unfold stepsL
  rw [offL_at (stepsB f) _ b i hb (List.getElem?_eq_some_iff.1 h).1, h]
/-- what the k-th round is given -/
def stE (f : Func) (k : Nat) : List AV := match (stepsL f)[k]? with
  | some q => [.agg (encIns q.1), .bs tInt q.2]
  | none => [.any, .any]
theorem stE_eq {f : Func} {k : Nat} {q : Ins × List Int} (h : (stepsL f)[k]? = some q) : stE f k = [.agg (encIns q.1), .bs tInt q.2] := by unfold stE; rw [h]
theorem stE_cl (f : Func) (k : Nat) : AV.clL (stE f k) = true := by
  unfold stE
  split <;> rfl
theorem stE_len (f : Func) (k : Nat) : (stE f k).length = 2 := by
  unfold stE
  split <;> rfl

theorem steps_in (F : Fence) (n : Nat) (hF : F.fn 25) (hro : F.round = none) (cs : List Value) (w : World) (hcs : cs.length = 4) :
    CallsIn F n Tryd.prog 25 #[.agg cs.toArray] w fun e w' => e = .returned (.func (.func 40) #[] #[.pointer (some ⟨w.heap.size, 0, none⟩)]) ∧ w' = w.alloc (.cells cs.toArray 24) := by
  match cs, hcs with
  | [a, b, c, d], _ =>
    refine callsIn_of_wp Tryd.func25 rfl hF ?_ hro
    simp only [Tryd.ntmps25, List.size_toArray, List.length_cons, List.length_nil, Nat.reduceAdd, Nat.reduceSub, Array.replicate_succ, Array.replicate_zero, List.push_toArray, List.append_toArray, List.nil_append, List.cons_append]
    gi_wp2
    go_ret
    exact ⟨rfl, rfl⟩
def stF (p : Nat) : Value := .func (.func 40) #[] #[.pointer (some ⟨p, 0, none⟩)]
theorem steps_new (f : Func) : FnNew Tryd.prog 25 [.agg (encFunc f)] (fun p => boxR p (encFunc f)) stF := by
  refine ⟨by kernel_rfl, fun w S vs hS hr => ?_⟩
  obtain ⟨v, rfl, hv⟩ := arg1 hr
  obtain ⟨cs, rfl, hc⟩ := rel_agg hv
  have hl : cs.length = 4 := by rw [relL_len hc]; rfl
  refine ((callsIn_wide (n := 4)).1 (steps_in Fence.wide 4 trivial rfl cs w hl)).mono ?_
  rintro e w' ⟨rfl, rfl⟩
  have hb : Below w.heap.size w (w.alloc (.cells cs.toArray 24)) := (Below.refl _ _).alloc (Nat.le_refl _) _
  exact ⟨_, rfl, ⟨hb.os, hb.tape, hb.output, hb.size, fun k hk _ => hb.block k hk⟩, w.heap.size, rfl, ⟨cs, 24, heap_alloc_new w _, AV.relL_ext (Ext.grow [] ψ0 (fun k hk => hb.block k (hS k hk)) fun _ h => h) _ _ hc⟩, fun k hk => by
    have hk : k = w.heap.size := hk
    subst hk
    exact ⟨.inr (Nat.le_refl _), by simp⟩⟩

set_option maxRecDepth 100000 in
set_option maxHeartbeats 4000000 in
theorem steps_iter (f : Func) (ho : okFunc f) (hs : smallF f) (hT : (allReads f).length ≤ 2097152) (hi1 : ∀ b ∈ f.blocks, b.ins.length + 1 ≤ 2097152) (pb : Nat) :
    IterY Tryd.prog 40 [.pointer (some ⟨pb, 0, none⟩)] (boxR pb (encFunc f)) (stE f) (stepsL f).length := by
  have hbl := hs.blocks
  refine IterY.of_awp Tryd.func40 rfl (by kernel_rfl) rfl Tryd.ntmps40 rfl fun C hrd ι l Jr hm hY q0 => ?_
  simp only [List.map_cons, List.map_nil, List.length_cons, List.length_nil, Nat.reduceAdd, Nat.reduceSub, List.replicate_succ, List.replicate_zero, List.cons_append, List.nil_append]
  refine Awp.seq fun K1 h1 => ?_
  (refine Awp.region ?_; (repeat (first | refine sQ (hk := ?_) | refine sSkip (hk := ?_) | refine sOwn (hk := ?_))); refine aSeq_nil ?_)
  refine h1 _ ?_
  refine nT (hk := ?_)
  refine Awp.block ?_
  refine Awp.loopF (fun p : Nat × ι => ⟨[.lit (.func (.yield l) #[] #[]), .lit (.pointer (some ⟨pb, 0, none⟩)), .any, .any, .any, .any, .any, .any, .any, .lit (.int .i64 (f.blocks.length : Int)), .lit (.int .i64 (p.1 : Int)), .any, .any, .any, .any, .any, .any, .any, .any, .any, .any, .any, .any, .any, .any, .any, .any, .any, .any, .any, .any, .any, .any, .any, .any, .any, .any, .any, .any], [.res (Jr (offL (stepsB f) p.1) p.2), .res (boxR pb (encFunc f))]⟩) (fun p => p.1 ≤ f.blocks.length) (fun p => f.blocks.length - p.1) (0, q0) (Nat.zero_le _) (le_T) ?_
  rintro ⟨b, q⟩ hbn
  dsimp only at hbn ⊢
  refine Awp.seq fun K3 h3 => ?_
  (refine Awp.region ?_; (repeat (first | refine sQ (hk := ?_) | refine sSkip (hk := ?_) | refine sOwn (hk := ?_))); refine aSeq_nil ?_)
  refine h3 _ ?_
  refine nT (hk := ?_)
  refine Awp.seq fun K4 h4 => ?_
  refine Awp.cond rfl (fun hb5 => ?_) (fun hb5 => ?_)
  · have hlt : b < f.blocks.length := by simpa using hb5
    obtain ⟨bl, hblk⟩ : ∃ bl, f.blocks[b]? = some bl := ⟨_, List.getElem?_eq_getElem hlt⟩
    have hmem := List.mem_of_getElem? hblk
    have hins : insOf f b = bl.ins := by unfold insOf; rw [hblk]
    have hil := hi1 bl hmem
    have hat : atF f (b : Int) = blockL f b := by
      unfold atF
      rw [if_pos ⟨by omega, by omega⟩, Int.toNat_natCast]
    have hA := at_fn f (b : Int) ho hs hT
    rw [hat] at hA
    have hsl : (stepsB f b).length = bl.ins.length := by rw [stepsB_len, hins]
    have hoff := offL_succ (stepsB f) b
    rw [hsl] at hoff
    generalize hk0 : offL (stepsB f) b = k0 at hoff ⊢
    refine Awp.skip ?_
    refine h4 _ ?_
    refine nT (hk := ?_)
    refine Awp.seq fun K6 h6 => ?_
    refine Awp.block ?_
    refine Awp.seq fun K7 h7 => ?_
    (refine Awp.region ?_; (repeat (first | refine sQ (hk := ?_) | refine sSkip (hk := ?_) | refine sOwn (hk := ?_))); refine aSeq_nil ?_)
    refine h7 _ ?_
    refine nT (hk := ?_)
    refine Awp.seq fun K8 h8 => ?_
    (refine Awp.region ?_; (repeat (first | refine sQ (hq := Quiet.call rfl hA rfl rfl rfl) (hk := ?_) | refine sQ (hk := ?_) | refine sSkip (hk := ?_) | refine sOwn (hk := ?_))); refine aSeq_nil ?_)
    refine h8 _ ?_
    refine nT (hk := ?_)
    refine Awp.seq fun K9 h9 => ?_
    (refine Awp.region ?_; (repeat (first | refine sQ (hk := ?_) | refine sSkip (hk := ?_) | refine sOwn (hk := ?_))); refine aSeq_nil ?_)
    refine h9 _ ?_
    refine nT (hk := ?_)
    refine Awp.block ?_
    refine Awp.loopF (fun p : Nat × ι => ⟨[.lit (.func (.yield l) #[] #[]), .lit (.pointer (some ⟨pb, 0, none⟩)), .any, .lit (.int .i64 (b : Int)), .bs tInt.slice (blockL f b), .any, .any, .any, .any, .lit (.int .i64 (f.blocks.length : Int)), .lit (.int .i64 (b : Int)), .any, .any, .any, .any, .any, .any, .any, .any, .any, .any, .bs tIns bl.ins, .lit (.int .i64 (bl.ins.length : Int)), .lit (.int .i64 (p.1 : Int)), .any, .any, .any, .any, .any, .any, .any, .any, .any, .any, .any, .any, .any, .any, .any], [.res (Jr (k0 + p.1) p.2), .res (boxR pb (encFunc f))]⟩) (fun p => p.1 ≤ bl.ins.length) (fun p => bl.ins.length - p.1) (0, q) (Nat.zero_le _) (le_T) ?_
    rintro ⟨i, q⟩ hi
    dsimp only at hi ⊢
    refine Awp.seq fun K11 h11 => ?_
    (refine Awp.region ?_; (repeat (first | refine sQ (hk := ?_) | refine sSkip (hk := ?_) | refine sOwn (hk := ?_))); refine aSeq_nil ?_)
    refine h11 _ ?_
    refine nT (hk := ?_)
    refine Awp.seq fun K12 h12 => ?_
    refine Awp.cond rfl (fun hb13 => ?_) (fun hb13 => ?_)
    · have hil2 : i < bl.ins.length := by simpa using hb13
      obtain ⟨x, hx⟩ : ∃ x, bl.ins[i]? = some x := ⟨_, List.getElem?_eq_getElem hil2⟩
      obtain ⟨bh, hbh⟩ : ∃ bh, (blockL f b)[i + 1]? = some bh := ⟨_, List.getElem?_eq_getElem (by rw [blockL_len, hins]; omega)⟩
      have hbh2 : (blockL f b)[((i : Int) + 1).toNat]? = some bh := by rw [show ((i : Int) + 1).toNat = i + 1 by omega]; exact hbh
      have hst : (stepsL f)[k0 + i]? = some (x, bh) := by rw [← hk0]; exact stepsL_at hlt (by rw [hins]; exact hx) hbh
      have hYk : ∀ q, YTurn Tryd.prog l C.S0 C.w0.heap.size (Jr (k0 + i) q) [.agg (encIns x), .bs tInt bh] (Jr (k0 + i + 1)) := fun q => by
        have := hY (k0 + i) q (List.getElem?_eq_some_iff.1 hst).1
        rwa [stE_eq hst] at this
      refine Awp.skip ?_
      refine h12 _ ?_
      refine nT (hk := ?_)
      refine Awp.seq fun K14 h14 => ?_
      refine Awp.block ?_
      refine Awp.seq fun K15 h15 => ?_
      (refine Awp.region ?_; (repeat (first | refine sQ (hk := ?_) | refine sSkip (hk := ?_) | refine sOwn (hk := ?_))); refine aSeq_nil ?_)
      refine h15 _ ?_
      refine nT (hk := ?_)
      refine Awp.seq fun K16 h16 => ?_
      refine Awp.drawY 7 (by kernel_rfl) (by kernel_rfl) ?_
      simp only [List.take_succ_cons, List.take_zero, List.drop_succ_cons, List.drop_zero]
      (repeat (first | refine qQ (hk := ?_) | refine qSkip (hk := ?_)))
      refine aQ_nil ?_
      refine aSeqY_y rfl (AOpY.yield (i := 0) hrd rfl (fun p => by rw [hm, hm]) rfl rfl rfl rfl (hYk q) fun q' => ?_)
      refine aSeqY_nt (by (try simp only [putA, List.set_cons_zero, List.set_cons_succ]); exact rfl) (by (try simp only [List.nil_append, List.set_cons_zero]); exact rfl) ?_
      refine aSeqY_o rfl (AOp.q (Quiet.bnot rfl rfl) ?_)
      refine aSeqY_nil ?_
      refine h16 _ ?_
      refine nT (hk := ?_)
      refine Awp.cond rfl (fun hb17 => by cases hb17) (fun hb17 => ?_)
      refine Awp.skip ?_
      refine h14 _ ?_
      refine nT (hk := ?_)
      (refine Awp.region ?_; (repeat (first | refine sQ (hk := ?_) | refine sSkip (hk := ?_) | refine sOwn (hk := ?_))); refine aSeq_nil ?_)
      refine athen_n ⟨(i + 1, q'), by dsimp only; omega, by dsimp only; omega, ?_⟩
      exact le_C (.cons (.cons (Cut.nil _)))
    · have hie : i = bl.ins.length := by have : ¬ i < bl.ins.length := by simpa using hb13
                                         omega
      subst hie
      rw [← hoff]
      refine Awp.exit ?_
      refine h6 _ ?_
      refine nT (hk := ?_)
      (refine Awp.region ?_; (repeat (first | refine sQ (hk := ?_) | refine sSkip (hk := ?_) | refine sOwn (hk := ?_))); refine aSeq_nil ?_)
      refine athen_n ⟨(b + 1, q), by dsimp only; omega, by dsimp only; omega, ?_⟩
      exact le_T
  · have hbe : b = f.blocks.length := by have : ¬ b < f.blocks.length := by simpa using hb5
                                         omega
    subst hbe
    refine Awp.exit ?_
    exact ⟨.inl rfl, q, rfl, by simp [mkD, ABlk.mrk, hm]; rfl⟩
end Mu
end
section
/-
  The shelf's contracts at this dump, in plain words: the keys of a map of integers.
  Conditions: none.
-/
namespace Go.Proofs
open Go.Shelf
def Tryd.keysK_ren : Go.Shelf.Ren := ⟨fun | 7 => 27 | 10 => 43 | n => n, fun | 23 => 61 | 26 => 3 | 3 => 3 | 28 => 67 | 0 => 0 | 27 => 66 | 33 => 32 | 4 => 4 | n => n, fun | n => n⟩
theorem Tryd.keysK : Go.Proofs.SlLaysZI.n7 Tryd.prog Tryd.keysK_ren := {
  mixed := by kernel_rfl
  f7 := ⟨Tryd.f27.name, by decide, Tryd.func27.trans (congrArg some (by kernel_rfl))⟩
  f10 := ⟨Tryd.f43.name, by decide, Tryd.func43.trans (congrArg some (by kernel_rfl))⟩
  t0 := Tryd.underlying0
  a0 := Tryd.isAgg0
  z0 := Tryd.sizeOf0
  v0 := Tryd.zeroValue0
  t4 := Tryd.underlying4
  a4 := Tryd.isAgg4
  z4 := Tryd.sizeOf4
  v4 := Tryd.zeroValue4
  t23 := Tryd.underlying61
  a23 := Tryd.isAgg61
  z23 := Tryd.sizeOf61
  v23 := Tryd.zeroValue61
  t26 := Tryd.underlying3
  a26 := Tryd.isAgg3
  z26 := Tryd.sizeOf3
  v26 := Tryd.zeroValue3
  t27 := Tryd.underlying66
  a27 := Tryd.isAgg66
  z27 := Tryd.sizeOf66
  v27 := Tryd.zeroValue66
  t28 := Tryd.underlying67
  a28 := Tryd.isAgg67
  z28 := Tryd.sizeOf67
  v28 := Tryd.zeroValue67
  t33 := Tryd.underlying32
  a33 := Tryd.isAgg32
  z33 := Tryd.sizeOf32
  v33 := Tryd.zeroValue32 }
end Go.Proofs
end
section
/-
  A set of integers that the call makes: put in; its keys, sorted.
  Conditions: its numbers lie in a rising row of at most 2^31.
-/
namespace Mu
open Go Go.RowKit Go.Proofs Go.Maps Go.Shelf

section
variable {P : Program} {C : Ctx} {t : List AV} {h : List ABlk} {o : Oper}
/-- a contract that reads two such memories -/
def FnR2 (P : Program) (f : FuncId) (R1 R2 : Res) (args : List AV) (r : AV) : Prop :=
  Enters P f = true ∧ ∀ (w : World) (S : Nat → Prop) (vs : List Value), (∀ k, S k → k < w.heap.size) → (∀ g, R1.F g → g < w.heap.size) → (∀ g, R2.F g → g < w.heap.size) → R1.R w S → R2.R w S → AV.relL w S [] ψ0 args vs →
    Calls P f vs.toArray w fun e w' => ∃ v, e = .returned v ∧ Good w S [] ψ0 r v w'
theorem Quiet.callR2 {f : FuncId} {args : Array Operand} {tys : Array TypeId} {xs : List AV} {r : AV} {R1 R2 : Res} (i j : Nat) (hi : h[i]? = some (.res R1)) (hj : h[j]? = some (.res R2))
    (ho : o.op = .call { callee := .value (.func f), args := args, argTypes := tys }) (hF : FnR2 P f R1 R2 xs r) (hx : args.toList.map (evA t) = xs) (hc : AV.clL xs = true) (hr : AV.cl r = true) : Quiet P C t h o r := by
  intro S ψ w ρ H hρ
  have h1 : ρ (.func f) = .func (.func f) #[] #[] := by
    have := hρ (.func f) (by rw [ho]; exact Array.mem_append.2 (.inl (by simp)))
    simpa [evA, AV.rel] using this
  rw [run_call ho hF.1 ρ w h1]
  refine ⟨rfl, ?_⟩
  have h2 : AV.relL w S h ψ xs (args.toList.map ρ) := by
    rw [← hx]
    exact relL_map fun x hx' => hρ x (by rw [ho]; exact Array.mem_append.2 (.inr (Array.mem_toList_iff.1 hx')))
  have hB1 := H.blk i _ hi
  have hB2 := H.blk j _ hj
  have h3 := hF.2 w S (args.toList.map ρ) H.lt (fun g hg => (hB1.1 g hg).2.2) (fun g hg => (hB2.1 g hg).2.2) hB1.2 hB2.2 (AV.relL_cl _ _ hc h2)
  rw [show (args.map ρ) = (args.toList.map ρ).toArray from (by rw [← Array.toList_map])]
  refine h3.mono ?_
  rintro e w' ⟨v, he, hb, S', k1, k2, k3, k4⟩
  exact ⟨v, he, hb, S', k1, k2, k3, AV.rel_cl _ _ hr k4⟩
end
section
variable {C : Ctx} {t : List AV} {h : List ABlk} {o : Oper}
theorem AOp.putM {ty : TypeId} {x y z : Operand} (i : Nat) {m : Nat} {S : Int → Bool} {R : List Int} {r : Int} {K : St → Prop} (ho : o.op = .mapUpdate ty x y z) (hty : Tryd.prog.underlying ty = some (.map 3 3)) (hi : h[i]? = some (.res (mapR S m)))
    (hx : evA t x = .lit (.map (some m))) (hy : evA t y = .lit (.int .i64 r)) (hz : evA t z = .lit (.int .i64 1)) (hR : RegsR R) (hin : InR R S) (hr : wf64 r) (hK : K ⟨putA t o.dst (.lit undef), h.set i (.res (mapR (addS S r) m))⟩) : AOp Tryd.prog C o ⟨t, h⟩ K := by
  refine AOp.turn (ι := Unit) (Rs := fun _ => mapR (addS S r) m) (val := fun _ => undef) hi (fun _ => rfl) (fun T ψ w ρ H hRw hlt hρ => ?_) (fun _ => hK)
  have h1 := hρ x (by simp [ho, Op.operands])
  have h2 := hρ y (by simp [ho, Op.operands])
  have h3 := hρ z (by simp [ho, Op.operands])
  rw [hx] at h1
  rw [hy] at h2
  rw [hz] at h3
  unfold AV.rel at h1 h2 h3
  obtain ⟨D, hown, hD⟩ := (show SetM w m S from hRw)
  have hsz := setM_size hown hD hR hin
  obtain ⟨w', hrun, hown', hg⟩ := hown.update keyI hty (by have := hsz.2; unfold maxLen; omega) (keyL hr) (plainElem_int Tryd.underlying3 one_wf)
  have hs' := SetM.put hown hD hown'
  have e : (execOp ρ o).run Tryd.prog w = .ok .skip w' ∨ (execOp ρ o).run Tryd.prog w = .ok (.value undef) w' := by
    simp [execOp, ho, h1, h2, h3, hrun, Result.andThen]
  have hT : Turns w T (mapR S m).F (fun _ : Unit => mapR (addS S r) m) (fun _ => undef) undef w' :=
    ⟨Gr.of_grownBy hg |> fun G => ⟨G.os, G.tape, G.output, G.size, fun k hk hn => G.block k hk fun e => hn (by cases e; rfl)⟩, (), rfl, hs', fun k hk => ⟨.inl hk, by
      have hk : k = m := hk
      subst hk
      exact hs'.lt⟩⟩
  rcases e with e | e
  · rw [e]; exact hT
  · rw [e]; exact hT
end

theorem keysI_new (m : Nat) : FnNew Tryd.prog 27 [.lit (.map (some m))] (fun p => boxR p [.lit (.map (some m))]) (fun p => .func (.func 43) #[] #[.pointer (some ⟨p, 0, none⟩)]) := by
  refine ⟨by kernel_rfl, fun w S vs hS hr => ?_⟩
  obtain ⟨us, rfl, h0⟩ := rel_lit1 hr
  unfold AV.relL at h0
  subst h0
  have cK : CallsIn Fence.wide 5 Tryd.prog 27 #[.map (some m)] w fun e w' => e = .returned (.func (.func 43) #[] #[.pointer (some ⟨w.heap.size, 0, none⟩)]) ∧ w' = w.alloc (.cells #[.map (some m)] 61) := AnyZI.keys_in Tryd.keysK Fence.wide 5 trivial rfl (some m) w
  refine ((callsIn_wide (n := 5)).1 cK).mono ?_
  rintro e w' ⟨rfl, rfl⟩
  have hb : Below w.heap.size w (w.alloc (.cells #[.map (some m)] 61)) := (Below.refl _ _).alloc (Nat.le_refl _) _
  exact ⟨_, rfl, ⟨hb.os, hb.tape, hb.output, hb.size, fun k hk _ => hb.block k hk⟩, w.heap.size, rfl, ⟨[.map (some m)], 61, heap_alloc_new w _, relL_litL [.map (some m)]⟩, fun k hk => by
    have hk : k = w.heap.size := hk
    subst hk
    exact ⟨.inr (Nat.le_refl _), by simp⟩⟩

theorem sortedI_fn (p m : Nat) (S : Int → Bool) (R : List Int) (hR : RegsR R) (hi : InR R S) :
    FnR2 Tryd.prog 26 (boxR p [.lit (.map (some m))]) (mapR S m) [.lit (.func (.func 43) #[] #[.pointer (some ⟨p, 0, none⟩)])] (.bs tInt (R.filter S)) := by
  refine ⟨by kernel_rfl, fun w T vs hT hF1 hF2 hbox hs hr => ?_⟩
  obtain ⟨us, rfl, h0⟩ := rel_lit1 hr
  unfold AV.relL at h0
  subst h0
  obtain ⟨cs, e, hp, hcs⟩ := hbox
  obtain ⟨us, rfl, h1⟩ := rel_lit1 hcs
  unfold AV.relL at h1
  subst h1
  have hpl := hF1 p rfl
  have hcell : w.cell? ⟨p, 0, none⟩ = some (.map (some m)) := by simp [World.cell?, hp]
  obtain ⟨D, hown, hS⟩ := (show SetM w m S from hs)
  obtain ⟨hperm, hsz⟩ := size_of hown hS hR.asc hR.wf hi.mem
  have hfl := List.length_filter_le S R
  have hRl := hR.len
  have hmax : Maps.size D ≤ maxLen := by rw [hsz]; unfold maxLen; omega
  have hbytes : Maps.size D * 8 ≤ 140737488355328 := by rw [hsz]; omega
  have hseq : SeqGives Fence.wide 2 Tryd.prog 43 #[.pointer (some ⟨p, 0, none⟩)] encZ (fun ss => ss.Perm (intKeys D)) (Maps.size D) w :=
    AnyZI.keys_gives (ρ := Tryd.keysK_ren) { Tryd.keysK with } Fence.wide _ trivial rfl (by omega) p m (Maps.size D) D _ hpl hcell hown
  have cS := AnyZI.sorted_in Tryd.sortedM Fence.wide 5 trivial trivial trivial trivial rfl (by omega) (sortsM _) (enters_of Tryd.func23 (by kernel_rfl) rfl) 43 #[.pointer (some ⟨p, 0, none⟩)] trivial (enters_of Tryd.func43 (by kernel_rfl) rfl) _ _ hmax hbytes _ hseq
  change CallsIn _ _ Tryd.prog 26 _ _ _ at cS
  refine ((callsIn_wide (n := 5)).1 cS).mono ?_
  rintro e w' ⟨v, ss, rfl, hSp, hrow, hnil, hb⟩
  have hp2 : ss.Perm (R.filter S) := hSp.trans hperm
  have he : (ss.mergeSort fun x y => decide (x ≤ y)) = R.filter S :=
    asc_ext (asc_sort (hp2.nodup_iff.2 (hR.asc.filter S).nodup)) (hR.asc.filter S) (fun x => ((List.mergeSort_perm ss _).mem_iff).trans hp2.mem_iff)
  have hrow2 : w'.ownsRow w.heap.size 3 1 v ss.length ((ss.mergeSort (fun x y => decide (x ≤ y))).map encZ) := hrow
  rw [he] at hrow2
  have hO : OwnI w' w.heap.size v (R.filter S) := .of hrow2 hp2.length_eq rfl
  refine ⟨v, rfl, hb, fun k => T k ∨ v.ownBlock = some k, fun _ h => .inl h, fun k hk => ?_, fun k hk => ?_, ?_⟩
  · rcases hk with hk | hk
    · exact .inl hk
    · exact .inr (hO.lt k hk).1
  · rcases hk with hk | hk
    · exact Nat.lt_of_lt_of_le (hT k hk) hb.size
    · exact (hO.lt k hk).2
  · unfold AV.rel
    exact tInt.slice.keepS (own_intsS hO fun x hx => hR.wf x (List.mem_filter.1 hx).1) (fun _ _ => rfl) fun k hk => .inr hk
end Mu
end
section
/-
  inter.Cross, walked: which registers cross a call or a yield.
  Conditions: at most 2^21 of everything.
-/
namespace Mu
open Go Go.RowKit Go.Proofs Go.Maps
instance inMuCross1 : AG Tryd.prog 61 false 1 := ⟨by kernel_rfl⟩
instance inMuCross2 : SZ Tryd.prog 61 1 := ⟨by kernel_rfl⟩
instance inMuCross3 : ZC Tryd.prog 61 [.map none] := ⟨by kernel_rfl⟩

/-- the registers that cross an instruction -/
def crossA (q : Ins × List Int) : List Int := if q.1.op != 5 && q.1.op != 7 then [] else q.2.filter fun r => q.1.op == 7 || r != q.1.d
def crossK (f : Func) (k : Nat) : Int → Bool := addL (fun _ => false) (((stepsL f).take k).flatMap crossA)
def crossL (f : Func) : List Int := (regsL f).filter (crossK f (stepsL f).length)
theorem addL_append (S : Int → Bool) (l m : List Int) : addL S (l ++ m) = addL (addL S l) m := by
  funext x
  simp only [addL, List.contains_eq_mem, List.mem_append, Bool.decide_or, Bool.or_assoc]
theorem crossK_succ {f : Func} {k : Nat} {q : Ins × List Int} (h : (stepsL f)[k]? = some q) : crossK f (k + 1) = addL (crossK f k) (crossA q) := by
  unfold crossK
  rw [List.take_add_one, h, Option.toList_some, List.flatMap_append, addL_append]
  simp
theorem stepsL_mem {f : Func} {q : Ins × List Int} (h : q ∈ stepsL f) : (∃ b ∈ f.blocks, q.1 ∈ b.ins) ∧ (∀ r ∈ q.2, r ∈ regsL f) ∧ q.2.length ≤ (regsL f).length := by
  unfold stepsL at h
  obtain ⟨b, hb, hq⟩ := List.mem_flatMap.1 h
  have hb := List.mem_range.1 hb
  unfold stepsB at hq
  have h1 := (List.of_mem_zip (a := q.1) (b := q.2) hq)
  obtain ⟨bl, hbl⟩ : ∃ bl, f.blocks[b]? = some bl := ⟨_, List.getElem?_eq_getElem hb⟩
  have hins : insOf f b = bl.ins := by unfold insOf; rw [hbl]
  have h2 := List.mem_of_mem_drop h1.2
  unfold blockL at h2
  obtain ⟨i, _, e⟩ := List.mem_map.1 h2
  refine ⟨⟨bl, List.mem_of_getElem? hbl, by rw [← hins]; exact h1.1⟩, fun r hr => ?_, by rw [← e]; exact List.length_filter_le _ _⟩
  rw [← e] at hr
  unfold placeL at hr
  exact (List.mem_filter.1 hr).1
theorem crossA_sub {q : Ins × List Int} {L : List Int} (h : ∀ r ∈ q.2, r ∈ L) : ∀ r ∈ crossA q, r ∈ L := fun r hr => by
  unfold crossA at hr
  split at hr
  · cases hr
  · exact h r (List.mem_filter.1 hr).1
theorem crossK_in (f : Func) (k : Nat) : InR (regsL f) (crossK f k) := ⟨fun x _ hx => by
  unfold crossK addL at hx
  simp only [Bool.false_or, List.contains_iff_mem] at hx
  obtain ⟨q, hq, hx⟩ := List.mem_flatMap.1 hx
  exact crossA_sub (stepsL_mem (List.mem_of_mem_take hq)).2.1 x hx⟩
theorem crossK_zero (f : Func) : crossK f 0 = fun _ => false := by
  unfold crossK
  rw [List.take_zero, List.flatMap_nil, addL_nil]
/-- so many of a row have been looked at -/
def crossI (S : Int → Bool) (q : Ins × List Int) (i : Nat) : Int → Bool := addL S ((q.2.take i).filter fun r => q.1.op == 7 || r != q.1.d)
theorem crossI_zero (S : Int → Bool) (q : Ins × List Int) : crossI S q 0 = S := by
  unfold crossI
  rw [List.take_zero, List.filter_nil, addL_nil]
theorem crossI_yes {S : Int → Bool} {q : Ins × List Int} {i : Nat} {r : Int} (h : q.2[i]? = some r) (hq : (q.1.op == 7 || r != q.1.d) = true) : crossI S q (i + 1) = addS (crossI S q i) r := by
  unfold crossI
  rw [List.take_add_one, h, Option.toList_some, List.filter_append, List.filter_cons, hq, List.filter_nil]
  simp only [if_true]
  exact addL_snoc _ _ _
theorem crossI_no {S : Int → Bool} {q : Ins × List Int} {i : Nat} {r : Int} (h : q.2[i]? = some r) (hq : (q.1.op == 7 || r != q.1.d) = false) : crossI S q (i + 1) = crossI S q i := by
  unfold crossI
  rw [List.take_add_one, h, Option.toList_some, List.filter_append, List.filter_cons, hq, List.filter_nil]
  simp
theorem crossI_in {S : Int → Bool} {q : Ins × List Int} {L : List Int} (h : InR L S) (hq : ∀ r ∈ q.2, r ∈ L) (i : Nat) : InR L (crossI S q i) := h.addL fun r hr => hq r (List.mem_of_mem_take (List.mem_filter.1 hr).1)

set_option maxRecDepth 100000 in
set_option maxHeartbeats 4000000 in
theorem cross_fn (f : Func) (ho : okFunc f) (hs : smallF f) (hT : (allReads f).length ≤ 2097152) (hi1 : ∀ b ∈ f.blocks, b.ins.length + 1 ≤ 2097152) : Fn Tryd.prog 8 [.agg (encFunc f)] (.bs tInt (crossL f)) := by
  have hbl := hs.blocks
  have hRR := regsR_of f ho hT
  have hLl : (regsL f).length ≤ 2097152 := Nat.le_trans (regsOf_le _) hT
  refine Fn.of_awpM Tryd.func8 rfl (by kernel_rfl) rfl Tryd.ntmps8 fun C hC hrd => ?_
  simp only [List.length_cons, List.length_nil, Nat.reduceAdd, Nat.reduceSub, List.replicate_succ, List.replicate_zero, List.cons_append, List.nil_append]
  refine Awp.seq fun K1 h1 => ?_
  (refine Awp.region ?_; (repeat (first | refine sQ (hq := Quiet.pickOr rfl rfl rfl rfl) (hk := ?_) | refine sQ (hq := Quiet.pickAnd rfl rfl rfl rfl) (hk := ?_) | refine sQ (hk := ?_) | refine sSkip (hk := ?_) | refine sG (hk := ?_) | refine sOwn (hk := ?_))); refine aSeq_nil ?_)
  refine h1 _ ?_
  refine nT (hk := ?_)
  refine Awp.seq fun K2 h2 => ?_
  (refine Awp.region ?_; (repeat (first | refine sQ (hq := Quiet.pickOr rfl rfl rfl rfl) (hk := ?_) | refine sQ (hq := Quiet.pickAnd rfl rfl rfl rfl) (hk := ?_) | refine sQ (hk := ?_) | refine sSkip (hk := ?_) | refine sG (hk := ?_) | refine sOwn (hk := ?_))))
  refine aSeq_t rfl (AOp.mkMap rfl fun m => ?_)
  refine sNt (hk := ?_)
  (repeat (first | refine sQ (hq := Quiet.pickOr rfl rfl rfl rfl) (hk := ?_) | refine sQ (hq := Quiet.pickAnd rfl rfl rfl rfl) (hk := ?_) | refine sQ (hk := ?_) | refine sSkip (hk := ?_) | refine sG (hk := ?_) | refine sOwn (hk := ?_)))
  refine aSeq_nil ?_
  refine h2 _ ?_
  refine nT (hk := ?_)
  refine Awp.open_box 3 rfl rfl rfl (fun g => [.agg (encFunc f), .ptr 1 0, .any, .lit (.pointer (some ⟨g, 0, none⟩)), .any, .any, .any, .any, .lit (.map (some m)), .any, .any, .any, .any, .any, .any, .any, .any, .any, .any, .any, .any, .any, .any, .any, .any, .any, .any, .any, .any, .any, .any, .any, .any, .any, .any, .any, .any, .any, .any, .any, .any, .any]) (fun g => (by (repeat (first | exact OpnB.nil | refine OpnB.ptr ?_ | refine OpnB.any ?_ | refine OpnB.keep rfl ?_)))) fun g3 => ?_
  refine Awp.seq fun K3 h3 => ?_
  refine Awp.seq fun K4 h4 => ?_
  (refine Awp.region ?_; (repeat (first | refine sQ (hq := Quiet.pickOr rfl rfl rfl rfl) (hk := ?_) | refine sQ (hq := Quiet.pickAnd rfl rfl rfl rfl) (hk := ?_) | refine sQ (hk := ?_) | refine sSkip (hk := ?_) | refine sG (hk := ?_) | refine sOwn (hk := ?_))))
  refine aSeq_t rfl (AOp.callNew rfl (steps_new f) (fun _ => rfl) rfl rfl fun p => ?_)
  refine sNt (hk := ?_)
  refine aSeq_nil ?_
  refine h4 _ ?_
  refine nT (hk := ?_)
  refine Awp.block ?_
  refine Awp.via ⟨[.agg (encFunc f), .any, .any, .lit (.pointer (some ⟨g3, 0, none⟩)), .any, .any, .any, .any, .any, .any, .lit (stF p), .any, .any, .any, .any, .any, .any, .any, .any, .any, .any, .any, .any, .any, .any, .any, .any, .any, .any, .any, .any, .any, .any, .any, .any, .any, .any, .any, .any, .any, .any, .any], [.res (marksR []), .dead, .res (mapR (crossK f 0) m), .res (boxR g3 [.lit (.map (some m))]), .res (boxR p (encFunc f))]⟩ (le_C (.cons (.dead (.cons (.cons (.cons (Cut.nil _))))))) ?_
  refine Awp.rangeY 4 0 (fun k => [.dead, .dead, .res (mapR (crossK f k) m), .res (boxR g3 [.lit (.map (some m))]), .dead]) hrd (by kernel_rfl) (by decide) rfl rfl rfl ?hdrop rfl (fun _ => rfl) (fun _ => rfl) rfl (stE_cl f) (stE_len f) (steps_iter f ho hs hT hi1 p) ?hround ?hdone
  case hdrop =>
    exact ⟨Cut.dead (Cut.cons (Cut.cons (Cut.cons (Cut.dead (Cut.nil _))))), fun b hb => List.all_eq_true.1 (show bdH [.dead, .dead, .res (mapR (crossK f 0) m), .res (boxR g3 [.lit (.map (some m))]), .dead] = true from rfl) b hb⟩
  case hround =>
    intro k hk C' hr'
    obtain ⟨q, hq⟩ : ∃ q, (stepsL f)[k]? = some q := ⟨_, List.getElem?_eq_getElem hk⟩
    obtain ⟨⟨bl, hbm, hxb⟩, hqr, hql⟩ := stepsL_mem (List.mem_of_getElem? hq)
    have hox := (ho.blocks bl hbm).ins q.1 hxb
    have hcs := crossK_succ hq
    have hin := crossK_in f k
    dsimp only
    rw [stE_eq hq]
    generalize hS0 : crossK f k = S0 at hcs hin ⊢
    refine Awp.nt2 (t' := [.agg (encFunc f), .any, .any, .lit (.pointer (some ⟨g3, 0, none⟩)), .any, .any, .any, .any, .any, .any, .lit (stF p), .agg (encIns q.1), .bs tInt q.2, .any, .any, .any, .any, .any, .any, .any, .any, .any, .any, .any, .any, .any, .any, .any, .any, .any, .any, .any, .any, .any, .any, .any, .any, .any, .any, .any, .any, .any]) rfl rfl ?_
    refine Awp.seq fun K6 h6 => ?_
    (refine Awp.region ?_; (repeat (first | refine sQ (hq := Quiet.pickOr rfl rfl rfl rfl) (hk := ?_) | refine sQ (hq := Quiet.pickAnd rfl rfl rfl rfl) (hk := ?_) | refine sQ (hk := ?_) | refine sSkip (hk := ?_) | refine sG (hk := ?_) | refine sOwn (hk := ?_))); refine aSeq_nil ?_)
    refine h6 _ ?_
    refine nT (hk := ?_)
    (refine Awp.region ?_; (repeat (first | refine sQ (hq := Quiet.pickOr rfl rfl rfl rfl) (hk := ?_) | refine sQ (hq := Quiet.pickAnd rfl rfl rfl rfl) (hk := ?_) | refine sQ (hk := ?_) | refine sSkip (hk := ?_) | refine sG (hk := ?_) | refine sOwn (hk := ?_))); refine aSeq_nil ?_)
    refine athen_n fun C'' hr'' => ?_
    refine nT (hk := ?_)
    refine Awp.block ?_
    refine Awp.seq fun K8 h8 => ?_
    refine Awp.seq fun K9 h9 => ?_
    (refine Awp.region ?_; (repeat (first | refine sQ (hq := Quiet.pickOr rfl rfl rfl rfl) (hk := ?_) | refine sQ (hq := Quiet.pickAnd rfl rfl rfl rfl) (hk := ?_) | refine sQ (hk := ?_) | refine sSkip (hk := ?_) | refine sG (hk := ?_) | refine sOwn (hk := ?_))); refine aSeq_nil ?_)
    refine h9 _ ?_
    refine nT (hk := ?_)
    refine Awp.cond rfl (fun hb10 => ?_) (fun hb10 => ?_)
    · have e : crossA q = [] := by unfold crossA; rw [if_pos hb10]
      rw [hcs, e, addL_nil]
      refine Awp.exit ?_
      exact ⟨rfl, ⟨.cons (.cons (.cons (.cons (.cons (Cut.nil _))))), fun b hb => List.all_eq_true.1 (show bdH [.dead, .dead, .res (mapR S0 m), .res (boxR g3 [.lit (.map (some m))]), .dead] = true from rfl) b hb⟩⟩
    · have e : crossA q = q.2.filter fun r => q.1.op == 7 || r != q.1.d := by unfold crossA; rw [if_neg (by rw [hb10]; simp)]
      have hqi := fun i => crossI_in hin hqr i
      refine Awp.skip ?_
      refine h8 _ ?_
      refine nT (hk := ?_)
      refine Awp.seq fun K11 h11 => ?_
      (refine Awp.region ?_; (repeat (first | refine sQ (hq := Quiet.pickOr rfl rfl rfl rfl) (hk := ?_) | refine sQ (hq := Quiet.pickAnd rfl rfl rfl rfl) (hk := ?_) | refine sQ (hk := ?_) | refine sSkip (hk := ?_) | refine sG (hk := ?_) | refine sOwn (hk := ?_))); refine aSeq_nil ?_)
      refine h11 _ ?_
      refine nT (hk := ?_)
      refine Awp.block ?_
      refine Awp.loopF (fun i : Nat => ⟨[.any, .any, .any, .lit (.pointer (some ⟨g3, 0, none⟩)), .ptr 5 0, .any, .any, .any, .any, .any, .any, .any, .any, .any, .any, .any, .any, .any, .any, .any, .any, .bs tInt q.2, .lit (.int .i64 (q.2.length : Int)), .lit (.int .i64 (i : Int)), .any, .any, .any, .any, .any, .any, .any, .any, .any, .any, .any, .any, .any, .any, .any, .any, .any, .any], [.dead, .dead, .res (mapR (crossI S0 q i) m), .res (boxR g3 [.lit (.map (some m))]), .dead, .box (encIns q.1)]⟩) (fun i => i ≤ q.2.length) (fun i => q.2.length - i) 0 (Nat.zero_le _) (by rw [crossI_zero]; exact le_T) ?_
      intro i hi
      dsimp only at hi ⊢
      refine Awp.seq fun K13 h13 => ?_
      (refine Awp.region ?_; (repeat (first | refine sQ (hq := Quiet.pickOr rfl rfl rfl rfl) (hk := ?_) | refine sQ (hq := Quiet.pickAnd rfl rfl rfl rfl) (hk := ?_) | refine sQ (hk := ?_) | refine sSkip (hk := ?_) | refine sG (hk := ?_) | refine sOwn (hk := ?_))); refine aSeq_nil ?_)
      refine h13 _ ?_
      refine nT (hk := ?_)
      refine Awp.seq fun K14 h14 => ?_
      refine Awp.cond rfl (fun hb15 => ?_) (fun hb15 => ?_)
      · have hlt : i < q.2.length := by simpa using hb15
        obtain ⟨r, hr⟩ : ∃ r, q.2[i]? = some r := ⟨_, List.getElem?_eq_getElem hlt⟩
        have hrw := hRR.wf r (hqr r (List.mem_of_getElem? hr))
        refine Awp.skip ?_
        refine h14 _ ?_
        refine nT (hk := ?_)
        refine Awp.seq fun K16 h16 => ?_
        refine Awp.block ?_
        refine Awp.seq fun K17 h17 => ?_
        (refine Awp.region ?_; (repeat (first | refine sQ (hq := Quiet.pickOr rfl rfl rfl rfl) (hk := ?_) | refine sQ (hq := Quiet.pickAnd rfl rfl rfl rfl) (hk := ?_) | refine sQ (hk := ?_) | refine sSkip (hk := ?_) | refine sG (hk := ?_) | refine sOwn (hk := ?_))); refine aSeq_nil ?_)
        refine h17 _ ?_
        refine nT (hk := ?_)
        refine Awp.seq fun K18 h18 => ?_
        (refine Awp.region ?_; (repeat (first | refine sQ (hq := Quiet.pickOr rfl rfl rfl rfl) (hk := ?_) | refine sQ (hq := Quiet.pickAnd rfl rfl rfl rfl) (hk := ?_) | refine sQ (hk := ?_) | refine sSkip (hk := ?_) | refine sG (hk := ?_) | refine sOwn (hk := ?_))); refine aSeq_nil ?_)
        refine h18 _ ?_
        refine nT (hk := ?_)
        refine Awp.cond rfl (fun hb19 => ?_) (fun hb19 => ?_)
        · have e2 := crossI_yes (S := S0) hr hb19
          (refine Awp.region ?_; (repeat (first | refine sQ (hq := Quiet.pickOr rfl rfl rfl rfl) (hk := ?_) | refine sQ (hq := Quiet.pickAnd rfl rfl rfl rfl) (hk := ?_) | refine sQ (hk := ?_) | refine sSkip (hk := ?_) | refine sG (hk := ?_) | refine sOwn (hk := ?_))))
          refine aSeq_t rfl (AOp.putM 2 rfl Tryd.underlying61 rfl rfl rfl rfl hRR (hqi i) hrw ?_)
          refine sNt (hk := ?_)
          refine aSeq_nil ?_
          refine h16 _ ?_
          refine nT (hk := ?_)
          (refine Awp.region ?_; (repeat (first | refine sQ (hq := Quiet.pickOr rfl rfl rfl rfl) (hk := ?_) | refine sQ (hq := Quiet.pickAnd rfl rfl rfl rfl) (hk := ?_) | refine sQ (hk := ?_) | refine sSkip (hk := ?_) | refine sG (hk := ?_) | refine sOwn (hk := ?_))); refine aSeq_nil ?_)
          refine athen_n ⟨i + 1, by omega, by omega, ?_⟩
          rw [e2]
          exact le_T
        · have e2 := crossI_no (S := S0) hr hb19
          refine Awp.skip ?_
          refine h16 _ ?_
          refine nT (hk := ?_)
          (refine Awp.region ?_; (repeat (first | refine sQ (hq := Quiet.pickOr rfl rfl rfl rfl) (hk := ?_) | refine sQ (hq := Quiet.pickAnd rfl rfl rfl rfl) (hk := ?_) | refine sQ (hk := ?_) | refine sSkip (hk := ?_) | refine sG (hk := ?_) | refine sOwn (hk := ?_))); refine aSeq_nil ?_)
          refine athen_n ⟨i + 1, by omega, by omega, ?_⟩
          rw [e2]
          exact le_T
      · have hie : i = q.2.length := by have : ¬ i < q.2.length := by simpa using hb15
                                        omega
        subst hie
        have e3 : crossI S0 q q.2.length = crossK f (k + 1) := by rw [hcs, e]; unfold crossI; rw [List.take_length]
        rw [e3]
        refine Awp.exit ?_
        exact ⟨rfl, ⟨.cons (.cons (.cons (.cons (.cons (Cut.nil _))))), fun b hb => List.all_eq_true.1 (show bdH [.dead, .dead, .res (mapR (crossK f (k + 1)) m), .res (boxR g3 [.lit (.map (some m))]), .dead] = true from rfl) b hb⟩⟩
  case hdone =>
    intro D
    refine h3 _ ?_
    refine Awp.nt2 (t' := [.agg (encFunc f), .any, .any, .lit (.pointer (some ⟨g3, 0, none⟩)), .any, .any, .any, .any, .any, .any, .lit (stF p), .any, .any, .any, .any, .any, .any, .any, .any, .any, .any, .any, .any, .any, .any, .any, .any, .any, .any, .any, .any, .any, .any, .any, .any, .any, .any, .any, .any, .any, .any, .any]) (h' := [.res (marksR [D]), .dead, .res (mapR (crossK f (stepsL f).length) m), .res (boxR g3 [.lit (.map (some m))]), .dead]) rfl rfl ?_
    refine Awp.seq fun K20 h20 => ?_
    (refine Awp.region ?_; (repeat (first | refine sQ (hq := Quiet.pickOr rfl rfl rfl rfl) (hk := ?_) | refine sQ (hq := Quiet.pickAnd rfl rfl rfl rfl) (hk := ?_) | refine sQ (hk := ?_) | refine sSkip (hk := ?_) | refine sG (hk := ?_) | refine sOwn (hk := ?_))))
    refine aSeq_t rfl (AOp.callNew rfl (keysI_new m) (fun _ => rfl) rfl rfl fun p2 => ?_)
    refine sNt (hk := ?_)
    (repeat (first | refine sQ (hq := Quiet.callR2 5 2 rfl rfl rfl (sortedI_fn p2 m _ _ hRR (crossK_in f _)) rfl rfl rfl) (hk := ?_) | refine sQ (hq := Quiet.pickOr rfl rfl rfl rfl) (hk := ?_) | refine sQ (hq := Quiet.pickAnd rfl rfl rfl rfl) (hk := ?_) | refine sQ (hk := ?_) | refine sSkip (hk := ?_) | refine sG (hg := by first | rfl | exact gA_c rfl rfl) (hq := by (intro hg; (try simp only [Bool.and_eq_true, beq_iff_eq] at hg); (try simp only [hg, cond_true, Bool.true_and, beq_self_eq_true]); exact Quiet.callR2 5 2 rfl rfl rfl (sortedI_fn p2 m _ _ hRR (crossK_in f _)) rfl rfl rfl)) (hk := ?_) | refine sG (hk := ?_) | refine sOwn (hk := ?_)))
    refine aSeq_nil ?_
    refine h20 _ ?_
    refine nT (hk := ?_)
    refine Awp.ret ?_
    exact ⟨.inr rfl, [D], rfl, rfl, Fin.cl rfl⟩
end Mu
end
section
/-
  The shelf's contracts at this dump, in plain words: small numbers' digits, the search in a rising row.
  Conditions: as each says.
-/
namespace Go.Proofs
open Go.Shelf
def Tryd.lays171_ren : Go.Shelf.Ren := ⟨fun | 171 => 29 | 243 => 46 | 246 => 72 | 283 => 89 | 284 => 90 | 285 => 91 | 286 => 92 | 129 => 66 | 317 => 98 | 318 => 99 | 319 => 100 | 320 => 101 | 337 => 104 | 338 => 105 | n => n, fun | 3 => 3 | 9 => 9 | 2 => 2 | 4 => 4 | 171 => 128 | 0 => 0 | 53 => 103 | 37 => 130 | 5 => 5 | 173 => 131 | 212 => 142 | 51 => 48 | 20 => 20 | 213 => 143 | 46 => 79 | 232 => 145 | 233 => 146 | n => n, fun | 17 => 0 | 18 => 1 | 19 => 2 | n => n⟩
theorem Tryd.lays171 : Go.Proofs.Lays.n171 Tryd.prog Tryd.lays171_ren := {
  mixed := by kernel_rfl
  f129 := Tryd.func66.trans (congrArg some (by kernel_rfl))
  f171 := Tryd.func29.trans (congrArg some (by kernel_rfl))
  f243 := Tryd.func46.trans (congrArg some (by kernel_rfl))
  f246 := Tryd.func72.trans (congrArg some (by kernel_rfl))
  f283 := Tryd.func89.trans (congrArg some (by kernel_rfl))
  f284 := Tryd.func90.trans (congrArg some (by kernel_rfl))
  f285 := Tryd.func91.trans (congrArg some (by kernel_rfl))
  f286 := Tryd.func92.trans (congrArg some (by kernel_rfl))
  f317 := Tryd.func98.trans (congrArg some (by kernel_rfl))
  f318 := Tryd.func99.trans (congrArg some (by kernel_rfl))
  f319 := Tryd.func100.trans (congrArg some (by kernel_rfl))
  f320 := Tryd.func101.trans (congrArg some (by kernel_rfl))
  f337 := Tryd.func104.trans (congrArg some (by kernel_rfl))
  f338 := Tryd.func105.trans (congrArg some (by kernel_rfl))
  t0 := Tryd.underlying0
  a0 := Tryd.isAgg0
  z0 := Tryd.sizeOf0
  v0 := Tryd.zeroValue0
  t2 := Tryd.underlying2
  a2 := Tryd.isAgg2
  z2 := Tryd.sizeOf2
  v2 := Tryd.zeroValue2
  t3 := Tryd.underlying3
  a3 := Tryd.isAgg3
  z3 := Tryd.sizeOf3
  v3 := Tryd.zeroValue3
  t4 := Tryd.underlying4
  a4 := Tryd.isAgg4
  z4 := Tryd.sizeOf4
  v4 := Tryd.zeroValue4
  t5 := Tryd.underlying5
  a5 := Tryd.isAgg5
  z5 := Tryd.sizeOf5
  v5 := Tryd.zeroValue5
  t9 := Tryd.underlying9
  a9 := Tryd.isAgg9
  z9 := Tryd.sizeOf9
  v9 := Tryd.zeroValue9
  t20 := Tryd.underlying20
  a20 := Tryd.isAgg20
  z20 := Tryd.sizeOf20
  v20 := Tryd.zeroValue20
  t37 := Tryd.underlying130
  a37 := Tryd.isAgg130
  z37 := Tryd.sizeOf130
  v37 := Tryd.zeroValue130
  t46 := Tryd.underlying79
  a46 := Tryd.isAgg79
  z46 := Tryd.sizeOf79
  v46 := Tryd.zeroValue79
  t51 := Tryd.underlying48
  a51 := Tryd.isAgg48
  z51 := Tryd.sizeOf48
  v51 := Tryd.zeroValue48
  t53 := Tryd.underlying103
  a53 := Tryd.isAgg103
  z53 := Tryd.sizeOf103
  v53 := Tryd.zeroValue103
  t171 := Tryd.underlying128
  a171 := Tryd.isAgg128
  z171 := Tryd.sizeOf128
  v171 := Tryd.zeroValue128
  t173 := Tryd.underlying131
  a173 := Tryd.isAgg131
  z173 := Tryd.sizeOf131
  v173 := Tryd.zeroValue131
  t212 := Tryd.underlying142
  a212 := Tryd.isAgg142
  z212 := Tryd.sizeOf142
  v212 := Tryd.zeroValue142
  t213 := Tryd.underlying143
  a213 := Tryd.isAgg143
  z213 := Tryd.sizeOf143
  t232 := Tryd.underlying145
  a232 := Tryd.isAgg145
  z232 := Tryd.sizeOf145
  v232 := Tryd.zeroValue145
  t233 := Tryd.underlying146
  a233 := Tryd.isAgg146
  z233 := Tryd.sizeOf146
  v233 := Tryd.zeroValue146
  g17 := by kernel_rfl
  g18 := by kernel_rfl
  g19 := by kernel_rfl }
open Go.RowKit Go.Sort Go.Lib in
/-- THE ROAD WITHOUT THE TABLE: 0 <= i < 100: NO PREMISE ON THE WORLD, AND THE WORLD IS AS IT WAS: a row that keeps its argument in that range need list no table ('laid = []'). (LAID: no walk: one application.) -/
theorem Tryd.strconv_Itoa_small (i : Nat) (hi : i < 100) (w : World) :
    Calls Tryd.prog 29 #[.int .i64 i] w fun e w' => e = .returned (.string ⟨(Lib.decDigits i).toArray⟩) ∧ w' = w := Any.strconv_Itoa_small Tryd.lays171 i hi w
def Tryd.laysNm225_ren : Go.Shelf.Ren := ⟨fun | 25 => 45 | 31 => 62 | 32 => 71 | 37 => 82 | n => n, fun | 22 => 27 | 3 => 3 | 4 => 4 | 40 => 79 | 0 => 0 | n => n, fun | n => n⟩
theorem Tryd.laysNm225 : Go.Proofs.Lays2.n25 Tryd.prog Tryd.laysNm225_ren := {
  mixed := by kernel_rfl
  f25 := Tryd.func45.trans (congrArg some (by kernel_rfl))
  f31 := Tryd.func62.trans (congrArg some (by kernel_rfl))
  f32 := Tryd.func71.trans (congrArg some (by kernel_rfl))
  f37 := Tryd.func82.trans (congrArg some (by kernel_rfl))
  t0 := Tryd.underlying0
  a0 := Tryd.isAgg0
  z0 := Tryd.sizeOf0
  v0 := Tryd.zeroValue0
  t3 := Tryd.underlying3
  a3 := Tryd.isAgg3
  z3 := Tryd.sizeOf3
  v3 := Tryd.zeroValue3
  t4 := Tryd.underlying4
  a4 := Tryd.isAgg4
  z4 := Tryd.sizeOf4
  v4 := Tryd.zeroValue4
  t22 := Tryd.underlying27
  a22 := Tryd.isAgg27
  z22 := Tryd.sizeOf27
  v22 := Tryd.zeroValue27
  t40 := Tryd.underlying79
  a40 := Tryd.isAgg79
  z40 := Tryd.sizeOf79
  v40 := Tryd.zeroValue79 }
open Go.RowKit Go.Lib in
/-- slices.BinarySearch at []int: "BinarySearch searches for target in a sorted slice and returns the earliest position where target is found, or the position where target would appear in the sort order; it also returns a bool saying whether the target is really found in the slice. The slice must be sorted in increasing order.": OF A SORTED SLICE IT RETURNS how many elements are less than the target, and whether the target is among the elements; the world is as it was but for the count of draws. 'zs': what the cells behind the slice's address hold; 'zs.take n': its elements. (Of a slice that is not sorted: no contract here.) (LAID: no walk: one application.) -/
theorem Tryd.slices_BinarySearch_int (b off n c : Nat) (zs : List Int) (x : Int) (w : World) (hz : n ≤ zs.length) (hbig : n < 4611686018427387904) (hc : ∀ j, j < zs.length → w.cell? ⟨b, off + j, none⟩ = some (.int .i64 (zs.getD j 0))) (hs : (zs.take n).Pairwise (· ≤ ·)) :
    Calls Tryd.prog 45 #[.slice (some ⟨b, off, none⟩) n c, .int .i64 x] w fun e w' => e = .returned (.tuple #[.int .i64 ((zs.take n).countP (· < x) : Nat), .bool ((zs.take n).contains x)]) ∧ ∃ q, w' = w.drewN q := Any.slices_BinarySearch_int Tryd.laysNm225 b off n c zs x w hz hbig hc hs
open Go.RowKit Go.Lib in
/-- slices.BinarySearch at []int of no element: position 0, not found; the world is as it was. (LAID: no walk: one application.) -/
theorem Tryd.slices_BinarySearch_int_empty (a : Option Addr) (c : Nat) (x : Int) (w : World) :
    Calls Tryd.prog 45 #[.slice a 0 c, .int .i64 x] w fun e w' => e = .returned (.tuple #[.int .i64 0, .bool false]) ∧ w' = w := Any.slices_BinarySearch_int_empty Tryd.laysNm225 a c x w
end Go.Proofs
end
section
/-
  muntinlaw17: example, head, walked, by the contracts of package live.
  Conditions: none.
-/
namespace Mu
open Go Go.RowKit Go.Proofs

def noName : ByteArray := ⟨#[]⟩
def exI0 : Ins := ⟨0, 0, 0, 0, 3, 0, [], 0, 0⟩
def exI1 : Ins := ⟨8, 0, 0, 0, 0, 0, [], 1, 0⟩
def exI2 : Ins := ⟨1, 1, 0, 0, 0, 0, [], 0, 0⟩
def exI3 : Ins := ⟨9, 0, 1, 0, 0, 0, [], 1, 2⟩
def exI4 : Ins := ⟨10, 0, 0, 0, 0, 0, [], 0, 0⟩
def exB0 : Block := ⟨noName, [exI0, exI1]⟩
def exB1 : Block := ⟨noName, [exI2, exI3]⟩
def exB2 : Block := ⟨noName, [exI4]⟩
def exF : Func := ⟨noName, 0, 2, [exB0, exB1, exB2]⟩
theorem okI_dec (x : Ins) (h : ((Lit.int .u8 x.op).wf && (Lit.int .i64 x.d).wf && (Lit.int .i64 x.a).wf && (Lit.int .i64 x.b).wf && (Lit.int .u32 x.n).wf && (Lit.int .i64 x.f).wf && (Lit.int .i64 x.l1).wf && (Lit.int .i64 x.l2).wf && x.args.isEmpty) = true) : okIns x := by
  simp only [Bool.and_eq_true] at h
  obtain ⟨⟨⟨⟨⟨⟨⟨⟨h1, h2⟩, h3⟩, h4⟩, h5⟩, h6⟩, h7⟩, h8⟩, h9⟩ := h
  exact ⟨h1, h2, h3, h4, h5, h6, h7, h8, fun y hy => by rw [List.isEmpty_iff.1 h9] at hy; cases hy⟩
theorem ok0 : okIns exI0 := okI_dec _ (by decide)
theorem ok1 : okIns exI1 := okI_dec _ (by decide)
theorem ok2 : okIns exI2 := okI_dec _ (by decide)
theorem ok3 : okIns exI3 := okI_dec _ (by decide)
theorem ok4 : okIns exI4 := okI_dec _ (by decide)
theorem noName_ok : noName.size ≤ maxLen := by decide
theorem okB0 : okBlock exB0 := ⟨noName_ok, fun x hx => by
  simp only [exB0, List.mem_cons, List.not_mem_nil, or_false] at hx
  rcases hx with rfl | rfl
  · exact ok0
  · exact ok1⟩
theorem okB1 : okBlock exB1 := ⟨noName_ok, fun x hx => by
  simp only [exB1, List.mem_cons, List.not_mem_nil, or_false] at hx
  rcases hx with rfl | rfl
  · exact ok2
  · exact ok3⟩
theorem okB2 : okBlock exB2 := ⟨noName_ok, fun x hx => by
  simp only [exB2, List.mem_cons, List.not_mem_nil, or_false] at hx
  subst hx
  exact ok4⟩
theorem okF : okFunc exF := ⟨noName_ok, (by decide : (Lit.int .i64 (0 : Int)).wf = true), (by decide : (Lit.int .i64 (2 : Int)).wf = true), fun x hx => by
  simp only [exF, List.mem_cons, List.not_mem_nil, or_false] at hx
  rcases hx with rfl | rfl | rfl
  · exact okB0
  · exact okB1
  · exact okB2⟩
theorem smF : smallF exF := ⟨by decide, fun x hx => by
  simp only [exF, List.mem_cons, List.not_mem_nil, or_false] at hx
  rcases hx with rfl | rfl | rfl
  · exact ⟨by decide, fun y hy => by simp only [exB0, List.mem_cons, List.not_mem_nil, or_false] at hy; rcases hy with rfl | rfl <;> decide⟩
  · exact ⟨by decide, fun y hy => by simp only [exB1, List.mem_cons, List.not_mem_nil, or_false] at hy; rcases hy with rfl | rfl <;> decide⟩
  · exact ⟨by decide, fun y hy => by simp only [exB2, List.mem_cons, List.not_mem_nil, or_false] at hy; subst hy; decide⟩⟩

section
variable {P : Program} {C : Ctx} {t : List AV} {h : List ABlk} {o : Oper}
theorem Quiet.bld {ty : TypeId} {parts : Array (Nat × Operand)} {zs : List Value} {pl : List (Nat × Nat)} {rs : List AV} [ZC P ty zs] (ho : o.op = .build ty parts) (hpl : places? P ty = some pl)
    (hr : putCells pl (zs.map .lit) (parts.toList.map fun p => (p.1, evA t p.2)) = some rs) (h1 : (parts.toList.all fun p => litBs (evA t p.2)) = true) : Quiet P C t h o (.agg rs) :=
  Quiet.build ho ZC.eq hpl hr fun p hp => One.litBs (List.all_eq_true.1 h1 p hp)
theorem Fit.agg {α : Type} {T : Ty α} {enc : α → List AV} {x : α} (hp : ∀ w S cs ψ, AV.relL w S h ψ (enc x) cs → T.RS w S cs x) : Fit h T (.agg (enc x)) x := fun C S ψ w v H hv => by
  unfold AV.rel at hv
  obtain ⟨cs, rfl, hl⟩ := hv
  exact hp w S cs ψ hl
end
def encIns0 (x : Ins) : List AV := [.lit (.int .u8 x.op), .lit (.int .i64 x.d), .lit (.int .i64 x.a), .lit (.int .i64 x.b), .lit (.int .u32 x.n), .lit (.int .i64 x.f), .lit (.slice none 0 0), .lit (.int .i64 x.l1), .lit (.int .i64 x.l2)]
theorem put_ins0 {w : World} {S : Nat → Prop} {cs : List Value} {h : List ABlk} {ψ : Nat → Value} {x : Ins} (ho : okIns x) (ha : x.args = []) (H : AV.relL w S h ψ (encIns0 x) cs) : tIns.RS w S cs x := by
  refine put_ins (h := h) (ψ := ψ) ho ?_
  simp only [encIns0, encIns, AV.relL, AV.rel] at H ⊢
  obtain ⟨_, _, rfl, rfl, _, _, rfl, rfl, _, _, rfl, rfl, _, _, rfl, rfl, _, _, rfl, rfl, _, _, rfl, rfl, _, _, rfl, rfl, _, _, rfl, rfl, _, _, rfl, rfl, rfl⟩ := H
  rw [ha]
  exact ⟨_, _, rfl, rfl, _, _, rfl, rfl, _, _, rfl, rfl, _, _, rfl, rfl, _, _, rfl, rfl, _, _, rfl, rfl, _, _, rfl, tInt.slice_nilS _ _, _, _, rfl, rfl, _, _, rfl, rfl, rfl⟩
theorem plIns : places? Tryd.prog 50 = some [(0, 1), (1, 1), (2, 1), (3, 1), (4, 1), (5, 1), (6, 1), (7, 1), (8, 1)] := by kernel_rfl
theorem plBlock : places? Tryd.prog 47 = some [(0, 1), (1, 1)] := by kernel_rfl
theorem plFunc : places? Tryd.prog 24 = some [(0, 1), (1, 1), (2, 1), (3, 1)] := by kernel_rfl

end Mu
end
section
/-
  Hints as data; own rows that are sorted and compacted; a nil row as an empty one.
  Conditions: none; the types' numbers are this translation's.
-/
namespace Mu
open Go Go.RowKit Go.Proofs Go.Shelf

structure Hint where
  r : Int
  at_ : Int
def tHint : Ty Hint := (tInt.cons (tInt.cons Ty.none_)).via (fun x => ⟨x.1, x.2.1⟩) (fun h => (h.r, h.at_, ()))
theorem tHint_R {w : World} {S : Nat → Prop} {cs : List Value} {x : Hint} : tHint.RS w S cs x ↔ cs = [.int .i64 x.r, .int .i64 x.at_] ∧ wfI .i64 x.r ∧ wfI .i64 x.at_ := by
  constructor
  · rintro ⟨⟨_, _, rfl, ⟨rfl, h0⟩, _, _, rfl, ⟨rfl, h1⟩, rfl⟩, _⟩
    exact ⟨rfl, h0, h1⟩
  · rintro ⟨rfl, h0, h1⟩
    exact ⟨⟨[_], _, rfl, ⟨rfl, h0⟩, [_], _, rfl, ⟨rfl, h1⟩, rfl⟩, rfl⟩
def encHint (x : Hint) : List AV := [.lit (.int .i64 x.r), .lit (.int .i64 x.at_)]
theorem enc_hint : Enc tHint encHint := by
  intro w S h ψ cs d H
  obtain ⟨rfl, _, _⟩ := tHint_R.1 H
  simp only [encHint, AV.relL, AV.rel]
  exact ⟨_, _, rfl, rfl, _, _, rfl, rfl, rfl⟩
theorem one1_hint : One1 tHint := one1_of_enc enc_hint fun d x hx => by
  simp only [encHint, List.mem_cons, List.not_mem_nil, or_false] at hx
  rcases hx with rfl | rfl <;> exact .inl ⟨_, rfl, rfl⟩
instance inMuHint1 : EncOf tHint encHint := ⟨enc_hint, one1_hint, by decide⟩
theorem put_hint {w : World} {S : Nat → Prop} {cs : List Value} {h : List ABlk} {ψ : Nat → Value} {x : Hint} (h0 : wfI .i64 x.r) (h1 : wfI .i64 x.at_) (H : AV.relL w S h ψ (encHint x) cs) : tHint.RS w S cs x := by
  simp only [encHint, AV.relL, AV.rel] at H
  obtain ⟨_, _, rfl, rfl, _, _, rfl, rfl, rfl⟩ := H
  exact tHint_R.2 ⟨rfl, h0, h1⟩
theorem fit_hint {h : List ABlk} {r a : Int} (h0 : wfI .i64 r) (h1 : wfI .i64 a) : Fit h tHint (.agg [.lit (.int .i64 r), .lit (.int .i64 a)]) ⟨r, a⟩ := Fit.agg (enc := encHint) (x := ⟨r, a⟩) fun _ _ _ _ H => put_hint h0 h1 H
instance inMuHint2 : AG Tryd.prog 34 true 2 := ⟨by kernel_rfl⟩
instance inMuHint3 : SZ Tryd.prog 34 2 := ⟨by kernel_rfl⟩
instance inMuHint4 : AG Tryd.prog 29 false 1 := ⟨by kernel_rfl⟩
instance inMuHint5 : SZ Tryd.prog 29 1 := ⟨by kernel_rfl⟩
instance inMuHint6 : ES Tryd.prog 29 2 := ⟨by kernel_rfl⟩
instance inMuHint7 : SL Tryd.prog 29 := ⟨by kernel_rfl⟩
instance inMuHint8 : RT Tryd.prog 29 34 2 16 := ⟨by kernel_rfl⟩
instance inMuHint9 : FO Tryd.prog 34 0 0 := ⟨by kernel_rfl⟩
instance inMuHint10 : FO Tryd.prog 34 1 1 := ⟨by kernel_rfl⟩
instance inMuHint11 : ZC Tryd.prog 34 [.int .i64 0, .int .i64 0] := ⟨by kernel_rfl⟩
instance inMuHint12 : TyOf Tryd.prog 34 _ tHint := ⟨trivial⟩
instance inMuHint13 : TyOf Tryd.prog 29 _ tHint.slice := ⟨trivial⟩
theorem plHint : places? Tryd.prog 34 = some [(0, 1), (1, 1)] := by kernel_rfl

/-! ### own rows of integers, sorted and compacted -/
section
variable {N S : Nat → Prop} {w : World} {h : List ABlk} {ψ : Nat → Value} {v : Value} {ver : Nat} {l : List Int}
theorem row_ownI (H : BRel N w S h ψ v (.row ver 3 tInt l)) : OwnI w 0 v l ∧ okInts l := by
  obtain ⟨cells, h1, _, h2, _⟩ := H
  have hl : cells.length = l.length := by have := h1.1; rw [show tInt.size = 1 from rfl, Nat.mul_one] at this; exact this
  have hget : ∀ i d, l[i]? = some d → cells[i]? = some (Value.int .i64 d) ∧ wfI .i64 d := fun i d hd => by
    obtain ⟨e, hw⟩ := tInt_R.1 (h2 i d hd)
    rw [show tInt.size = 1 from rfl, Nat.mul_one, List.take_one, List.head?_drop] at e
    cases hc : cells[i]? with
    | none => rw [hc] at e; cases e
    | some c =>
      rw [hc] at e
      simp only [Option.toList_some, List.cons.injEq, and_true] at e
      exact ⟨by rw [e], hw⟩
  have hc : cells = l.map (Value.int .i64) := by
    apply List.ext_getElem?
    intro i
    by_cases hi : i < l.length
    · rw [List.getElem?_map, List.getElem?_eq_getElem hi]
      exact (hget i _ (List.getElem?_eq_getElem hi)).1
    · rw [List.getElem?_eq_none (by omega), List.getElem?_eq_none (by simp; omega)]
  refine ⟨.of h1 rfl hc, fun r hr => ?_⟩
  obtain ⟨i, hi⟩ := List.mem_iff_getElem?.1 hr
  exact (hget i r hi).2
theorem ownI_row {base : Nat} (hO : OwnI w base v l) (hw : okInts l) (hN : ∀ g, v.ownBlock = some g → ¬ N g ∧ ¬ S g) : BRel N w S h ψ v (.row ver 3 tInt l) := by
  refine ⟨_, hO.mono (Nat.zero_le _), by decide, fun i d hd => ?_, hN⟩
  show tInt.RS w S (((l.map (Value.int .i64)).drop (i * 1)).take 1) d
  have hi : (l.map (Value.int .i64))[i]? = some (.int .i64 d) := by rw [List.getElem?_map, hd]; rfl
  rw [Nat.mul_one, List.take_one, List.head?_drop, hi]
  exact tInt_R.2 ⟨rfl, hw d (List.mem_of_getElem? hd)⟩
end
theorem okInts_sort {l : List Int} (h : okInts l) : okInts (l.mergeSort fun x y => decide (x ≤ y)) := fun r hr => h r ((List.mergeSort_perm l _).mem_iff.1 hr)
section
variable {C : Ctx} {t : List AV} {h : List ABlk} {o : Oper} {K : St → Prop}
theorem AOp.sortRow {x : Operand} {tys : Array TypeId} {i ver : Nat} {l : List Int} (ho : o.op = .call { callee := .value (.func 23), args := #[x], argTypes := tys }) (hx : evA t x = .own i ver) (hi : h[i]? = some (.row ver 3 tInt l)) (hl : l.length ≤ 2147483648)
    (hK : K ⟨putA t o.dst .any, h.set i (.row ver 3 tInt (l.mergeSort fun x y => decide (x ≤ y)))⟩) : AOp Tryd.prog C o ⟨t, h⟩ K := by
  rintro Q' a w ⟨hd, S, ψ, H, hl'⟩
  refine ⟨fun c e => (by rw [ho] at e; cases e), ?_⟩
  have hx' := ev_rel hl' x
  rw [show evA (St.mk t h).t x = .own i ver from hx] at hx'
  unfold AV.rel at hx'
  have hv := (hx'.2 _ (by rw [hi]; rfl)).2 rfl
  have hBi := H.blk i _ hi
  have hlt := hBi.lt rfl
  obtain ⟨hO, hw⟩ := row_ownI hBi
  unfold Oper.wp
  rw [run_call ho (by kernel_rfl) a.eval w rfl]
  simp only [Oper.upon]
  rw [show (#[x].map a.eval) = #[ψ i] from by simp [hv]]
  refine (sort_own hO hl).mono ?_
  rintro r w' ⟨rfl, hO', hgr⟩
  have hgr' : w.grownBy w' (blkOf (ψ i)) := by
    have e : blkOf (ψ i) = (ψ i).ownBlock := by
      rcases hO.2 with ⟨e, _⟩ | ⟨g, cap, cur, e, _⟩ <;> rw [e] <;> rfl
    rw [e]; exact hgr
  have hblk : ∀ k, S k → w'.heap[k]? = w.heap[k]? := fun k hk => hgr'.block k (H.lt k hk) fun e => (hlt k e.symm).2.2 hk
  have X : Ext w S h ψ w' S (h.set i (.row ver 3 tInt (l.mergeSort fun x y => decide (x ≤ y)))) (ψset ψ i (ψ i)) := Ext.set hblk hi (fun c' hc => by
    simp only [ABlk.ver, Option.some.injEq] at hc
    exact ⟨ver, rfl, by omega, fun _ => ⟨rfl, rfl⟩⟩) fun h => by simp [ABlk.isBox] at h
  exact ⟨_, hK, st_set (s := ⟨t, h⟩) hi hd hl' (H.set hi rfl (Gr.of_grownBy hgr') X (ownI_row hO' (okInts_sort hw) fun g hg => ⟨(hlt g (ownBlock_blkOf hg)).1, (hlt g (ownBlock_blkOf hg)).2.2⟩) fun g hg => .inl hg) X (by unfold AV.rel; trivial)⟩
end
theorem compact_len (l : List Int) : (Lib.compact l).length ≤ l.length := by
  unfold Lib.compact Lib.compactUpTo
  rw [List.length_map]
  exact Nat.le_trans (List.length_filter_le _ _) (by simp)
theorem compact_row {l : List Int} (hl : l.length ≤ 2147483648) (hw : okInts (Lib.compact l)) : FnRow Tryd.prog 24 3 tInt l (Lib.compact l) := by
  refine ⟨by kernel_rfl, fun N S w v hN hS hB => ?_⟩
  obtain ⟨hO, _⟩ := row_ownI hB
  have hlt := hB.lt rfl
  have e : blkOf v = v.ownBlock := by
    rcases hO.2 with ⟨e, _⟩ | ⟨g, cap, cur, e, _⟩ <;> rw [e] <;> rfl
  refine (compact_own hO hl).mono ?_
  rintro r w' ⟨v', rfl, hO', hgr, he⟩
  have e' : blkOf v' = v'.ownBlock := by
    rcases hO'.2 with ⟨e, _⟩ | ⟨g, cap, cur, e, _⟩ <;> rw [e] <;> rfl
  refine ⟨v', rfl, by rw [e]; exact hgr, ownI_row hO' hw fun g hg => ?_, fun g hg => .inl (by rw [e, ← he, ← e']; exact hg)⟩
  have := hlt g (show blkOf v = some g by rw [e, ← he]; exact hg)
  exact ⟨this.1, this.2.2⟩
/-- a nil row in a slot is an empty one -/
theorem St.le_nilbs {C : Ctx} {t : List AV} {h : List ABlk} (j : Nat) {α : Type} (T : Ty α) (hj : t[j]? = some (.lit (.slice none 0 0))) : St.le C ⟨t, h⟩ ⟨t.set j (.bs T []), h⟩ := fun a w ⟨hd, S, ψ, H, hl⟩ => by
  refine ⟨hd, S, ψ, H, ?_⟩
  obtain ⟨v, hv, hr⟩ := relL_get hl hj
  unfold AV.rel at hr
  subst hr
  have := relL_set hl j (x := .bs T []) (v := .slice none 0 0) (by unfold AV.rel; exact T.slice_nilS _ _)
  rwa [show a.tmps.toList.set j (.slice none 0 0) = a.tmps.toList from List.ext_getElem? fun k => by
    by_cases hk : j = k
    · subst hk
      rw [List.getElem?_set_self (List.getElem?_eq_some_iff.1 hv).1, hv]
    · rw [List.getElem?_set_ne hk]] at this
end Mu
end
section
/-
  Arrays of elements of one cell: made of a literal; an element's address.
  Conditions: none; generic.
-/
namespace Mu
open Go Go.RowKit Go.ChangeShapes Go.WideShapes

section
variable {P : Program} {C : Ctx} {t : List AV} {h : List ABlk} {o : Oper}
def arrOf (P : Program) (ty : TypeId) : Option (Nat × Nat) :=
  match P.underlying ty with
  | some (.array n e) => (P.info? e).map fun i => (n, i.size)
  | _ => none
theorem run_indexAt_arr {ty : TypeId} {b off n sz k : Nat} {ik : IntKind} {w : World} (hs : arrOf P ty = some (n, sz)) (hk : k < n) : (Instr.indexAt ty (.pointer (some ⟨b, off, none⟩)) (.int ik (k : Int))).run P w = .ok (.pointer (some ⟨b, off + k * sz, none⟩)) w := by
  unfold arrOf at hs
  split at hs <;> try (cases hs; done)
  rename_i n' e h1
  cases h2 : P.info? e with
  | none => rw [h2] at hs; cases hs
  | some i =>
    rw [h2] at hs
    simp only [Option.map_some, Option.some.injEq, Prod.mk.injEq] at hs
    obtain ⟨rfl, rfl⟩ := hs
    have h3 : (0 : Int) ≤ (k : Int) ∧ (k : Int) < (n' : Int) := by omega
    simp [Instr.indexAt, asIntOf, underlying, h1, Instr.sureAddr, Go.sizeOf, typeInfo, h2, add_plain, hk]
theorem Quiet.ixArr {ty : TypeId} {x y : Operand} {ik : IntKind} {i off n k : Nat} {cells : List AV} (hs : arrOf P ty = some (n, 1)) (ho : o.op = .indexAddr ty x y) (hx : evA t x = .ptr i off) (hi : h[i]? = some (.box cells)) (hy : evA t y = .lit (.int ik (k : Int))) (hk : k < n) : Quiet P C t h o (.ptr i (off + k)) :=
  Quiet.of_run fun S ψ w ρ H hρ => by
    have h1 := hρ x (by simp [ho, Op.operands])
    have h2 := hρ y (by simp [ho, Op.operands])
    rw [hx] at h1
    rw [hy] at h2
    unfold AV.rel at h1 h2
    obtain ⟨g, h3, h4⟩ := h1.2 (by rw [hi]; rfl)
    have hr := run_indexAt_arr (P := P) (w := w) (b := g) (off := off) (ik := ik) hs hk
    refine ⟨.pointer (some ⟨g, off + k * 1, none⟩), by simp [execOp, ho, h4, h2, hr], ?_⟩
    unfold AV.rel
    exact ⟨h1.1, fun _ => ⟨g, h3, by rw [Nat.mul_one]⟩⟩
/-- cells with single cells put in -/
def putCellsA : List AV → List (Nat × AV) → Option (List AV)
  | cs, [] => some cs
  | cs, (j, x) :: ps => if j < cs.length then putCellsA (cs.set j x) ps else none
theorem fill_arr {w : World} {S : Nat → Prop} {h : List ABlk} {ψ : Nat → Value} : ∀ (ps : List (Nat × AV)) (cs rs : List AV) (vs : List (Nat × Value)) (us : List Value), putCellsA cs ps = some rs → AV.relL w S h ψ cs us →
    vs.map (·.1) = ps.map (·.1) → (∀ (j : Nat) (p : Nat × AV) (v : Nat × Value), ps[j]? = some p → vs[j]? = some v → AV.rel w S h ψ p.2 v.2 ∧ v.2.oneCell' = true) →
    ∃ us', Instr.fill (fun i => some (i * 1, 1)) us.toArray vs = some us'.toArray ∧ AV.relL w S h ψ rs us'
  | [], cs, rs, vs, us, hp, hr, hv, _ => by
    cases hp
    have : vs = [] := by simpa using hv
    subst this
    exact ⟨us, rfl, hr⟩
  | (j, x) :: ps, cs, rs, vs, us, hp, hr, hv, hrel => by
    cases vs with
    | nil => simp at hv
    | cons v vs =>
      simp only [List.map_cons, List.cons.injEq] at hv
      obtain ⟨hv1, hv2⟩ := hv
      unfold putCellsA at hp
      split at hp <;> try (cases hp; done)
      rename_i hoff
      obtain ⟨h1, h2⟩ := hrel 0 _ _ rfl rfl
      have hul := relL_len hr
      obtain ⟨us', h3, h4⟩ := fill_arr ps (cs.set j x) rs vs (us.set j v.2) hp (relL_set hr j h1) hv2 fun j p v hp hv => hrel (j + 1) p v (by simpa using hp) (by simpa using hv)
      refine ⟨us', ?_, h4⟩
      obtain ⟨i, v⟩ := v
      dsimp only at hv1 h1 h2 h3
      subst hv1
      unfold Instr.fill
      simp only [Nat.mul_one, cells_one h2]
      have hc : ¬ ((decide ((#[v] : Array Value).size ≠ 1) || decide (i + (#[v] : Array Value).size > us.toArray.size)) = true) := by
        simp
        omega
      rw [if_neg hc]
      simpa using h3
theorem Quiet.bldA {ty : TypeId} {parts : Array (Nat × Operand)} {zs : List Value} {n : Nat} {rs : List AV} (ho : o.op = .build ty parts) (hz : zeroCells? P ty = some zs) (hs : arrOf P ty = some (n, 1))
    (hr : putCellsA (zs.map .lit) (parts.toList.map fun p => (p.1, evA t p.2)) = some rs) (h1 : (parts.toList.all fun p => litBs (evA t p.2)) = true) : Quiet P C t h o (.agg rs) :=
  Quiet.of_run fun S ψ w ρ H hρ => by
    unfold zeroCells? at hz
    obtain ⟨z, hz1, rfl⟩ := Option.map_eq_some_iff.1 hz
    obtain ⟨i, hi, hz2⟩ := Option.bind_eq_some_iff.1 hz1
    unfold arrOf at hs
    split at hs <;> try (cases hs; done)
    rename_i n' e hu
    cases h2 : P.info? e with
    | none => rw [h2] at hs; cases hs
    | some ie =>
      rw [h2] at hs
      simp only [Option.map_some, Option.some.injEq, Prod.mk.injEq] at hs
      obtain ⟨rfl, he1⟩ := hs
      have hmem : ∀ p ∈ parts.toList, AV.rel w S h ψ (evA t p.2) (ρ p.2) := fun p hp => hρ p.2 (by rw [ho]; exact List.mem_toArray.2 (List.mem_map.2 ⟨p, hp, rfl⟩))
      obtain ⟨us', h3, h4⟩ := fill_arr (w := w) (S := S) (h := h) (ψ := ψ) _ _ rs (parts.toList.map fun p => (p.1, ρ p.2)) z.cells.toList hr (relL_lits _) (by simp) fun j p v hp hv => by
        rw [List.getElem?_map] at hp hv
        obtain ⟨q, hq, rfl⟩ := Option.map_eq_some_iff.1 hp
        rw [hq] at hv
        cases hv
        have hqm := List.mem_of_getElem? hq
        exact ⟨hmem q hqm, One.litBs (List.all_eq_true.1 h1 q hqm) C S ψ w _ H (hmem q hqm)⟩
      refine ⟨.agg us'.toArray, ?_, by unfold AV.rel; exact ⟨us', rfl, h4⟩⟩
      have hf : Instr.fill (fun i => some (i * 1, 1)) z.cells (parts.map fun p => (p.1, ρ p.2)).toList = some us'.toArray := by simpa using h3
      simp only [execOp, ho, Instr.build, zeroValue, typeInfo, underlying, Go.sizeOf, Sem.run_bind, run_program, Result.andThen_ok, hi, hz2, Sem.run_pure, hu, h2, he1, hf]
end
end Mu
end
section
/-
  muntinref14: Has, in, Ends, empty, walked.
  Conditions: none.
-/
namespace Mu
open Go Go.RowKit Go.Proofs

theorem rel_cons {w : World} {S : Nat → Prop} {h : List ABlk} {ψ : Nat → Value} {x : AV} {l : List AV} {vs : List Value} (H : AV.relL w S h ψ (x :: l) vs) : ∃ v us, vs = v :: us ∧ AV.rel w S h ψ x v ∧ AV.relL w S h ψ l us := by
  unfold AV.relL at H
  exact H
theorem has14_fn (op : Int) (h0 : 0 ≤ op) (h1 : op ≤ 255) : Fn Tryd.prog 53 [.lit (.int .u8 op)] (.lit (.string ⟨(hasS op).toArray⟩)) :=
  Fn.of_lit (by kernel_rfl) fun w vs hr => by
    obtain ⟨v, rfl, hv⟩ := arg1 hr
    obtain rfl := rel_lit hv
    exact ref_Has op w h0 h1
theorem in14_fn (s : ByteArray) (c : UInt8) (hs : s.size ≤ 65536) : Fn Tryd.prog 54 [.lit (.string s), .lit (.int .u8 (c.toNat : Int))] (.lit (.bool (hasC s c))) :=
  Fn.of_lit (by kernel_rfl) fun w vs hr => by
    obtain ⟨v, u, rfl, hv, hu⟩ := arg2 hr
    obtain rfl := rel_lit hv
    obtain rfl := rel_lit hu
    exact (ref_in14 s c w hs).mono fun e w' ⟨h1, h2⟩ => ⟨h1, by rw [← h2]; exact Below.refl _ _⟩
theorem hasS_small (op : Int) : (⟨(hasS op).toArray⟩ : ByteArray).size ≤ 65536 := by
  show (hasS op).toArray.size ≤ 65536
  unfold hasS
  repeat' split
  all_goals decide
def hasL (op : Int) (c : UInt8) : Bool := (hasS op).contains c
theorem in14_has (op : Int) (c : UInt8) (n : Int) (hn : (c.toNat : Int) = n) : Fn Tryd.prog 54 [.lit (.string ⟨(hasS op).toArray⟩), .lit (.int .u8 n)] (.lit (.bool (hasL op c))) := by
  have := in14_fn ⟨(hasS op).toArray⟩ c (hasS_small op)
  rw [hn] at this
  exact this

def endsB (x : Ins) : Bool := x.op == 8 || x.op == 9 || x.op == 10
set_option maxRecDepth 100000 in
set_option maxHeartbeats 1000000 in
theorem ends14_fn (x : Ins) : Fn Tryd.prog 49 [.agg (encIns x)] (.lit (.bool (endsB x))) := by
  refine Fn.of_awp Tryd.func49 rfl (by kernel_rfl) rfl Tryd.ntmps49 fun C hC => ?_
  simp only [List.length_cons, List.length_nil, Nat.reduceAdd, Nat.reduceSub, List.replicate_succ, List.replicate_zero, List.cons_append, List.nil_append]
  refine Awp.seq fun K1 h1 => ?_
  (refine Awp.region ?_; (repeat (first | refine sQ (hq := Quiet.pickOr rfl rfl rfl rfl) (hk := ?_) | refine sQ (hq := Quiet.pickAnd rfl rfl rfl rfl) (hk := ?_) | refine sQ (hk := ?_) | refine sSkip (hk := ?_) | refine sG (hk := ?_) | refine sOwn (hk := ?_))); refine aSeq_nil ?_)
  refine h1 _ ?_
  refine nT (hk := ?_)
  refine Awp.seq fun K2 h2 => ?_
  (refine Awp.region ?_; (repeat (first | refine sQ (hq := Quiet.pickOr rfl rfl rfl rfl) (hk := ?_) | refine sQ (hq := Quiet.pickAnd rfl rfl rfl rfl) (hk := ?_) | refine sQ (hk := ?_) | refine sSkip (hk := ?_) | refine sG (hk := ?_) | refine sOwn (hk := ?_))); refine aSeq_nil ?_)
  refine h2 _ ?_
  refine nT (hk := ?_)
  refine Awp.ret ?_
  exact ⟨.inr rfl, Fin.cl rfl⟩
def emptyB (x : Ins) : Bool := (hasL x.op 100 || x.d == 0) && (hasL x.op 97 || x.a == 0) && (hasL x.op 98 || x.b == 0) && (hasL x.op 110 || x.n == 0) && (hasL x.op 102 || x.f == 0) && (hasL x.op 120 || (x.args.length : Int) == 0) && (hasL x.op 108 || x.l1 == 0) && (hasL x.op 109 || x.l2 == 0)
set_option maxRecDepth 100000 in
set_option maxHeartbeats 1000000 in
theorem empty14_fn (x : Ins) (h0 : 0 ≤ x.op) (h1 : x.op ≤ 255) : Fn Tryd.prog 76 [.agg (encIns x)] (.lit (.bool (emptyB x))) := by
  have c1 := in14_has x.op 100 100 rfl
  have c2 := in14_has x.op 97 97 rfl
  have c3 := in14_has x.op 98 98 rfl
  have c4 := in14_has x.op 110 110 rfl
  have c5 := in14_has x.op 102 102 rfl
  have c6 := in14_has x.op 120 120 rfl
  have c7 := in14_has x.op 108 108 rfl
  have c8 := in14_has x.op 109 109 rfl
  have hh := has14_fn x.op h0 h1
  refine Fn.of_awp Tryd.func76 rfl (by kernel_rfl) rfl Tryd.ntmps76 fun C hC => ?_
  simp only [List.length_cons, List.length_nil, Nat.reduceAdd, Nat.reduceSub, List.replicate_succ, List.replicate_zero, List.cons_append, List.nil_append]
  refine Awp.seq fun K1 h1 => ?_
  (refine Awp.region ?_; (repeat (first | refine sQ (hq := Quiet.pickOr rfl rfl rfl rfl) (hk := ?_) | refine sQ (hq := Quiet.pickAnd rfl rfl rfl rfl) (hk := ?_) | refine sQ (hk := ?_) | refine sSkip (hk := ?_) | refine sG (hk := ?_) | refine sOwn (hk := ?_))); refine aSeq_nil ?_)
  refine h1 _ ?_
  refine nT (hk := ?_)
  refine Awp.seq fun K2 h2 => ?_
  (refine Awp.region ?_; (repeat (first | refine sQ (hq := Quiet.call rfl hh rfl rfl rfl) (hk := ?_) | refine sQ (hq := Quiet.pickOr rfl rfl rfl rfl) (hk := ?_) | refine sQ (hq := Quiet.pickAnd rfl rfl rfl rfl) (hk := ?_) | refine sQ (hk := ?_) | refine sSkip (hk := ?_) | refine sG (hg := by first | rfl | exact gA_c rfl rfl) (hq := by (intro hg; (try simp only [Bool.and_eq_true, beq_iff_eq] at hg); (try simp only [hg, cond_true, Bool.true_and, beq_self_eq_true]); exact Quiet.call rfl hh rfl rfl rfl)) (hk := ?_) | refine sG (hk := ?_) | refine sOwn (hk := ?_))); refine aSeq_nil ?_)
  refine h2 _ ?_
  refine nT (hk := ?_)
  refine Awp.seq fun K3 h3 => ?_
  (refine Awp.region ?_; (repeat (first | refine sQ (hq := Quiet.call rfl c1 rfl rfl rfl) (hk := ?_) | refine sQ (hq := Quiet.call rfl c2 rfl rfl rfl) (hk := ?_) | refine sQ (hq := Quiet.call rfl c3 rfl rfl rfl) (hk := ?_) | refine sQ (hq := Quiet.call rfl c4 rfl rfl rfl) (hk := ?_) | refine sQ (hq := Quiet.call rfl c5 rfl rfl rfl) (hk := ?_) | refine sQ (hq := Quiet.call rfl c6 rfl rfl rfl) (hk := ?_) | refine sQ (hq := Quiet.call rfl c7 rfl rfl rfl) (hk := ?_) | refine sQ (hq := Quiet.call rfl c8 rfl rfl rfl) (hk := ?_) | refine sQ (hq := Quiet.pickOr rfl rfl rfl rfl) (hk := ?_) | refine sQ (hq := Quiet.pickAnd rfl rfl rfl rfl) (hk := ?_) | refine sQ (hk := ?_) | refine sSkip (hk := ?_) | refine sG (hg := by first | rfl | exact gA_c rfl rfl) (hq := by (intro hg; (try simp only [Bool.and_eq_true, beq_iff_eq] at hg); (try simp only [hg, cond_true, Bool.true_and, beq_self_eq_true]); exact Quiet.call rfl c1 rfl rfl rfl)) (hk := ?_) | refine sG (hg := by first | rfl | exact gA_c rfl rfl) (hq := by (intro hg; (try simp only [Bool.and_eq_true, beq_iff_eq] at hg); (try simp only [hg, cond_true, Bool.true_and, beq_self_eq_true]); exact Quiet.call rfl c2 rfl rfl rfl)) (hk := ?_) | refine sG (hg := by first | rfl | exact gA_c rfl rfl) (hq := by (intro hg; (try simp only [Bool.and_eq_true, beq_iff_eq] at hg); (try simp only [hg, cond_true, Bool.true_and, beq_self_eq_true]); exact Quiet.call rfl c3 rfl rfl rfl)) (hk := ?_) | refine sG (hg := by first | rfl | exact gA_c rfl rfl) (hq := by (intro hg; (try simp only [Bool.and_eq_true, beq_iff_eq] at hg); (try simp only [hg, cond_true, Bool.true_and, beq_self_eq_true]); exact Quiet.call rfl c4 rfl rfl rfl)) (hk := ?_) | refine sG (hg := by first | rfl | exact gA_c rfl rfl) (hq := by (intro hg; (try simp only [Bool.and_eq_true, beq_iff_eq] at hg); (try simp only [hg, cond_true, Bool.true_and, beq_self_eq_true]); exact Quiet.call rfl c5 rfl rfl rfl)) (hk := ?_) | refine sG (hg := by first | rfl | exact gA_c rfl rfl) (hq := by (intro hg; (try simp only [Bool.and_eq_true, beq_iff_eq] at hg); (try simp only [hg, cond_true, Bool.true_and, beq_self_eq_true]); exact Quiet.call rfl c6 rfl rfl rfl)) (hk := ?_) | refine sG (hg := by first | rfl | exact gA_c rfl rfl) (hq := by (intro hg; (try simp only [Bool.and_eq_true, beq_iff_eq] at hg); (try simp only [hg, cond_true, Bool.true_and, beq_self_eq_true]); exact Quiet.call rfl c7 rfl rfl rfl)) (hk := ?_) | refine sG (hg := by first | rfl | exact gA_c rfl rfl) (hq := by (intro hg; (try simp only [Bool.and_eq_true, beq_iff_eq] at hg); (try simp only [hg, cond_true, Bool.true_and, beq_self_eq_true]); exact Quiet.call rfl c8 rfl rfl rfl)) (hk := ?_) | refine sG (hk := ?_) | refine sOwn (hk := ?_))); refine aSeq_nil ?_)
  refine h3 _ ?_
  refine nT (hk := ?_)
  refine Awp.ret ?_
  exact ⟨.inr rfl, Fin.cl rfl⟩
end Mu
end
section
/-
  muntinref14: one, writes, Next, walked.
  Conditions: data of at most 2^21 everywhere.
-/
namespace Mu
open Go Go.RowKit Go.Proofs

def bad1 (x : Ins) : Bool := (((decide (x.op > 10) || !(emptyB x)) || decide (x.d < 0)) || decide (x.a < 0)) || decide (x.b < 0)
def argsN (p : Prog) (k : Int) : Int := (p.funcs[k.toNat]?.elim 0 (·.args))
def bad5 (p : Prog) (x : Ins) : Bool := (decide (x.f < 0) || decide (x.f ≥ (p.funcs.length : Int))) || ((x.args.length : Int) != argsN p x.f)
def okL (f : Func) (x : Ins) : Bool := ((decide (x.l1 ≥ 0) && decide (x.l1 < (f.blocks.length : Int))) && decide (x.l2 ≥ 0)) && decide (x.l2 < (f.blocks.length : Int))
def oneB (p : Prog) (f : Func) (x : Ins) : Bool := !(bad1 x) && (!(x.args.any fun r => decide (r < 0)) && (!(x.op == 1 && decide (x.n > 13)) && (!(x.op == 5 && bad5 p x) && (!(x.op == 8 || x.op == 9) || okL f x))))


theorem any_takeG {α : Type} {l : List α} {p : α → Bool} {k : Nat} {x : α} (hx : l[k]? = some x) (hn : (l.take k).any p = false) (hp : p x = false) : (l.take (k + 1)).any p = false := by
  rw [List.take_add_one, hx, List.any_append, hn]
  simp [hp]
theorem any_all {α : Type} {l : List α} {p : α → Bool} {k : Nat} (h : (l.take k).any p = false) (hk : ¬ k < l.length) : l.any p = false := by
  rw [List.take_of_length_le (by omega)] at h
  exact h

set_option maxRecDepth 100000 in
set_option maxHeartbeats 4000000 in
theorem one14_fn (p : Prog) (f : Func) (x : Ins) (ho : okIns x) (hl : x.args.length ≤ 2097152) (_hp : p.funcs.length ≤ 2097152) (_hf : f.blocks.length ≤ 2097152) : Fn Tryd.prog 50 [.agg (encProg p), .agg (encFunc f), .agg (encIns x)] (.lit (.bool (oneB p f x))) := by
  have hem := empty14_fn x (wfI_u8 ho.op).1 (wfI_u8 ho.op).2
  refine Fn.of_awp Tryd.func50 rfl (by kernel_rfl) rfl Tryd.ntmps50 fun C hC => ?_
  simp only [List.length_cons, List.length_nil, Nat.reduceAdd, Nat.reduceSub, List.replicate_succ, List.replicate_zero, List.cons_append, List.nil_append]
  refine Awp.seq fun K1 h1 => ?_
  (refine Awp.region ?_; (repeat (first | refine sQ (hq := Quiet.pickOr rfl rfl rfl rfl) (hk := ?_) | refine sQ (hq := Quiet.pickAnd rfl rfl rfl rfl) (hk := ?_) | refine sQ (hk := ?_) | refine sSkip (hk := ?_) | refine sG (hk := ?_) | refine sOwn (hk := ?_))); refine aSeq_nil ?_)
  refine h1 _ ?_
  refine nT (hk := ?_)
  refine Awp.seq fun K2 h2 => ?_
  refine Awp.seq fun K3 h3 => ?_
  (refine Awp.region ?_; (repeat (first | refine sQ (hq := Quiet.call rfl hem rfl rfl rfl) (hk := ?_) | refine sQ (hq := Quiet.pickOr rfl rfl rfl rfl) (hk := ?_) | refine sQ (hq := Quiet.pickAnd rfl rfl rfl rfl) (hk := ?_) | refine sQ (hk := ?_) | refine sSkip (hk := ?_) | refine sG (hg := by first | rfl | exact gA_c rfl rfl) (hq := by (intro hg; (try simp only [beq_iff_eq] at hg); (try simp only [hg, cond_true, beq_self_eq_true]); exact Quiet.call rfl hem rfl rfl rfl)) (hk := ?_) | refine sG (hk := ?_) | refine sOwn (hk := ?_))); refine aSeq_nil ?_)
  refine h3 _ ?_
  refine nT (hk := ?_)
  refine Awp.cond rfl (fun hb4 => ?_) (fun hb4 => ?_)
  · have e1 : bad1 x = true := hb4
    have e : oneB p f x = false := by unfold oneB; rw [e1]; rfl
    refine Awp.seq fun K5 h5 => ?_
    (refine Awp.region ?_; (repeat (first | refine sQ (hq := Quiet.pickOr rfl rfl rfl rfl) (hk := ?_) | refine sQ (hq := Quiet.pickAnd rfl rfl rfl rfl) (hk := ?_) | refine sQ (hk := ?_) | refine sSkip (hk := ?_) | refine sG (hk := ?_) | refine sOwn (hk := ?_))); refine aSeq_nil ?_)
    refine h5 _ ?_
    refine nT (hk := ?_)
    refine Awp.ret ?_
    rw [e]
    exact ⟨.inr rfl, Fin.cl rfl⟩
  · have e1 : bad1 x = false := hb4
    refine Awp.skip ?_
    refine h2 _ ?_
    refine nT (hk := ?_)
    refine Awp.seq fun K6 h6 => ?_
    refine Awp.seq fun K7 h7 => ?_
    (refine Awp.region ?_; (repeat (first | refine sQ (hq := Quiet.pickOr rfl rfl rfl rfl) (hk := ?_) | refine sQ (hq := Quiet.pickAnd rfl rfl rfl rfl) (hk := ?_) | refine sQ (hk := ?_) | refine sSkip (hk := ?_) | refine sG (hk := ?_) | refine sOwn (hk := ?_))); refine aSeq_nil ?_)
    refine h7 _ ?_
    refine nT (hk := ?_)
    refine Awp.block ?_
    refine Awp.loopF (fun k : Nat => ⟨[.any, .any, .any, .ptr 0 0, .ptr 1 0, .ptr 2 0, .any, .lit (.int .i64 (k : Int)), .any, .any, .any, .any, .any, .any, .any, .any, .any, .any, .any, .any, .any, .any, .any, .any, .any, .any, .any, .any, .any, .any, .any, .any, .any, .any, .any, .any, .any, .any, .any, .any, .any, .any, .any, .any, .any, .any, .any, .any, .any, .any, .any, .any, .any, .any, .any, .any, .any, .any, .any, .any, .any, .any, .any, .any, .any, .any, .any, .any, .any, .any, .any, .any, .any, .any, .any, .any, .any, .any, .any, .any, .any, .any, .any, .any, .any, .any, .any, .any, .any, .any, .any, .any, .any, .any, .any, .any, .any, .any, .any, .any, .any, .any, .any, .any, .any, .any, .any, .any, .any, .any, .any, .any, .any], [.box (encProg p), .box (encFunc f), .box (encIns x)]⟩) (fun k => k ≤ x.args.length ∧ (x.args.take k).any (fun r => decide (r < 0)) = false) (fun k => x.args.length - k) 0 ⟨Nat.zero_le _, by simp⟩ (le_T) ?_
    rintro k ⟨hk, hno⟩
    refine Awp.seq fun K9 h9 => ?_
    refine Awp.seq fun K10 h10 => ?_
    (refine Awp.region ?_; (repeat (first | refine sQ (hq := Quiet.pickOr rfl rfl rfl rfl) (hk := ?_) | refine sQ (hq := Quiet.pickAnd rfl rfl rfl rfl) (hk := ?_) | refine sQ (hk := ?_) | refine sSkip (hk := ?_) | refine sG (hk := ?_) | refine sOwn (hk := ?_))); refine aSeq_nil ?_)
    refine h10 _ ?_
    refine nT (hk := ?_)
    refine Awp.cond rfl (fun hb11 => ?_) (fun hb11 => ?_)
    · have hlt : k < x.args.length := by simpa using hb11
      obtain ⟨r, hr⟩ : ∃ r, x.args[k]? = some r := ⟨_, List.getElem?_eq_getElem hlt⟩
      refine Awp.skip ?_
      refine h9 _ ?_
      refine nT (hk := ?_)
      refine Awp.seq fun K12 h12 => ?_
      refine Awp.block ?_
      refine Awp.seq fun K13 h13 => ?_
      (refine Awp.region ?_; (repeat (first | refine sQ (hq := Quiet.pickOr rfl rfl rfl rfl) (hk := ?_) | refine sQ (hq := Quiet.pickAnd rfl rfl rfl rfl) (hk := ?_) | refine sQ (hk := ?_) | refine sSkip (hk := ?_) | refine sG (hk := ?_) | refine sOwn (hk := ?_))); refine aSeq_nil ?_)
      refine h13 _ ?_
      refine nT (hk := ?_)
      refine Awp.cond rfl (fun hb14 => ?_) (fun hb14 => ?_)
      · have e2 : x.args.any (fun r => decide (r < 0)) = true := List.any_eq_true.2 ⟨r, List.mem_of_getElem? hr, hb14⟩
        have e : oneB p f x = false := by unfold oneB; rw [e1, e2]; rfl
        refine Awp.seq fun K15 h15 => ?_
        (refine Awp.region ?_; (repeat (first | refine sQ (hq := Quiet.pickOr rfl rfl rfl rfl) (hk := ?_) | refine sQ (hq := Quiet.pickAnd rfl rfl rfl rfl) (hk := ?_) | refine sQ (hk := ?_) | refine sSkip (hk := ?_) | refine sG (hk := ?_) | refine sOwn (hk := ?_))); refine aSeq_nil ?_)
        refine h15 _ ?_
        refine nT (hk := ?_)
        refine Awp.ret ?_
        rw [e]
        exact ⟨.inr rfl, Fin.cl rfl⟩
      · refine Awp.skip ?_
        refine h12 _ ?_
        refine nT (hk := ?_)
        (refine Awp.region ?_; (repeat (first | refine sQ (hq := Quiet.pickOr rfl rfl rfl rfl) (hk := ?_) | refine sQ (hq := Quiet.pickAnd rfl rfl rfl rfl) (hk := ?_) | refine sQ (hk := ?_) | refine sSkip (hk := ?_) | refine sG (hk := ?_) | refine sOwn (hk := ?_))); refine aSeq_nil ?_)
        refine athen_n ⟨k + 1, ⟨by omega, any_takeG hr hno hb14⟩, by omega, ?_⟩
        exact le_T
    · have e2 : x.args.any (fun r => decide (r < 0)) = false := by
        have : k = x.args.length := by have : ¬ k < x.args.length := by simpa using hb11
                                       omega
        rw [this, List.take_length] at hno
        exact hno
      refine Awp.exit ?_
      refine h6 _ ?_
      refine nT (hk := ?_)
      refine Awp.seq fun K16 h16 => ?_
      refine Awp.seq fun K17 h17 => ?_
      (refine Awp.region ?_; (repeat (first | refine sQ (hq := Quiet.pickOr rfl rfl rfl rfl) (hk := ?_) | refine sQ (hq := Quiet.pickAnd rfl rfl rfl rfl) (hk := ?_) | refine sQ (hk := ?_) | refine sSkip (hk := ?_) | refine sG (hk := ?_) | refine sOwn (hk := ?_))); refine aSeq_nil ?_)
      refine h17 _ ?_
      refine nT (hk := ?_)
      refine Awp.cond rfl (fun hb18 => ?_) (fun hb18 => ?_)
      · have e3 : (x.op == 1 && decide (x.n > 13)) = true := hb18
        have e : oneB p f x = false := by unfold oneB; rw [e1, e2, e3]; rfl
        refine Awp.seq fun K19 h19 => ?_
        (refine Awp.region ?_; (repeat (first | refine sQ (hq := Quiet.pickOr rfl rfl rfl rfl) (hk := ?_) | refine sQ (hq := Quiet.pickAnd rfl rfl rfl rfl) (hk := ?_) | refine sQ (hk := ?_) | refine sSkip (hk := ?_) | refine sG (hk := ?_) | refine sOwn (hk := ?_))); refine aSeq_nil ?_)
        refine h19 _ ?_
        refine nT (hk := ?_)
        refine Awp.ret ?_
        rw [e]
        exact ⟨.inr rfl, Fin.cl rfl⟩
      · have e3 : (x.op == 1 && decide (x.n > 13)) = false := hb18
        refine Awp.skip ?_
        refine h16 _ ?_
        refine nT (hk := ?_)
        refine Awp.seq fun K20 h20 => ?_
        refine Awp.via ⟨[.any, .any, .any, .ptr 0 0, .ptr 1 0, .ptr 2 0, .any, .any, .any, .any, .any, .any, .any, .any, .any, .any, .any, .any, .any, .any, .any, .any, .any, .any, .any, .any, .any, .any, .any, .any, .any, .any, .any, .any, .any, .any, .any, .any, .any, .any, .any, .any, .any, .any, .any, .any, .any, .any, .any, .any, .any, .any, .any, .any, .any, .any, .any, .any, .any, .any, .any, .any, .any, .any, .any, .any, .any, .any, .any, .any, .any, .any, .any, .any, .any, .any, .any, .any, .any, .any, .any, .any, .any, .any, .any, .any, .any, .any, .any, .any, .any, .any, .any, .any, .any, .any, .any, .any, .any, .any, .any, .any, .any, .any, .any, .any, .any, .any, .any, .any, .any, .any, .any], [.box (encProg p), .box (encFunc f), .box (encIns x)]⟩ (le_T) ?_
        refine Awp.seqc ⟨[.any, .any, .any, .ptr 0 0, .ptr 1 0, .ptr 2 0, .any, .any, .any, .any, .any, .any, .any, .any, .any, .any, .any, .any, .any, .any, .any, .any, .any, .any, .any, .any, .any, .any, .any, .any, .any, .any, .any, .any, .any, .any, .any, .any, .any, .any, .any, .any, .any, .any, .any, .any, .any, .any, .any, .any, .any, .any, .any, .any, .any, .any, .any, .any, .any, .any, .any, .any, .any, .any, .any, .any, .any, .any, .any, .any, .any, .any, .any, .any, .any, .any, .any, .any, .any, .any, .lit (.bool (x.op == 5 && bad5 p x)), .any, .any, .any, .any, .any, .any, .any, .any, .any, .any, .any, .any, .any, .any, .any, .any, .any, .any, .any, .any, .any, .any, .any, .any, .any, .any, .any, .any, .any, .any, .any, .any], [.box (encProg p), .box (encFunc f), .box (encIns x)]⟩ ?_ ?_
        · rcases h5 : (x.op == 5) with _ | _
          · (refine drawD 29 (hh := ?_); (repeat (first | refine qQ (hq := Quiet.pickOr rfl rfl rfl rfl) (hk := ?_) | refine qQ (hq := Quiet.pickAnd rfl rfl rfl rfl) (hk := ?_) | refine qQ (hk := ?_) | refine qSkip (hk := ?_) | refine qG (hk := ?_))); refine aQ_nil ?_; (repeat (first | refine sQ (hq := Quiet.pickOr rfl rfl rfl rfl) (hk := ?_) | refine sQ (hq := Quiet.pickAnd rfl rfl rfl rfl) (hk := ?_) | refine sQ (hk := ?_) | refine sSkip (hk := ?_) | refine sG (hk := ?_) | refine sOwn (hk := ?_))); refine aSeq_nil ?_)
            refine athen_n ?_
            exact le_T
          · rcases h6' : decide (x.f < 0) with _ | _
            · rcases h7' : decide (x.f ≥ (p.funcs.length : Int)) with _ | _
              · have hx0 : 0 ≤ x.f := by simpa using h6'
                have hxl : x.f < p.funcs.length := by simpa using h7'
                obtain ⟨g, hg⟩ : ∃ g, p.funcs[x.f.toNat]? = some g := ⟨_, List.getElem?_eq_getElem (by omega)⟩
                have eb : bad5 p x = ((x.args.length : Int) != g.args) := by unfold bad5 argsN; rw [h6', h7', hg]; rfl
                rw [eb]
                (refine drawD 29 (hh := ?_); (repeat (first | refine qQ (hq := Quiet.pickOr rfl rfl rfl rfl) (hk := ?_) | refine qQ (hq := Quiet.pickAnd rfl rfl rfl rfl) (hk := ?_) | refine qQ (hk := ?_) | refine qSkip (hk := ?_) | refine qG (hk := ?_))); refine aQ_nil ?_; (repeat (first | refine sQ (hq := Quiet.pickOr rfl rfl rfl rfl) (hk := ?_) | refine sQ (hq := Quiet.pickAnd rfl rfl rfl rfl) (hk := ?_) | refine sQ (hk := ?_) | refine sSkip (hk := ?_) | refine sG (hk := ?_) | refine sOwn (hk := ?_))); refine aSeq_nil ?_)
                refine athen_n ?_
                exact le_T
              · have eb : bad5 p x = true := by unfold bad5; rw [h6', h7']; rfl
                rw [eb]
                (refine drawD 29 (hh := ?_); (repeat (first | refine qQ (hq := Quiet.pickOr rfl rfl rfl rfl) (hk := ?_) | refine qQ (hq := Quiet.pickAnd rfl rfl rfl rfl) (hk := ?_) | refine qQ (hk := ?_) | refine qSkip (hk := ?_) | refine qG (hk := ?_))); refine aQ_nil ?_; (repeat (first | refine sQ (hq := Quiet.pickOr rfl rfl rfl rfl) (hk := ?_) | refine sQ (hq := Quiet.pickAnd rfl rfl rfl rfl) (hk := ?_) | refine sQ (hk := ?_) | refine sSkip (hk := ?_) | refine sG (hk := ?_) | refine sOwn (hk := ?_))); refine aSeq_nil ?_)
                refine athen_n ?_
                exact le_T
            · have eb : bad5 p x = true := by unfold bad5; rw [h6']; rfl
              rw [eb]
              (refine drawD 29 (hh := ?_); (repeat (first | refine qQ (hq := Quiet.pickOr rfl rfl rfl rfl) (hk := ?_) | refine qQ (hq := Quiet.pickAnd rfl rfl rfl rfl) (hk := ?_) | refine qQ (hk := ?_) | refine qSkip (hk := ?_) | refine qG (hk := ?_))); refine aQ_nil ?_; (repeat (first | refine sQ (hq := Quiet.pickOr rfl rfl rfl rfl) (hk := ?_) | refine sQ (hq := Quiet.pickAnd rfl rfl rfl rfl) (hk := ?_) | refine sQ (hk := ?_) | refine sSkip (hk := ?_) | refine sG (hk := ?_) | refine sOwn (hk := ?_))); refine aSeq_nil ?_)
              refine athen_n ?_
              exact le_T
        · refine Awp.cond rfl (fun hb22 => ?_) (fun hb22 => ?_)
          · have e : oneB p f x = false := by unfold oneB; rw [e1, e2, e3, hb22]; rfl
            refine Awp.seq fun K23 h23 => ?_
            (refine Awp.region ?_; (repeat (first | refine sQ (hq := Quiet.pickOr rfl rfl rfl rfl) (hk := ?_) | refine sQ (hq := Quiet.pickAnd rfl rfl rfl rfl) (hk := ?_) | refine sQ (hk := ?_) | refine sSkip (hk := ?_) | refine sG (hk := ?_) | refine sOwn (hk := ?_))); refine aSeq_nil ?_)
            refine h23 _ ?_
            refine nT (hk := ?_)
            refine Awp.ret ?_
            rw [e]
            exact ⟨.inr rfl, Fin.cl rfl⟩
          · refine Awp.skip ?_
            refine h20 _ ?_
            refine nT (hk := ?_)
            refine Awp.seq fun K24 h24 => ?_
            refine Awp.seq fun K25 h25 => ?_
            (refine Awp.region ?_; (repeat (first | refine sQ (hq := Quiet.pickOr rfl rfl rfl rfl) (hk := ?_) | refine sQ (hq := Quiet.pickAnd rfl rfl rfl rfl) (hk := ?_) | refine sQ (hk := ?_) | refine sSkip (hk := ?_) | refine sG (hk := ?_) | refine sOwn (hk := ?_))); refine aSeq_nil ?_)
            refine h25 _ ?_
            refine nT (hk := ?_)
            refine Awp.cond rfl (fun hb26 => ?_) (fun hb26 => ?_)
            · have e5 : (x.op == 8 || x.op == 9) = true := hb26
              have e : oneB p f x = okL f x := by unfold oneB; rw [e1, e2, e3, hb22, e5]; rfl
              refine Awp.seq fun K27 h27 => ?_
              (refine Awp.region ?_; (repeat (first | refine sQ (hq := Quiet.pickOr rfl rfl rfl rfl) (hk := ?_) | refine sQ (hq := Quiet.pickAnd rfl rfl rfl rfl) (hk := ?_) | refine sQ (hk := ?_) | refine sSkip (hk := ?_) | refine sG (hk := ?_) | refine sOwn (hk := ?_))); refine aSeq_nil ?_)
              refine h27 _ ?_
              refine nT (hk := ?_)
              refine Awp.ret ?_
              rw [e]
              exact ⟨.inr rfl, Fin.cl rfl⟩
            · have e5 : (x.op == 8 || x.op == 9) = false := hb26
              have e : oneB p f x = true := by unfold oneB; rw [e1, e2, e3, hb22, e5]; rfl
              refine Awp.skip ?_
              refine h24 _ ?_
              refine nT (hk := ?_)
              refine Awp.seq fun K28 h28 => ?_
              (refine Awp.region ?_; (repeat (first | refine sQ (hq := Quiet.pickOr rfl rfl rfl rfl) (hk := ?_) | refine sQ (hq := Quiet.pickAnd rfl rfl rfl rfl) (hk := ?_) | refine sQ (hk := ?_) | refine sSkip (hk := ?_) | refine sG (hk := ?_) | refine sOwn (hk := ?_))); refine aSeq_nil ?_)
              refine h28 _ ?_
              refine nT (hk := ?_)
              refine Awp.ret ?_
              rw [e]
              exact ⟨.inr rfl, Fin.cl rfl⟩
def writesR (l : List Ins) (r : Int) : Bool := l.any fun x => writesB x && x.d == r
set_option maxRecDepth 100000 in
set_option maxHeartbeats 4000000 in
theorem writes14_fn (b : Block) (r : Int) (m : Nat) (ho : okBlock b) (hl : b.ins.length ≤ 2097152) (hm : m ≤ b.ins.length) : Fn Tryd.prog 51 [.agg (encBlock b), .lit (.int .i64 r), .lit (.int .i64 (m : Int))] (.lit (.bool (writesR (b.ins.take m) r))) := by
  refine Fn.of_awp Tryd.func51 rfl (by kernel_rfl) rfl Tryd.ntmps51 fun C hC => ?_
  simp only [List.length_cons, List.length_nil, Nat.reduceAdd, Nat.reduceSub, List.replicate_succ, List.replicate_zero, List.cons_append, List.nil_append]
  refine Awp.seq fun K1 h1 => ?_
  (refine Awp.region ?_; (repeat (first | refine sQ (hq := Quiet.pickOr rfl rfl rfl rfl) (hk := ?_) | refine sQ (hq := Quiet.pickAnd rfl rfl rfl rfl) (hk := ?_) | refine sQ (hk := ?_) | refine sSkip (hk := ?_) | refine sG (hk := ?_) | refine sOwn (hk := ?_))); refine aSeq_nil ?_)
  refine h1 _ ?_
  refine nT (hk := ?_)
  refine Awp.seq fun K2 h2 => ?_
  refine Awp.seq fun K3 h3 => ?_
  (refine Awp.region ?_; (repeat (first | refine sQ (hq := Quiet.pickOr rfl rfl rfl rfl) (hk := ?_) | refine sQ (hq := Quiet.pickAnd rfl rfl rfl rfl) (hk := ?_) | refine sQ (hk := ?_) | refine sSkip (hk := ?_) | refine sG (hk := ?_) | refine sOwn (hk := ?_))); refine aSeq_nil ?_)
  refine h3 _ ?_
  refine nT (hk := ?_)
  refine Awp.block ?_
  refine Awp.loopF (fun k : Nat => ⟨[.any, .lit (.int .i64 r), .lit (.int .i64 (m : Int)), .ptr 0 0, .any, .any, .any, .lit (.int .i64 (k : Int)), .any, .any, .any, .any, .any, .any, .any, .any, .any, .any, .any, .any, .any, .any, .any, .any, .any, .any, .any, .any, .any, .any], [.box (encBlock b)]⟩) (fun k => k ≤ m ∧ writesR (b.ins.take k) r = false) (fun k => m - k) 0 ⟨Nat.zero_le _, by simp [writesR]⟩ (le_T) ?_
  rintro k ⟨hk, hno⟩
  refine Awp.seq fun K5 h5 => ?_
  refine Awp.seq fun K6 h6 => ?_
  (refine Awp.region ?_; (repeat (first | refine sQ (hq := Quiet.pickOr rfl rfl rfl rfl) (hk := ?_) | refine sQ (hq := Quiet.pickAnd rfl rfl rfl rfl) (hk := ?_) | refine sQ (hk := ?_) | refine sSkip (hk := ?_) | refine sG (hk := ?_) | refine sOwn (hk := ?_))); refine aSeq_nil ?_)
  refine h6 _ ?_
  refine nT (hk := ?_)
  refine Awp.cond rfl (fun hb7 => ?_) (fun hb7 => ?_)
  · have hlt : k < m := by simpa using hb7
    obtain ⟨x, hx⟩ : ∃ x, b.ins[k]? = some x := ⟨_, List.getElem?_eq_getElem (by omega)⟩
    have hox := ho.ins x (List.mem_of_getElem? hx)
    refine Awp.skip ?_
    refine h5 _ ?_
    refine nT (hk := ?_)
    refine Awp.seq fun K8 h8 => ?_
    refine Awp.block ?_
    refine Awp.seq fun K9 h9 => ?_
    (refine Awp.region ?_; (repeat (first | refine sQ (hq := Quiet.call rfl (ref_writes_fn x hox) rfl rfl rfl) (hk := ?_) | refine sQ (hq := Quiet.pickOr rfl rfl rfl rfl) (hk := ?_) | refine sQ (hq := Quiet.pickAnd rfl rfl rfl rfl) (hk := ?_) | refine sQ (hk := ?_) | refine sSkip (hk := ?_) | refine sG (hg := by first | rfl | exact gA_c rfl rfl) (hq := by (intro hg; (try simp only [Bool.and_eq_true, beq_iff_eq] at hg); (try simp only [hg, cond_true, Bool.true_and, beq_self_eq_true]); exact Quiet.call rfl (ref_writes_fn x hox) rfl rfl rfl)) (hk := ?_) | refine sG (hk := ?_) | refine sOwn (hk := ?_))); refine aSeq_nil ?_)
    refine h9 _ ?_
    refine nT (hk := ?_)
    refine Awp.seq fun K10 h10 => ?_
    (refine Awp.region ?_; (repeat (first | refine sQ (hq := Quiet.pickOr rfl rfl rfl rfl) (hk := ?_) | refine sQ (hq := Quiet.pickAnd rfl rfl rfl rfl) (hk := ?_) | refine sQ (hk := ?_) | refine sSkip (hk := ?_) | refine sG (hk := ?_) | refine sOwn (hk := ?_))); refine aSeq_nil ?_)
    refine h10 _ ?_
    refine nT (hk := ?_)
    refine Awp.cond rfl (fun hb11 => ?_) (fun hb11 => ?_)
    · have e : writesR (b.ins.take m) r = true := by
        have hb : (writesB x && x.d == r) = true := by simpa using hb11
        refine List.any_eq_true.2 ⟨x, ?_, hb⟩
        exact List.mem_of_getElem? (i := k) (by rw [List.getElem?_take_of_lt hlt]; exact hx)
      refine Awp.seq fun K12 h12 => ?_
      (refine Awp.region ?_; (repeat (first | refine sQ (hq := Quiet.pickOr rfl rfl rfl rfl) (hk := ?_) | refine sQ (hq := Quiet.pickAnd rfl rfl rfl rfl) (hk := ?_) | refine sQ (hk := ?_) | refine sSkip (hk := ?_) | refine sG (hk := ?_) | refine sOwn (hk := ?_))); refine aSeq_nil ?_)
      refine h12 _ ?_
      refine nT (hk := ?_)
      refine Awp.ret ?_
      rw [e]
      exact ⟨.inr rfl, Fin.cl rfl⟩
    · have hp : (writesB x && x.d == r) = false := by
        simpa using hb11
      refine Awp.skip ?_
      refine h8 _ ?_
      refine nT (hk := ?_)
      (refine Awp.region ?_; (repeat (first | refine sQ (hq := Quiet.pickOr rfl rfl rfl rfl) (hk := ?_) | refine sQ (hq := Quiet.pickAnd rfl rfl rfl rfl) (hk := ?_) | refine sQ (hk := ?_) | refine sSkip (hk := ?_) | refine sG (hk := ?_) | refine sOwn (hk := ?_))); refine aSeq_nil ?_)
      refine athen_n ⟨k + 1, ⟨by omega, any_takeG hx hno hp⟩, by omega, ?_⟩
      exact le_T
  · have : k = m := by have : ¬ k < m := by simpa using hb7
                       omega
    subst this
    refine Awp.exit ?_
    refine h2 _ ?_
    refine nT (hk := ?_)
    refine Awp.seq fun K13 h13 => ?_
    (refine Awp.region ?_; (repeat (first | refine sQ (hq := Quiet.pickOr rfl rfl rfl rfl) (hk := ?_) | refine sQ (hq := Quiet.pickAnd rfl rfl rfl rfl) (hk := ?_) | refine sQ (hk := ?_) | refine sSkip (hk := ?_) | refine sG (hk := ?_) | refine sOwn (hk := ?_))); refine aSeq_nil ?_)
    refine h13 _ ?_
    refine nT (hk := ?_)
    refine Awp.ret ?_
    rw [hno]
    exact ⟨.inr rfl, Fin.cl rfl⟩
def nextO (x : Ins) : List Int := if x.op == 8 then [x.l1] else if x.op == 9 then [x.l1, x.l2] else []
set_option maxRecDepth 100000 in
set_option maxHeartbeats 4000000 in
theorem next14_fn (b : Block) (x : Ins) (hl : b.ins.length ≤ 2097152) (hx : b.ins[b.ins.length - 1]? = some x) (ho : okIns x) : Fn Tryd.prog 52 [.agg (encBlock b)] (.bs tInt (nextO x)) := by
  have h0 : 0 < b.ins.length := by
    have := (List.getElem?_eq_some_iff.1 hx).1
    omega
  have h1' : (0 : Int) ≤ (b.ins.length : Int) - 1 := by omega
  have hx' : b.ins[((b.ins.length : Int) - 1).toNat]? = some x := by rw [← hx]; congr 1; omega
  refine Fn.of_awp Tryd.func52 rfl (by kernel_rfl) rfl Tryd.ntmps52 fun C hC => ?_
  simp only [List.length_cons, List.length_nil, Nat.reduceAdd, Nat.reduceSub, List.replicate_succ, List.replicate_zero, List.cons_append, List.nil_append]
  refine Awp.seq fun K1 h1 => ?_
  (refine Awp.region ?_; (repeat (first | refine sQ (hq := Quiet.pickOr rfl rfl rfl rfl) (hk := ?_) | refine sQ (hq := Quiet.pickAnd rfl rfl rfl rfl) (hk := ?_) | refine sQ (hk := ?_) | refine sSkip (hk := ?_) | refine sG (hk := ?_) | refine sOwn (hk := ?_))); refine aSeq_nil ?_)
  refine h1 _ ?_
  refine nT (hk := ?_)
  refine Awp.seq fun K2 h2 => ?_
  (refine Awp.region ?_; (repeat (first | refine sQ (hq := Quiet.pickOr rfl rfl rfl rfl) (hk := ?_) | refine sQ (hq := Quiet.pickAnd rfl rfl rfl rfl) (hk := ?_) | refine sQ (hk := ?_) | refine sSkip (hk := ?_) | refine sG (hk := ?_) | refine sOwn (hk := ?_))); refine aSeq_nil ?_)
  refine h2 _ ?_
  refine nT (hk := ?_)
  refine Awp.seq fun K3 h3 => ?_
  refine Awp.seq fun K4 h4 => ?_
  (refine Awp.region ?_; (repeat (first | refine sQ (hq := Quiet.pickOr rfl rfl rfl rfl) (hk := ?_) | refine sQ (hq := Quiet.pickAnd rfl rfl rfl rfl) (hk := ?_) | refine sQ (hk := ?_) | refine sSkip (hk := ?_) | refine sG (hk := ?_) | refine sOwn (hk := ?_))); refine aSeq_nil ?_)
  refine h4 _ ?_
  refine nT (hk := ?_)
  refine Awp.cond rfl (fun hb5 => ?_) (fun hb5 => ?_)
  · have e : nextO x = [x.l1] := by unfold nextO; rw [if_pos hb5]
    refine Awp.seq fun K6 h6 => ?_
    (refine Awp.region ?_; (repeat (first | refine sQ (hq := Quiet.lt (xs := [.tmp 16]) (T := tInt) (ds := [x.l1]) rfl rfl rfl rfl (by decide) (.cons (Fit.int ho.l1) .nil)) (hk := ?_) | refine sQ (hq := Quiet.pickOr rfl rfl rfl rfl) (hk := ?_) | refine sQ (hq := Quiet.pickAnd rfl rfl rfl rfl) (hk := ?_) | refine sQ (hk := ?_) | refine sSkip (hk := ?_) | refine sG (hg := by first | rfl | exact gA_c rfl rfl) (hq := by (intro hg; (try simp only [Bool.and_eq_true, beq_iff_eq] at hg); (try simp only [hg, cond_true, Bool.true_and, beq_self_eq_true]); exact Quiet.lt (xs := [.tmp 16]) (T := tInt) (ds := [x.l1]) rfl rfl rfl rfl (by decide) (.cons (Fit.int ho.l1) .nil))) (hk := ?_) | refine sG (hk := ?_) | refine sOwn (hk := ?_))); refine aSeq_nil ?_)
    refine h6 _ ?_
    refine nT (hk := ?_)
    refine Awp.ret ?_
    rw [e]
    exact ⟨.inr rfl, Fin.cl rfl⟩
  · have hb5' : ¬ (x.op == 8) = true := by have : (x.op == 8) = false := hb5
                                           simp [this]
    refine Awp.skip ?_
    refine h3 _ ?_
    refine nT (hk := ?_)
    refine Awp.seq fun K7 h7 => ?_
    refine Awp.seq fun K8 h8 => ?_
    (refine Awp.region ?_; (repeat (first | refine sQ (hq := Quiet.pickOr rfl rfl rfl rfl) (hk := ?_) | refine sQ (hq := Quiet.pickAnd rfl rfl rfl rfl) (hk := ?_) | refine sQ (hk := ?_) | refine sSkip (hk := ?_) | refine sG (hk := ?_) | refine sOwn (hk := ?_))); refine aSeq_nil ?_)
    refine h8 _ ?_
    refine nT (hk := ?_)
    refine Awp.cond rfl (fun hb9 => ?_) (fun hb9 => ?_)
    · have e : nextO x = [x.l1, x.l2] := by unfold nextO; rw [if_neg hb5', if_pos hb9]
      refine Awp.seq fun K10 h10 => ?_
      (refine Awp.region ?_; (repeat (first | refine sQ (hq := Quiet.lt (xs := [.tmp 22, .tmp 24]) (T := tInt) (ds := [x.l1, x.l2]) rfl rfl rfl rfl (by decide) (.cons (Fit.int ho.l1) (.cons (Fit.int ho.l2) .nil))) (hk := ?_) | refine sQ (hq := Quiet.pickOr rfl rfl rfl rfl) (hk := ?_) | refine sQ (hq := Quiet.pickAnd rfl rfl rfl rfl) (hk := ?_) | refine sQ (hk := ?_) | refine sSkip (hk := ?_) | refine sG (hg := by first | rfl | exact gA_c rfl rfl) (hq := by (intro hg; (try simp only [Bool.and_eq_true, beq_iff_eq] at hg); (try simp only [hg, cond_true, Bool.true_and, beq_self_eq_true]); exact Quiet.lt (xs := [.tmp 22, .tmp 24]) (T := tInt) (ds := [x.l1, x.l2]) rfl rfl rfl rfl (by decide) (.cons (Fit.int ho.l1) (.cons (Fit.int ho.l2) .nil)))) (hk := ?_) | refine sG (hk := ?_) | refine sOwn (hk := ?_))); refine aSeq_nil ?_)
      refine h10 _ ?_
      refine nT (hk := ?_)
      refine Awp.ret ?_
      rw [e]
      exact ⟨.inr rfl, Fin.cl rfl⟩
    · have e : nextO x = [] := by unfold nextO; rw [if_neg hb5', if_neg (by have : (x.op == 9) = false := hb9
                                                                            simp [this])]
      refine Awp.skip ?_
      refine h7 _ ?_
      refine nT (hk := ?_)
      refine Awp.seq fun K11 h11 => ?_
      (refine Awp.region ?_; (repeat (first | refine sQ (hq := Quiet.pickOr rfl rfl rfl rfl) (hk := ?_) | refine sQ (hq := Quiet.pickAnd rfl rfl rfl rfl) (hk := ?_) | refine sQ (hk := ?_) | refine sSkip (hk := ?_) | refine sG (hk := ?_) | refine sOwn (hk := ?_))); refine aSeq_nil ?_)
      refine h11 _ ?_
      refine nT (hk := ?_)
      refine Awp.ret ?_
      rw [e]
      exact ⟨.inr rfl, Fin.nilRow⟩
end Mu
end
section
/-
  A call whose result is a fresh row, kept as one's own.
  Conditions: none; generic.
-/
namespace Mu
open Go Go.RowKit Go.Proofs

section
variable {P : Program} {C : Ctx} {t : List AV} {h : List ABlk} {o : Oper}
def FnOwn (P : Program) (f : FuncId) (args : List AV) (e : TypeId) {α : Type} (T : Ty α) (l : List α) : Prop :=
  Enters P f = true ∧ ∀ (w : World) (S : Nat → Prop) (vs : List Value), (∀ k, S k → k < w.heap.size) → AV.relL w S [] ψ0 args vs →
    Calls P f vs.toArray w fun r w' => ∃ v cells, r = .returned v ∧ Below w.heap.size w w' ∧ w'.ownsRow w.heap.size e T.size v l.length cells ∧ ∀ i d, l[i]? = some d → T.RS w' S ((cells.drop (i * T.size)).take T.size) d
theorem ftp_row {w : World} {e : TypeId} {α : Type} {T : Ty α} {l : List α} {ver base n sz : Nat} {cells : List Value} {v : Value} (hv : w.ownsRow base e sz v n cells) : ∀ g, ftp (some (.row ver e T l)) v g → base ≤ g := fun g hg => by
  obtain ⟨_, ⟨rfl, _⟩ | ⟨g', cap, cur, rfl, hb, _⟩⟩ := hv
  · simp [ftp, blkOf] at hg
  · simp [ftp, blkOf] at hg
    omega
theorem AOp.callOwn {f : FuncId} {args : Array Operand} {tys : Array TypeId} {xs : List AV} {K : St → Prop} {e : TypeId} {α : Type} {T : Ty α} {l : List α}
    (ho : o.op = .call { callee := .value (.func f), args := args, argTypes := tys }) (hF : FnOwn P f xs e T l) (h0 : 0 < T.size) (hx : args.toList.map (evA t) = xs) (hc : AV.clL xs = true)
    (hK : K ⟨putA t o.dst (.own h.length 0), h ++ [.row 0 e T l]⟩) : AOp P C o ⟨t, h⟩ K := by
  rintro Q' a w ⟨hd, S, ψ, H, hl⟩
  refine ⟨fun c e => (by rw [ho] at e; cases e), ?_⟩
  have h2 : AV.relL w S h ψ xs (args.toList.map a.eval) := by
    rw [← hx]
    exact relL_map fun x _ => ev_rel hl x
  unfold Oper.wp
  rw [run_call ho hF.1 a.eval w rfl]
  simp only [Oper.upon]
  rw [show (args.map a.eval) = (args.toList.map a.eval).toArray from (by rw [← Array.toList_map])]
  refine (hF.2 w S (args.toList.map a.eval) H.lt (AV.relL_cl _ _ hc h2)).mono ?_
  rintro r w' ⟨v, cells, rfl, hb, hown, hR⟩
  have X : Ext w S h ψ w' S (h ++ [.row 0 e T l]) (ψset ψ h.length v) := Ext.push _ _ fun k hk => hb.block k (H.lt k hk)
  have hB : BRel C.N w' S (h ++ [.row 0 e T l]) (ψset ψ h.length v) v (.row 0 e T l) :=
    ⟨cells, hown.mono (Nat.zero_le _), h0, hR, fun g hg => by
      have hlt := hown.lt g hg
      exact ⟨fun hN => by have := H.nlt _ hN; have := H.bel.size; omega, fun hS => by have := H.lt _ hS; omega⟩⟩
  refine ⟨_, hK, st_push (s := ⟨t, h⟩) hd hl (H.push hb hB (ftp_row hown)) X ?_⟩
  unfold AV.rel
  refine ⟨by simp, fun c' hc' => ?_⟩
  rw [List.getElem?_append_right (Nat.le_refl _)] at hc'
  simp [ABlk.ver] at hc'
  exact ⟨by omega, fun _ => ψset_self.symm⟩
end
theorem reads14_own (x : Ins) (ho : okIns x) (hl : x.args.length ≤ 2097152) : FnOwn Tryd.prog 34 [.agg (encIns x)] 3 tInt (readsC x) :=
  ⟨by kernel_rfl, fun w S vs hS hr => by
    have hr' := AV.relL_ext (Ext.grow [] ψ0 (fun _ _ => rfl) hS) _ _ hr
    obtain ⟨v, rfl, hv⟩ := arg1 hr'
    obtain ⟨cs, rfl, hc⟩ := rel_agg hv
    refine (ref_reads x w cs (put_ins ho hc) hl).mono ?_
    rintro e w' ⟨v, rfl, hO, hb⟩
    refine ⟨v, _, rfl, hb, hO, fun i d hd => ?_⟩
    show tInt.RS w' S ((((readsC x).map (Value.int .i64)).drop (i * 1)).take 1) d
    have hi : ((readsC x).map (Value.int .i64))[i]? = some (.int .i64 d) := by rw [List.getElem?_map, hd]; rfl
    rw [Nat.mul_one, List.take_one, List.head?_drop, hi]
    exact tInt_R.2 ⟨rfl, readsC_ok ho d (List.mem_of_getElem? hd)⟩⟩
end Mu
end
section
/-
  muntinref14: regs, walked.
  Conditions: data of at most 2^21 everywhere.
-/
namespace Mu
open Go Go.RowKit Go.Proofs

def regsX (x : Ins) : List Int := readsC x ++ if writesB x then [x.d] else []
def stepReg (n r : Int) : Int := if (if (4096 : Int) < r then 4096 else r) + 1 > n then (if (4096 : Int) < r then 4096 else r) + 1 else n
def insReg (n : Int) (x : Ins) : Int := (regsX x).foldl stepReg n
def blkReg (n : Int) (b : Block) : Int := b.ins.foldl insReg n
def regsI (f : Func) : Int := f.blocks.foldl blkReg 0
theorem regsX_ok {x : Ins} (h : okIns x) : okInts (regsX x) := fun r hr => by
  rcases List.mem_append.1 hr with hr | hr
  · exact readsC_ok h r hr
  · split at hr
    · simp only [List.mem_singleton] at hr
      subst hr
      exact h.d
    · cases hr
theorem readsC_le {x : Ins} (h : x.args.length ≤ 2097152) : (readsC x).length ≤ 2097154 := readsC_len h

set_option maxRecDepth 100000 in
set_option maxHeartbeats 4000000 in
theorem regs14_fn (f : Func) (ho : okFunc f) (hs : smallF f) : Fn Tryd.prog 48 [.agg (encFunc f)] (.lit (.int .i64 (regsI f))) := by
  have hbl := hs.blocks
  refine Fn.of_awp Tryd.func48 rfl (by kernel_rfl) rfl Tryd.ntmps48 fun C hC => ?_
  simp only [List.length_cons, List.length_nil, Nat.reduceAdd, Nat.reduceSub, List.replicate_succ, List.replicate_zero, List.cons_append, List.nil_append]
  refine Awp.seq fun K1 h1 => ?_
  (refine Awp.region ?_; (repeat (first | refine sQ (hq := Quiet.pickOr rfl rfl rfl rfl) (hk := ?_) | refine sQ (hq := Quiet.pickAnd rfl rfl rfl rfl) (hk := ?_) | refine sQ (hk := ?_) | refine sSkip (hk := ?_) | refine sG (hk := ?_) | refine sOwn (hk := ?_))); refine aSeq_nil ?_)
  refine h1 _ ?_
  refine nT (hk := ?_)
  refine Awp.seq fun K2 h2 => ?_
  (refine Awp.region ?_; (repeat (first | refine sQ (hq := Quiet.pickOr rfl rfl rfl rfl) (hk := ?_) | refine sQ (hq := Quiet.pickAnd rfl rfl rfl rfl) (hk := ?_) | refine sQ (hk := ?_) | refine sSkip (hk := ?_) | refine sG (hk := ?_) | refine sOwn (hk := ?_))); refine aSeq_nil ?_)
  refine h2 _ ?_
  refine nT (hk := ?_)
  refine Awp.seq fun K3 h3 => ?_
  refine Awp.seq fun K4 h4 => ?_
  (refine Awp.region ?_; (repeat (first | refine sQ (hq := Quiet.pickOr rfl rfl rfl rfl) (hk := ?_) | refine sQ (hq := Quiet.pickAnd rfl rfl rfl rfl) (hk := ?_) | refine sQ (hk := ?_) | refine sSkip (hk := ?_) | refine sG (hk := ?_) | refine sOwn (hk := ?_))); refine aSeq_nil ?_)
  refine h4 _ ?_
  refine nT (hk := ?_)
  refine Awp.block ?_
  refine Awp.loopF (fun i : Nat => ⟨[.any, .ptr 0 0, .any, .lit (.int .i64 ((f.blocks.take i).foldl blkReg 0)), .lit (.int .i64 (i : Int)), .any, .any, .any, .any, .any, .any, .any, .any, .any, .any, .any, .any, .any, .any, .any, .any, .any, .any, .any, .any, .any, .any, .any, .any, .any, .any, .any, .any, .any, .any, .any, .any, .any, .any, .any, .any, .any, .any, .any, .any, .any, .any, .any, .any, .any, .any, .any, .any, .any, .any, .any, .any, .any, .any, .any, .any, .any, .any, .any, .any], [.box (encFunc f)]⟩) (fun i => i ≤ f.blocks.length) (fun i => f.blocks.length - i) 0 (Nat.zero_le _) (le_T) ?_
  intro i hi
  dsimp only at hi ⊢
  refine Awp.seq fun K6 h6 => ?_
  refine Awp.seq fun K7 h7 => ?_
  (refine Awp.region ?_; (repeat (first | refine sQ (hq := Quiet.pickOr rfl rfl rfl rfl) (hk := ?_) | refine sQ (hq := Quiet.pickAnd rfl rfl rfl rfl) (hk := ?_) | refine sQ (hk := ?_) | refine sSkip (hk := ?_) | refine sG (hk := ?_) | refine sOwn (hk := ?_))); refine aSeq_nil ?_)
  refine h7 _ ?_
  refine nT (hk := ?_)
  refine Awp.cond rfl (fun hb8 => ?_) (fun hb8 => ?_)
  · have hlt : i < f.blocks.length := by simpa using hb8
    obtain ⟨bl, hblk⟩ : ∃ bl, f.blocks[i]? = some bl := ⟨_, List.getElem?_eq_getElem hlt⟩
    have hmem := List.mem_of_getElem? hblk
    have hob := ho.blocks bl hmem
    have hsb := hs.all bl hmem
    have hil := hsb.ins
    have hbe := fold_take_succ blkReg 0 hblk
    generalize hn0 : (f.blocks.take i).foldl blkReg 0 = n0 at hbe ⊢
    refine Awp.skip ?_
    refine h6 _ ?_
    refine nT (hk := ?_)
    refine Awp.seq fun K9 h9 => ?_
    refine Awp.block ?_
    refine Awp.seq fun K10 h10 => ?_
    (refine Awp.region ?_; (repeat (first | refine sQ (hq := Quiet.pickOr rfl rfl rfl rfl) (hk := ?_) | refine sQ (hq := Quiet.pickAnd rfl rfl rfl rfl) (hk := ?_) | refine sQ (hk := ?_) | refine sSkip (hk := ?_) | refine sG (hk := ?_) | refine sOwn (hk := ?_))); refine aSeq_nil ?_)
    refine h10 _ ?_
    refine nT (hk := ?_)
    refine Awp.block ?_
    refine Awp.loopF (fun k : Nat => ⟨[.any, .ptr 0 0, .any, .lit (.int .i64 ((bl.ins.take k).foldl insReg n0)), .lit (.int .i64 (i : Int)), .lit (.int .i64 (k : Int)), .any, .any, .any, .any, .any, .any, .any, .any, .any, .any, .any, .any, .any, .any, .any, .any, .any, .any, .any, .any, .any, .any, .any, .any, .any, .any, .any, .any, .any, .any, .any, .any, .any, .any, .any, .any, .any, .any, .any, .any, .any, .any, .any, .any, .any, .any, .any, .any, .any, .any, .any, .any, .any, .any, .any, .any, .any, .any, .any], [.box (encFunc f)]⟩) (fun k => k ≤ bl.ins.length) (fun k => bl.ins.length - k) 0 (Nat.zero_le _) (le_T) ?_
    intro k hk
    dsimp only at hk ⊢
    refine Awp.seq fun K12 h12 => ?_
    refine Awp.seq fun K13 h13 => ?_
    (refine Awp.region ?_; (repeat (first | refine sQ (hq := Quiet.pickOr rfl rfl rfl rfl) (hk := ?_) | refine sQ (hq := Quiet.pickAnd rfl rfl rfl rfl) (hk := ?_) | refine sQ (hk := ?_) | refine sSkip (hk := ?_) | refine sG (hk := ?_) | refine sOwn (hk := ?_))); refine aSeq_nil ?_)
    refine h13 _ ?_
    refine nT (hk := ?_)
    refine Awp.cond rfl (fun hb14 => ?_) (fun hb14 => ?_)
    · have hlt2 : k < bl.ins.length := by simpa using hb14
      obtain ⟨x, hx⟩ : ∃ x, bl.ins[k]? = some x := ⟨_, List.getElem?_eq_getElem hlt2⟩
      have hxm := List.mem_of_getElem? hx
      have hox := hob.ins x hxm
      have hxl : x.args.length ≤ 2097152 := by have := hsb.all x hxm; omega
      have hrl := readsC_le hxl
      have hbe2 := fold_take_succ insReg n0 hx
      generalize hn1 : (bl.ins.take k).foldl insReg n0 = n1 at hbe2 ⊢
      have hn1' : (readsC x).length + [x.d].length ≤ maxLen := by simp [maxLen]; omega
      have hn2' : ((readsC x).length + [x.d].length) * 8 ≤ 140737488355328 := by simp; omega
      refine Awp.skip ?_
      refine h12 _ ?_
      refine nT (hk := ?_)
      refine Awp.seq fun K15 h15 => ?_
      refine Awp.block ?_
      refine Awp.seq fun K16 h16 => ?_
      (refine Awp.region ?_; (repeat (first | refine sQ (hq := Quiet.pickOr rfl rfl rfl rfl) (hk := ?_) | refine sQ (hq := Quiet.pickAnd rfl rfl rfl rfl) (hk := ?_) | refine sQ (hk := ?_) | refine sSkip (hk := ?_) | refine sG (hk := ?_) | refine sOwn (hk := ?_))); refine aSeq_nil ?_)
      refine h16 _ ?_
      refine nT (hk := ?_)
      refine Awp.seq fun K17 h17 => ?_
      (refine Awp.region ?_; (repeat (first | refine sQ (hq := Quiet.pickOr rfl rfl rfl rfl) (hk := ?_) | refine sQ (hq := Quiet.pickAnd rfl rfl rfl rfl) (hk := ?_) | refine sQ (hk := ?_) | refine sSkip (hk := ?_) | refine sG (hk := ?_) | refine sOwn (hk := ?_))))
      (repeat (first | (refine aSeq_t rfl (AOp.callOwn rfl (reads14_own x hox hxl) (by decide) rfl rfl ?_); refine sNt (hk := ?_)) | refine sQ (hq := Quiet.pickOr rfl rfl rfl rfl) (hk := ?_) | refine sQ (hq := Quiet.pickAnd rfl rfl rfl rfl) (hk := ?_) | refine sQ (hk := ?_) | refine sSkip (hk := ?_) | refine sG (hk := ?_) | refine sOwn (hk := ?_)))
      refine aSeq_nil ?_
      refine h17 _ ?_
      refine nT (hk := ?_)
      refine Awp.seq fun K18 h18 => ?_
      (refine Awp.region ?_; (repeat (first | refine sQ (hq := Quiet.call rfl (ref_writes_fn x hox) rfl rfl rfl) (hk := ?_) | refine sQ (hq := Quiet.pickOr rfl rfl rfl rfl) (hk := ?_) | refine sQ (hq := Quiet.pickAnd rfl rfl rfl rfl) (hk := ?_) | refine sQ (hk := ?_) | refine sSkip (hk := ?_) | refine sG (hg := by first | rfl | exact gA_c rfl rfl) (hq := by (intro hg; (try simp only [Bool.and_eq_true, beq_iff_eq] at hg); (try simp only [hg, cond_true, Bool.true_and, beq_self_eq_true]); exact Quiet.call rfl (ref_writes_fn x hox) rfl rfl rfl)) (hk := ?_) | refine sG (hk := ?_) | refine sOwn (hk := ?_))); refine aSeq_nil ?_)
      refine h18 _ ?_
      refine nT (hk := ?_)
      refine Awp.seqc ⟨[.any, .ptr 0 0, .any, .lit (.int .i64 n1), .lit (.int .i64 (i : Int)), .lit (.int .i64 (k : Int)), .any, .bs tInt (regsX x), .any, .any, .any, .any, .any, .any, .any, .any, .any, .any, .any, .any, .any, .any, .any, .any, .any, .any, .any, .any, .any, .any, .any, .any, .any, .any, .any, .any, .any, .any, .any, .any, .any, .any, .any, .any, .any, .any, .any, .any, .any, .any, .any, .any, .any, .any, .any, .any, .any, .any, .any, .any, .any, .any, .any, .any, .any], [.box (encFunc f)]⟩ ?_ ?_
      · refine Awp.seq fun K20 h20 => ?_
        (refine Awp.region ?_; (repeat (first | refine sQ (hq := Quiet.pickOr rfl rfl rfl rfl) (hk := ?_) | refine sQ (hq := Quiet.pickAnd rfl rfl rfl rfl) (hk := ?_) | refine sQ (hk := ?_) | refine sSkip (hk := ?_) | refine sG (hk := ?_) | refine sOwn (hk := ?_))); refine aSeq_nil ?_)
        refine h20 _ ?_
        refine nT (hk := ?_)
        refine Awp.cond rfl (fun hb21 => ?_) (fun hb21 => ?_)
        · have hw : writesB x = true := hb21
          have hfit : Fit [.box (encFunc f), .box (encIns x), .row 0 3 tInt (readsC x)] tInt (.lit (.int .i64 (if writesB x then x.d else 0))) x.d := by rw [hw]; exact Fit.int hox.d
          have hrx : regsX x = readsC x ++ [x.d] := by unfold regsX; rw [hw]; rfl
          rw [hrx]
          (refine Awp.region ?_; (repeat (first | refine sQ (hq := Quiet.pickOr rfl rfl rfl rfl) (hk := ?_) | refine sQ (hq := Quiet.pickAnd rfl rfl rfl rfl) (hk := ?_) | refine sQ (hk := ?_) | refine sSkip (hk := ?_) | refine sG (hk := ?_) | refine sOwn (hk := ?_))))
          (repeat (first | refine sQ (hq := Quiet.lt1 (T := tInt) (d := x.d) rfl rfl rfl (by rfl) (by decide) hfit) (hk := ?_) | (refine aSeq_t rfl (AOp.app rfl rfl rfl rfl rfl hn1' hn2' ?_); refine sNt (hk := ?_)) | refine sQ (hq := Quiet.pickOr rfl rfl rfl rfl) (hk := ?_) | refine sQ (hq := Quiet.pickAnd rfl rfl rfl rfl) (hk := ?_) | refine sQ (hk := ?_) | refine sSkip (hk := ?_) | refine sG (hg := by first | rfl | exact gA_c rfl rfl) (hq := by (intro hg; (try simp only [Bool.and_eq_true, beq_iff_eq] at hg); (try simp only [hg, cond_true, Bool.true_and, beq_self_eq_true]); exact Quiet.lt1 (T := tInt) (d := x.d) rfl rfl rfl (by rfl) (by decide) hfit)) (hk := ?_) | refine sG (hk := ?_) | refine sOwn (hk := ?_)))
          refine aSeq_nil ?_
          refine athen_n ?_
          refine (St.le_fz hC 2 rfl).trans ?_
          exact le_C (.cons (Cut.nil _))
        · have hw : writesB x = false := hb21
          have hrx : regsX x = readsC x := by unfold regsX; rw [hw]; simp
          rw [hrx]
          refine Awp.skip ?_
          refine athen_n ?_
          refine (St.le_fz hC 2 rfl).trans ?_
          exact le_C (.cons (Cut.nil _))
      · refine Awp.seq fun K22 h22 => ?_
        (refine Awp.region ?_; (repeat (first | refine sQ (hq := Quiet.pickOr rfl rfl rfl rfl) (hk := ?_) | refine sQ (hq := Quiet.pickAnd rfl rfl rfl rfl) (hk := ?_) | refine sQ (hk := ?_) | refine sSkip (hk := ?_) | refine sG (hk := ?_) | refine sOwn (hk := ?_))); refine aSeq_nil ?_)
        refine h22 _ ?_
        refine nT (hk := ?_)
        refine Awp.block ?_
        have hok := regsX_ok hox
        have hrl2 : (regsX x).length ≤ 2097155 := by
          unfold regsX
          rw [List.length_append]
          have : (if writesB x = true then [x.d] else []).length ≤ 1 := by split <;> simp
          omega
        refine Awp.loopF (fun j : Nat => ⟨[.any, .ptr 0 0, .any, .lit (.int .i64 (((regsX x).take j).foldl stepReg n1)), .lit (.int .i64 (i : Int)), .lit (.int .i64 (k : Int)), .any, .bs tInt (regsX x), .any, .any, .lit (.int .i64 (j : Int)), .any, .any, .any, .any, .any, .any, .any, .any, .any, .any, .any, .any, .any, .any, .any, .any, .any, .any, .any, .any, .any, .any, .any, .any, .any, .any, .any, .any, .any, .any, .any, .any, .any, .any, .any, .any, .any, .any, .any, .any, .any, .any, .any, .any, .any, .any, .any, .any, .any, .any, .any, .any, .any, .any], [.box (encFunc f)]⟩) (fun j => j ≤ (regsX x).length) (fun j => (regsX x).length - j) 0 (Nat.zero_le _) (le_T) ?_
        intro j hj
        dsimp only at hj ⊢
        refine Awp.seq fun K24 h24 => ?_
        refine Awp.seq fun K25 h25 => ?_
        (refine Awp.region ?_; (repeat (first | refine sQ (hq := Quiet.pickOr rfl rfl rfl rfl) (hk := ?_) | refine sQ (hq := Quiet.pickAnd rfl rfl rfl rfl) (hk := ?_) | refine sQ (hk := ?_) | refine sSkip (hk := ?_) | refine sG (hk := ?_) | refine sOwn (hk := ?_))); refine aSeq_nil ?_)
        refine h25 _ ?_
        refine nT (hk := ?_)
        refine Awp.cond rfl (fun hb26 => ?_) (fun hb26 => ?_)
        · have hlt3 : j < (regsX x).length := by simpa using hb26
          obtain ⟨r, hr⟩ : ∃ r, (regsX x)[j]? = some r := ⟨_, List.getElem?_eq_getElem hlt3⟩
          have hbe3 := fold_take_succ stepReg n1 hr
          generalize hn3 : ((regsX x).take j).foldl stepReg n1 = n2 at hbe3 ⊢
          have hrw := wfI_i64 (hok r (List.mem_of_getElem? hr))
          have hmn : -9223372036854775808 ≤ (if (4096 : Int) < r then 4096 else r) ∧ (if (4096 : Int) < r then 4096 else r) ≤ 4096 := by split <;> omega
          refine Awp.skip ?_
          refine h24 _ ?_
          refine nT (hk := ?_)
          refine Awp.seq fun K27 h27 => ?_
          refine Awp.block ?_
          (refine Awp.region ?_; (repeat (first | refine sQ (hq := Quiet.add64 rfl rfl rfl ⟨by have := hmn.1; omega, by have := hmn.2; omega⟩) (hk := ?_) | refine sQ (hq := Quiet.pickOr rfl rfl rfl rfl) (hk := ?_) | refine sQ (hq := Quiet.pickAnd rfl rfl rfl rfl) (hk := ?_) | refine sQ (hk := ?_) | refine sSkip (hk := ?_) | refine sG (hg := by first | rfl | exact gA_c rfl rfl) (hq := by (intro hg; (try simp only [Bool.and_eq_true, beq_iff_eq] at hg); (try simp only [hg, cond_true, Bool.true_and, beq_self_eq_true]); exact Quiet.add64 rfl rfl rfl ⟨by have := hmn.1; omega, by have := hmn.2; omega⟩)) (hk := ?_) | refine sG (hk := ?_) | refine sOwn (hk := ?_))); refine aSeq_nil ?_)
          refine h27 _ ?_
          refine nT (hk := ?_)
          (refine Awp.region ?_; (repeat (first | refine sQ (hq := Quiet.pickOr rfl rfl rfl rfl) (hk := ?_) | refine sQ (hq := Quiet.pickAnd rfl rfl rfl rfl) (hk := ?_) | refine sQ (hk := ?_) | refine sSkip (hk := ?_) | refine sG (hk := ?_) | refine sOwn (hk := ?_))); refine aSeq_nil ?_)
          refine athen_n ⟨j + 1, by omega, by omega, ?_⟩
          rw [hbe3]
          exact le_T
        · have : j = (regsX x).length := by have : ¬ j < (regsX x).length := by simpa using hb26
                                            omega
          subst this
          rw [List.take_length]
          refine Awp.exit ?_
          refine h15 _ ?_
          refine nT (hk := ?_)
          (refine Awp.region ?_; (repeat (first | refine sQ (hq := Quiet.pickOr rfl rfl rfl rfl) (hk := ?_) | refine sQ (hq := Quiet.pickAnd rfl rfl rfl rfl) (hk := ?_) | refine sQ (hk := ?_) | refine sSkip (hk := ?_) | refine sG (hk := ?_) | refine sOwn (hk := ?_))); refine aSeq_nil ?_)
          refine athen_n ⟨k + 1, by omega, by omega, ?_⟩
          rw [hbe2]
          exact le_T
    · have : k = bl.ins.length := by have : ¬ k < bl.ins.length := by simpa using hb14
                                     omega
      subst this
      rw [List.take_length]
      refine Awp.exit ?_
      refine h9 _ ?_
      refine nT (hk := ?_)
      (refine Awp.region ?_; (repeat (first | refine sQ (hq := Quiet.pickOr rfl rfl rfl rfl) (hk := ?_) | refine sQ (hq := Quiet.pickAnd rfl rfl rfl rfl) (hk := ?_) | refine sQ (hk := ?_) | refine sSkip (hk := ?_) | refine sG (hk := ?_) | refine sOwn (hk := ?_))); refine aSeq_nil ?_)
      refine athen_n ⟨i + 1, by omega, by omega, ?_⟩
      rw [hbe]
      exact le_T
  · have : i = f.blocks.length := by have : ¬ i < f.blocks.length := by simpa using hb8
                                     omega
    subst this
    refine Awp.exit ?_
    refine h3 _ ?_
    refine nT (hk := ?_)
    refine Awp.seq fun K34 h34 => ?_
    (refine Awp.region ?_; (repeat (first | refine sQ (hq := Quiet.pickOr rfl rfl rfl rfl) (hk := ?_) | refine sQ (hq := Quiet.pickAnd rfl rfl rfl rfl) (hk := ?_) | refine sQ (hk := ?_) | refine sSkip (hk := ?_) | refine sG (hk := ?_) | refine sOwn (hk := ?_))); refine aSeq_nil ?_)
    refine h34 _ ?_
    refine nT (hk := ?_)
    refine Awp.ret ?_
    rw [List.take_length]
    exact ⟨.inr rfl, Fin.cl rfl⟩
end Mu
end
section
/-
  Texts: length, a byte, the rest of one, whether two are the same.
  Conditions: none; generic.
-/
namespace Mu
open Go Go.RowKit Go.Proofs

class StrT (P : Program) (ty : TypeId) : Prop where
  eq : P.underlying ty = some .string
section
variable {P : Program} {C : Ctx} {o : Oper} {t : List AV} {h : List ABlk}
theorem Quiet.lnS {ty : TypeId} {x : Operand} {s : ByteArray} [StrT P ty] (ho : o.op = .call { callee := .builtin .len, args := #[x], argTypes := #[ty] }) (hx : evA t x = .lit (.string s)) : Quiet P C t h o (.lit (.int .i64 (s.size : Int))) :=
  Quiet.of_run fun S ψ w ρ H hρ => by
    have h1 := hρ x (by simp [ho, Op.operands, Call.operands])
    rw [hx] at h1
    unfold AV.rel at h1
    refine ⟨_, by simp [execOp, ho, resolve, invoke, builtin, h1, run_len_string w ty _ s (StrT.eq (P := P) (ty := ty)), goInt]; rfl, ?_⟩
    unfold AV.rel
    rfl
theorem Quiet.ixS {ty : TypeId} {x y : Operand} {s : ByteArray} {k : Nat} {ik : IntKind} {c : UInt8} [StrT P ty] (ho : o.op = .index ty x y) (hx : evA t x = .lit (.string s)) (hy : evA t y = .lit (.int ik (k : Int))) (hk : s.data.toList[k]? = some c) : Quiet P C t h o (.lit (.int .u8 (c.toNat : Int))) :=
  Quiet.of_run fun S ψ w ρ H hρ => by
    have h1 := hρ x (by simp [ho, Op.operands])
    have h2 := hρ y (by simp [ho, Op.operands])
    rw [hx] at h1
    rw [hy] at h2
    unfold AV.rel at h1 h2
    obtain ⟨hlt, hc⟩ := List.getElem?_eq_some_iff.1 hk
    have hlt' : k < s.size := hlt
    have hr := run_index_string w ty s ik (k : Int) (StrT.eq (P := P) (ty := ty))
    rw [dif_pos ⟨by omega, by omega⟩] at hr
    have e : (s[(k : Int).toNat]'(by simpa using hlt')) = c := by
      rw [← hc]
      rfl
    rw [e] at hr
    exact ⟨_, by simp [execOp, ho, h1, h2, hr]; rfl, by unfold AV.rel; rfl⟩
theorem Quiet.cutS {ty : TypeId} {x y : Operand} {s : ByteArray} {k : Nat} {ik : IntKind} [StrT P ty] (ho : o.op = .slice ty x (some y) none none) (hx : evA t x = .lit (.string s)) (hy : evA t y = .lit (.int ik (k : Int))) (hk : k ≤ s.size) : Quiet P C t h o (.lit (.string (s.extract k s.size))) :=
  Quiet.of_run fun S ψ w ρ H hρ => by
    have h1 := hρ x (by simp [ho, Op.operands])
    have h2 := hρ y (by simp [ho, Op.operands])
    rw [hx] at h1
    rw [hy] at h2
    unfold AV.rel at h1 h2
    have hr := run_slice_string_from_if (P := P) w ty s ik (k : Int) (StrT.eq (P := P) (ty := ty))
    rw [if_pos ⟨by omega, by omega⟩, show ((k : Int).toNat) = k from rfl] at hr
    exact ⟨_, by simp [execOp, ho, h1, h2, run_sliceAt_string (P := P) w ty _ _ _ _ (StrT.eq (P := P) (ty := ty)), hr]; rfl, by unfold AV.rel; rfl⟩
theorem Quiet.eqS {xt yt : TypeId} {x y : Operand} {a b : ByteArray} (ho : o.op = .binOp .eql xt x y yt) (hx : evA t x = .lit (.string a)) (hy : evA t y = .lit (.string b)) : Quiet P C t h o (.lit (.bool (a == b))) :=
  Quiet.of_run fun S ψ w ρ H hρ => by
    have h1 := hρ x (by simp [ho, Op.operands])
    have h2 := hρ y (by simp [ho, Op.operands])
    rw [hx] at h1
    rw [hy] at h2
    unfold AV.rel at h1 h2
    rw [beq_toListBytes]
    exact ⟨_, by simp [execOp, ho, h1, h2, binOp_string_eql]; rfl, by unfold AV.rel; rfl⟩
end
end Mu
end
section
/-
  muntinref12: letter, digit, digits, Name, walked.
  Conditions: none.
-/
namespace Mu
open Go Go.RowKit Go.Proofs

instance : StrT Tryd.prog 9 := ⟨by kernel_rfl⟩
def letterI (n : Int) : Bool := ((decide (n ≥ 65) && decide (n ≤ 90)) || (decide (n ≥ 97) && decide (n ≤ 122))) || n == 95
def digitI (n : Int) : Bool := decide (n ≥ 48) && decide (n ≤ 57)
def digitsL (l : List UInt8) : Bool := (l.all fun c => digitI (c.toNat : Int)) && decide (0 < l.length)
def digitsB (s : ByteArray) : Bool := digitsL s.data.toList
def restB (c : UInt8) : Bool := !(letterI (c.toNat : Int)) && !(digitI (c.toNat : Int))
def nameL (l : List UInt8) : Bool :=
  match l with
  | [] => false
  | c :: l => decide (l.length < 64) && (letterI (c.toNat : Int) && (!(l.any restB) && !((c.toNat : Int) == 118 && digitsL l)))
def nameB (s : ByteArray) : Bool := nameL s.data.toList

set_option maxRecDepth 100000 in
set_option maxHeartbeats 1000000 in
theorem letter12_fn (n : Int) : Fn Tryd.prog 73 [.lit (.int .u8 n)] (.lit (.bool (letterI n))) := by
  refine Fn.of_awp Tryd.func73 rfl (by kernel_rfl) rfl Tryd.ntmps73 fun C hC => ?_
  simp only [List.length_cons, List.length_nil, Nat.reduceAdd, Nat.reduceSub, List.replicate_succ, List.replicate_zero, List.cons_append, List.nil_append]
  refine Awp.seq fun K1 h1 => ?_
  (refine Awp.region ?_; (repeat (first | refine sQ (hq := Quiet.pickOr rfl rfl rfl rfl) (hk := ?_) | refine sQ (hq := Quiet.pickAnd rfl rfl rfl rfl) (hk := ?_) | refine sQ (hk := ?_) | refine sSkip (hk := ?_) | refine sG (hk := ?_) | refine sOwn (hk := ?_))); refine aSeq_nil ?_)
  refine h1 _ ?_
  refine nT (hk := ?_)
  refine Awp.seq fun K2 h2 => ?_
  (refine Awp.region ?_; (repeat (first | refine sQ (hq := Quiet.pickOr rfl rfl rfl rfl) (hk := ?_) | refine sQ (hq := Quiet.pickAnd rfl rfl rfl rfl) (hk := ?_) | refine sQ (hk := ?_) | refine sSkip (hk := ?_) | refine sG (hk := ?_) | refine sOwn (hk := ?_))); refine aSeq_nil ?_)
  refine h2 _ ?_
  refine nT (hk := ?_)
  refine Awp.ret ?_
  exact ⟨.inr rfl, Fin.cl rfl⟩
set_option maxRecDepth 100000 in
set_option maxHeartbeats 1000000 in
theorem digit12_fn (n : Int) : Fn Tryd.prog 74 [.lit (.int .u8 n)] (.lit (.bool (digitI n))) := by
  refine Fn.of_awp Tryd.func74 rfl (by kernel_rfl) rfl Tryd.ntmps74 fun C hC => ?_
  simp only [List.length_cons, List.length_nil, Nat.reduceAdd, Nat.reduceSub, List.replicate_succ, List.replicate_zero, List.cons_append, List.nil_append]
  refine Awp.seq fun K1 h1 => ?_
  (refine Awp.region ?_; (repeat (first | refine sQ (hq := Quiet.pickOr rfl rfl rfl rfl) (hk := ?_) | refine sQ (hq := Quiet.pickAnd rfl rfl rfl rfl) (hk := ?_) | refine sQ (hk := ?_) | refine sSkip (hk := ?_) | refine sG (hk := ?_) | refine sOwn (hk := ?_))); refine aSeq_nil ?_)
  refine h1 _ ?_
  refine nT (hk := ?_)
  refine Awp.seq fun K2 h2 => ?_
  (refine Awp.region ?_; (repeat (first | refine sQ (hq := Quiet.pickOr rfl rfl rfl rfl) (hk := ?_) | refine sQ (hq := Quiet.pickAnd rfl rfl rfl rfl) (hk := ?_) | refine sQ (hk := ?_) | refine sSkip (hk := ?_) | refine sG (hk := ?_) | refine sOwn (hk := ?_))); refine aSeq_nil ?_)
  refine h2 _ ?_
  refine nT (hk := ?_)
  refine Awp.ret ?_
  exact ⟨.inr rfl, Fin.cl rfl⟩
set_option maxRecDepth 100000 in
set_option maxHeartbeats 1000000 in
theorem digits12_fn (s : ByteArray) (hs : s.size ≤ 9223372036854775806) : Fn Tryd.prog 75 [.lit (.string s)] (.lit (.bool (digitsB s))) := by
  obtain ⟨l, hl⟩ : ∃ l, s.data.toList = l := ⟨_, rfl⟩
  have hsz : s.size = l.length := by rw [← hl]; rfl
  refine Fn.of_awp Tryd.func75 rfl (by kernel_rfl) rfl Tryd.ntmps75 fun C hC => ?_
  simp only [List.length_cons, List.length_nil, Nat.reduceAdd, Nat.reduceSub, List.replicate_succ, List.replicate_zero, List.cons_append, List.nil_append]
  refine Awp.seq fun K1 h1 => ?_
  (refine Awp.region ?_; (repeat (first | refine sQ (hq := Quiet.pickOr rfl rfl rfl rfl) (hk := ?_) | refine sQ (hq := Quiet.pickAnd rfl rfl rfl rfl) (hk := ?_) | refine sQ (hk := ?_) | refine sSkip (hk := ?_) | refine sG (hk := ?_) | refine sOwn (hk := ?_))); refine aSeq_nil ?_)
  refine h1 _ ?_
  refine nT (hk := ?_)
  refine Awp.seq fun K2 h2 => ?_
  refine Awp.seq fun K3 h3 => ?_
  (refine Awp.region ?_; (repeat (first | refine sQ (hq := Quiet.pickOr rfl rfl rfl rfl) (hk := ?_) | refine sQ (hq := Quiet.pickAnd rfl rfl rfl rfl) (hk := ?_) | refine sQ (hk := ?_) | refine sSkip (hk := ?_) | refine sG (hk := ?_) | refine sOwn (hk := ?_))); refine aSeq_nil ?_)
  refine h3 _ ?_
  refine nT (hk := ?_)
  refine Awp.block ?_
  refine Awp.loopF (fun k : Nat => ⟨[.lit (.string s), .any, .any, .lit (.int .i64 (k : Int)), .any, .any, .any, .any, .any, .any, .any, .any, .any, .any, .any, .any, .any, .any], []⟩) (fun k => k ≤ l.length ∧ (l.take k).any (fun c => !(digitI (c.toNat : Int))) = false) (fun k => l.length - k) 0 ⟨Nat.zero_le _, by simp⟩ (le_T) ?_
  rintro k ⟨hk, hno⟩
  refine Awp.seq fun K5 h5 => ?_
  refine Awp.seq fun K6 h6 => ?_
  (refine Awp.region ?_; (repeat (first | refine sQ (hq := Quiet.lnS rfl rfl) (hk := ?_) | refine sQ (hq := Quiet.pickOr rfl rfl rfl rfl) (hk := ?_) | refine sQ (hq := Quiet.pickAnd rfl rfl rfl rfl) (hk := ?_) | refine sQ (hk := ?_) | refine sSkip (hk := ?_) | refine sG (hg := by first | rfl | exact gA_c rfl rfl) (hq := by (intro hg; (try simp only [Bool.and_eq_true, beq_iff_eq] at hg); (try simp only [hg, cond_true, Bool.true_and, beq_self_eq_true]); exact Quiet.lnS rfl rfl)) (hk := ?_) | refine sG (hk := ?_) | refine sOwn (hk := ?_))); refine aSeq_nil ?_)
  refine h6 _ ?_
  refine nT (hk := ?_)
  refine Awp.cond rfl (fun hb7 => ?_) (fun hb7 => ?_)
  · have hlt : k < l.length := by have : k < s.size := by simpa using hb7
                                  omega
    obtain ⟨c, hc⟩ : ∃ c, l[k]? = some c := ⟨_, List.getElem?_eq_getElem hlt⟩
    have hc' : s.data.toList[k]? = some c := by rw [hl]; exact hc
    refine Awp.skip ?_
    refine h5 _ ?_
    refine nT (hk := ?_)
    refine Awp.seq fun K8 h8 => ?_
    refine Awp.block ?_
    refine Awp.seq fun K9 h9 => ?_
    (refine Awp.region ?_; (repeat (first | refine sQ (hq := Quiet.ixS rfl rfl rfl hc') (hk := ?_) | refine sQ (hq := Quiet.call rfl (digit12_fn _) rfl rfl rfl) (hk := ?_) | refine sQ (hq := Quiet.pickOr rfl rfl rfl rfl) (hk := ?_) | refine sQ (hq := Quiet.pickAnd rfl rfl rfl rfl) (hk := ?_) | refine sQ (hk := ?_) | refine sSkip (hk := ?_) | refine sG (hg := by first | rfl | exact gA_c rfl rfl) (hq := by (intro hg; (try simp only [Bool.and_eq_true, beq_iff_eq] at hg); (try simp only [hg, cond_true, Bool.true_and, beq_self_eq_true]); exact Quiet.ixS rfl rfl rfl hc')) (hk := ?_) | refine sG (hg := by first | rfl | exact gA_c rfl rfl) (hq := by (intro hg; (try simp only [Bool.and_eq_true, beq_iff_eq] at hg); (try simp only [hg, cond_true, Bool.true_and, beq_self_eq_true]); exact Quiet.call rfl (digit12_fn _) rfl rfl rfl)) (hk := ?_) | refine sG (hk := ?_) | refine sOwn (hk := ?_))); refine aSeq_nil ?_)
    refine h9 _ ?_
    refine nT (hk := ?_)
    refine Awp.cond rfl (fun hb10 => ?_) (fun hb10 => ?_)
    · have e : digitsB s = false := by
        unfold digitsB digitsL
        rw [hl]
        have : (l.all fun c => digitI (c.toNat : Int)) = false := by
          rw [Bool.eq_false_iff]
          intro hall
          have := List.all_eq_true.1 hall c (List.mem_of_getElem? hc)
          rw [this] at hb10
          cases hb10
        rw [this]
        rfl
      refine Awp.seq fun K11 h11 => ?_
      (refine Awp.region ?_; (repeat (first | refine sQ (hq := Quiet.pickOr rfl rfl rfl rfl) (hk := ?_) | refine sQ (hq := Quiet.pickAnd rfl rfl rfl rfl) (hk := ?_) | refine sQ (hk := ?_) | refine sSkip (hk := ?_) | refine sG (hk := ?_) | refine sOwn (hk := ?_))); refine aSeq_nil ?_)
      refine h11 _ ?_
      refine nT (hk := ?_)
      refine Awp.ret ?_
      rw [e]
      exact ⟨.inr rfl, Fin.cl rfl⟩
    · refine Awp.skip ?_
      refine h8 _ ?_
      refine nT (hk := ?_)
      (refine Awp.region ?_; (repeat (first | refine sQ (hq := Quiet.pickOr rfl rfl rfl rfl) (hk := ?_) | refine sQ (hq := Quiet.pickAnd rfl rfl rfl rfl) (hk := ?_) | refine sQ (hk := ?_) | refine sSkip (hk := ?_) | refine sG (hk := ?_) | refine sOwn (hk := ?_))); refine aSeq_nil ?_)
      refine athen_n ⟨k + 1, ⟨by omega, any_takeG hc hno hb10⟩, by omega, ?_⟩
      exact le_T
  · have hnl : ¬ k < l.length := by have : ¬ k < s.size := by simpa using hb7
                                    omega
    have hno' := any_all hno hnl
    have e : digitsB s = decide ((s.size : Int) > 0) := by
      unfold digitsB digitsL
      rw [hl, hsz]
      have : (l.all fun c => digitI (c.toNat : Int)) = true := by
        rw [List.all_eq_true]
        intro c hc
        have := List.any_eq_false.1 hno' c hc
        simpa using this
      rw [this]
      simp
    refine Awp.exit ?_
    refine h2 _ ?_
    refine nT (hk := ?_)
    refine Awp.seq fun K12 h12 => ?_
    (refine Awp.region ?_; (repeat (first | refine sQ (hq := Quiet.lnS rfl rfl) (hk := ?_) | refine sQ (hq := Quiet.pickOr rfl rfl rfl rfl) (hk := ?_) | refine sQ (hq := Quiet.pickAnd rfl rfl rfl rfl) (hk := ?_) | refine sQ (hk := ?_) | refine sSkip (hk := ?_) | refine sG (hg := by first | rfl | exact gA_c rfl rfl) (hq := by (intro hg; (try simp only [Bool.and_eq_true, beq_iff_eq] at hg); (try simp only [hg, cond_true, Bool.true_and, beq_self_eq_true]); exact Quiet.lnS rfl rfl)) (hk := ?_) | refine sG (hk := ?_) | refine sOwn (hk := ?_))); refine aSeq_nil ?_)
    refine h12 _ ?_
    refine nT (hk := ?_)
    refine Awp.ret ?_
    rw [e]
    exact ⟨.inr rfl, Fin.cl rfl⟩
set_option maxRecDepth 100000 in
set_option maxHeartbeats 2000000 in
theorem name12_fn (s : ByteArray) (hs : s.size ≤ maxLen) : Fn Tryd.prog 47 [.lit (.string s)] (.lit (.bool (nameB s))) := by
  obtain ⟨l, hl⟩ : ∃ l, s.data.toList = l := ⟨_, rfl⟩
  have hsz : s.size = l.length := by rw [← hl]; rfl
  have hm := hs
  unfold maxLen at hm
  refine Fn.of_awp Tryd.func47 rfl (by kernel_rfl) rfl Tryd.ntmps47 fun C hC => ?_
  simp only [List.length_cons, List.length_nil, Nat.reduceAdd, Nat.reduceSub, List.replicate_succ, List.replicate_zero, List.cons_append, List.nil_append]
  refine Awp.seq fun K1 h1 => ?_
  (refine Awp.region ?_; (repeat (first | refine sQ (hq := Quiet.pickOr rfl rfl rfl rfl) (hk := ?_) | refine sQ (hq := Quiet.pickAnd rfl rfl rfl rfl) (hk := ?_) | refine sQ (hk := ?_) | refine sSkip (hk := ?_) | refine sG (hk := ?_) | refine sOwn (hk := ?_))); refine aSeq_nil ?_)
  refine h1 _ ?_
  refine nT (hk := ?_)
  refine Awp.seq fun K2 h2 => ?_
  refine Awp.seq fun K3 h3 => ?_
  rcases l with _ | ⟨c, l⟩
  · have hz : ((s.size : Int) == 0) = true := by rw [hsz]; rfl
    have e : nameB s = false := by unfold nameB; rw [hl]; rfl
    (refine Awp.region ?_; (repeat (first | refine sQ (hq := Quiet.lnS rfl rfl) (hk := ?_) | refine sQ (hq := Quiet.pickOr rfl rfl rfl rfl) (hk := ?_) | refine sQ (hq := Quiet.pickAnd rfl rfl rfl rfl) (hk := ?_) | refine sQ (hk := ?_) | refine sSkip (hk := ?_) | refine sG (hg := by first | rfl | exact gA_c rfl rfl) (hq := by (intro hg; (try simp only [Bool.and_eq_true, beq_iff_eq] at hg); (try simp only [hg, cond_true, Bool.true_and, beq_self_eq_true]); exact Quiet.lnS rfl rfl)) (hk := ?_) | refine sG (hk := ?_) | refine sOwn (hk := ?_))); refine aSeq_nil ?_)
    refine h3 _ ?_
    refine nT (hk := ?_)
    refine Awp.cond rfl (fun hb4 => ?_) (fun hb4 => by cases hb4)
    refine Awp.seq fun K5 h5 => ?_
    (refine Awp.region ?_; (repeat (first | refine sQ (hq := Quiet.pickOr rfl rfl rfl rfl) (hk := ?_) | refine sQ (hq := Quiet.pickAnd rfl rfl rfl rfl) (hk := ?_) | refine sQ (hk := ?_) | refine sSkip (hk := ?_) | refine sG (hk := ?_) | refine sOwn (hk := ?_))); refine aSeq_nil ?_)
    refine h5 _ ?_
    refine nT (hk := ?_)
    refine Awp.ret ?_
    rw [e]
    exact ⟨.inr rfl, Fin.cl rfl⟩
  · have hz : ((s.size : Int) == 0) = false := by rw [hsz]; simp; omega
    have hc0 : s.data.toList[0]? = some c := by rw [hl]; rfl
    (refine Awp.region ?_; (repeat (first | refine sQ (hq := Quiet.lnS rfl rfl) (hk := ?_) | refine sQ (hq := Quiet.ixS (k := 0) rfl rfl rfl hc0) (hk := ?_) | refine sQ (hq := Quiet.call rfl (letter12_fn _) rfl rfl rfl) (hk := ?_) | refine sQ (hq := Quiet.pickOr rfl rfl rfl rfl) (hk := ?_) | refine sQ (hq := Quiet.pickAnd rfl rfl rfl rfl) (hk := ?_) | refine sQ (hk := ?_) | refine sSkip (hk := ?_) | refine sG (hg := by first | rfl | exact gA_c rfl rfl) (hq := by (intro hg; (try simp only [beq_iff_eq] at hg); (try simp only [hg, cond_true, beq_self_eq_true]); exact Quiet.lnS rfl rfl)) (hk := ?_) | refine sG (hg := by first | rfl | exact gA_c rfl rfl) (hq := by (intro hg; (try simp only [beq_iff_eq] at hg); (try simp only [hg, cond_true, beq_self_eq_true]); exact Quiet.ixS (k := 0) rfl rfl rfl hc0)) (hk := ?_) | refine sG (hg := by first | rfl | exact gA_c rfl rfl) (hq := by (intro hg; (try simp only [beq_iff_eq] at hg); (try simp only [hg, cond_true, beq_self_eq_true]); exact Quiet.call rfl (letter12_fn _) rfl rfl rfl)) (hk := ?_) | refine sG (hk := ?_) | refine sOwn (hk := ?_))); refine aSeq_nil ?_)
    refine h3 _ ?_
    refine nT (hk := ?_)
    refine Awp.cond rfl (fun hb4 => ?_) (fun hb4 => ?_)
    · have hb : (decide ((s.size : Int) > 64) || !(letterI (c.toNat : Int))) = true := hb4
      have e : nameB s = false := by
        unfold nameB
        rw [hl]
        unfold nameL
        simp only [Bool.or_eq_true, decide_eq_true_eq, Bool.not_eq_true'] at hb
        rcases hb with hb | hb
        · have : decide (l.length < 64) = false := by
            rw [hsz] at hb
            simp only [List.length_cons] at hb
            simp
            omega
          simp [this]
        · simp [hb]
      refine Awp.seq fun K5 h5 => ?_
      (refine Awp.region ?_; (repeat (first | refine sQ (hq := Quiet.pickOr rfl rfl rfl rfl) (hk := ?_) | refine sQ (hq := Quiet.pickAnd rfl rfl rfl rfl) (hk := ?_) | refine sQ (hk := ?_) | refine sSkip (hk := ?_) | refine sG (hk := ?_) | refine sOwn (hk := ?_))); refine aSeq_nil ?_)
      refine h5 _ ?_
      refine nT (hk := ?_)
      refine Awp.ret ?_
      rw [e]
      exact ⟨.inr rfl, Fin.cl rfl⟩
    · have hb : (decide ((s.size : Int) > 64) || !(letterI (c.toNat : Int))) = false := hb4
      have hb5 : l.length < 64 ∧ letterI (c.toNat : Int) = true := by
        simp only [Bool.or_eq_false_iff, decide_eq_false_iff_not, Bool.not_eq_false'] at hb
        refine ⟨?_, hb.2⟩
        have h1 := hb.1
        rw [hsz] at h1
        simp only [List.length_cons] at h1
        omega
      have hd1 : decide (l.length < 64) = true := decide_eq_true hb5.1
      refine Awp.skip ?_
      refine h2 _ ?_
      refine nT (hk := ?_)
      refine Awp.seq fun K6 h6 => ?_
      refine Awp.seq fun K7 h7 => ?_
      (refine Awp.region ?_; (repeat (first | refine sQ (hq := Quiet.pickOr rfl rfl rfl rfl) (hk := ?_) | refine sQ (hq := Quiet.pickAnd rfl rfl rfl rfl) (hk := ?_) | refine sQ (hk := ?_) | refine sSkip (hk := ?_) | refine sG (hk := ?_) | refine sOwn (hk := ?_))); refine aSeq_nil ?_)
      refine h7 _ ?_
      refine nT (hk := ?_)
      refine Awp.block ?_
      refine Awp.loopF (fun k : Nat => ⟨[.lit (.string s), .any, .any, .lit (.int .i64 ((k + 1 : Nat) : Int)), .any, .any, .any, .any, .any, .any, .any, .any, .any, .any, .any, .any, .any, .any, .any, .any, .any, .any, .any, .any, .any, .any, .any, .any, .any, .any, .any, .any, .any, .any, .any, .any, .any, .any, .any, .any, .any, .any, .any, .any, .any], []⟩) (fun k => k ≤ l.length ∧ (l.take k).any restB = false) (fun k => l.length - k) 0 ⟨Nat.zero_le _, by simp⟩ (le_T) ?_
      rintro k ⟨hk, hno⟩
      refine Awp.seq fun K9 h9 => ?_
      refine Awp.seq fun K10 h10 => ?_
      (refine Awp.region ?_; (repeat (first | refine sQ (hq := Quiet.lnS rfl rfl) (hk := ?_) | refine sQ (hq := Quiet.pickOr rfl rfl rfl rfl) (hk := ?_) | refine sQ (hq := Quiet.pickAnd rfl rfl rfl rfl) (hk := ?_) | refine sQ (hk := ?_) | refine sSkip (hk := ?_) | refine sG (hg := by first | rfl | exact gA_c rfl rfl) (hq := by (intro hg; (try simp only [Bool.and_eq_true, beq_iff_eq] at hg); (try simp only [hg, cond_true, Bool.true_and, beq_self_eq_true]); exact Quiet.lnS rfl rfl)) (hk := ?_) | refine sG (hk := ?_) | refine sOwn (hk := ?_))); refine aSeq_nil ?_)
      refine h10 _ ?_
      refine nT (hk := ?_)
      refine Awp.cond rfl (fun hb11 => ?_) (fun hb11 => ?_)
      · have hlt : k < l.length := by
          have : (((k + 1 : Nat) : Int)) < (s.size : Int) := by simpa using hb11
          rw [hsz] at this
          simp only [List.length_cons] at this
          omega
        obtain ⟨d, hd⟩ : ∃ d, l[k]? = some d := ⟨_, List.getElem?_eq_getElem hlt⟩
        have hd' : s.data.toList[k + 1]? = some d := by rw [hl]; exact hd
        refine Awp.skip ?_
        refine h9 _ ?_
        refine nT (hk := ?_)
        refine Awp.seq fun K12 h12 => ?_
        refine Awp.block ?_
        refine Awp.seq fun K13 h13 => ?_
        (refine Awp.region ?_; (repeat (first | refine sQ (hq := Quiet.ixS rfl rfl rfl hd') (hk := ?_) | refine sQ (hq := Quiet.call rfl (letter12_fn _) rfl rfl rfl) (hk := ?_) | refine sQ (hq := Quiet.call rfl (digit12_fn _) rfl rfl rfl) (hk := ?_) | refine sQ (hq := Quiet.pickOr rfl rfl rfl rfl) (hk := ?_) | refine sQ (hq := Quiet.pickAnd rfl rfl rfl rfl) (hk := ?_) | refine sQ (hk := ?_) | refine sSkip (hk := ?_) | refine sG (hg := by first | rfl | exact gA_c rfl rfl) (hq := by (intro hg; (try simp only [beq_iff_eq] at hg); (try simp only [hg, cond_true, beq_self_eq_true]); exact Quiet.ixS rfl rfl rfl hd')) (hk := ?_) | refine sG (hg := by first | rfl | exact gA_c rfl rfl) (hq := by (intro hg; (try simp only [beq_iff_eq] at hg); (try simp only [hg, cond_true, beq_self_eq_true]); exact Quiet.call rfl (letter12_fn _) rfl rfl rfl)) (hk := ?_) | refine sG (hg := by first | rfl | exact gA_c rfl rfl) (hq := by (intro hg; (try simp only [beq_iff_eq] at hg); (try simp only [hg, cond_true, beq_self_eq_true]); exact Quiet.call rfl (digit12_fn _) rfl rfl rfl)) (hk := ?_) | refine sG (hk := ?_) | refine sOwn (hk := ?_))); refine aSeq_nil ?_)
        refine h13 _ ?_
        refine nT (hk := ?_)
        refine Awp.cond rfl (fun hb14 => ?_) (fun hb14 => ?_)
        · have hp : restB d = true := hb14
          have e : nameB s = false := by
            unfold nameB
            rw [hl]
            unfold nameL
            have : l.any restB = true := List.any_eq_true.2 ⟨d, List.mem_of_getElem? hd, hp⟩
            simp [this]
          refine Awp.seq fun K15 h15 => ?_
          (refine Awp.region ?_; (repeat (first | refine sQ (hq := Quiet.pickOr rfl rfl rfl rfl) (hk := ?_) | refine sQ (hq := Quiet.pickAnd rfl rfl rfl rfl) (hk := ?_) | refine sQ (hk := ?_) | refine sSkip (hk := ?_) | refine sG (hk := ?_) | refine sOwn (hk := ?_))); refine aSeq_nil ?_)
          refine h15 _ ?_
          refine nT (hk := ?_)
          refine Awp.ret ?_
          rw [e]
          exact ⟨.inr rfl, Fin.cl rfl⟩
        · have hp : restB d = false := hb14
          refine Awp.skip ?_
          refine h12 _ ?_
          refine nT (hk := ?_)
          (refine Awp.region ?_; (repeat (first | refine sQ (hq := Quiet.add64 rfl rfl rfl (by constructor <;> omega)) (hk := ?_) | refine sQ (hq := Quiet.pickOr rfl rfl rfl rfl) (hk := ?_) | refine sQ (hq := Quiet.pickAnd rfl rfl rfl rfl) (hk := ?_) | refine sQ (hk := ?_) | refine sSkip (hk := ?_) | refine sG (hg := by first | rfl | exact gA_c rfl rfl) (hq := by (intro hg; (try simp only [Bool.and_eq_true, beq_iff_eq] at hg); (try simp only [hg, cond_true, Bool.true_and, beq_self_eq_true]); exact Quiet.add64 rfl rfl rfl (by constructor <;> omega))) (hk := ?_) | refine sG (hk := ?_) | refine sOwn (hk := ?_))); refine aSeq_nil ?_)
          refine athen_n ⟨k + 1, ⟨by omega, any_takeG hd hno hp⟩, by omega, ?_⟩
          exact le_T
      · have hnl : ¬ k < l.length := by
          have : ¬ (((k + 1 : Nat) : Int)) < (s.size : Int) := by simpa using hb11
          rw [hsz] at this
          simp only [List.length_cons] at this
          omega
        have hno' := any_all hno hnl
        have hx1 : digitsB (s.extract 1 s.size) = digitsL l := by
          unfold digitsB
          have : (s.extract 1 s.size).data.toList = l := by
            have : (s.extract 1 s.size).data = s.data.extract 1 s.size := by simp
            rw [this, Array.toList_extract, hl]
            simp [hsz]
          rw [this]
        have hxs : (s.extract 1 s.size).size ≤ 9223372036854775806 := by
          rw [ByteArray.size_extract]
          omega
        have hdg := digits12_fn (s.extract 1 s.size) hxs
        rw [hx1] at hdg
        have e : nameB s = !((c.toNat : Int) == 118 && digitsL l) := by
          unfold nameB
          rw [hl]
          unfold nameL
          simp [hd1, hb5.2, hno']
        refine Awp.exit ?_
        refine h6 _ ?_
        refine nT (hk := ?_)
        refine Awp.seq fun K16 h16 => ?_
        (refine Awp.region ?_; (repeat (first | refine sQ (hq := Quiet.ixS (k := 0) rfl rfl rfl hc0) (hk := ?_) | refine sQ (hq := Quiet.cutS (k := 1) rfl rfl rfl (by rw [hsz]; simp)) (hk := ?_) | refine sQ (hq := Quiet.call rfl hdg rfl rfl rfl) (hk := ?_) | refine sQ (hq := Quiet.pickOr rfl rfl rfl rfl) (hk := ?_) | refine sQ (hq := Quiet.pickAnd rfl rfl rfl rfl) (hk := ?_) | refine sQ (hk := ?_) | refine sSkip (hk := ?_) | refine sG (hg := by first | rfl | exact gA_c rfl rfl) (hq := by (intro hg; (try simp only [beq_iff_eq] at hg); (try simp only [hg, cond_true, beq_self_eq_true]); exact Quiet.ixS (k := 0) rfl rfl rfl hc0)) (hk := ?_) | refine sG (hg := by first | rfl | exact gA_c rfl rfl) (hq := by (intro hg; (try simp only [beq_iff_eq] at hg); (try simp only [hg, cond_true, beq_self_eq_true]); exact Quiet.cutS (k := 1) rfl rfl rfl (by rw [hsz]; simp))) (hk := ?_) | refine sG (hg := by first | rfl | exact gA_c rfl rfl) (hq := by (intro hg; (try simp only [beq_iff_eq] at hg); (try simp only [hg, cond_true, beq_self_eq_true]); exact Quiet.call rfl hdg rfl rfl rfl)) (hk := ?_) | refine sG (hk := ?_) | refine sOwn (hk := ?_))); refine aSeq_nil ?_)
        refine h16 _ ?_
        refine nT (hk := ?_)
        refine Awp.ret ?_
        rw [e]
        exact ⟨.inr rfl, Fin.cl rfl⟩
end Mu
end
section
/-
  muntinlaw17: head, LiveTells, walked.
  Conditions: at most 2^21 of everything.
-/
namespace Mu
open Go Go.RowKit Go.Proofs

theorem same_self (xs : List Int) (hx : xs.length ≤ 2097152) : Fn Tryd.prog 18 [.bs tInt xs, .bs tInt xs] (.lit (.bool true)) := by
  have := same_fn xs xs hx
  rwa [decide_eq_true rfl] at this
theorem inF_eq (f : Func) : inF f = (List.range f.blocks.length).map fun b => (blockL f b).getD 0 [] := by
  unfold inF
  refine List.map_congr_left fun b _ => ?_
  rw [List.getD_eq_getElem?_getD, blockL_first]
  rfl
theorem outF_eq (f : Func) : outF f = (List.range f.blocks.length).map fun b => (blockL f b).getD (insOf f b).length [] := by
  unfold outF
  refine List.map_congr_left fun b _ => ?_
  rw [List.getD_eq_getElem?_getD, blockL_last]
  rfl
theorem exIn : inF exF = [[], [0], [0]] := by rw [inF_eq]; decide +kernel
theorem exOut : outF exF = [[0], [0], []] := by rw [outF_eq]; decide +kernel
theorem exAt1 : atF exF 1 = [[0], [0, 1], [0]] := by decide +kernel
theorem exAt3 : atF exF 3 = [] := by decide +kernel
theorem exMost : mostF exF = 2 := by decide +kernel
theorem exReads : (allReads exF).length ≤ 2097152 := by decide +kernel

end Mu
end
section
/-
  muntinlaw17: steps, LiveSteps, walked.
  Conditions: at most 2^21 of everything.
-/
namespace Mu
open Go Go.RowKit Go.Proofs

section
variable {P : Program} {C : Ctx} {t : List AV} {h : List ABlk} {o : Oper}
theorem Quiet.bneb {xt yt : TypeId} {x y : Operand} {a b q : Bool} (hu : P.underlying xt = some .bool) (ho : o.op = .binOp .neq xt x y yt) (hx : evA t x = .lit (.bool a)) (hy : evA t y = .lit (.bool b)) (hq : (a != b) = q) : Quiet P C t h o (.lit (.bool q)) :=
  Quiet.of_run fun S ψ w ρ _ hρ => by
    have h1 := hρ x (by simp [ho, Op.operands])
    have h2 := hρ y (by simp [ho, Op.operands])
    rw [hx] at h1
    rw [hy] at h2
    unfold AV.rel at h1 h2
    refine ⟨.bool (a != b), ?_, by rw [hq]; unfold AV.rel; rfl⟩
    simp [execOp, ho, h1, h2, eqGuard, binOp, run_equal_bool _ _ _ _ hu, bne]
end
theorem undBool : Tryd.prog.underlying 4 = some .bool := by kernel_rfl
theorem filter_contains {R : List Int} {S : Int → Bool} (h : Sub R S) (r : Int) : (R.filter S).contains r = S r := by
  rw [Bool.eq_iff_iff]
  rw [List.contains_iff_mem, List.mem_filter]
  exact ⟨fun h => h.2, fun hs => ⟨h r hs, hs⟩⟩
/-- what is live behind a block is live ahead of one behind it -/
theorem nextL_any (f : Func) (b : Nat) (r : Int) : ((nextL f (b : Int)).any fun c => (inL f c.toNat).contains r) = outS f b r := by
  have hs : ∀ b, Sub (regsL f) (outS f b) := fun b => outS_sub (fun b hb x hx r hr => regsL_mem.2 ⟨b, hb, x, hx, hr⟩) b
  have hin : ∀ c, (inL f c).contains r = inS (insOf f c) (outS f c) r := fun c => filter_contains ((hs c).inS (insOf_in (fun b hb x hx r hr => regsL_mem.2 ⟨b, hb, x, hx, hr⟩) c)) r
  rw [Bool.eq_iff_iff, List.any_eq_true, outS_iff, lout_iff]
  constructor
  · rintro ⟨c, hc, hr⟩
    unfold nextL at hc
    obtain ⟨y, hy, rfl⟩ := List.mem_map.1 hc
    refine ⟨y.1, ⟨y, hy, rfl⟩, ?_⟩
    rw [show (blkI y).toNat = y.1 from Int.toNat_natCast _, hin, inS_eq] at hr
    simp only [Bool.or_eq_true, Bool.and_eq_true] at hr
    rcases hr with hr | ⟨h1, h2⟩
    · exact .inl hr
    · exact .inr ⟨h1, outS_iff.1 h2⟩
  · rintro ⟨c, ⟨y, hy, rfl⟩, hr⟩
    refine ⟨blkI y, List.mem_map.2 ⟨y, hy, rfl⟩, ?_⟩
    rw [show (blkI y).toNat = y.1 from Int.toNat_natCast _, hin, inS_eq]
    simp only [Bool.or_eq_true, Bool.and_eq_true]
    rcases hr with hr | ⟨h1, h2⟩
    · exact .inl hr
    · exact .inr ⟨h1, outS_iff.2 h2⟩

end Mu
end
section
/-
  muntinref14: function, block, walked.
  Conditions: data of at most 2^21 everywhere.
-/
namespace Mu
open Go Go.RowKit Go.Proofs

def badF (f : Func) : Bool := ((!(nameB f.name) || decide (f.args < 0)) || decide (f.args > 6)) || ((f.blocks.length : Int) == 0)
def fitF (f : Func) : Bool := (f.regs == (if regsI f > f.args then regsI f else f.args)) && decide (f.regs ≤ 4096)
def fitF2 (f : Func) : Bool := (f.regs == (if regsI f > f.args then regsI f else f.args)) && decide ((if regsI f > f.args then regsI f else f.args) ≤ 4096)
theorem fitF_alt (f : Func) : fitF f = fitF2 f := by
  unfold fitF fitF2
  generalize (if regsI f > f.args then regsI f else f.args) = m
  by_cases h : f.regs = m
  · rw [h]
  · have : (f.regs == m) = false := by simpa using h
    rw [this]
    rfl
def funcB (p : Prog) (n : Nat) (f : Func) : Bool := !((p.funcs.take n).any fun g => g.name == f.name) && (!(badF f) && fitF f)
def badB (b : Block) : Bool := !(nameB b.name) || ((b.ins.length : Int) == 0)
def badI (p : Prog) (f : Func) (b : Block) (i : Nat) (x : Ins) : Bool := (endsB x != (((i : Int) + 1) == (b.ins.length : Int))) || !(oneB p f x)
def badAt (p : Prog) (f : Func) (b : Block) (i : Nat) : Bool := b.ins[i]?.elim false (badI p f b i)
def blockB (p : Prog) (f : Func) (n : Nat) (b : Block) : Bool := !((f.blocks.take n).any fun c => c.name == b.name) && (!(badB b) && !((List.range b.ins.length).any (badAt p f b)))
theorem take_any {α : Type} {l : List α} {q : α → Bool} {k n : Nat} {x : α} (hx : l[k]? = some x) (hk : k < n) (hq : q x = true) : (l.take n).any q = true :=
  List.any_eq_true.2 ⟨x, List.mem_of_getElem? (i := k) (by rw [List.getElem?_take_of_lt hk]; exact hx), hq⟩

set_option maxRecDepth 100000 in
set_option maxHeartbeats 4000000 in
theorem function14_fn (p : Prog) (n : Nat) (f : Func) (hpl : p.funcs.length ≤ 2097152) (hok : ∀ f ∈ p.funcs, okFunc f) (hsm : ∀ f ∈ p.funcs, smallF f) (hf : p.funcs[n]? = some f) :
    Fn Tryd.prog 30 [.agg (encProg p), .lit (.int .i64 (n : Int))] (.lit (.bool (funcB p n f))) := by
  have hfm := List.mem_of_getElem? hf
  have ho := hok f hfm
  have hs := hsm f hfm
  have hbl := hs.blocks
  have hnl : n < p.funcs.length := (List.getElem?_eq_some_iff.1 hf).1
  have hnm := name12_fn f.name ho.name
  have hrg := regs14_fn f ho hs
  refine Fn.of_awp Tryd.func30 rfl (by kernel_rfl) rfl Tryd.ntmps30 fun C hC => ?_
  simp only [List.length_cons, List.length_nil, Nat.reduceAdd, Nat.reduceSub, List.replicate_succ, List.replicate_zero, List.cons_append, List.nil_append]
  refine Awp.seq fun K1 h1 => ?_
  (refine Awp.region ?_; (repeat (first | refine sQ (hq := Quiet.pickOr rfl rfl rfl rfl) (hk := ?_) | refine sQ (hq := Quiet.pickAnd rfl rfl rfl rfl) (hk := ?_) | refine sQ (hk := ?_) | refine sSkip (hk := ?_) | refine sG (hk := ?_) | refine sOwn (hk := ?_))); refine aSeq_nil ?_)
  refine h1 _ ?_
  refine nT (hk := ?_)
  refine Awp.seq fun K2 h2 => ?_
  (refine Awp.region ?_; (repeat (first | refine sQ (hq := Quiet.pickOr rfl rfl rfl rfl) (hk := ?_) | refine sQ (hq := Quiet.pickAnd rfl rfl rfl rfl) (hk := ?_) | refine sQ (hk := ?_) | refine sSkip (hk := ?_) | refine sG (hk := ?_) | refine sOwn (hk := ?_))); refine aSeq_nil ?_)
  refine h2 _ ?_
  refine nT (hk := ?_)
  refine Awp.seq fun K3 h3 => ?_
  refine Awp.seq fun K4 h4 => ?_
  (refine Awp.region ?_; (repeat (first | refine sQ (hq := Quiet.pickOr rfl rfl rfl rfl) (hk := ?_) | refine sQ (hq := Quiet.pickAnd rfl rfl rfl rfl) (hk := ?_) | refine sQ (hk := ?_) | refine sSkip (hk := ?_) | refine sG (hk := ?_) | refine sOwn (hk := ?_))); refine aSeq_nil ?_)
  refine h4 _ ?_
  refine nT (hk := ?_)
  refine Awp.block ?_
  refine Awp.loopF (fun i : Nat => ⟨[.any, .lit (.int .i64 (n : Int)), .ptr 0 0, .any, .any, .ptr 1 0, .lit (.int .i64 (i : Int)), .any, .any, .any, .any, .any, .any, .any, .any, .any, .any, .any, .any, .any, .any, .any, .any, .any, .any, .any, .any, .any, .any, .any, .any, .any, .any, .any, .any, .any, .any, .any, .any, .any, .any, .any, .any, .any, .any, .any, .any, .any, .any, .any, .any, .any, .any, .any, .any, .any, .any, .any, .any], [.box (encProg p), .box (encFunc f)]⟩) (fun i => i ≤ n ∧ ((p.funcs.take i).any fun g => g.name == f.name) = false) (fun i => n - i) 0 ⟨Nat.zero_le _, by simp⟩ (le_T) ?_
  rintro i ⟨hi, hno⟩
  refine Awp.seq fun K6 h6 => ?_
  refine Awp.seq fun K7 h7 => ?_
  (refine Awp.region ?_; (repeat (first | refine sQ (hq := Quiet.pickOr rfl rfl rfl rfl) (hk := ?_) | refine sQ (hq := Quiet.pickAnd rfl rfl rfl rfl) (hk := ?_) | refine sQ (hk := ?_) | refine sSkip (hk := ?_) | refine sG (hk := ?_) | refine sOwn (hk := ?_))); refine aSeq_nil ?_)
  refine h7 _ ?_
  refine nT (hk := ?_)
  refine Awp.cond rfl (fun hb8 => ?_) (fun hb8 => ?_)
  · have hlt : i < n := by simpa using hb8
    obtain ⟨g, hg⟩ : ∃ g, p.funcs[i]? = some g := ⟨_, List.getElem?_eq_getElem (by omega)⟩
    refine Awp.skip ?_
    refine h6 _ ?_
    refine nT (hk := ?_)
    refine Awp.seq fun K9 h9 => ?_
    refine Awp.block ?_
    refine Awp.seq fun K10 h10 => ?_
    (refine drawD 9 (hh := ?_); (repeat (first | refine qQ (hq := Quiet.eqS rfl rfl rfl) (hk := ?_) | refine qQ (hq := Quiet.pickOr rfl rfl rfl rfl) (hk := ?_) | refine qQ (hq := Quiet.pickAnd rfl rfl rfl rfl) (hk := ?_) | refine qQ (hk := ?_) | refine qSkip (hk := ?_) | refine qG (hg := by first | rfl | exact gA_c rfl rfl) (hq := by (intro hg; (try simp only [Bool.and_eq_true, beq_iff_eq] at hg); (try simp only [hg, cond_true, Bool.true_and, beq_self_eq_true]); exact Quiet.eqS rfl rfl rfl)) (hk := ?_) | refine qG (hk := ?_))); refine aQ_nil ?_; (repeat (first | refine sQ (hq := Quiet.eqS rfl rfl rfl) (hk := ?_) | refine sQ (hq := Quiet.pickOr rfl rfl rfl rfl) (hk := ?_) | refine sQ (hq := Quiet.pickAnd rfl rfl rfl rfl) (hk := ?_) | refine sQ (hk := ?_) | refine sSkip (hk := ?_) | refine sG (hg := by first | rfl | exact gA_c rfl rfl) (hq := by (intro hg; (try simp only [Bool.and_eq_true, beq_iff_eq] at hg); (try simp only [hg, cond_true, Bool.true_and, beq_self_eq_true]); exact Quiet.eqS rfl rfl rfl)) (hk := ?_) | refine sG (hk := ?_) | refine sOwn (hk := ?_))); refine aSeq_nil ?_)
    refine h10 _ ?_
    refine nT (hk := ?_)
    refine Awp.cond rfl (fun hb11 => ?_) (fun hb11 => ?_)
    · have e : funcB p n f = false := by
        unfold funcB
        rw [take_any (q := fun g => g.name == f.name) hg hlt hb11]
        rfl
      refine Awp.seq fun K12 h12 => ?_
      (refine Awp.region ?_; (repeat (first | refine sQ (hq := Quiet.pickOr rfl rfl rfl rfl) (hk := ?_) | refine sQ (hq := Quiet.pickAnd rfl rfl rfl rfl) (hk := ?_) | refine sQ (hk := ?_) | refine sSkip (hk := ?_) | refine sG (hk := ?_) | refine sOwn (hk := ?_))); refine aSeq_nil ?_)
      refine h12 _ ?_
      refine nT (hk := ?_)
      refine Awp.ret ?_
      rw [e]
      exact ⟨.inr rfl, Fin.cl rfl⟩
    · refine Awp.skip ?_
      refine h9 _ ?_
      refine nT (hk := ?_)
      (refine Awp.region ?_; (repeat (first | refine sQ (hq := Quiet.pickOr rfl rfl rfl rfl) (hk := ?_) | refine sQ (hq := Quiet.pickAnd rfl rfl rfl rfl) (hk := ?_) | refine sQ (hk := ?_) | refine sSkip (hk := ?_) | refine sG (hk := ?_) | refine sOwn (hk := ?_))); refine aSeq_nil ?_)
      refine athen_n ⟨i + 1, ⟨by omega, any_takeG hg hno hb11⟩, by omega, ?_⟩
      exact le_T
  · have hin : i = n := by have : ¬ i < n := by simpa using hb8
                           omega
    subst hin
    refine Awp.exit ?_
    refine h3 _ ?_
    refine nT (hk := ?_)
    refine Awp.seq fun K13 h13 => ?_
    refine Awp.seq fun K14 h14 => ?_
    (refine Awp.region ?_; (repeat (first | refine sQ (hq := Quiet.call rfl hnm rfl rfl rfl) (hk := ?_) | refine sQ (hq := Quiet.pickOr rfl rfl rfl rfl) (hk := ?_) | refine sQ (hq := Quiet.pickAnd rfl rfl rfl rfl) (hk := ?_) | refine sQ (hk := ?_) | refine sSkip (hk := ?_) | refine sG (hg := by first | rfl | exact gA_c rfl rfl) (hq := by (intro hg; (try simp only [beq_iff_eq] at hg); (try simp only [hg, cond_true, beq_self_eq_true]); exact Quiet.call rfl hnm rfl rfl rfl)) (hk := ?_) | refine sG (hk := ?_) | refine sOwn (hk := ?_))); refine aSeq_nil ?_)
    refine h14 _ ?_
    refine nT (hk := ?_)
    refine Awp.cond rfl (fun hb15 => ?_) (fun hb15 => ?_)
    · have e1 : badF f = true := hb15
      have e : funcB p i f = false := by unfold funcB; rw [hno, e1]; rfl
      refine Awp.seq fun K16 h16 => ?_
      (refine Awp.region ?_; (repeat (first | refine sQ (hq := Quiet.pickOr rfl rfl rfl rfl) (hk := ?_) | refine sQ (hq := Quiet.pickAnd rfl rfl rfl rfl) (hk := ?_) | refine sQ (hk := ?_) | refine sSkip (hk := ?_) | refine sG (hk := ?_) | refine sOwn (hk := ?_))); refine aSeq_nil ?_)
      refine h16 _ ?_
      refine nT (hk := ?_)
      refine Awp.ret ?_
      rw [e]
      exact ⟨.inr rfl, Fin.cl rfl⟩
    · have e1 : badF f = false := hb15
      have e : funcB p i f = fitF2 f := by unfold funcB; rw [hno, e1, fitF_alt]; rfl
      refine Awp.skip ?_
      refine h13 _ ?_
      refine nT (hk := ?_)
      refine Awp.seq fun K17 h17 => ?_
      (refine drawD 14 (hh := ?_); (repeat (first | refine qQ (hq := Quiet.call rfl hrg rfl rfl rfl) (hk := ?_) | refine qQ (hq := Quiet.pickOr rfl rfl rfl rfl) (hk := ?_) | refine qQ (hq := Quiet.pickAnd rfl rfl rfl rfl) (hk := ?_) | refine qQ (hk := ?_) | refine qSkip (hk := ?_) | refine qG (hg := by first | rfl | exact gA_c rfl rfl) (hq := by (intro hg; (try simp only [beq_iff_eq] at hg); (try simp only [hg, cond_true, beq_self_eq_true]); exact Quiet.call rfl hrg rfl rfl rfl)) (hk := ?_) | refine qG (hk := ?_))); refine aQ_nil ?_; (repeat (first | refine sQ (hq := Quiet.call rfl hrg rfl rfl rfl) (hk := ?_) | refine sQ (hq := Quiet.pickOr rfl rfl rfl rfl) (hk := ?_) | refine sQ (hq := Quiet.pickAnd rfl rfl rfl rfl) (hk := ?_) | refine sQ (hk := ?_) | refine sSkip (hk := ?_) | refine sG (hg := by first | rfl | exact gA_c rfl rfl) (hq := by (intro hg; (try simp only [Bool.and_eq_true, beq_iff_eq] at hg); (try simp only [hg, cond_true, Bool.true_and, beq_self_eq_true]); exact Quiet.call rfl hrg rfl rfl rfl)) (hk := ?_) | refine sG (hk := ?_) | refine sOwn (hk := ?_))); refine aSeq_nil ?_)
      refine h17 _ ?_
      refine nT (hk := ?_)
      refine Awp.ret ?_
      rw [e]
      exact ⟨.inr rfl, Fin.cl rfl⟩

set_option maxRecDepth 100000 in
set_option maxHeartbeats 4000000 in
theorem block14_fn (p : Prog) (f : Func) (n : Nat) (b : Block) (hpl : p.funcs.length ≤ 2097152) (ho : okFunc f) (hs : smallF f) (hb : f.blocks[n]? = some b) :
    Fn Tryd.prog 31 [.agg (encProg p), .agg (encFunc f), .lit (.int .i64 (n : Int))] (.lit (.bool (blockB p f n b))) := by
  have hbm := List.mem_of_getElem? hb
  have hob := ho.blocks b hbm
  have hsb := hs.all b hbm
  have hbl := hs.blocks
  have hil := hsb.ins
  have hnl : n < f.blocks.length := (List.getElem?_eq_some_iff.1 hb).1
  have hnm := name12_fn b.name hob.name
  have hbo : Tryd.prog.underlying 4 = some .bool := by kernel_rfl
  refine Fn.of_awp Tryd.func31 rfl (by kernel_rfl) rfl Tryd.ntmps31 fun C hC => ?_
  simp only [List.length_cons, List.length_nil, Nat.reduceAdd, Nat.reduceSub, List.replicate_succ, List.replicate_zero, List.cons_append, List.nil_append]
  refine Awp.seq fun K1 h1 => ?_
  (refine Awp.region ?_; (repeat (first | refine sQ (hq := Quiet.pickOr rfl rfl rfl rfl) (hk := ?_) | refine sQ (hq := Quiet.pickAnd rfl rfl rfl rfl) (hk := ?_) | refine sQ (hk := ?_) | refine sSkip (hk := ?_) | refine sG (hk := ?_) | refine sOwn (hk := ?_))); refine aSeq_nil ?_)
  refine h1 _ ?_
  refine nT (hk := ?_)
  refine Awp.seq fun K2 h2 => ?_
  (refine Awp.region ?_; (repeat (first | refine sQ (hq := Quiet.pickOr rfl rfl rfl rfl) (hk := ?_) | refine sQ (hq := Quiet.pickAnd rfl rfl rfl rfl) (hk := ?_) | refine sQ (hk := ?_) | refine sSkip (hk := ?_) | refine sG (hk := ?_) | refine sOwn (hk := ?_))); refine aSeq_nil ?_)
  refine h2 _ ?_
  refine nT (hk := ?_)
  refine Awp.seq fun K3 h3 => ?_
  refine Awp.seq fun K4 h4 => ?_
  (refine Awp.region ?_; (repeat (first | refine sQ (hq := Quiet.pickOr rfl rfl rfl rfl) (hk := ?_) | refine sQ (hq := Quiet.pickAnd rfl rfl rfl rfl) (hk := ?_) | refine sQ (hk := ?_) | refine sSkip (hk := ?_) | refine sG (hk := ?_) | refine sOwn (hk := ?_))); refine aSeq_nil ?_)
  refine h4 _ ?_
  refine nT (hk := ?_)
  refine Awp.block ?_
  refine Awp.loopF (fun i : Nat => ⟨[.any, .any, .lit (.int .i64 (n : Int)), .ptr 0 0, .ptr 1 0, .any, .any, .ptr 2 0, .lit (.int .i64 (i : Int)), .any, .any, .any, .any, .any, .any, .any, .any, .any, .any, .any, .any, .any, .any, .any, .any, .any, .any, .any, .any, .any, .any, .any, .any, .any, .any, .any, .any, .any, .any, .any, .any, .any, .any, .any, .any, .any, .any, .any, .any, .any, .any, .any, .any, .any, .any, .any, .any, .any, .any, .any, .any, .any, .any, .any, .any, .any, .any, .any, .any, .any], [.box (encProg p), .box (encFunc f), .box (encBlock b)]⟩) (fun i => i ≤ n ∧ ((f.blocks.take i).any fun c => c.name == b.name) = false) (fun i => n - i) 0 ⟨Nat.zero_le _, by simp⟩ (le_T) ?_
  rintro i ⟨hi, hno⟩
  refine Awp.seq fun K6 h6 => ?_
  refine Awp.seq fun K7 h7 => ?_
  (refine Awp.region ?_; (repeat (first | refine sQ (hq := Quiet.pickOr rfl rfl rfl rfl) (hk := ?_) | refine sQ (hq := Quiet.pickAnd rfl rfl rfl rfl) (hk := ?_) | refine sQ (hk := ?_) | refine sSkip (hk := ?_) | refine sG (hk := ?_) | refine sOwn (hk := ?_))); refine aSeq_nil ?_)
  refine h7 _ ?_
  refine nT (hk := ?_)
  refine Awp.cond rfl (fun hb8 => ?_) (fun hb8 => ?_)
  · have hlt : i < n := by simpa using hb8
    obtain ⟨g, hg⟩ : ∃ g, f.blocks[i]? = some g := ⟨_, List.getElem?_eq_getElem (by omega)⟩
    refine Awp.skip ?_
    refine h6 _ ?_
    refine nT (hk := ?_)
    refine Awp.seq fun K9 h9 => ?_
    refine Awp.block ?_
    refine Awp.seq fun K10 h10 => ?_
    (refine drawD 9 (hh := ?_); (repeat (first | refine qQ (hq := Quiet.eqS rfl rfl rfl) (hk := ?_) | refine qQ (hq := Quiet.pickOr rfl rfl rfl rfl) (hk := ?_) | refine qQ (hq := Quiet.pickAnd rfl rfl rfl rfl) (hk := ?_) | refine qQ (hk := ?_) | refine qSkip (hk := ?_) | refine qG (hg := by first | rfl | exact gA_c rfl rfl) (hq := by (intro hg; (try simp only [Bool.and_eq_true, beq_iff_eq] at hg); (try simp only [hg, cond_true, Bool.true_and, beq_self_eq_true]); exact Quiet.eqS rfl rfl rfl)) (hk := ?_) | refine qG (hk := ?_))); refine aQ_nil ?_; (repeat (first | refine sQ (hq := Quiet.eqS rfl rfl rfl) (hk := ?_) | refine sQ (hq := Quiet.pickOr rfl rfl rfl rfl) (hk := ?_) | refine sQ (hq := Quiet.pickAnd rfl rfl rfl rfl) (hk := ?_) | refine sQ (hk := ?_) | refine sSkip (hk := ?_) | refine sG (hg := by first | rfl | exact gA_c rfl rfl) (hq := by (intro hg; (try simp only [Bool.and_eq_true, beq_iff_eq] at hg); (try simp only [hg, cond_true, Bool.true_and, beq_self_eq_true]); exact Quiet.eqS rfl rfl rfl)) (hk := ?_) | refine sG (hk := ?_) | refine sOwn (hk := ?_))); refine aSeq_nil ?_)
    refine h10 _ ?_
    refine nT (hk := ?_)
    refine Awp.cond rfl (fun hb11 => ?_) (fun hb11 => ?_)
    · have e : blockB p f n b = false := by
        unfold blockB
        rw [take_any (q := fun c => c.name == b.name) hg hlt hb11]
        rfl
      refine Awp.seq fun K12 h12 => ?_
      (refine Awp.region ?_; (repeat (first | refine sQ (hq := Quiet.pickOr rfl rfl rfl rfl) (hk := ?_) | refine sQ (hq := Quiet.pickAnd rfl rfl rfl rfl) (hk := ?_) | refine sQ (hk := ?_) | refine sSkip (hk := ?_) | refine sG (hk := ?_) | refine sOwn (hk := ?_))); refine aSeq_nil ?_)
      refine h12 _ ?_
      refine nT (hk := ?_)
      refine Awp.ret ?_
      rw [e]
      exact ⟨.inr rfl, Fin.cl rfl⟩
    · refine Awp.skip ?_
      refine h9 _ ?_
      refine nT (hk := ?_)
      (refine Awp.region ?_; (repeat (first | refine sQ (hq := Quiet.pickOr rfl rfl rfl rfl) (hk := ?_) | refine sQ (hq := Quiet.pickAnd rfl rfl rfl rfl) (hk := ?_) | refine sQ (hk := ?_) | refine sSkip (hk := ?_) | refine sG (hk := ?_) | refine sOwn (hk := ?_))); refine aSeq_nil ?_)
      refine athen_n ⟨i + 1, ⟨by omega, any_takeG hg hno hb11⟩, by omega, ?_⟩
      exact le_T
  · have hin : i = n := by have : ¬ i < n := by simpa using hb8
                           omega
    subst hin
    refine Awp.exit ?_
    refine h3 _ ?_
    refine nT (hk := ?_)
    refine Awp.seq fun K13 h13 => ?_
    refine Awp.seq fun K14 h14 => ?_
    (refine Awp.region ?_; (repeat (first | refine sQ (hq := Quiet.call rfl hnm rfl rfl rfl) (hk := ?_) | refine sQ (hq := Quiet.pickOr rfl rfl rfl rfl) (hk := ?_) | refine sQ (hq := Quiet.pickAnd rfl rfl rfl rfl) (hk := ?_) | refine sQ (hk := ?_) | refine sSkip (hk := ?_) | refine sG (hg := by first | rfl | exact gA_c rfl rfl) (hq := by (intro hg; (try simp only [beq_iff_eq] at hg); (try simp only [hg, cond_true, beq_self_eq_true]); exact Quiet.call rfl hnm rfl rfl rfl)) (hk := ?_) | refine sG (hk := ?_) | refine sOwn (hk := ?_))); refine aSeq_nil ?_)
    refine h14 _ ?_
    refine nT (hk := ?_)
    refine Awp.cond rfl (fun hb15 => ?_) (fun hb15 => ?_)
    · have e1 : badB b = true := hb15
      have e : blockB p f i b = false := by unfold blockB; rw [hno, e1]; rfl
      refine Awp.seq fun K16 h16 => ?_
      (refine Awp.region ?_; (repeat (first | refine sQ (hq := Quiet.pickOr rfl rfl rfl rfl) (hk := ?_) | refine sQ (hq := Quiet.pickAnd rfl rfl rfl rfl) (hk := ?_) | refine sQ (hk := ?_) | refine sSkip (hk := ?_) | refine sG (hk := ?_) | refine sOwn (hk := ?_))); refine aSeq_nil ?_)
      refine h16 _ ?_
      refine nT (hk := ?_)
      refine Awp.ret ?_
      rw [e]
      exact ⟨.inr rfl, Fin.cl rfl⟩
    · have e1 : badB b = false := hb15
      refine Awp.skip ?_
      refine h13 _ ?_
      refine nT (hk := ?_)
      refine Awp.seq fun K17 h17 => ?_
      refine Awp.seq fun K18 h18 => ?_
      (refine Awp.region ?_; (repeat (first | refine sQ (hq := Quiet.pickOr rfl rfl rfl rfl) (hk := ?_) | refine sQ (hq := Quiet.pickAnd rfl rfl rfl rfl) (hk := ?_) | refine sQ (hk := ?_) | refine sSkip (hk := ?_) | refine sG (hk := ?_) | refine sOwn (hk := ?_))); refine aSeq_nil ?_)
      refine h18 _ ?_
      refine nT (hk := ?_)
      refine Awp.block ?_
      refine Awp.loopF (fun k : Nat => ⟨[.any, .any, .any, .ptr 0 0, .ptr 1 0, .any, .any, .ptr 2 0, .any, .lit (.int .i64 (k : Int)), .any, .any, .any, .any, .any, .any, .any, .any, .any, .any, .any, .any, .any, .any, .any, .any, .any, .any, .any, .any, .any, .any, .any, .any, .any, .any, .any, .any, .any, .any, .any, .any, .any, .any, .any, .any, .any, .any, .any, .any, .any, .any, .any, .any, .any, .any, .any, .any, .any, .any, .any, .any, .any, .any, .any, .any, .any, .any, .any, .any], [.box (encProg p), .box (encFunc f), .box (encBlock b)]⟩) (fun k => k ≤ b.ins.length ∧ (((List.range b.ins.length).take k).any (badAt p f b)) = false) (fun k => b.ins.length - k) 0 ⟨Nat.zero_le _, by simp⟩ (le_T) ?_
      rintro k ⟨hk, hnk⟩
      refine Awp.seq fun K20 h20 => ?_
      refine Awp.seq fun K21 h21 => ?_
      (refine Awp.region ?_; (repeat (first | refine sQ (hq := Quiet.pickOr rfl rfl rfl rfl) (hk := ?_) | refine sQ (hq := Quiet.pickAnd rfl rfl rfl rfl) (hk := ?_) | refine sQ (hk := ?_) | refine sSkip (hk := ?_) | refine sG (hk := ?_) | refine sOwn (hk := ?_))); refine aSeq_nil ?_)
      refine h21 _ ?_
      refine nT (hk := ?_)
      refine Awp.cond rfl (fun hb22 => ?_) (fun hb22 => ?_)
      · have hkl : k < b.ins.length := by simpa using hb22
        obtain ⟨x, hx⟩ : ∃ x, b.ins[k]? = some x := ⟨_, List.getElem?_eq_getElem hkl⟩
        have hxm := List.mem_of_getElem? hx
        have hox := hob.ins x hxm
        have hxl : x.args.length ≤ 2097152 := by have := hsb.all x hxm; omega
        have hrk : (List.range b.ins.length)[k]? = some k := List.getElem?_range hkl
        have hba : badAt p f b k = badI p f b k x := by unfold badAt; rw [hx]; rfl
        have hend := ends14_fn x
        have hone := one14_fn p f x hox hxl hpl hbl
        refine Awp.skip ?_
        refine h20 _ ?_
        refine nT (hk := ?_)
        refine Awp.seq fun K23 h23 => ?_
        refine Awp.block ?_
        refine Awp.seq fun K24 h24 => ?_
        (refine drawD 24 (hh := ?_); (repeat (first | refine qQ (hq := Quiet.bneb hbo rfl rfl rfl rfl) (hk := ?_) | refine qQ (hq := Quiet.call rfl hend rfl rfl rfl) (hk := ?_) | refine qQ (hq := Quiet.call rfl hone rfl rfl rfl) (hk := ?_) | refine qQ (hq := Quiet.pickOr rfl rfl rfl rfl) (hk := ?_) | refine qQ (hq := Quiet.pickAnd rfl rfl rfl rfl) (hk := ?_) | refine qQ (hk := ?_) | refine qSkip (hk := ?_) | refine qG (hg := by first | rfl | exact gA_c rfl rfl) (hq := by (intro hg; (try simp only [beq_iff_eq] at hg); (try simp only [hg, cond_true, beq_self_eq_true]); exact Quiet.bneb hbo rfl rfl rfl rfl)) (hk := ?_) | refine qG (hg := by first | rfl | exact gA_c rfl rfl) (hq := by (intro hg; (try simp only [beq_iff_eq] at hg); (try simp only [hg, cond_true, beq_self_eq_true]); exact Quiet.call rfl hend rfl rfl rfl)) (hk := ?_) | refine qG (hg := by first | rfl | exact gA_c rfl rfl) (hq := by (intro hg; (try simp only [beq_iff_eq] at hg); (try simp only [hg, cond_true, beq_self_eq_true]); exact Quiet.call rfl hone rfl rfl rfl)) (hk := ?_) | refine qG (hk := ?_))); refine aQ_nil ?_; (repeat (first | refine sQ (hq := Quiet.bneb hbo rfl rfl rfl rfl) (hk := ?_) | refine sQ (hq := Quiet.call rfl hend rfl rfl rfl) (hk := ?_) | refine sQ (hq := Quiet.call rfl hone rfl rfl rfl) (hk := ?_) | refine sQ (hq := Quiet.pickOr rfl rfl rfl rfl) (hk := ?_) | refine sQ (hq := Quiet.pickAnd rfl rfl rfl rfl) (hk := ?_) | refine sQ (hk := ?_) | refine sSkip (hk := ?_) | refine sG (hg := by first | rfl | exact gA_c rfl rfl) (hq := by (intro hg; (try simp only [Bool.and_eq_true, beq_iff_eq] at hg); (try simp only [hg, cond_true, Bool.true_and, beq_self_eq_true]); exact Quiet.bneb hbo rfl rfl rfl rfl)) (hk := ?_) | refine sG (hg := by first | rfl | exact gA_c rfl rfl) (hq := by (intro hg; (try simp only [Bool.and_eq_true, beq_iff_eq] at hg); (try simp only [hg, cond_true, Bool.true_and, beq_self_eq_true]); exact Quiet.call rfl hend rfl rfl rfl)) (hk := ?_) | refine sG (hg := by first | rfl | exact gA_c rfl rfl) (hq := by (intro hg; (try simp only [Bool.and_eq_true, beq_iff_eq] at hg); (try simp only [hg, cond_true, Bool.true_and, beq_self_eq_true]); exact Quiet.call rfl hone rfl rfl rfl)) (hk := ?_) | refine sG (hk := ?_) | refine sOwn (hk := ?_))); refine aSeq_nil ?_)
        refine h24 _ ?_
        refine nT (hk := ?_)
        refine Awp.cond rfl (fun hb25 => ?_) (fun hb25 => ?_)
        · have e2 : badAt p f b k = true := by rw [hba]; exact hb25
          have e : blockB p f i b = false := by
            unfold blockB
            rw [List.any_eq_true.2 ⟨k, List.mem_of_getElem? hrk, e2⟩, hno, e1]
            rfl
          refine Awp.seq fun K26 h26 => ?_
          (refine Awp.region ?_; (repeat (first | refine sQ (hq := Quiet.pickOr rfl rfl rfl rfl) (hk := ?_) | refine sQ (hq := Quiet.pickAnd rfl rfl rfl rfl) (hk := ?_) | refine sQ (hk := ?_) | refine sSkip (hk := ?_) | refine sG (hk := ?_) | refine sOwn (hk := ?_))); refine aSeq_nil ?_)
          refine h26 _ ?_
          refine nT (hk := ?_)
          refine Awp.ret ?_
          rw [e]
          exact ⟨.inr rfl, Fin.cl rfl⟩
        · have e2 : badAt p f b k = false := by rw [hba]; exact hb25
          refine Awp.skip ?_
          refine h23 _ ?_
          refine nT (hk := ?_)
          (refine Awp.region ?_; (repeat (first | refine sQ (hq := Quiet.pickOr rfl rfl rfl rfl) (hk := ?_) | refine sQ (hq := Quiet.pickAnd rfl rfl rfl rfl) (hk := ?_) | refine sQ (hk := ?_) | refine sSkip (hk := ?_) | refine sG (hk := ?_) | refine sOwn (hk := ?_))); refine aSeq_nil ?_)
          refine athen_n ⟨k + 1, ⟨by omega, any_takeG hrk hnk e2⟩, by omega, ?_⟩
          exact le_T
      · have hkl : ¬ k < b.ins.length := by simpa using hb22
        have hno2 := any_all hnk (by rw [List.length_range]; exact hkl)
        have e : blockB p f i b = true := by unfold blockB; rw [hno, e1, hno2]; rfl
        refine Awp.exit ?_
        refine h17 _ ?_
        refine nT (hk := ?_)
        refine Awp.seq fun K27 h27 => ?_
        (refine Awp.region ?_; (repeat (first | refine sQ (hq := Quiet.pickOr rfl rfl rfl rfl) (hk := ?_) | refine sQ (hq := Quiet.pickAnd rfl rfl rfl rfl) (hk := ?_) | refine sQ (hk := ?_) | refine sSkip (hk := ?_) | refine sG (hk := ?_) | refine sOwn (hk := ?_))); refine aSeq_nil ?_)
        refine h27 _ ?_
        refine nT (hk := ?_)
        refine Awp.ret ?_
        rw [e]
        exact ⟨.inr rfl, Fin.cl rfl⟩
end Mu
end
section
/-
  muntinref14: Lacks, missing, walked.
  Conditions: data of at most 2^21 everywhere; the function's blocks end well.
-/
namespace Mu
open Go Go.RowKit Go.Proofs

def lastO (b : Block) : List Int := b.ins[b.ins.length - 1]?.elim [] nextO
def putK (out : List Bool) (k : Int) : List Bool := out.set k.toNat true
def stepK (f : Func) (r : Int) (out : List Bool) (i : Nat) : List Bool :=
  f.blocks[i]?.elim out fun b => if !(out.getD i false) || writesR b.ins r then out else (lastO b).foldl putK out
def roundK (f : Func) (r : Int) (out : List Bool) (m : Nat) : List Bool := (List.range m).foldl (stepK f r) out
def lacksK (f : Func) (r : Int) : Nat → List Bool
  | 0 => (List.replicate f.blocks.length false).set 0 (decide (r ≥ f.args))
  | m + 1 => roundK f r (lacksK f r m) f.blocks.length
def lacksL (f : Func) (r : Int) : List Bool := lacksK f r f.blocks.length
theorem roundK_succ (f : Func) (r : Int) (out : List Bool) (m : Nat) : roundK f r out (m + 1) = stepK f r (roundK f r out m) m := by unfold roundK; rw [List.range_succ, List.foldl_append]; rfl
theorem putsK_len (l : List Int) : ∀ out : List Bool, (l.foldl putK out).length = out.length := by
  induction l with
  | nil => intro out; rfl
  | cons x l ih => intro out; rw [List.foldl_cons, ih]; simp [putK]
theorem stepK_len (f : Func) (r : Int) (out : List Bool) (b : Nat) : (stepK f r out b).length = out.length := by
  unfold stepK
  cases f.blocks[b]? with
  | none => rfl
  | some b =>
    simp only [Option.elim]
    split
    · rfl
    · exact putsK_len _ _
theorem roundK_len (f : Func) (r : Int) (out : List Bool) (m : Nat) : (roundK f r out m).length = out.length := by
  induction m with
  | zero => rfl
  | succ m ih => rw [roundK_succ, stepK_len, ih]
theorem lacksK_len (f : Func) (r : Int) (m : Nat) : (lacksK f r m).length = f.blocks.length := by
  induction m with
  | zero => simp [lacksK]
  | succ m ih => unfold lacksK; rw [roundK_len, ih]
/-- the blocks of a function end well -/
structure Ended (f : Func) : Prop where
  ne : 0 < f.blocks.length
  last : ∀ b ∈ f.blocks, ∃ x, b.ins[b.ins.length - 1]? = some x ∧ ∀ k ∈ nextO x, 0 ≤ k ∧ k < (f.blocks.length : Int)

set_option maxRecDepth 100000 in
set_option maxHeartbeats 4000000 in
theorem lacks14_fn (f : Func) (r : Int) (ho : okFunc f) (hs : smallF f) (he : Ended f) : Fn Tryd.prog 32 [.agg (encFunc f), .lit (.int .i64 r)] (.bs Ty.bool (lacksL f r)) := by
  have hbl := hs.blocks
  have hne := he.ne
  have hmk : 1 * f.blocks.length ≤ 281474976710656 := by omega
  have hmx : f.blocks.length ≤ maxLen := by unfold maxLen; omega
  have hrl : 0 < (List.replicate f.blocks.length false).length := by simp; omega
  obtain ⟨q00, hq00⟩ : ∃ q, (List.replicate f.blocks.length false)[0]? = some q := ⟨_, List.getElem?_eq_getElem hrl⟩
  refine Fn.of_awp Tryd.func32 rfl (by kernel_rfl) rfl Tryd.ntmps32 fun C hC => ?_
  simp only [List.length_cons, List.length_nil, Nat.reduceAdd, Nat.reduceSub, List.replicate_succ, List.replicate_zero, List.cons_append, List.nil_append]
  refine Awp.seq fun K1 h1 => ?_
  (refine Awp.region ?_; (repeat (first | refine sQ (hq := Quiet.pickOr rfl rfl rfl rfl) (hk := ?_) | refine sQ (hq := Quiet.pickAnd rfl rfl rfl rfl) (hk := ?_) | refine sQ (hk := ?_) | refine sSkip (hk := ?_) | refine sG (hk := ?_) | refine sOwn (hk := ?_))); refine aSeq_nil ?_)
  refine h1 _ ?_
  refine nT (hk := ?_)
  refine Awp.seq fun K2 h2 => ?_
  (refine Awp.region ?_; (repeat (first | refine sQ (hq := Quiet.pickOr rfl rfl rfl rfl) (hk := ?_) | refine sQ (hq := Quiet.pickAnd rfl rfl rfl rfl) (hk := ?_) | refine sQ (hk := ?_) | refine sSkip (hk := ?_) | refine sG (hk := ?_) | refine sOwn (hk := ?_))))
  (repeat (first | (refine aSeq_t rfl (AOp.mk1 (e := 4) (z := .bool false) (bytes := 1) (T := Ty.bool) false rfl (by kernel_rfl) rfl (fun _ _ => rfl) rfl rfl hmk hmx ?_); refine sNt (hk := ?_)) | refine sQ (hq := Quiet.pickOr rfl rfl rfl rfl) (hk := ?_) | refine sQ (hq := Quiet.pickAnd rfl rfl rfl rfl) (hk := ?_) | refine sQ (hk := ?_) | refine sSkip (hk := ?_) | refine sG (hk := ?_) | refine sOwn (hk := ?_)))
  refine aSeq_nil ?_
  refine h2 _ ?_
  refine nT (hk := ?_)
  refine Awp.seq fun K3 h3 => ?_
  (refine Awp.region ?_; (repeat (first | refine sQ (hq := Quiet.pickOr rfl rfl rfl rfl) (hk := ?_) | refine sQ (hq := Quiet.pickAnd rfl rfl rfl rfl) (hk := ?_) | refine sQ (hk := ?_) | refine sSkip (hk := ?_) | refine sG (hk := ?_) | refine sOwn (hk := ?_))); refine aSeq_nil ?_)
  refine h3 _ ?_
  refine nT (hk := ?_)
  refine Awp.seq fun K4 h4 => ?_
  refine Awp.seq fun K5 h5 => ?_
  (refine Awp.region ?_; (repeat (first | refine sQ (hq := Quiet.pickOr rfl rfl rfl rfl) (hk := ?_) | refine sQ (hq := Quiet.pickAnd rfl rfl rfl rfl) (hk := ?_) | refine sQ (hk := ?_) | refine sSkip (hk := ?_) | refine sG (hk := ?_) | refine sOwn (hk := ?_))); refine aSeq_nil ?_)
  refine h5 _ ?_
  refine nT (hk := ?_)
  refine Awp.block ?_
  refine Awp.loopF (fun m : Nat => ⟨[.any, .lit (.int .i64 r), .ptr 0 0, .any, .any, .own 1 0, .lit (.int .i64 (m : Int)), .any, .any, .any, .any, .any, .any, .any, .any, .any, .any, .any, .any, .any, .any, .any, .any, .any, .any, .any, .any, .any, .any, .any, .any, .any, .any, .any, .any, .any, .any, .any, .any, .any, .any, .any, .any, .any, .any, .any, .any, .any, .any, .any, .any, .any, .any, .any, .any, .any, .any, .any, .any, .any, .any, .any, .any, .any, .any, .any, .any, .any], [.box (encFunc f), .row 0 4 Ty.bool (lacksK f r m)]⟩) (fun m => m ≤ f.blocks.length) (fun m => f.blocks.length - m) 0 (Nat.zero_le _) (le_T) ?_
  intro m hm
  dsimp only at hm ⊢
  refine Awp.seq fun K7 h7 => ?_
  refine Awp.seq fun K8 h8 => ?_
  (refine Awp.region ?_; (repeat (first | refine sQ (hq := Quiet.pickOr rfl rfl rfl rfl) (hk := ?_) | refine sQ (hq := Quiet.pickAnd rfl rfl rfl rfl) (hk := ?_) | refine sQ (hk := ?_) | refine sSkip (hk := ?_) | refine sG (hk := ?_) | refine sOwn (hk := ?_))); refine aSeq_nil ?_)
  refine h8 _ ?_
  refine nT (hk := ?_)
  refine Awp.cond rfl (fun hb9 => ?_) (fun hb9 => ?_)
  · have hml : m < f.blocks.length := by simpa using hb9
    have hll := lacksK_len f r m
    have hlk : lacksK f r (m + 1) = roundK f r (lacksK f r m) f.blocks.length := rfl
    generalize hL0 : lacksK f r m = L0 at hll hlk ⊢
    refine Awp.skip ?_
    refine h7 _ ?_
    refine nT (hk := ?_)
    refine Awp.seq fun K10 h10 => ?_
    refine Awp.block ?_
    refine Awp.seq fun K11 h11 => ?_
    (refine Awp.region ?_; (repeat (first | refine sQ (hq := Quiet.pickOr rfl rfl rfl rfl) (hk := ?_) | refine sQ (hq := Quiet.pickAnd rfl rfl rfl rfl) (hk := ?_) | refine sQ (hk := ?_) | refine sSkip (hk := ?_) | refine sG (hk := ?_) | refine sOwn (hk := ?_))); refine aSeq_nil ?_)
    refine h11 _ ?_
    refine nT (hk := ?_)
    refine Awp.block ?_
    refine Awp.loopF (fun k : Nat => ⟨[.any, .lit (.int .i64 r), .ptr 0 0, .any, .any, .own 1 0, .lit (.int .i64 (m : Int)), .lit (.int .i64 (k : Int)), .any, .any, .any, .any, .any, .any, .any, .any, .any, .any, .any, .any, .any, .any, .any, .any, .any, .any, .any, .any, .any, .any, .any, .any, .any, .any, .any, .any, .any, .any, .any, .any, .any, .any, .any, .any, .any, .any, .any, .any, .any, .any, .any, .any, .any, .any, .any, .any, .any, .any, .any, .any, .any, .any, .any, .any, .any, .any, .any, .any], [.box (encFunc f), .row 0 4 Ty.bool (roundK f r L0 k)]⟩) (fun k => k ≤ f.blocks.length) (fun k => f.blocks.length - k) 0 (Nat.zero_le _) (le_T) ?_
    intro k hk
    dsimp only at hk ⊢
    refine Awp.seq fun K13 h13 => ?_
    refine Awp.seq fun K14 h14 => ?_
    (refine Awp.region ?_; (repeat (first | refine sQ (hq := Quiet.pickOr rfl rfl rfl rfl) (hk := ?_) | refine sQ (hq := Quiet.pickAnd rfl rfl rfl rfl) (hk := ?_) | refine sQ (hk := ?_) | refine sSkip (hk := ?_) | refine sG (hk := ?_) | refine sOwn (hk := ?_))); refine aSeq_nil ?_)
    refine h14 _ ?_
    refine nT (hk := ?_)
    refine Awp.cond rfl (fun hb15 => ?_) (fun hb15 => ?_)
    · have hkl : k < f.blocks.length := by simpa using hb15
      obtain ⟨b, hb⟩ : ∃ b, f.blocks[k]? = some b := ⟨_, List.getElem?_eq_getElem hkl⟩
      have hbm := List.mem_of_getElem? hb
      have hob := ho.blocks b hbm
      have hsb := hs.all b hbm
      have hil := hsb.ins
      obtain ⟨x, hx, hxn⟩ := he.last b hbm
      have hox := hob.ins x (List.mem_of_getElem? hx)
      have hlo : lastO b = nextO x := by unfold lastO; rw [hx]; rfl
      have hRl : (roundK f r L0 k).length = f.blocks.length := by rw [roundK_len, hll]
      have hRs : roundK f r L0 (k + 1) = if !((roundK f r L0 k).getD k false) || writesR b.ins r then roundK f r L0 k else (nextO x).foldl putK (roundK f r L0 k) := by
        rw [roundK_succ]
        unfold stepK
        rw [hb, ← hlo]
        rfl
      generalize hL1 : roundK f r L0 k = L1 at hRl hRs ⊢
      have hkL : k < L1.length := by omega
      obtain ⟨q, hq⟩ : ∃ q, L1[k]? = some q := ⟨_, List.getElem?_eq_getElem hkL⟩
      have hqd : L1.getD k false = q := by rw [List.getD_eq_getElem?_getD, hq]; rfl
      rw [hqd] at hRs
      have hwr : Fn Tryd.prog 51 [.agg (encBlock b), .lit (.int .i64 r), .lit (.int .i64 (b.ins.length : Int))] (.lit (.bool (writesR b.ins r))) := by
        have := writes14_fn b r b.ins.length hob hil (Nat.le_refl _)
        rw [List.take_length] at this
        exact this
      refine Awp.skip ?_
      refine h13 _ ?_
      refine nT (hk := ?_)
      refine Awp.seq fun K16 h16 => ?_
      refine Awp.block ?_
      refine Awp.seq fun K17 h17 => ?_
      (refine Awp.region ?_; (repeat (first | refine sQ (hq := Quiet.pickOr rfl rfl rfl rfl) (hk := ?_) | refine sQ (hq := Quiet.pickAnd rfl rfl rfl rfl) (hk := ?_) | refine sQ (hk := ?_) | refine sSkip (hk := ?_) | refine sG (hk := ?_) | refine sOwn (hk := ?_))); refine aSeq_nil ?_)
      refine h17 _ ?_
      refine nT (hk := ?_)
      refine Awp.seq fun K18 h18 => ?_
      refine Awp.seq fun K19 h19 => ?_
      (refine Awp.region ?_; (repeat (first | refine sQ (hq := Quiet.call rfl hwr rfl rfl rfl) (hk := ?_) | refine sQ (hq := Quiet.pickOr rfl rfl rfl rfl) (hk := ?_) | refine sQ (hq := Quiet.pickAnd rfl rfl rfl rfl) (hk := ?_) | refine sQ (hk := ?_) | refine sSkip (hk := ?_) | refine sG (hg := by first | rfl | exact gA_c rfl rfl) (hq := by (intro hg; (try simp only [beq_iff_eq] at hg); (try simp only [hg, cond_true, beq_self_eq_true]); exact Quiet.call rfl hwr rfl rfl rfl)) (hk := ?_) | refine sG (hk := ?_) | refine sOwn (hk := ?_))); refine aSeq_nil ?_)
      refine h19 _ ?_
      refine nT (hk := ?_)
      refine Awp.cond rfl (fun hb20 => ?_) (fun hb20 => ?_)
      · have hb : (!q || writesR b.ins r) = true := hb20
        rw [hb] at hRs
        refine Awp.exit ?_
        refine h16 _ ?_
        refine nT (hk := ?_)
        (refine Awp.region ?_; (repeat (first | refine sQ (hq := Quiet.pickOr rfl rfl rfl rfl) (hk := ?_) | refine sQ (hq := Quiet.pickAnd rfl rfl rfl rfl) (hk := ?_) | refine sQ (hk := ?_) | refine sSkip (hk := ?_) | refine sG (hk := ?_) | refine sOwn (hk := ?_))); refine aSeq_nil ?_)
        refine athen_n ⟨k + 1, by omega, by omega, ?_⟩
        rw [hRs, if_pos rfl]
        exact le_C (.cons (.cons (Cut.nil _)))
      · have hb : (!q || writesR b.ins r) = false := hb20
        rw [hb] at hRs
        refine Awp.skip ?_
        refine h18 _ ?_
        refine nT (hk := ?_)
        refine Awp.seq fun K21 h21 => ?_
        (refine Awp.region ?_; (repeat (first | refine sQ (hq := Quiet.call rfl (next14_fn b x hil hx hox) rfl rfl rfl) (hk := ?_) | refine sQ (hq := Quiet.pickOr rfl rfl rfl rfl) (hk := ?_) | refine sQ (hq := Quiet.pickAnd rfl rfl rfl rfl) (hk := ?_) | refine sQ (hk := ?_) | refine sSkip (hk := ?_) | refine sG (hg := by first | rfl | exact gA_c rfl rfl) (hq := by (intro hg; (try simp only [Bool.and_eq_true, beq_iff_eq] at hg); (try simp only [hg, cond_true, Bool.true_and, beq_self_eq_true]); exact Quiet.call rfl (next14_fn b x hil hx hox) rfl rfl rfl)) (hk := ?_) | refine sG (hk := ?_) | refine sOwn (hk := ?_))); refine aSeq_nil ?_)
        refine h21 _ ?_
        refine nT (hk := ?_)
        refine Awp.seq fun K22 h22 => ?_
        (refine Awp.region ?_; (repeat (first | refine sQ (hq := Quiet.pickOr rfl rfl rfl rfl) (hk := ?_) | refine sQ (hq := Quiet.pickAnd rfl rfl rfl rfl) (hk := ?_) | refine sQ (hk := ?_) | refine sSkip (hk := ?_) | refine sG (hk := ?_) | refine sOwn (hk := ?_))); refine aSeq_nil ?_)
        refine h22 _ ?_
        refine nT (hk := ?_)
        refine Awp.block ?_
        have hnl : (nextO x).length ≤ 2 := by
          unfold nextO
          split
          · simp
          · split <;> simp
        refine Awp.loopF (fun j : Nat => ⟨[.any, .lit (.int .i64 r), .ptr 0 0, .any, .any, .own 1 0, .lit (.int .i64 (m : Int)), .lit (.int .i64 (k : Int)), .any, .bs tInt (nextO x), .lit (.int .i64 (j : Int)), .any, .any, .any, .any, .any, .any, .any, .any, .any, .any, .any, .any, .any, .any, .any, .any, .any, .any, .any, .any, .any, .any, .any, .any, .any, .any, .any, .any, .any, .any, .any, .any, .any, .any, .any, .any, .any, .any, .any, .any, .any, .any, .any, .any, .any, .any, .any, .any, .any, .any, .any, .any, .any, .any, .any, .any, .any], [.box (encFunc f), .row 0 4 Ty.bool (((nextO x).take j).foldl putK L1)]⟩) (fun j => j ≤ (nextO x).length) (fun j => (nextO x).length - j) 0 (Nat.zero_le _) (le_C (.cons (.cons (Cut.nil _)))) ?_
        intro j hj
        dsimp only at hj ⊢
        refine Awp.seq fun K24 h24 => ?_
        refine Awp.seq fun K25 h25 => ?_
        (refine Awp.region ?_; (repeat (first | refine sQ (hq := Quiet.pickOr rfl rfl rfl rfl) (hk := ?_) | refine sQ (hq := Quiet.pickAnd rfl rfl rfl rfl) (hk := ?_) | refine sQ (hk := ?_) | refine sSkip (hk := ?_) | refine sG (hk := ?_) | refine sOwn (hk := ?_))); refine aSeq_nil ?_)
        refine h25 _ ?_
        refine nT (hk := ?_)
        refine Awp.cond rfl (fun hb26 => ?_) (fun hb26 => ?_)
        · have hjl : j < (nextO x).length := by simpa using hb26
          obtain ⟨y, hy⟩ : ∃ y, (nextO x)[j]? = some y := ⟨_, List.getElem?_eq_getElem hjl⟩
          have hyn := hxn y (List.mem_of_getElem? hy)
          have hy0 := hyn.1
          have hpl := putsK_len ((nextO x).take j) L1
          have hps := fold_take_succ putK L1 hy
          generalize hL2 : ((nextO x).take j).foldl putK L1 = L2 at hpl hps ⊢
          have hyl : y.toNat < L2.length := by omega
          obtain ⟨q2, hq2⟩ : ∃ q, L2[y.toNat]? = some q := ⟨_, List.getElem?_eq_getElem hyl⟩
          refine Awp.skip ?_
          refine h24 _ ?_
          refine nT (hk := ?_)
          refine Awp.seq fun K27 h27 => ?_
          refine Awp.block ?_
          (refine Awp.region ?_; (repeat (first | refine sQ (hq := Quiet.pickOr rfl rfl rfl rfl) (hk := ?_) | refine sQ (hq := Quiet.pickAnd rfl rfl rfl rfl) (hk := ?_) | refine sQ (hk := ?_) | refine sSkip (hk := ?_) | refine sG (hk := ?_) | refine sOwn (hk := ?_))); refine aSeq_nil ?_)
          refine h27 _ ?_
          refine nT (hk := ?_)
          (refine Awp.region ?_; (repeat (first | refine sQ (hq := Quiet.pickOr rfl rfl rfl rfl) (hk := ?_) | refine sQ (hq := Quiet.pickAnd rfl rfl rfl rfl) (hk := ?_) | refine sQ (hk := ?_) | refine sSkip (hk := ?_) | refine sG (hk := ?_) | refine sOwn (hk := ?_))); refine aSeq_nil ?_)
          refine athen_n ⟨j + 1, by omega, by omega, ?_⟩
          rw [hps]
          exact le_T
        · have : j = (nextO x).length := by have : ¬ j < (nextO x).length := by simpa using hb26
                                            omega
          subst this
          rw [List.take_length]
          refine Awp.exit ?_
          refine h16 _ ?_
          refine nT (hk := ?_)
          (refine Awp.region ?_; (repeat (first | refine sQ (hq := Quiet.pickOr rfl rfl rfl rfl) (hk := ?_) | refine sQ (hq := Quiet.pickAnd rfl rfl rfl rfl) (hk := ?_) | refine sQ (hk := ?_) | refine sSkip (hk := ?_) | refine sG (hk := ?_) | refine sOwn (hk := ?_))); refine aSeq_nil ?_)
          refine athen_n ⟨k + 1, by omega, by omega, ?_⟩
          rw [hRs, if_neg (by simp)]
          exact le_T
    · have : k = f.blocks.length := by have : ¬ k < f.blocks.length := by simpa using hb15
                                       omega
      subst this
      refine Awp.exit ?_
      refine h10 _ ?_
      refine nT (hk := ?_)
      (refine Awp.region ?_; (repeat (first | refine sQ (hq := Quiet.pickOr rfl rfl rfl rfl) (hk := ?_) | refine sQ (hq := Quiet.pickAnd rfl rfl rfl rfl) (hk := ?_) | refine sQ (hk := ?_) | refine sSkip (hk := ?_) | refine sG (hk := ?_) | refine sOwn (hk := ?_))); refine aSeq_nil ?_)
      refine athen_n ⟨m + 1, by omega, by omega, ?_⟩
      rw [hlk]
      exact le_T
  · have : m = f.blocks.length := by have : ¬ m < f.blocks.length := by simpa using hb9
                                     omega
    subst this
    refine Awp.exit ?_
    refine h4 _ ?_
    refine nT (hk := ?_)
    refine Awp.seq fun K28 h28 => ?_
    (refine Awp.region ?_; (repeat (first | refine sQ (hq := Quiet.pickOr rfl rfl rfl rfl) (hk := ?_) | refine sQ (hq := Quiet.pickAnd rfl rfl rfl rfl) (hk := ?_) | refine sQ (hk := ?_) | refine sSkip (hk := ?_) | refine sG (hk := ?_) | refine sOwn (hk := ?_))); refine aSeq_nil ?_)
    refine h28 _ ?_
    refine nT (hk := ?_)
    refine Awp.ret ?_
    exact ⟨.inr rfl, Fin.own rfl⟩

def lackAt (ls : List (List Bool)) (n : Nat) (r : Int) : Bool := (ls[r.toNat]?.bind (·[n]?)).getD false
def missR (ls : List (List Bool)) (n : Nat) (b : Block) (i : Nat) (r : Int) : Bool := lackAt ls n r && !(writesR (b.ins.take i) r)
def missI (ls : List (List Bool)) (n : Nat) (b : Block) (i : Nat) : Bool := b.ins[i]?.elim false fun x => (readsC x).any (missR ls n b i)
def missB (ls : List (List Bool)) (n : Nat) (b : Block) : Bool := (List.range b.ins.length).any (missI ls n b)
set_option maxRecDepth 100000 in
set_option maxHeartbeats 4000000 in
theorem missing14_fn (f : Func) (ls : List (List Bool)) (n : Nat) (b : Block) (ho : okFunc f) (hs : smallF f) (hb : f.blocks[n]? = some b) (hin : ∀ x ∈ b.ins, ∀ r ∈ readsC x, 0 ≤ r ∧ ∃ row q, ls[r.toNat]? = some row ∧ row[n]? = some q) :
    Fn Tryd.prog 33 [.agg (encFunc f), .bs Ty.bool.slice ls, .lit (.int .i64 (n : Int))] (.lit (.bool (missB ls n b))) := by
  have hbl := hs.blocks
  have hbm := List.mem_of_getElem? hb
  have hob := ho.blocks b hbm
  have hsb := hs.all b hbm
  have hil := hsb.ins
  refine Fn.of_awp Tryd.func33 rfl (by kernel_rfl) rfl Tryd.ntmps33 fun C hC => ?_
  simp only [List.length_cons, List.length_nil, Nat.reduceAdd, Nat.reduceSub, List.replicate_succ, List.replicate_zero, List.cons_append, List.nil_append]
  refine Awp.seq fun K1 h1 => ?_
  (refine Awp.region ?_; (repeat (first | refine sQ (hq := Quiet.pickOr rfl rfl rfl rfl) (hk := ?_) | refine sQ (hq := Quiet.pickAnd rfl rfl rfl rfl) (hk := ?_) | refine sQ (hk := ?_) | refine sSkip (hk := ?_) | refine sG (hk := ?_) | refine sOwn (hk := ?_))); refine aSeq_nil ?_)
  refine h1 _ ?_
  refine nT (hk := ?_)
  refine Awp.seq fun K2 h2 => ?_
  (refine Awp.region ?_; (repeat (first | refine sQ (hq := Quiet.pickOr rfl rfl rfl rfl) (hk := ?_) | refine sQ (hq := Quiet.pickAnd rfl rfl rfl rfl) (hk := ?_) | refine sQ (hk := ?_) | refine sSkip (hk := ?_) | refine sG (hk := ?_) | refine sOwn (hk := ?_))); refine aSeq_nil ?_)
  refine h2 _ ?_
  refine nT (hk := ?_)
  refine Awp.seq fun K3 h3 => ?_
  refine Awp.seq fun K4 h4 => ?_
  (refine Awp.region ?_; (repeat (first | refine sQ (hq := Quiet.pickOr rfl rfl rfl rfl) (hk := ?_) | refine sQ (hq := Quiet.pickAnd rfl rfl rfl rfl) (hk := ?_) | refine sQ (hk := ?_) | refine sSkip (hk := ?_) | refine sG (hk := ?_) | refine sOwn (hk := ?_))); refine aSeq_nil ?_)
  refine h4 _ ?_
  refine nT (hk := ?_)
  refine Awp.block ?_
  refine Awp.loopF (fun i : Nat => ⟨[.any, .bs Ty.bool.slice ls, .lit (.int .i64 (n : Int)), .ptr 0 0, .any, .any, .any, .ptr 1 0, .lit (.int .i64 (i : Int)), .any, .any, .any, .any, .any, .any, .any, .any, .any, .any, .any, .any, .any, .any, .any, .any, .any, .any, .any, .any, .any, .any, .any, .any, .any, .any, .any, .any, .any, .any, .any, .any, .any, .any, .any, .any, .any, .any, .any, .any, .any, .any, .any, .any, .any, .any], [.box (encFunc f), .box (encBlock b)]⟩) (fun i => i ≤ b.ins.length ∧ ((List.range b.ins.length).take i).any (missI ls n b) = false) (fun i => b.ins.length - i) 0 ⟨Nat.zero_le _, by simp⟩ (le_T) ?_
  rintro i ⟨hi, hno⟩
  refine Awp.seq fun K6 h6 => ?_
  refine Awp.seq fun K7 h7 => ?_
  (refine Awp.region ?_; (repeat (first | refine sQ (hq := Quiet.pickOr rfl rfl rfl rfl) (hk := ?_) | refine sQ (hq := Quiet.pickAnd rfl rfl rfl rfl) (hk := ?_) | refine sQ (hk := ?_) | refine sSkip (hk := ?_) | refine sG (hk := ?_) | refine sOwn (hk := ?_))); refine aSeq_nil ?_)
  refine h7 _ ?_
  refine nT (hk := ?_)
  refine Awp.cond rfl (fun hb8 => ?_) (fun hb8 => ?_)
  · have hlt : i < b.ins.length := by simpa using hb8
    obtain ⟨x, hx⟩ : ∃ x, b.ins[i]? = some x := ⟨_, List.getElem?_eq_getElem hlt⟩
    have hxm := List.mem_of_getElem? hx
    have hox := hob.ins x hxm
    have hxl : x.args.length ≤ 2097152 := by have := hsb.all x hxm; omega
    have hrl := readsC_le hxl
    have hri : (List.range b.ins.length)[i]? = some i := List.getElem?_range hlt
    have hmi : missI ls n b i = (readsC x).any (missR ls n b i) := by unfold missI; rw [hx]; rfl
    refine Awp.skip ?_
    refine h6 _ ?_
    refine nT (hk := ?_)
    refine Awp.seq fun K9 h9 => ?_
    refine Awp.block ?_
    refine Awp.seq fun K10 h10 => ?_
    (refine Awp.region ?_; (repeat (first | refine sQ (hq := Quiet.call rfl (ref_reads_fn x hox hxl) rfl rfl rfl) (hk := ?_) | refine sQ (hq := Quiet.pickOr rfl rfl rfl rfl) (hk := ?_) | refine sQ (hq := Quiet.pickAnd rfl rfl rfl rfl) (hk := ?_) | refine sQ (hk := ?_) | refine sSkip (hk := ?_) | refine sG (hg := by first | rfl | exact gA_c rfl rfl) (hq := by (intro hg; (try simp only [Bool.and_eq_true, beq_iff_eq] at hg); (try simp only [hg, cond_true, Bool.true_and, beq_self_eq_true]); exact Quiet.call rfl (ref_reads_fn x hox hxl) rfl rfl rfl)) (hk := ?_) | refine sG (hk := ?_) | refine sOwn (hk := ?_))); refine aSeq_nil ?_)
    refine h10 _ ?_
    refine nT (hk := ?_)
    refine Awp.seq fun K11 h11 => ?_
    (refine Awp.region ?_; (repeat (first | refine sQ (hq := Quiet.pickOr rfl rfl rfl rfl) (hk := ?_) | refine sQ (hq := Quiet.pickAnd rfl rfl rfl rfl) (hk := ?_) | refine sQ (hk := ?_) | refine sSkip (hk := ?_) | refine sG (hk := ?_) | refine sOwn (hk := ?_))); refine aSeq_nil ?_)
    refine h11 _ ?_
    refine nT (hk := ?_)
    refine Awp.block ?_
    refine Awp.loopF (fun k : Nat => ⟨[.any, .bs Ty.bool.slice ls, .lit (.int .i64 (n : Int)), .ptr 0 0, .any, .any, .any, .ptr 1 0, .lit (.int .i64 (i : Int)), .bs tInt (readsC x), .lit (.int .i64 (k : Int)), .any, .any, .any, .any, .any, .any, .any, .any, .any, .any, .any, .any, .any, .any, .any, .any, .any, .any, .any, .any, .any, .any, .any, .any, .any, .any, .any, .any, .any, .any, .any, .any, .any, .any, .any, .any, .any, .any, .any, .any, .any, .any, .any, .any], [.box (encFunc f), .box (encBlock b)]⟩) (fun k => k ≤ (readsC x).length ∧ ((readsC x).take k).any (missR ls n b i) = false) (fun k => (readsC x).length - k) 0 ⟨Nat.zero_le _, by simp⟩ (le_T) ?_
    rintro k ⟨hk, hnk⟩
    refine Awp.seq fun K13 h13 => ?_
    refine Awp.seq fun K14 h14 => ?_
    (refine Awp.region ?_; (repeat (first | refine sQ (hq := Quiet.pickOr rfl rfl rfl rfl) (hk := ?_) | refine sQ (hq := Quiet.pickAnd rfl rfl rfl rfl) (hk := ?_) | refine sQ (hk := ?_) | refine sSkip (hk := ?_) | refine sG (hk := ?_) | refine sOwn (hk := ?_))); refine aSeq_nil ?_)
    refine h14 _ ?_
    refine nT (hk := ?_)
    refine Awp.cond rfl (fun hb15 => ?_) (fun hb15 => ?_)
    · have hkl : k < (readsC x).length := by simpa using hb15
      obtain ⟨r, hr⟩ : ∃ r, (readsC x)[k]? = some r := ⟨_, List.getElem?_eq_getElem hkl⟩
      obtain ⟨hr0, row, q, hrow, hq⟩ := hin x hxm r (List.mem_of_getElem? hr)
      have hla : lackAt ls n r = q := by unfold lackAt; rw [hrow]; simp only [Option.bind_some]; rw [hq]; rfl
      have hwr := writes14_fn b r i hob hil hi
      refine Awp.skip ?_
      refine h13 _ ?_
      refine nT (hk := ?_)
      refine Awp.seq fun K16 h16 => ?_
      refine Awp.block ?_
      refine Awp.seq fun K17 h17 => ?_
      (refine drawD 20 (hh := ?_); (repeat (first | refine qQ (hq := Quiet.call rfl hwr rfl rfl rfl) (hk := ?_) | refine qQ (hq := Quiet.pickOr rfl rfl rfl rfl) (hk := ?_) | refine qQ (hq := Quiet.pickAnd rfl rfl rfl rfl) (hk := ?_) | refine qQ (hk := ?_) | refine qSkip (hk := ?_) | refine qG (hg := by first | rfl | exact gA_c rfl rfl) (hq := by (intro hg; (try simp only [beq_iff_eq] at hg); (try simp only [hg, cond_true, beq_self_eq_true]); exact Quiet.call rfl hwr rfl rfl rfl)) (hk := ?_) | refine qG (hk := ?_))); refine aQ_nil ?_; (repeat (first | refine sQ (hq := Quiet.call rfl hwr rfl rfl rfl) (hk := ?_) | refine sQ (hq := Quiet.pickOr rfl rfl rfl rfl) (hk := ?_) | refine sQ (hq := Quiet.pickAnd rfl rfl rfl rfl) (hk := ?_) | refine sQ (hk := ?_) | refine sSkip (hk := ?_) | refine sG (hg := by first | rfl | exact gA_c rfl rfl) (hq := by (intro hg; (try simp only [Bool.and_eq_true, beq_iff_eq] at hg); (try simp only [hg, cond_true, Bool.true_and, beq_self_eq_true]); exact Quiet.call rfl hwr rfl rfl rfl)) (hk := ?_) | refine sG (hk := ?_) | refine sOwn (hk := ?_))); refine aSeq_nil ?_)
      refine h17 _ ?_
      refine nT (hk := ?_)
      refine Awp.cond rfl (fun hb18 => ?_) (fun hb18 => ?_)
      · have hb : missR ls n b i r = true := by unfold missR; rw [hla]; exact hb18
        have e : missB ls n b = true := by
          unfold missB
          refine List.any_eq_true.2 ⟨i, List.mem_of_getElem? hri, ?_⟩
          rw [hmi]
          exact List.any_eq_true.2 ⟨r, List.mem_of_getElem? hr, hb⟩
        refine Awp.seq fun K19 h19 => ?_
        (refine Awp.region ?_; (repeat (first | refine sQ (hq := Quiet.pickOr rfl rfl rfl rfl) (hk := ?_) | refine sQ (hq := Quiet.pickAnd rfl rfl rfl rfl) (hk := ?_) | refine sQ (hk := ?_) | refine sSkip (hk := ?_) | refine sG (hk := ?_) | refine sOwn (hk := ?_))); refine aSeq_nil ?_)
        refine h19 _ ?_
        refine nT (hk := ?_)
        refine Awp.ret ?_
        rw [e]
        exact ⟨.inr rfl, Fin.cl rfl⟩
      · have hb : missR ls n b i r = false := by unfold missR; rw [hla]; exact hb18
        refine Awp.skip ?_
        refine h16 _ ?_
        refine nT (hk := ?_)
        (refine Awp.region ?_; (repeat (first | refine sQ (hq := Quiet.pickOr rfl rfl rfl rfl) (hk := ?_) | refine sQ (hq := Quiet.pickAnd rfl rfl rfl rfl) (hk := ?_) | refine sQ (hk := ?_) | refine sSkip (hk := ?_) | refine sG (hk := ?_) | refine sOwn (hk := ?_))); refine aSeq_nil ?_)
        refine athen_n ⟨k + 1, ⟨by omega, any_takeG hr hnk hb⟩, by omega, ?_⟩
        exact le_T
    · have hkl : ¬ k < (readsC x).length := by simpa using hb15
      have hm : missI ls n b i = false := by rw [hmi]; exact any_all hnk hkl
      refine Awp.exit ?_
      refine h9 _ ?_
      refine nT (hk := ?_)
      (refine Awp.region ?_; (repeat (first | refine sQ (hq := Quiet.pickOr rfl rfl rfl rfl) (hk := ?_) | refine sQ (hq := Quiet.pickAnd rfl rfl rfl rfl) (hk := ?_) | refine sQ (hk := ?_) | refine sSkip (hk := ?_) | refine sG (hk := ?_) | refine sOwn (hk := ?_))); refine aSeq_nil ?_)
      refine athen_n ⟨i + 1, ⟨by omega, any_takeG hri hno hm⟩, by omega, ?_⟩
      exact le_T
  · have hlt : ¬ i < b.ins.length := by simpa using hb8
    have e : missB ls n b = false := any_all hno (by rw [List.length_range]; exact hlt)
    refine Awp.exit ?_
    refine h3 _ ?_
    refine nT (hk := ?_)
    refine Awp.seq fun K20 h20 => ?_
    (refine Awp.region ?_; (repeat (first | refine sQ (hq := Quiet.pickOr rfl rfl rfl rfl) (hk := ?_) | refine sQ (hq := Quiet.pickAnd rfl rfl rfl rfl) (hk := ?_) | refine sQ (hk := ?_) | refine sSkip (hk := ?_) | refine sG (hk := ?_) | refine sOwn (hk := ?_))); refine aSeq_nil ?_)
    refine h20 _ ?_
    refine nT (hk := ?_)
    refine Awp.ret ?_
    rw [e]
    exact ⟨.inr rfl, Fin.cl rfl⟩
end Mu
end
section
/-
  What muntinref14's answer means, in plain terms.
  Conditions: none.
-/
namespace Mu
open Go Go.RowKit Go.Proofs

theorem stepReg_le (n r : Int) : n ≤ stepReg n r ∧ (if (4096 : Int) < r then 4096 else r) + 1 ≤ stepReg n r := by
  unfold stepReg
  split <;> omega
theorem foldReg_le (l : List Int) : ∀ n : Int, n ≤ l.foldl stepReg n ∧ ∀ r ∈ l, (if (4096 : Int) < r then 4096 else r) + 1 ≤ l.foldl stepReg n := by
  induction l with
  | nil => intro n; exact ⟨Int.le_refl _, fun r hr => by cases hr⟩
  | cons x l ih =>
    intro n
    have h1 := ih (stepReg n x)
    have h2 := stepReg_le n x
    refine ⟨Int.le_trans h2.1 h1.1, fun r hr => ?_⟩
    rcases List.mem_cons.1 hr with rfl | hr
    · exact Int.le_trans h2.2 h1.1
    · exact h1.2 r hr
theorem foldIns_le (l : List Ins) : ∀ n : Int, n ≤ l.foldl insReg n ∧ ∀ x ∈ l, ∀ r ∈ regsX x, (if (4096 : Int) < r then 4096 else r) + 1 ≤ l.foldl insReg n := by
  induction l with
  | nil => intro n; exact ⟨Int.le_refl _, fun r hr => by cases hr⟩
  | cons x l ih =>
    intro n
    have h1 := ih (insReg n x)
    have h2 := foldReg_le (regsX x) n
    refine ⟨Int.le_trans h2.1 h1.1, fun y hy => ?_⟩
    rcases List.mem_cons.1 hy with rfl | hy
    · exact fun r hr => Int.le_trans (h2.2 r hr) h1.1
    · exact h1.2 y hy
theorem foldBlk_le (l : List Block) : ∀ n : Int, n ≤ l.foldl blkReg n ∧ ∀ b ∈ l, ∀ x ∈ b.ins, ∀ r ∈ regsX x, (if (4096 : Int) < r then 4096 else r) + 1 ≤ l.foldl blkReg n := by
  induction l with
  | nil => intro n; exact ⟨Int.le_refl _, fun r hr => by cases hr⟩
  | cons b l ih =>
    intro n
    have h1 := ih (blkReg n b)
    have h2 := foldIns_le b.ins n
    refine ⟨Int.le_trans h2.1 h1.1, fun y hy => ?_⟩
    rcases List.mem_cons.1 hy with rfl | hy
    · exact fun x hx r hr => Int.le_trans (h2.2 x hx r hr) h1.1
    · exact h1.2 y hy
/-- a register of a function whose count fits is below the count -/
theorem reg_lt {f : Func} (h : fitF f = true) {b : Block} (hb : b ∈ f.blocks) {x : Ins} (hx : x ∈ b.ins) {r : Int} (hr : r ∈ regsX x) : r < f.regs ∧ f.regs ≤ 4096 := by
  unfold fitF at h
  simp only [Bool.and_eq_true, beq_iff_eq, decide_eq_true_eq] at h
  have h1 := (foldBlk_le f.blocks 0).2 b hb x hx r hr
  have h2 : regsI f ≤ f.regs := by rw [h.1]; split <;> omega
  have h3 : (if (4096 : Int) < r then 4096 else r) + 1 ≤ regsI f := h1
  refine ⟨?_, h.2⟩
  split at h3 <;> omega
theorem readsC_pos {p : Prog} {f : Func} {x : Ins} (h : oneB p f x = true) : ∀ r ∈ readsC x, 0 ≤ r := by
  unfold oneB bad1 at h
  simp only [Bool.and_eq_true, Bool.not_eq_true', Bool.or_eq_false_iff, decide_eq_false_iff_not, List.any_eq_false, decide_eq_true_eq] at h
  obtain ⟨⟨⟨⟨_, _⟩, ha⟩, hb⟩, hx, _⟩ := h
  intro r hr
  unfold readsC at hr
  rcases List.mem_append.1 hr with hr | hr
  · rcases List.mem_append.1 hr with hr | hr
    · split at hr
      · simp only [List.mem_singleton] at hr; omega
      · cases hr
    · split at hr
      · simp only [List.mem_singleton] at hr; omega
      · cases hr
  · split at hr
    · have := hx r hr; omega
    · cases hr
theorem ended_of {p : Prog} {f : Func} (h : badF f = false) (hb : ∀ n b, f.blocks[n]? = some b → blockB p f n b = true) : Ended f := by
  refine ⟨?_, fun b hbm => ?_⟩
  · unfold badF at h
    simp only [Bool.or_eq_false_iff] at h
    have := h.2
    simp at this
    exact List.length_pos_iff.2 this
  · obtain ⟨n, hn⟩ := List.mem_iff_getElem?.1 hbm
    have h1 := hb n b hn
    unfold blockB badB at h1
    simp only [Bool.and_eq_true, Bool.not_eq_true', Bool.or_eq_false_iff] at h1
    obtain ⟨_, ⟨_, h2⟩, h3⟩ := h1
    have hl : 0 < b.ins.length := by
      simp at h2
      exact List.length_pos_iff.2 h2
    obtain ⟨x, hx⟩ : ∃ x, b.ins[b.ins.length - 1]? = some x := ⟨_, List.getElem?_eq_getElem (by omega)⟩
    refine ⟨x, hx, ?_⟩
    have h4 := List.any_eq_false.1 h3 (b.ins.length - 1) (List.mem_range.2 (by omega))
    unfold badAt badI at h4
    rw [hx] at h4
    simp only [Option.elim, Bool.or_eq_true, not_or, Bool.not_eq_true, Bool.not_eq_false'] at h4
    have h5 := h4.2
    unfold oneB okL at h5
    simp only [Bool.and_eq_true, Bool.or_eq_true, Bool.not_eq_true', decide_eq_true_eq] at h5
    obtain ⟨_, _, _, _, h6⟩ := h5
    intro k hk
    unfold nextO at hk
    split at hk
    · rename_i h8
      simp only [List.mem_singleton] at hk
      rcases h6 with h6 | h6
      · simp [h8] at h6
      · omega
    · split at hk
      · rename_i h8 h9
        rcases h6 with h6 | h6
        · simp [h9] at h6
        · simp only [List.mem_cons, List.not_mem_nil, or_false] at hk
          omega
      · cases hk
end Mu
end
section
/-
  muntinref14.Check's answer, in plain terms: the first place at which something is wrong.
  Conditions: none.
-/
namespace Mu
open Go Go.RowKit Go.Proofs

/-- the first one of the first n that has an answer -/
def firstN {α : Type} (n : Nat) (g : Nat → Option α) : Option α := (List.range n).findSome? g
theorem firstN_zero {α : Type} (g : Nat → Option α) : firstN 0 g = none := rfl
theorem firstN_succ {α : Type} {g : Nat → Option α} {k : Nat} (h : firstN k g = none) : firstN (k + 1) g = g k := by
  unfold firstN at h ⊢
  rw [List.range_succ, List.findSome?_append, h]
  simp
theorem firstN_found {α : Type} {g : Nat → Option α} {k n : Nat} {v : α} (h : firstN k g = none) (hk : k < n) (hv : g k = some v) : firstN n g = some v := by
  induction n with
  | zero => omega
  | succ n ih =>
    by_cases e : k = n
    · subst e; rw [firstN_succ h, hv]
    · have h1 := ih (by omega)
      unfold firstN at h1 ⊢
      rw [List.range_succ, List.findSome?_append, h1]
      rfl
theorem firstN_none {α : Type} {g : Nat → Option α} {n : Nat} (h : firstN n g = none) : ∀ k, k < n → g k = none := fun k hk => List.findSome?_eq_none_iff.1 h k (List.mem_range.2 hk)
def bad0 (p : Prog) : Bool := ((((decide (p.heap < 0) || decide (p.heap > 1024)) || decide ((p.funcs.length : Int) < 1)) || decide ((p.funcs.length : Int) > 64)) || decide ((p.threads.length : Int) < 1)) || decide ((p.threads.length : Int) > 4)
def badT (p : Prog) (t : Int) : Bool := (decide (t < 0) || decide (t ≥ (p.funcs.length : Int))) || (argsN p t != 0)
def chk1 (p : Prog) (n : Nat) : Option (Int × Int) := p.funcs[n]?.bind fun f => if funcB p n f then none else some (n, -1)
def chk2b (p : Prog) (n : Nat) (f : Func) (i : Nat) : Option (Int × Int) := f.blocks[i]?.bind fun b => if blockB p f i b then none else some (n, i)
def chk2 (p : Prog) (n : Nat) : Option (Int × Int) := p.funcs[n]?.bind fun f => firstN f.blocks.length (chk2b p n f)
def lacksA (f : Func) : List (List Bool) := (List.range f.regs.toNat).map fun (r : Nat) => lacksL f (r : Int)
def chk3b (n : Nat) (f : Func) (i : Nat) : Option (Int × Int) := f.blocks[i]?.bind fun b => if missB (lacksA f) i b then some (n, i) else none
def chk3 (p : Prog) (n : Nat) : Option (Int × Int) := p.funcs[n]?.bind fun f => firstN f.blocks.length (chk3b n f)
def checkO (p : Prog) : Option (Int × Int) :=
  if bad0 p then some (-1, -1)
  else if p.threads.any (badT p) then some (-1, -1)
  else ((firstN p.funcs.length (chk1 p)).or (firstN p.funcs.length (chk2 p))).or (firstN p.funcs.length (chk3 p))
end Mu
end
section
/-
  What a bulk of at most 2^21 gives; contracts over abstract values as rows use them.
  Conditions: none.
-/
namespace Mu
open Go Go.RowKit Go.Proofs

theorem small_block {b : Block} (h : tBlock.bulk b ≤ 2097152) : smallB b := ⟨Nat.le_trans (block_ins_le b) h, fun x hx => by
  have h1 := block_in_le hx
  have h2 := bulk_ins x
  have h3 := bulkL_length one_int x.args
  omega⟩
theorem small_func {f : Func} (h : tFunc.bulk f ≤ 2097152) : smallF f := ⟨Nat.le_trans (func_blocks_le f) h, fun _b hb => small_block (Nat.le_trans (func_block_le hb) h)⟩
theorem ins1_func {f : Func} (h : tFunc.bulk f ≤ 2097152) : ∀ b ∈ f.blocks, b.ins.length + 1 ≤ 2097152 := fun b hb => by
  have h1 := func_block_le hb
  have h2 := bulk_block b
  have h3 := bulkL_length one_ins b.ins
  omega
theorem reads_ins (l : List Ins) : (l.flatMap readsC).length ≤ bulkL tIns.bulk l := by
  induction l with
  | nil => simp [bulkL]
  | cons x l ih =>
    have h1 := readsC_len2 x
    have h2 := bulk_ins x
    have h3 := bulkL_length one_int x.args
    simp only [List.flatMap_cons, List.length_append, bulkL]
    omega
theorem reads_blocks (l : List Block) : (l.flatMap fun b => b.ins.flatMap readsC).length ≤ bulkL tBlock.bulk l := by
  induction l with
  | nil => simp [bulkL]
  | cons b l ih =>
    have h1 := reads_ins b.ins
    have h2 := bulk_block b
    simp only [List.flatMap_cons, List.length_append, bulkL]
    omega
theorem reads_func {f : Func} (h : tFunc.bulk f ≤ 2097152) : (allReads f).length ≤ 2097152 := by
  have h1 := reads_blocks f.blocks
  have h2 := bulk_func f
  unfold allReads
  omega
theorem u8_range {n : Int} (h : wfI .u8 n) : 0 ≤ n ∧ n ≤ 255 := by simpa [wfI, Lit.wf, IntKind.min, IntKind.max, IntKind.signed, IntKind.bits] using h
theorem fn_calls {P : Program} {f : FuncId} {args : List AV} {u : Value} {W : World} {vs : List Value} (h : Fn P f args (.lit u)) (hr : AV.relL W (fun k => k < W.heap.size) [] ψ0 args vs) : Calls P f vs.toArray W fun e W' => e = .returned u ∧ Below W.heap.size W W' :=
  (h.2 W _ vs (fun _ h => h) hr).mono fun e W' ⟨v, he, hb, _, _, _, _, hv⟩ => by
    unfold AV.rel at hv
    exact ⟨by rw [he, hv], hb⟩
theorem rel_func {W : World} {S : Nat → Prop} {h : List ABlk} {ψ : Nat → Value} {cs : List Value} {f : Func} (hR : tFunc.RS W S cs f) : AV.rel W S h ψ (.agg (encFunc f)) (.agg cs.toArray) := by
  unfold AV.rel
  exact ⟨cs, rfl, EncOf.ok (T := tFunc) W S h ψ cs f hR⟩
theorem rel_litv {W : World} {S : Nat → Prop} {h : List ABlk} {ψ : Nat → Value} (v : Value) : AV.rel W S h ψ (.lit v) v := by
  unfold AV.rel
  rfl
theorem relL_one {W : World} {S : Nat → Prop} {h : List ABlk} {ψ : Nat → Value} {x : AV} {v : Value} (hv : AV.rel W S h ψ x v) : AV.relL W S h ψ [x] [v] := by
  unfold AV.relL
  exact ⟨v, [], rfl, hv, by unfold AV.relL; rfl⟩
theorem relL_more {W : World} {S : Nat → Prop} {h : List ABlk} {ψ : Nat → Value} {x : AV} {v : Value} {l : List AV} {vs : List Value} (hv : AV.rel W S h ψ x v) (hl : AV.relL W S h ψ l vs) : AV.relL W S h ψ (x :: l) (v :: vs) := by
  unfold AV.relL
  exact ⟨v, vs, rfl, hv, hl⟩
end Mu
end
