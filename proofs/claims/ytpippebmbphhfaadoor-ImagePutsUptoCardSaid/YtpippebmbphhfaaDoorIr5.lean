/-
  Own texts laid together, part 5: MuLstD, MuLstE, MuLstF, MuLstG, MuLaw31, MuImgP, MuLstH, MuStrR, MuImgT, MuLaw31T, MuLaw31R, MuRowQ, MuRowI, MuOpen.
  Conditions: as each part says.
-/
import Derived.Test.YtpippebmbphhfaaDoorIr4
import Derived.Lib.SplitLaws
import Derived.Test.YtpippebmbphhfaaDoorRows
import Derived.Carry
import Derived.OpenShut
import Derived.ProofKit
section
/-
  Listings of images in plain words: image.List and muntinref31.List are the same.
  Conditions: none.
-/
namespace Mu
open Go Go.RowKit Go.Proofs

def nB (n : Int) : List UInt8 := numB 10 n.toNat
def headW (x : Img) : List (List UInt8) := [[105, 109, 97, 103, 101], nB x.nw, nB x.heap, nB x.many, nB x.entry, nB x.stacks]
def startW (x : Img) : List (List UInt8) := [115, 116, 97, 114, 116, 115] :: x.starts.map nB
def lineI (x : Img) (i : Nat) : List UInt8 := lineX (4 * (i : Int)) (x.words.getD i 0).toNat
def lineL (x : Img) (k : Nat) : List (List UInt8) := (List.range k).map (lineI x)
def listX (x : Img) : List UInt8 := textX (headW x) ++ textX (startW x) ++ (lineL x x.words.length).flatten

theorem nB_len {n : Int} (h : n < 18446744073709551616) : (nB n).length ≤ 65 := numB_len _ (by omega)
theorem u32_rng {a : Int} (h : wfI .u32 a) : 0 ≤ a ∧ a < 4294967296 := by
  simp [wfI, Lit.wf, IntKind.min, IntKind.max, IntKind.signed, IntKind.bits] at h
  omega
theorem fits_rng {a m : Int} (h : fitsB a m = true) : 0 ≤ a ∧ a < 4 * m := by
  unfold fitsB at h
  have := of_decide_eq_true h
  omega
/-- bounds of what may be -/
structure MayN (x : Img) : Prop where
  nw : 0 ≤ x.nw ∧ x.nw < 4294967296
  heap : 0 ≤ x.heap ∧ x.heap < 4294967296
  many : 0 ≤ x.many ∧ x.many < 4294967296
  entry : 0 ≤ x.entry ∧ x.entry < 4294967296
  stacks : 0 ≤ x.stacks ∧ x.stacks < 4294967296
  words : x.words.length ≤ 1048576
  starts : x.starts.length ≤ 4
  word : ∀ i, i < x.words.length → 0 ≤ x.words.getD i 0 ∧ x.words.getD i 0 < 4294967296
  start : ∀ a ∈ x.starts, 0 ≤ a ∧ a < 4294967296
theorem mayN {x : Img} (H : FineImg x) (h : MayP x) : MayN x := by
  obtain ⟨⟨h1, h2, h3⟩, ⟨h4, h5, h6⟩, h7, h8, h9⟩ := h
  refine ⟨by omega, by omega, by omega, ?_, by omega, by omega, by omega, fun i hi => ?_, fun a ha => u32_rng (H.wfs a ha)⟩
  · rcases h7 with h7 | h7
    · have := fits_rng h7; omega
    · omega
  · refine u32_rng (H.wfw _ ?_)
    rw [List.getD_eq_getElem?_getD, List.getElem?_eq_getElem hi]
    exact List.getElem_mem hi
section
variable {x : Img} (H : MayN x)
include H
theorem headW_len : ∀ y ∈ headW x, y.length ≤ 65 := fun y hy => by
  have := H.nw; have := H.heap; have := H.many; have := H.entry; have := H.stacks
  unfold headW at hy
  simp only [List.mem_cons, List.not_mem_nil, or_false] at hy
  rcases hy with rfl | rfl | rfl | rfl | rfl | rfl
  · simp
  all_goals exact nB_len (by omega)
theorem startW_len : ∀ y ∈ startW x, y.length ≤ 65 := fun y hy => by
  unfold startW at hy
  rcases List.mem_cons.1 hy with rfl | hy
  · simp
  · obtain ⟨a, ha, rfl⟩ := List.mem_map.1 hy
    have := H.start a ha
    exact nB_len (by omega)
theorem headT_len : (textX (headW x)).length ≤ 500 := by
  have := join_len (headW x) 65 (headW_len H)
  have e : (headW x).length = 6 := rfl
  rw [e] at this
  unfold textX
  rw [List.length_append, List.length_singleton]
  omega
theorem startT_len : (textX (startW x)).length ≤ 500 := by
  have := join_len (startW x) 65 (startW_len H)
  have e : (startW x).length = x.starts.length + 1 := by simp [startW]
  rw [e] at this
  have := H.starts
  have : (x.starts.length + 1) * (65 + 1) ≤ 5 * (65 + 1) := Nat.mul_le_mul_right _ (by omega)
  unfold textX
  rw [List.length_append, List.length_singleton]
  omega
theorem lineI_len {i : Nat} (hi : i < x.words.length) : (lineI x i).length ≤ 500 := by
  have := H.word i hi
  have := H.words
  exact lineX_len (by omega) (by omega)
theorem lineL_len {k : Nat} (hk : k ≤ x.words.length) : (lineL x k).flatten.length ≤ k * 500 := by
  induction k with
  | zero => simp [lineL]
  | succ k ih =>
    have h1 := ih (by omega)
    have h2 := lineI_len H (i := k) (by omega)
    unfold lineL at h1 ⊢
    rw [List.range_succ, List.map_append, List.flatten_append, List.length_append]
    simp only [List.map_cons, List.map_nil, List.flatten_cons, List.flatten_nil, List.append_nil]
    have : (k + 1) * 500 = k * 500 + 500 := by omega
    omega
end
theorem join_flat (l : List (List UInt8)) : Lib.join l [] = l.flatten := by
  cases l with
  | nil => rfl
  | cons a r =>
    rw [Lib.join_cons]
    unfold Lib.joinTail
    simp
theorem lineL_succ (x : Img) (k : Nat) : lineL x (k + 1) = lineL x k ++ [lineI x k] := by
  unfold lineL
  rw [List.range_succ, List.map_append]
  rfl
theorem bl_image : (⟨#[105, 109, 97, 103, 101]⟩ : ByteArray) = bl [105, 109, 97, 103, 101] := rfl
theorem bl_starts : (⟨#[115, 116, 97, 114, 116, 115]⟩ : ByteArray) = bl [115, 116, 97, 114, 116, 115] := rfl
theorem bl_nil : (⟨#[]⟩ : ByteArray) = bl [] := rfl
theorem ixD_nat (l : List Int) (k : Nat) : ixD l (k : Int) = l.getD k 0 := by unfold ixD; rw [Int.toNat_natCast]; rfl
theorem start_get {x : Img} (H : MayN x) {k : Nat} (hk : k < x.starts.length) : 0 ≤ x.starts.getD k 0 ∧ x.starts.getD k 0 < 4294967296 := by
  refine H.start _ ?_
  rw [List.getD_eq_getElem?_getD, List.getElem?_eq_getElem hk]
  exact List.getElem_mem hk
theorem starts_take {x : Img} {k : Nat} (hk : k < x.starts.length) : (x.starts.take (k + 1)).map nB = (x.starts.take k).map nB ++ [nB (x.starts.getD k 0)] := by
  rw [List.take_add_one, List.getD_eq_getElem?_getD, List.getElem?_eq_getElem hk, List.map_append]
  rfl
/-- the program's -/
theorem ilist_to {x : Img} (F : FineImg x) (h : mayB x = true) : (image_List x).to (bl (listX x), 0) := by
  have H := mayN F (mayB_iff.1 h)
  have c1 := H.nw; have c2 := H.heap; have c3 := H.many; have c4 := H.entry; have c5 := H.stacks
  have s1 := nB_len (n := x.nw) (by omega)
  have s2 := nB_len (n := x.heap) (by omega)
  have s3 := nB_len (n := x.many) (by omega)
  have s4 := nB_len (n := x.entry) (by omega)
  have s5 := nB_len (n := x.stacks) (by omega)
  have hw := H.words
  have hs := H.starts
  have t1 := headT_len H
  have t2 := startT_len H
  have hL := lineL_len H (Nat.le_refl _)
  unfold image_List
  rw [bl_image, bl_starts, bl_nil]
  refine M.bnd_to (M.chk_to (fineB_iff.2 F) (M.to_ok.2 h)) (M.f_to rfl (M.chk_to (str_le (by simp)) ?_))
  have l1 : (M.loop (image_List_L10 x) (0, [bl [115, 116, 97, 114, 116, 115]])).to ((startW x).map bl) := by
    have := M.loop_for (step := image_List_L10 x) (fun k => ((k : Int), ([115, 116, 97, 114, 116, 115] :: (x.starts.take k).map nB).map bl)) x.starts.length (r := (startW x).map bl) (fun k hk => ?_) ?_ (Nat.zero_le _)
    · exact this
    · have hr := start_get H hk
      have hn := nB_len (n := x.starts.getD k 0) (by omega)
      unfold image_List_L10
      refine M.t_to (decide_eq_true (by omega)) (M.chk_to (inB_of hk) ?_)
      rw [ixD_nat, wi64 (a := x.starts.getD k 0) (by omega)]
      refine M.bnd_to (idig_to hr.1 (by omega)) (M.chk_to (str_le (by unfold nB at hn; omega)) (M.chk_to (row_le (by simp only [List.length_map, List.length_cons, List.length_take, List.length_nil]; omega) (by decide)) (M.to_ok.2 ?_)))
      rw [wi64 (by omega)]
      refine congrArg Sum.inl (Prod.ext (by push_cast; rfl) ?_)
      dsimp only
      rw [starts_take hk]
      simp [nB]
    · unfold image_List_L10
      refine M.f_to (decide_eq_false (by omega)) (M.to_ok.2 ?_)
      rw [List.take_of_length_le (Nat.le_refl _)]
      rfl
  refine M.bnd_to l1 (M.bnd_to (idig_to c1.1 (by omega)) (M.bnd_to (idig_to c2.1 (by omega)) (M.bnd_to (idig_to c3.1 (by omega)) (M.bnd_to (idig_to c4.1 (by omega)) (M.bnd_to (idig_to c5.1 (by omega)) ?_)))))
  unfold nB at s1 s2 s3 s4 s5
  refine M.chk_to (str_le (by simp)) (M.chk_to (str_le (by omega)) (M.chk_to (str_le (by omega)) (M.chk_to (str_le (by omega)) (M.chk_to (str_le (by omega)) (M.chk_to (str_le (by omega)) ?_)))))
  refine M.bnd_to (text_to (l := headW x) (by show 6 ≤ 2097152; decide) fun y hy => by have := headW_len H y hy; omega) (M.bnd_to (text_to (l := startW x) (by simp only [startW, List.length_cons, List.length_map]; omega) fun y hy => by have := startW_len H y hy; omega) (M.chk_to (str_le (by omega)) (M.chk_to (str_le (by omega)) ?_)))
  have l2 : (M.loop (image_List_L21 x) (0, [bl (textX (headW x)), bl (textX (startW x))])).to ((textX (headW x) :: textX (startW x) :: lineL x x.words.length).map bl) := by
    have := M.loop_for (step := image_List_L21 x) (fun k => ((k : Int), (textX (headW x) :: textX (startW x) :: lineL x k).map bl)) x.words.length (r := (textX (headW x) :: textX (startW x) :: lineL x x.words.length).map bl) (fun k hk => ?_) ?_ (Nat.zero_le _)
    · exact this
    · have hr := H.word k hk
      have hn := lineI_len H hk
      unfold image_List_L21
      refine M.t_to (decide_eq_true (by omega)) (M.chk_to (inB_of hk) ?_)
      rw [ixD_nat, wi64 (a := 4 * (k : Int)) (by omega), show x.words.getD k 0 = (((x.words.getD k 0).toNat : Nat) : Int) by omega]
      refine M.bnd_to (iline_to (by omega) (by omega)) (M.chk_to (str_le (by unfold lineI at hn; omega)) (M.chk_to (row_le (by simp only [List.length_map, List.length_cons, lineL, List.length_range, List.length_nil]; omega) (by decide)) (M.to_ok.2 ?_)))
      rw [wi64 (by omega)]
      refine congrArg Sum.inl (Prod.ext (by push_cast; rfl) ?_)
      dsimp only
      rw [lineL_succ]
      simp [lineI]
    · unfold image_List_L21
      exact M.f_to (decide_eq_false (by omega)) (M.ok_to _)
  refine M.bnd_to l2 (M.bnd_to (a := bl (listX x)) ?_ (M.ok_to _))
  unfold strings_Join
  refine M.chk_to ?_ (M.to_ok.2 ?_)
  · rw [Bool.and_eq_true, List.length_map, List.map_map, show (fun x : ByteArray => x.data.toList) ∘ bl = id from rfl, List.map_id]
    refine ⟨decide_eq_true (by simp only [List.length_cons, lineL, List.length_map, List.length_range]; omega), decide_eq_true ?_⟩
    show (Lib.join _ []).length ≤ _
    rw [join_flat]
    simp only [List.flatten_cons, List.length_append]
    omega
  · rw [joinD_bl, join_flat]
    unfold listX
    simp
theorem ilist_no {x : Img} (F : FineImg x) (h : mayB x = false) : (image_List x).to (⟨#[]⟩, 5) := by
  unfold image_List
  exact M.bnd_to (M.chk_to (fineB_iff.2 F) (M.to_ok.2 h)) (M.t_to rfl (M.ok_to _))
theorem rlist_no {x : Img} (F : FineImg x) (h : mayB x = false) : (r31_ListW x).to (⟨#[]⟩, 5) := by
  unfold r31_ListW
  exact M.bnd_to (M.chk_to (fineB_iff.2 F) (M.to_ok.2 h)) (M.t_to rfl (M.ok_to _))
theorem bl_imageS : (⟨#[105, 109, 97, 103, 101, 32]⟩ : ByteArray) = bl [105, 109, 97, 103, 101, 32] := rfl
theorem bl_startsN : (⟨#[10, 115, 116, 97, 114, 116, 115]⟩ : ByteArray) = bl [10, 115, 116, 97, 114, 116, 115] := rfl
/-- the document's -/
theorem rlist_to {x : Img} (F : FineImg x) (h : mayB x = true) : (r31_ListW x).to (bl (listX x), 0) := by
  have H := mayN F (mayB_iff.1 h)
  have c1 := H.nw; have c2 := H.heap; have c3 := H.many; have c4 := H.entry; have c5 := H.stacks
  have s1 := nB_len (n := x.nw) (by omega)
  have s2 := nB_len (n := x.heap) (by omega)
  have s3 := nB_len (n := x.many) (by omega)
  have s4 := nB_len (n := x.entry) (by omega)
  have s5 := nB_len (n := x.stacks) (by omega)
  have hw := H.words
  have hs := H.starts
  have t1 := headT_len H
  have t2 := startT_len H
  unfold r31_ListW
  simp only [bl_imageS, bl_startsN, bl32, bl10]
  refine M.bnd_to (M.chk_to (fineB_iff.2 F) (M.to_ok.2 h)) (M.f_to rfl (M.bnd_to (dec_to c1.1 (by omega)) ?_))
  show (M.chk (catB _ (bl (nB x.nw))) _).to _
  unfold nB at s1 s2 s3 s4 s5
  refine M.chk_to (cat_le (by simp only [List.length_cons, List.length_nil, nB]; omega)) ?_
  simp only [bl_append]
  refine M.chk_to (cat_le (by simp only [List.length_cons, List.length_nil, List.length_append]; omega)) (M.bnd_to (dec_to c2.1 (by omega)) ?_)
  simp only [bl_append]
  refine M.chk_to (cat_le (by simp only [List.length_cons, List.length_nil, List.length_append]; omega)) (M.chk_to (cat_le (by simp only [List.length_cons, List.length_nil, List.length_append]; omega)) (M.bnd_to (dec_to c3.1 (by omega)) ?_))
  simp only [bl_append]
  refine M.chk_to (cat_le (by simp only [List.length_cons, List.length_nil, List.length_append]; omega)) (M.chk_to (cat_le (by simp only [List.length_cons, List.length_nil, List.length_append]; omega)) (M.bnd_to (dec_to c4.1 (by omega)) ?_))
  simp only [bl_append]
  refine M.chk_to (cat_le (by simp only [List.length_cons, List.length_nil, List.length_append]; omega)) (M.chk_to (cat_le (by simp only [List.length_cons, List.length_nil, List.length_append]; omega)) (M.bnd_to (dec_to c5.1 (by omega)) ?_))
  simp only [bl_append]
  refine M.chk_to (cat_le (by simp only [List.length_cons, List.length_nil, List.length_append]; omega)) (M.chk_to (cat_le (by simp only [List.length_cons, List.length_nil, List.length_append]; omega)) ?_)
  generalize hp : [105, 109, 97, 103, 101, 32] ++ numB 10 x.nw.toNat ++ [32] ++ numB 10 x.heap.toNat ++ [32] ++ numB 10 x.many.toNat ++ [32] ++ numB 10 x.entry.toNat ++ [32] ++ numB 10 x.stacks.toNat ++ [10, 115, 116, 97, 114, 116, 115] = p
  have hpe : p = textX (headW x) ++ [115, 116, 97, 114, 116, 115] := by
    rw [← hp]
    unfold textX headW nB
    simp [join_more, join_one32]
  have sj : ∀ l : List Int, ∀ a : List UInt8, Lib.join (a :: l.map nB) [32] = a ++ (l.map fun n => [32] ++ nB n).flatten := fun l a => by
    rw [Lib.join_cons]
    unfold Lib.joinTail
    rw [List.map_map]
    rfl
  have bound : ∀ k, k ≤ x.starts.length → ((x.starts.take k).map fun n => [32] ++ nB n).flatten.length ≤ k * 100 := by
    intro k
    induction k with
    | zero => intro _; simp
    | succ k ih =>
      intro hk
      have h1 := ih (by omega)
      have hr := start_get H (show k < x.starts.length by omega)
      have hn := nB_len (n := x.starts.getD k 0) (by omega)
      rw [List.take_add_one, List.getElem?_eq_getElem (by omega), List.map_append, List.flatten_append, List.length_append]
      rw [List.getD_eq_getElem?_getD, List.getElem?_eq_getElem (by omega)] at hn
      simp only [Option.toList_some, List.map_cons, List.map_nil, List.flatten_cons, List.flatten_nil, List.append_nil, List.length_append, List.length_cons, List.length_nil, Option.getD_some] at hn ⊢
      omega
  have hplen : p.length ≤ 600 := by rw [hpe, List.length_append]; simp only [List.length_cons, List.length_nil]; omega
  have l1 : (M.loop (r31_ListW_L10 x) (bl p, 0)).to (bl (p ++ (x.starts.map fun n => [32] ++ nB n).flatten)) := by
    have := M.loop_for (step := r31_ListW_L10 x) (fun k => (bl (p ++ ((x.starts.take k).map fun n => [32] ++ nB n).flatten), (k : Int))) x.starts.length (r := bl (p ++ (x.starts.map fun n => [32] ++ nB n).flatten)) (fun k hk => ?_) ?_ (Nat.zero_le _)
    · simpa using this
    · have hr := start_get H hk
      have hn := nB_len (n := x.starts.getD k 0) (by omega)
      have hb := bound k (by omega)
      unfold r31_ListW_L10
      simp only [bl32]
      refine M.t_to (decide_eq_true (by omega)) (M.chk_to (cat_le (by simp only [List.length_append, List.length_cons, List.length_nil]; omega)) (M.chk_to (inB_of hk) ?_))
      rw [ixD_nat, wi64 (a := x.starts.getD k 0) (by omega)]
      refine M.bnd_to (dec_to hr.1 (by omega)) ?_
      simp only [bl_append]
      refine M.chk_to (cat_le (by unfold nB at hn; simp only [List.length_append, List.length_cons, List.length_nil]; omega)) (M.to_ok.2 ?_)
      rw [wi64 (by omega)]
      refine congrArg Sum.inl (Prod.ext (congrArg bl ?_) (by push_cast; rfl))
      rw [List.take_add_one, List.getElem?_eq_getElem hk, List.getD_eq_getElem?_getD, List.getElem?_eq_getElem hk]
      simp only [Option.toList_some, List.map_append, List.map_cons, List.map_nil, List.flatten_append, List.flatten_cons, List.flatten_nil, List.append_nil, List.append_assoc, Option.getD_some, nB]
    · unfold r31_ListW_L10
      refine M.f_to (decide_eq_false (by omega)) (M.to_ok.2 ?_)
      rw [List.take_of_length_le (Nat.le_refl _)]
  have hb := bound x.starts.length (Nat.le_refl _)
  rw [List.take_of_length_le (Nat.le_refl _)] at hb
  have he : p ++ (x.starts.map fun n => [32] ++ nB n).flatten ++ [10] = textX (headW x) ++ textX (startW x) := by
    rw [hpe]
    unfold startW
    rw [show textX ([115, 116, 97, 114, 116, 115] :: x.starts.map nB) = Lib.join ([115, 116, 97, 114, 116, 115] :: x.starts.map nB) [32] ++ [10] from rfl, sj]
    simp
  refine M.bnd_to l1 (M.chk_to (cat_le (by simp only [List.length_append, List.length_cons, List.length_nil]; omega)) ?_)
  rw [bl_append, he]
  have l2 : (M.loop (r31_ListW_L20 x) (bl (textX (headW x) ++ textX (startW x)), 0)).to (bl (listX x)) := by
    have := M.loop_for (step := r31_ListW_L20 x) (fun k => (bl (textX (headW x) ++ textX (startW x) ++ (lineL x k).flatten), (k : Int))) x.words.length (r := bl (listX x)) (fun k hk => ?_) ?_ (Nat.zero_le _)
    · simpa [lineL] using this
    · have hr := H.word k hk
      have hn := lineI_len H hk
      have hL := lineL_len H (k := k) (by omega)
      unfold r31_ListW_L20
      refine M.t_to (decide_eq_true (by omega)) (M.chk_to (inB_of hk) ?_)
      rw [ixD_nat, wi64 (a := 4 * (k : Int)) (by omega), show x.words.getD k 0 = (((x.words.getD k 0).toNat : Nat) : Int) by omega]
      refine M.bnd_to (rline_to (by omega) (by omega)) (M.chk_to (cat_le (by unfold lineI at hn; simp only [List.length_append]; omega)) (M.to_ok.2 ?_))
      rw [wi64 (by omega), bl_append]
      refine congrArg Sum.inl (Prod.ext (congrArg bl ?_) (by push_cast; rfl))
      rw [lineL_succ]
      simp [lineI]
    · unfold r31_ListW_L20
      exact M.f_to (decide_eq_false (by omega)) (M.ok_to _)
  exact M.bnd_to l2 (M.ok_to _)
end Mu
end
section
/-
  Listings are read back: what image.Read computes of any text, and of a listing.
  Conditions: as each says.
-/
namespace Mu
open Go Go.RowKit Go.Proofs

/-! ### texts that are cut -/
theorem index_hit {a r : List UInt8} {c : UInt8} (h : c ∉ a) : Lib.index (a ++ c :: r) [c] = (a.length : Nat) := by
  refine Lib.index_first (by simp) ?_ fun j hj => ?_
  · unfold Lib.occAt
    rw [List.drop_left]
    simp
  · cases ho : Lib.occAt (a ++ c :: r) [c] j with
    | false => rfl
    | true =>
      have := Lib.occAt_head rfl ho
      rw [List.getElem?_append_left hj] at this
      exact absurd (List.mem_of_getElem? this) h
theorem index_miss {a : List UInt8} {c : UInt8} (h : c ∉ a) : Lib.index a [c] = -1 := by
  refine Lib.index_none fun j _ => ?_
  cases ho : Lib.occAt a [c] j with
  | false => rfl
  | true => exact absurd (List.mem_of_getElem? (Lib.occAt_head rfl ho)) h
theorem cut_hit {a r : List UInt8} {c : UInt8} (h : c ∉ a) : Lib.cut (a ++ c :: r) [c] = (a, r, true) := by
  unfold Lib.cut
  rw [index_hit h, if_pos (by omega)]
  simp
theorem cut_miss {a : List UInt8} {c : UInt8} (h : c ∉ a) : Lib.cut a [c] = (a, [], false) := by
  unfold Lib.cut
  rw [index_miss h, if_neg (by decide)]
theorem cut_less {a : List UInt8} {c : UInt8} (h : a ≠ []) : (Lib.cut a [c]).2.1.length < a.length := by
  have hp : 0 < a.length := List.length_pos_iff.2 h
  unfold Lib.cut
  split
  · rw [List.length_drop]; simp only [List.length_cons, List.length_nil]; omega
  · exact hp
theorem cut_more (a : List UInt8) (c : UInt8) : (Lib.cut a [c]).2.1.length ≤ a.length ∧ (Lib.cut a [c]).1.length ≤ a.length := by
  unfold Lib.cut
  split
  · rw [List.length_drop, List.length_take]; omega
  · simp
/-- the next word of a line, and the rest -/
theorem next_to {l : List UInt8} (h : l.length < 4294967281) : (image_next (bl l)).to (bl (Lib.cut l [32]).2.1, bl (Lib.cut l [32]).1) := by
  unfold image_next strings_Cut
  exact M.bnd_to (M.chk_to (decide_eq_true (by rw [bl_size]; exact h)) (M.ok_to _)) (M.ok_to _)
theorem cut_join {a : List UInt8} {r : List (List UInt8)} (h : (32 : UInt8) ∉ a) : (Lib.cut (Lib.join (a :: r) [32]) [32]).1 = a ∧ (Lib.cut (Lib.join (a :: r) [32]) [32]).2.1 = Lib.join r [32] := by
  cases r with
  | nil => rw [join_one32, cut_miss h]; exact ⟨rfl, rfl⟩
  | cons b r =>
    rw [join_more]
    have : a ++ ([32] ++ Lib.join (b :: r) [32]) = a ++ 32 :: Lib.join (b :: r) [32] := rfl
    rw [this, cut_hit h]
    exact ⟨rfl, rfl⟩
theorem next_join {a : List UInt8} {r : List (List UInt8)} (h : (32 : UInt8) ∉ a) (hl : (Lib.join (a :: r) [32]).length < 4294967281) : (image_next (bl (Lib.join (a :: r) [32]))).to (bl (Lib.join r [32]), bl a) := by
  have := next_to hl
  rwa [(cut_join h).1, (cut_join h).2] at this

/-! ### texts that are split -/
theorem split_rows : ∀ (ls : List (List UInt8)) (a : List UInt8), (∀ x ∈ a :: ls, (10 : UInt8) ∉ x) → Lib.split (Lib.join (a :: ls) [10]) [10] = a :: ls
  | [], a, h => by
    have ha := h a (by simp)
    unfold Lib.split
    rw [Lib.join_one, Lib.count_miss (index_miss ha)]
    rfl
  | b :: ls, a, h => by
    have ha := h a (by simp)
    have ih := split_rows ls b fun x hx => h x (by simp [List.mem_cons.1 hx])
    have e : Lib.join (a :: b :: ls) [10] = a ++ 10 :: Lib.join (b :: ls) [10] := by
      rw [Lib.join_cons, Lib.join_cons]
      unfold Lib.joinTail
      simp
    have hi := index_hit (r := Lib.join (b :: ls) [10]) ha
    have hd : (a ++ 10 :: Lib.join (b :: ls) [10]).drop (a.length + [(10 : UInt8)].length) = Lib.join (b :: ls) [10] := by
      rw [List.drop_append, List.drop_eq_nil_of_le (by simp)]
      simp
    unfold Lib.split at ih ⊢
    rw [e, Lib.count_hit (by simp) hi, hd, Nat.add_comm 1]
    unfold Lib.splitK
    rw [hi]
    have hne : ¬ (((a.length : Nat) : Int) == -1) = true := by simp
    rw [if_neg hne, Int.toNat_natCast, hd, ih]
    simp
theorem splitD_rows {a : List UInt8} {ls : List (List UInt8)} (h : ∀ x ∈ a :: ls, (10 : UInt8) ∉ x) : splitD (bl (Lib.join (a :: ls) [10])) (bl [10]) = (a :: ls).map bl := by
  have h1 := Lib.splitB_data (bl [10]) 0 (Lib.countB (bl (Lib.join (a :: ls) [10])) (bl [10])) (bl (Lib.join (a :: ls) [10]))
  have h2 : Lib.splitK [10] 0 (Lib.count (Lib.join (a :: ls) [10]) [10]) (Lib.join (a :: ls) [10]) = a :: ls := split_rows ls a h
  have h3 : (splitD (bl (Lib.join (a :: ls) [10])) (bl [10])).map (fun x => x.data.toList) = a :: ls := h1.trans h2
  have h4 := congrArg (List.map bl) h3
  rw [List.map_map] at h4
  have : bl ∘ (fun x : ByteArray => x.data.toList) = id := rfl
  rw [this, List.map_id] at h4
  exact h4
theorem trim_nl (l : List UInt8) : Lib.trimSuffix (l ++ [10]) [10] = l := by
  unfold Lib.trimSuffix Lib.hasSuffix
  rw [if_pos (by rw [List.isSuffixOf_iff_suffix]; exact List.suffix_append _ _)]
  simp

/-! ### values -/
def foldN (b : Nat) (L : List Nat) : Nat := L.foldl (fun n d => n * b + d) 0
theorem fold_ge (b : Nat) (hb : 1 ≤ b) : ∀ (L : List Nat) (n : Nat), n ≤ L.foldl (fun n d => n * b + d) n
  | [], n => Nat.le_refl _
  | d :: L, n => by
    refine Nat.le_trans ?_ (fold_ge b hb L (n * b + d))
    have : n * 1 ≤ n * b := Nat.mul_le_mul_left n hb
    omega
theorem fold_take {b : Nat} (hb : 1 ≤ b) (L : List Nat) (k : Nat) : foldN b (L.take k) ≤ foldN b L := by
  have : foldN b L = (L.drop k).foldl (fun n d => n * b + d) (foldN b (L.take k)) := by
    unfold foldN
    rw [← List.foldl_append, List.take_append_drop]
  rw [this]
  exact fold_ge b hb _ _
theorem value_to {b : Nat} (hb : b = 10 ∨ b = 16) {L : List Nat} (hL : ∀ d ∈ L, d < b) (hs : foldN b L < 4294967296) (hn : L.length < 1000000000) : (image_value (bl (L.map dgt)) (b : Int)).to ((foldN b L : Nat) : Int) := by
  have hsz : (bl (L.map dgt)).size = L.length := by rw [bl_size, List.length_map]
  unfold image_value
  refine M.els_l (a := ((foldN b L : Nat) : Int)) ?_ (M.ok_to _)
  have := M.loop_for (step := image_value_L5 (bl (L.map dgt)) (b : Int)) (fun k => (((foldN b (L.take k) : Nat) : Int), (k : Int))) L.length (r := Sum.inl ((foldN b L : Nat) : Int)) (fun k hk => ?_) ?_ (Nat.zero_le _)
  · simpa [foldN] using this
  · have hd := hL _ (List.getElem_mem hk)
    have hd16 : L[k] < 16 := by omega
    have ht := fold_take (b := b) (by omega) L k
    have ht1 := fold_take (b := b) (by omega) L (k + 1)
    have hch : chD (bl (L.map dgt)) (k : Int) = ((dgt L[k]).toNat : Int) := by
      unfold chD
      rw [bl_list, Int.toNat_natCast, List.getD_eq_getElem?_getD, List.getElem?_map, List.getElem?_eq_getElem hk]
      rfl
    have hix : (strings_IndexByte tabS (((dgt L[k]).toNat : Nat) : Int)).to ((L[k] : Nat) : Int) := by
      unfold strings_IndexByte
      refine M.to_ok.2 ?_
      have : (((dgt L[k]).toNat : Nat) : Int).toNat.toUInt8 = dgt L[k] := by simp
      rw [this]
      exact dgt_index hd16
    have hsucc : foldN b (L.take (k + 1)) = foldN b (L.take k) * b + L[k] := by
      unfold foldN
      rw [List.take_add_one, List.getElem?_eq_getElem hk, List.foldl_append]
      rfl
    unfold image_value_L5
    refine M.t_to (decide_eq_true (by rw [hsz]; omega)) (M.chk_to ?_ ?_)
    · unfold inSt
      rw [Bool.and_eq_true]
      exact ⟨decide_eq_true (by omega), decide_eq_true (by rw [hsz]; omega)⟩
    · rw [hch]
      refine M.bnd_to hix ?_
      have e1 : IntKind.u64.wrap ((L[k] : Nat) : Int) = ((L[k] : Nat) : Int) := wu64 (by omega)
      rw [e1]
      have hmul : foldN b (L.take k) * b ≤ 4294967295 * 16 := Nat.mul_le_mul (by omega) (by omega)
      have e2 : IntKind.u64.wrap (((foldN b (L.take k) : Nat) : Int) * (b : Int)) = ((foldN b (L.take k) * b : Nat) : Int) := by
        rw [← Int.natCast_mul]
        generalize foldN b (L.take k) * b = q at hmul ⊢
        exact wu64 (by omega)
      refine M.f_to ?_ (M.to_ok.2 ?_)
      · simp only [Bool.or_eq_false_iff, decide_eq_false_iff_not]
        omega
      · rw [e2, wi64 (by omega)]
        refine congrArg Sum.inl (Prod.ext ?_ (by push_cast; rfl))
        show IntKind.u64.wrap (((foldN b (L.take k) * b : Nat) : Int) + ((L[k] : Nat) : Int)) = ((foldN b (L.take (k + 1)) : Nat) : Int)
        rw [hsucc]
        generalize foldN b (L.take k) * b = q at hmul ⊢
        rw [wu64 (by omega)]
        push_cast
        rfl
  · unfold image_value_L5
    refine M.f_to (decide_eq_false (by rw [hsz]; omega)) (M.to_ok.2 ?_)
    rw [List.take_of_length_le (Nat.le_refl _)]
theorem value_any (s : ByteArray) (b : Int) (hn : s.size < 1000000000) : ∃ r, (image_value s b).to r := by
  have hI := M.loop_inv (step := image_value_L5 s b) (fun p => 0 ≤ p.2 ∧ p.2 ≤ (s.size : Int)) (fun p => ((s.size : Int) - p.2).toNat) (fun _ => True) (fun p hp => ?_) (0, 0) ⟨by decide, by show (0 : Int) ≤ (s.size : Int); omega⟩
  · obtain ⟨r, hr, _⟩ := hI
    unfold image_value
    cases r with
    | inl n => exact ⟨n, M.els_l hr (M.ok_to _)⟩
    | inr n => exact ⟨n, M.els_r hr⟩
  · obtain ⟨n, x⟩ := p
    obtain ⟨h1, h2⟩ := hp
    dsimp only at h1 h2
    unfold image_value_L5
    by_cases hx : x < (s.size : Int)
    · have hin : inSt s x = true := by
        unfold inSt
        rw [Bool.and_eq_true]
        exact ⟨decide_eq_true h1, decide_eq_true (by omega)⟩
      cases hc : (((decide ((Lib.indexByte tabS.data.toList (chD s x).toNat.toUInt8 : Int) < 0)) || (decide ((IntKind.u64.wrap (Lib.indexByte tabS.data.toList (chD s x).toNat.toUInt8)) ≥ b))) || (decide (n > 4294967296))) with
      | true =>
        refine ⟨.inr (.inr 0), M.t_to (decide_eq_true hx) (M.chk_to hin (M.bnd_to (M.ok_to _) (M.t_to hc (M.ok_to _)))), ?_, fun _ _ => trivial⟩
        intro s' e
        cases e
      | false =>
        refine ⟨_, M.t_to (decide_eq_true hx) (M.chk_to hin (M.bnd_to (M.ok_to _) (M.f_to hc (M.ok_to _)))), ?_, fun _ _ => trivial⟩
        intro s' e
        cases e
        dsimp only
        rw [wi64 (by omega)]
        omega
    · refine ⟨.inr (.inl n), M.f_to (decide_eq_false hx) (M.ok_to _), ?_, fun _ _ => trivial⟩
      intro s' e
      cases e
end Mu
end
section
/-
  Listings are read back: image.Read of any text, and of a listing.
  Conditions: as each says.
-/
namespace Mu
open Go Go.RowKit Go.Proofs

theorem wf_wrap32 (a : Int) : wfB .u32 (IntKind.u32.wrap a) = true := by
  rw [wrap_u32m]
  unfold wfB
  simp [Lit.wf, IntKind.min, IntKind.max, IntKind.signed, IntKind.bits]
  omega
theorem wf_wrap64 (a : Int) : wfB .i64 (IntKind.i64.wrap a) = true := by
  rw [IntKind.wrap_i64]
  unfold wfB
  simp [Lit.wf, IntKind.min, IntKind.max, IntKind.signed, IntKind.bits]
  omega
theorem of_bl (s : ByteArray) : ∃ l, s = bl l ∧ s.size = l.length := ⟨s.data.toList, rfl, by rw [← bl_size]; rfl⟩
theorem nextW_any (s : ByteArray) {N : Nat} (h : s.size ≤ N) (hN : N ≤ 1000000) : ∃ r : ByteArray × ByteArray, (image_next s).to r ∧ r.1.size ≤ s.size ∧ r.2.size ≤ s.size ∧ (s ≠ ⟨#[]⟩ → r.1.size < s.size) := by
  obtain ⟨l, rfl, hl⟩ := of_bl s
  rw [hl] at h
  obtain ⟨h1, h2⟩ := cut_more l 32
  refine ⟨_, next_to (by omega), ?_, ?_, fun hne => ?_⟩
  · dsimp only; rw [bl_size, bl_size]; exact h1
  · dsimp only; rw [bl_size, bl_size]; exact h2
  · dsimp only
    rw [bl_size, bl_size]
    exact cut_less fun e => hne (by subst e; rfl)
/-! ### any text -/
theorem starts_any {N : Nat} (hN : N ≤ 1000000) (c : ByteArray) (hc : c.size ≤ N) : ∃ r : ByteArray × List Int, (M.loop image_ReadM_L25 (c, [])).to r ∧ r.1.size ≤ N ∧ r.2.length ≤ N ∧ ∀ a ∈ r.2, wfI .u32 a := by
  have := M.loop_inv (step := image_ReadM_L25) (fun p => p.1.size + p.2.length ≤ N ∧ ∀ a ∈ p.2, wfI .u32 a) (fun p => p.1.size) (fun r => r.1.size ≤ N ∧ r.2.length ≤ N ∧ ∀ a ∈ r.2, wfI .u32 a) (fun p hp => ?_) (c, []) ⟨by simpa using hc, by simp⟩
  · obtain ⟨r, h1, h2⟩ := this
    exact ⟨r, h1, h2⟩
  · obtain ⟨c, l⟩ := p
    obtain ⟨h1, h2⟩ := hp
    dsimp only at h1 h2
    unfold image_ReadM_L25
    cases hb : (c != ⟨#[]⟩) with
    | false =>
      refine ⟨.inr (c, l), M.f_to hb (M.ok_to _), ?_, ?_⟩
      · intro s' e; cases e
      · intro r e; cases e; exact ⟨by dsimp only; omega, by dsimp only; omega, h2⟩
    | true =>
      have hne : c ≠ ⟨#[]⟩ := fun e => by rw [e, ba_bne] at hb; simp at hb
      obtain ⟨r, n1, n2, n3, n4⟩ := nextW_any c (N := N) (by omega) hN
      obtain ⟨v, hv⟩ := value_any r.2 10 (by omega)
      have h4 := n4 hne
      refine ⟨.inl (r.1, l ++ [IntKind.u32.wrap v]), M.t_to hb (M.bnd_to n1 (M.bnd_to hv (M.chk_to (wf_wrap32 v) (M.chk_to (row_le (by simp only [List.length_cons, List.length_nil]; omega) (by decide)) (M.ok_to _))))), ?_, ?_⟩
      · intro s' e
        cases e
        refine ⟨⟨by simp only [List.length_append, List.length_cons, List.length_nil]; omega, fun a ha => ?_⟩, h4⟩
        rcases List.mem_append.1 ha with ha | ha
        · exact h2 a ha
        · have : a = IntKind.u32.wrap v := by simpa using ha
          subst this
          exact wfB_wf (wf_wrap32 v)
      · intro r e; cases e
theorem slD_two (r2 : List ByteArray) : slD r2 2 (r2.length : Int) = r2.drop 2 := by
  unfold slD
  rw [Int.toNat_natCast, List.take_of_length_le (Nat.le_refl _)]
  rfl
theorem words_any {N : Nat} (hN : N ≤ 1000000) (r2 : List ByteArray) (h2 : r2.length ≤ 1000010) (hs : ∀ x ∈ r2, x.size ≤ N) (c : ByteArray) : ∃ r : ByteArray × List Int, (M.loop (image_ReadM_L32 r2) (0, c, [])).to r ∧ r.2.length ≤ 1000010 ∧ ∀ a ∈ r.2, wfI .u32 a := by
  have := M.loop_inv (step := image_ReadM_L32 r2) (fun p => (0 ≤ p.1 ∧ p.1 ≤ ((r2.drop 2).length : Int)) ∧ (p.2.2.length : Int) = p.1 ∧ ∀ a ∈ p.2.2, wfI .u32 a) (fun p => (((r2.drop 2).length : Int) - p.1).toNat) (fun r => r.2.length ≤ 1000010 ∧ ∀ a ∈ r.2, wfI .u32 a) (fun p hp => ?_) (0, c, []) ⟨⟨by simp, by simp⟩, by simp, by simp⟩
  · obtain ⟨r, h1, h2⟩ := this
    exact ⟨r, h1, h2⟩
  · obtain ⟨x, c, l⟩ := p
    obtain ⟨⟨h1, h2'⟩, h3, h4⟩ := hp
    dsimp only at h1 h2' h3 h4
    have hdl : (r2.drop 2).length ≤ 1000010 := by rw [List.length_drop]; omega
    unfold image_ReadM_L32
    rw [slD_two]
    by_cases hx : x < ((r2.drop 2).length : Int)
    · have hin : inBd (r2.drop 2) x = true := inB_iff.2 ⟨h1, by omega⟩
      have hmem : ixD (r2.drop 2) x ∈ r2 := List.mem_of_mem_drop (List.mem_of_getElem? (inB_get hin))
      obtain ⟨r, n1, n2, n3, n4⟩ := nextW_any (ixD (r2.drop 2) x) (hs _ hmem) hN
      obtain ⟨q, m1, m2, m3, m4⟩ := nextW_any r.1 (N := N) (by have := hs _ hmem; omega) hN
      obtain ⟨v, hv⟩ := value_any q.2 16 (by have := hs _ hmem; omega)
      refine ⟨.inl (IntKind.i64.wrap (x + 1), q.1, l ++ [IntKind.u32.wrap v]), M.t_to (decide_eq_true hx) (M.chk_to hin (M.bnd_to n1 (M.bnd_to m1 (M.bnd_to hv (M.chk_to (wf_wrap32 v) (M.chk_to (row_le (by simp only [List.length_cons, List.length_nil]; omega) (by decide)) (M.ok_to _))))))), ?_, ?_⟩
      · intro s' e
        cases e
        dsimp only
        rw [wi64 (by omega)]
        refine ⟨⟨⟨by omega, by omega⟩, by simp only [List.length_append, List.length_cons, List.length_nil]; omega, fun a ha => ?_⟩, by omega⟩
        rcases List.mem_append.1 ha with ha | ha
        · exact h4 a ha
        · have : a = IntKind.u32.wrap v := by simpa using ha
          subst this
          exact wfB_wf (wf_wrap32 v)
      · intro r e; cases e
    · refine ⟨.inr (c, l), M.f_to (decide_eq_false hx) (M.ok_to _), ?_, ?_⟩
      · intro s' e; cases e
      · intro r e; cases e; exact ⟨by dsimp only; omega, h4⟩
theorem trim_size (s : ByteArray) : (⟨(Lib.trimSuffix s.data.toList (⟨#[10]⟩ : ByteArray).data.toList).toArray⟩ : ByteArray).size ≤ s.size := by
  obtain ⟨l, rfl, hl⟩ := of_bl s
  rw [hl]
  show (bl _).size ≤ _
  rw [bl_size]
  unfold Lib.trimSuffix
  split
  · rw [List.length_take, bl_list]; omega
  · exact Nat.le_refl _
theorem splitD_len (s : ByteArray) : (splitD s ⟨#[10]⟩).length ≤ s.size + 2 := by
  unfold splitD
  rw [Lib.splitB_all ⟨#[10]⟩ (by decide) 0 _ s rfl]
  have := Lib.countB_le ⟨#[10]⟩ (by decide) _ s (Nat.le_refl _)
  omega
theorem readM_any (s : ByteArray) (hs : s.size ≤ 1000000) : ∃ r, (image_ReadM s).to r ∧ (r = (zImg, 5) ∨ ∃ x, FineImg x ∧ mayB x = true ∧ bl (listX x) = s ∧ r = (x, 0)) := by
  generalize h1 : (⟨(Lib.trimSuffix s.data.toList (⟨#[10]⟩ : ByteArray).data.toList).toArray⟩ : ByteArray) = s1
  have hs1 : s1.size ≤ 1000000 := by rw [← h1]; exact Nat.le_trans (trim_size s) hs
  have ht : (strings_TrimSuffix s ⟨#[10]⟩).to s1 := M.chk_to (decide_eq_true (by omega)) (M.to_ok.2 h1)
  have hsp : (strings_Split s1 ⟨#[10]⟩).to (splitD s1 ⟨#[10]⟩) := M.chk_to (by rw [Bool.and_eq_true]; exact ⟨decide_eq_true (by omega), by decide⟩) (M.ok_to _)
  generalize h2 : splitD s1 ⟨#[10]⟩ = r2 at hsp
  have hr2 : r2.length ≤ 1000010 := by rw [← h2]; have := splitD_len s1; omega
  have hsz : ∀ x ∈ r2, x.size ≤ 1000000 := fun x hx => by
    rw [← h2] at hx
    exact Nat.le_trans (splitB_size _ _ _ x hx) hs1
  by_cases hl : (r2.length : Int) < 2
  · refine ⟨(zImg, 5), ?_, .inl rfl⟩
    unfold image_ReadM
    exact M.bnd_to ht (M.bnd_to hsp (M.t_to (decide_eq_true hl) (M.ok_to _)))
  · have i0 : inBd r2 0 = true := inB_iff.2 ⟨by decide, by show 0 < r2.length; omega⟩
    have i1 : inBd r2 1 = true := inB_iff.2 ⟨by decide, by show 1 < r2.length; omega⟩
    have q0 : (ixD r2 0).size ≤ 1000000 := hsz _ (List.mem_of_getElem? (inB_get i0))
    have q1 : (ixD r2 1).size ≤ 1000000 := hsz _ (List.mem_of_getElem? (inB_get i1))
    obtain ⟨a0, n0, p0, _, _⟩ := nextW_any (ixD r2 0) q0 (Nat.le_refl _)
    obtain ⟨a1, n1, p1, w1, _⟩ := nextW_any a0.1 (N := 1000000) (by omega) (Nat.le_refl _)
    obtain ⟨v1, e1⟩ := value_any a1.2 10 (by omega)
    obtain ⟨a2, n2, p2, w2, _⟩ := nextW_any a1.1 (N := 1000000) (by omega) (Nat.le_refl _)
    obtain ⟨v2, e2⟩ := value_any a2.2 10 (by omega)
    obtain ⟨a3, n3, p3, w3, _⟩ := nextW_any a2.1 (N := 1000000) (by omega) (Nat.le_refl _)
    obtain ⟨v3, e3⟩ := value_any a3.2 10 (by omega)
    obtain ⟨a4, n4, p4, w4, _⟩ := nextW_any a3.1 (N := 1000000) (by omega) (Nat.le_refl _)
    obtain ⟨v4, e4⟩ := value_any a4.2 10 (by omega)
    obtain ⟨a5, n5, p5, w5, _⟩ := nextW_any a4.1 (N := 1000000) (by omega) (Nat.le_refl _)
    obtain ⟨v5, e5⟩ := value_any a5.2 10 (by omega)
    obtain ⟨b0, k0, p6, _, _⟩ := nextW_any (ixD r2 1) q1 (Nat.le_refl _)
    obtain ⟨b1, k1, k2, k3, k4⟩ := starts_any (Nat.le_refl _) b0.1 (by omega)
    obtain ⟨b2, j1, j2, j3⟩ := words_any (Nat.le_refl _) r2 hr2 hsz b1.1
    let x : Img := ⟨IntKind.i64.wrap v1, b2.2, IntKind.i64.wrap v2, IntKind.i64.wrap v3, IntKind.i64.wrap v4, b1.2, IntKind.i64.wrap v5⟩
    have F : FineImg x := by
      refine ⟨⟨wfB_wf (wf_wrap64 _), wfB_wf (wf_wrap64 _), wfB_wf (wf_wrap64 _), wfB_wf (wf_wrap64 _), wfB_wf (wf_wrap64 _)⟩, ?_, ?_, k4, j3⟩
      · show b2.2.length ≤ _; omega
      · show b1.2.length ≤ _; omega
    have hsl : slB r2 2 (r2.length : Int) = true := slB_iff.2 ⟨by decide, by omega, by rw [Int.toNat_natCast]; exact Nat.le_refl _⟩
    have go : ∀ {a : ByteArray × Int} {r : Img × Int}, (image_List x).to a → ((M.cnd ((a.2 != 0) || (a.1 != s)) (M.ok ((⟨0, [], 0, 0, 0, [], 0⟩, 5) : Img × Int)) (M.ok (x, 0)))).to r → (image_ReadM s).to r := fun {a r} ha hr => by
      unfold image_ReadM
      exact M.bnd_to ht (M.bnd_to hsp (M.f_to (decide_eq_false hl) (M.chk_to i0 (M.bnd_to n0 (M.bnd_to n1 (M.bnd_to e1 (M.bnd_to n2 (M.bnd_to e2 (M.bnd_to n3 (M.bnd_to e3 (M.bnd_to n4 (M.bnd_to e4 (M.bnd_to n5 (M.bnd_to e5 (M.chk_to i1 (M.bnd_to k0 (M.bnd_to k1 (M.chk_to hsl (M.bnd_to j1 (M.bnd_to ha hr))))))))))))))))))))
    cases hm : mayB x with
    | false => exact ⟨_, go (ilist_no F hm) (M.t_to rfl (M.ok_to _)), .inl rfl⟩
    | true =>
      by_cases he : bl (listX x) = s
      · refine ⟨_, go (ilist_to F hm) (M.f_to ?_ (M.ok_to _)), .inr ⟨x, F, hm, he, rfl⟩⟩
        dsimp only
        rw [he, ba_bne]
        simp
      · refine ⟨_, go (ilist_to F hm) (M.t_to ?_ (M.ok_to _)), .inl rfl⟩
        dsimp only
        rw [ba_bne, decide_eq_false he]
        rfl
end Mu
end
section
/-
  Listings are read back: image.Read of a listing of what may be.
  Conditions: none.
-/
namespace Mu
open Go Go.RowKit Go.Proofs

/-! ### what does not stand in words -/
def plainW (l : List UInt8) : Prop := (10 : UInt8) ∉ l ∧ (32 : UInt8) ∉ l
theorem plain_digs {b : Nat} (hb : b = 10 ∨ b = 16) {L : List Nat} (h : ∀ d ∈ L, d < b) : plainW (L.map dgt) := by
  constructor <;> intro hm <;> obtain ⟨d, hd, e⟩ := List.mem_map.1 hm <;> have := dgt_ne (n := d) (by have := h d hd; omega)
  · exact this.1 e
  · exact this.2 e
theorem plain_num (n : Nat) : plainW (numB 10 n) := plain_digs (.inl rfl) (digs_lt (by decide) n)
theorem plain_hex (w : Nat) : plainW (hexB w) := plain_digs (.inr rfl) (hexD_lt 8 w)
theorem plain_cons {c : UInt8} {l : List UInt8} (h1 : c ≠ 10) (h2 : c ≠ 32) (h : plainW l) : plainW (c :: l) :=
  ⟨fun hm => by rcases List.mem_cons.1 hm with e | e; exact h1 e.symm; exact h.1 e, fun hm => by rcases List.mem_cons.1 hm with e | e; exact h2 e.symm; exact h.2 e⟩
theorem plain_imm (n : Int) : plainW (immS n) := by
  unfold immS
  split
  · exact plain_cons (by decide) (by decide) (plain_num _)
  · exact plain_num _
theorem plain_fields (x : InstM) : ∀ y ∈ fieldsX x, plainW y := fun y hy => by
  unfold fieldsX at hy
  rcases List.mem_append.1 hy with hy | hy
  · simp only [List.mem_cons, List.not_mem_nil, or_false] at hy
    rcases hy with rfl | rfl | rfl | rfl <;> exact plain_num _
  · split at hy
    · have : y = 35 :: immS x.imm := by simpa using hy
      subst this
      exact plain_cons (by decide) (by decide) (plain_imm _)
    · cases hy
theorem plain_words (a : Int) (w : Nat) : ∀ y ∈ wordsX a w, plainW y := fun y hy => by
  unfold wordsX at hy
  rcases List.mem_cons.1 hy with rfl | hy
  · exact plain_num _
  · rcases List.mem_cons.1 hy with rfl | hy
    · exact plain_hex _
    · split at hy
      · exact plain_fields _ y hy
      · cases hy
theorem join_ten : ∀ (l : List (List UInt8)), (∀ y ∈ l, plainW y) → (10 : UInt8) ∉ Lib.join l [32]
  | [], _ => by rw [Lib.join_nil]; simp
  | [a], h => by rw [join_one32]; exact (h a (by simp)).1
  | a :: b :: r, h => by
    rw [join_more]
    intro hm
    rcases List.mem_append.1 hm with e | e
    · exact (h a (by simp)).1 e
    · rcases List.mem_append.1 e with e | e
      · simp at e
      · exact join_ten (b :: r) (fun y hy => h y (by simp [List.mem_cons.1 hy])) e
theorem plain_head (x : Img) : ∀ y ∈ headW x, plainW y := fun y hy => by
  unfold headW nB at hy
  simp only [List.mem_cons, List.not_mem_nil, or_false] at hy
  rcases hy with rfl | rfl | rfl | rfl | rfl | rfl
  · unfold plainW; decide
  all_goals exact plain_num _
theorem plain_start (x : Img) : ∀ y ∈ startW x, plainW y := fun y hy => by
  unfold startW nB at hy
  rcases List.mem_cons.1 hy with rfl | hy
  · unfold plainW; decide
  · obtain ⟨a, _, rfl⟩ := List.mem_map.1 hy
    exact plain_num _
/-! ### a listing's lines -/
def rowI (x : Img) (i : Nat) : List UInt8 := Lib.join (wordsX (4 * (i : Int)) (x.words.getD i 0).toNat) [32]
def rowsI (x : Img) : List (List UInt8) := (List.range x.words.length).map (rowI x)
theorem listX_rows (x : Img) : listX x = Lib.join (Lib.join (headW x) [32] :: Lib.join (startW x) [32] :: rowsI x) [10] ++ [10] := by
  have key : ∀ l : List (List UInt8), (l.map ([10] ++ ·)).flatten ++ [10] = [10] ++ (l.map (· ++ [10])).flatten := by
    intro l
    induction l with
    | nil => rfl
    | cons a l ih =>
      simp only [List.map_cons, List.flatten_cons, List.append_assoc]
      rw [ih]
  rw [Lib.join_cons]
  unfold Lib.joinTail
  rw [List.append_assoc, List.map_cons, List.flatten_cons, List.append_assoc, key]
  unfold listX textX lineL rowsI
  rw [List.map_map]
  simp only [List.append_assoc]
  rfl
theorem rows_ten (x : Img) : ∀ y ∈ Lib.join (headW x) [32] :: Lib.join (startW x) [32] :: rowsI x, (10 : UInt8) ∉ y := fun y hy => by
  rcases List.mem_cons.1 hy with rfl | hy
  · exact join_ten _ (plain_head x)
  · rcases List.mem_cons.1 hy with rfl | hy
    · exact join_ten _ (plain_start x)
    · obtain ⟨i, _, rfl⟩ := List.mem_map.1 hy
      exact join_ten _ (plain_words _ _)
theorem val_num {n : Int} (h : 0 ≤ n ∧ n < 4294967296) : (image_value (bl (nB n)) 10).to n := by
  have hl := digs_len (b := 10) (by decide) n.toNat 64 (by omega)
  have := value_to (b := 10) (.inl rfl) (L := digs 10 n.toNat) (digs_lt (by decide) _) (by unfold foldN; rw [digs_sum (by decide)]; omega) (by omega)
  unfold foldN at this
  rw [digs_sum (by decide)] at this
  rwa [show ((n.toNat : Nat) : Int) = n by omega] at this
theorem val_hex {w : Nat} (h : w < 4294967296) : (image_value (bl (hexB w)) 16).to (w : Int) := by
  have := value_to (b := 16) (.inr rfl) (L := hexD 8 w) (hexD_lt 8 w) (by unfold foldN; rw [hexD_sum]; omega) (by rw [hexD_len]; decide)
  unfold foldN at this
  rw [hexD_sum, Nat.mod_eq_of_lt (by simpa using h)] at this
  exact this
theorem bl_ne {l : List UInt8} (h : l ≠ []) : (bl l != ⟨#[]⟩) = true := by
  rw [ba_bne, decide_eq_false]
  · rfl
  · intro e
    exact h (bl_inj (b := []) e)
theorem nB_ne (n : Int) : nB n ≠ [] := by unfold nB numB; exact fun e => digs_pos 10 n.toNat (List.map_eq_nil_iff.1 e)
theorem join_ne {a : List UInt8} {r : List (List UInt8)} (h : a ≠ []) : Lib.join (a :: r) [32] ≠ [] := by
  rw [Lib.join_cons]
  exact fun e => h (List.append_eq_nil_iff.1 e).1
theorem join_tail_len (a : List UInt8) (r : List (List UInt8)) : (Lib.join r [32]).length ≤ (Lib.join (a :: r) [32]).length := by
  cases r with
  | nil => rw [Lib.join_nil]; simp
  | cons b r => rw [join_more, List.length_append, List.length_append]; omega
section
variable {x : Img} (F : FineImg x) (h : mayB x = true)
include F h
theorem listX_len : (listX x).length ≤ 1000 + 1048576 * 500 := by
  have H := mayN F (mayB_iff.1 h)
  have h1 := headT_len H
  have h2 := startT_len H
  have h3 := lineL_len H (Nat.le_refl _)
  have hw := H.words
  unfold listX
  rw [List.length_append, List.length_append]
  have : x.words.length * 500 ≤ 1048576 * 500 := Nat.mul_le_mul_right _ hw
  omega
theorem readStarts {c : ByteArray} (hc : c = bl (Lib.join (x.starts.map nB) [32])) : (M.loop image_ReadM_L25 (c, [])).to (bl [], x.starts) := by
  have H := mayN F (mayB_iff.1 h)
  subst hc
  have hlen : ∀ k, (Lib.join ((x.starts.drop k).map nB) [32]).length ≤ 500 := fun k => by
    have := join_len ((x.starts.drop k).map nB) 65 fun y hy => by
      obtain ⟨a, ha, rfl⟩ := List.mem_map.1 hy
      have := H.start a (List.mem_of_mem_drop ha)
      exact nB_len (by omega)
    have hs := H.starts
    have : ((x.starts.drop k).map nB).length * (65 + 1) ≤ 4 * (65 + 1) := Nat.mul_le_mul_right _ (by rw [List.length_map, List.length_drop]; omega)
    omega
  have := M.loop_for (step := image_ReadM_L25) (fun k => (bl (Lib.join ((x.starts.drop k).map nB) [32]), x.starts.take k)) x.starts.length (r := (bl [], x.starts)) (fun k hk => ?_) ?_ (Nat.zero_le _)
  · simpa using this
  · have hr := start_get H hk
    have hd : x.starts.drop k = x.starts.getD k 0 :: x.starts.drop (k + 1) := by
      rw [List.getD_eq_getElem?_getD, List.getElem?_eq_getElem hk]
      exact List.drop_eq_getElem_cons hk
    have hl := hlen k
    rw [hd, List.map_cons] at hl
    unfold image_ReadM_L25
    simp only [hd, List.map_cons]
    refine M.t_to (bl_ne (join_ne (nB_ne _))) (M.bnd_to (next_join (plain_num _).2 (by unfold nB at hl ⊢; omega)) (M.bnd_to (val_num hr) (M.chk_to (wf_wrap32 _) (M.chk_to (row_le (by have := H.starts; simp only [List.length_take, List.length_cons, List.length_nil]; omega) (by decide)) (M.to_ok.2 ?_)))))
    rw [wu32 hr, List.take_add_one, List.getD_eq_getElem?_getD, List.getElem?_eq_getElem hk]
    rfl
  · unfold image_ReadM_L25
    have e : x.starts.drop x.starts.length = [] := List.drop_length
    simp only [e, List.map_nil, Lib.join_nil]
    refine M.f_to (by rw [ba_bne]; rfl) (M.to_ok.2 ?_)
    rw [List.take_of_length_le (Nat.le_refl _)]
def restI (x : Img) (k : Nat) : ByteArray := match k with | 0 => bl [] | k + 1 => bl (Lib.join (if decOK (x.words.getD k 0).toNat = true then fieldsX (decX (x.words.getD k 0).toNat) else []) [32])
theorem readWords {A B : ByteArray} : ∃ c, (M.loop (image_ReadM_L32 (A :: B :: (rowsI x).map bl)) (0, bl [], [])).to (c, x.words) := by
  have H := mayN F (mayB_iff.1 h)
  have hrl : (rowsI x).length = x.words.length := by simp [rowsI]
  refine ⟨restI x x.words.length, ?_⟩
  have := M.loop_for (step := image_ReadM_L32 (A :: B :: (rowsI x).map bl)) (fun k => ((k : Int), restI x k, x.words.take k)) x.words.length (r := (restI x x.words.length, x.words)) (fun k hk => ?_) ?_ (Nat.zero_le _)
  · exact this
  · have hr := H.word k hk
    have hw := H.words
    have hget : ((rowsI x).map bl)[k]? = some (bl (rowI x k)) := by
      unfold rowsI
      rw [List.getElem?_map, List.getElem?_map, List.getElem?_range hk]
      rfl
    have hlen := lineI_len H hk
    have hlen2 : (rowI x k).length ≤ 500 := by
      unfold lineI lineX textX at hlen
      rw [List.length_append] at hlen
      unfold rowI
      omega
    unfold image_ReadM_L32
    rw [slD_two]
    show (M.cnd (decide ((k : Int) < (((rowsI x).map bl).length : Int))) (M.chk (inBd ((rowsI x).map bl) (k : Int)) (M.bnd (image_next (ixD ((rowsI x).map bl) (k : Int))) _)) _).to _
    rw [ixD_of hget]
    refine M.t_to (decide_eq_true (by rw [List.length_map, hrl]; omega)) (M.chk_to (inB_of (by rw [List.length_map, hrl]; exact hk)) ?_)
    unfold rowI wordsX at hlen2 ⊢
    have hl2 := join_tail_len (numB 10 (4 * (k : Int)).toNat) (hexB (x.words.getD k 0).toNat :: if decOK (x.words.getD k 0).toNat = true then fieldsX (decX (x.words.getD k 0).toNat) else [])
    refine M.bnd_to (next_join (plain_num _).2 (by omega)) (M.bnd_to (next_join (plain_hex _).2 (by omega)) (M.bnd_to (val_hex (by omega)) (M.chk_to (wf_wrap32 _) (M.chk_to (row_le (by simp only [List.length_take, List.length_cons, List.length_nil]; omega) (by decide)) (M.to_ok.2 ?_)))))
    have htk : x.words.take (k + 1) = x.words.take k ++ [x.words.getD k 0] := by
      rw [List.take_add_one, List.getD_eq_getElem?_getD, List.getElem?_eq_getElem hk]
      rfl
    rw [wi64 (by omega), wu32 (by omega), show (((x.words.getD k 0).toNat : Nat) : Int) = x.words.getD k 0 by omega]
    exact congrArg Sum.inl (Prod.ext (by push_cast; rfl) (Prod.ext rfl htk.symm))
  · unfold image_ReadM_L32
    rw [slD_two]
    show (M.cnd (decide ((x.words.length : Int) < (((rowsI x).map bl).length : Int))) _ _).to _
    refine M.f_to (decide_eq_false (by rw [List.length_map, hrl]; omega)) (M.to_ok.2 ?_)
    rw [List.take_of_length_le (Nat.le_refl _)]
theorem read_list : (image_ReadM (bl (listX x))).to (x, 0) := by
  have H := mayN F (mayB_iff.1 h)
  have c1 := H.nw; have c2 := H.heap; have c3 := H.many; have c4 := H.entry; have c5 := H.stacks
  have hlen := listX_len F h
  have hrows := listX_rows x
  have t1 := headT_len H
  have t2 := startT_len H
  unfold textX at t1 t2
  rw [List.length_append] at t1 t2
  generalize hA : Lib.join (headW x) [32] = A at hrows t1
  generalize hB : Lib.join (startW x) [32] = B at hrows t2
  have ten := rows_ten x
  rw [hA, hB] at ten
  have hjl : (Lib.join (A :: B :: rowsI x) [10]).length ≤ 1000 + 1048576 * 500 := by
    rw [hrows, List.length_append] at hlen
    omega
  have ht : (strings_TrimSuffix (bl (listX x)) ⟨#[10]⟩).to (bl (Lib.join (A :: B :: rowsI x) [10])) := by
    refine M.chk_to (decide_eq_true (by rw [bl_size]; omega)) (M.to_ok.2 ?_)
    rw [bl_list, hrows]
    show bl (Lib.trimSuffix _ [10]) = _
    rw [trim_nl]
  have hsp : (strings_Split (bl (Lib.join (A :: B :: rowsI x) [10])) ⟨#[10]⟩).to (bl A :: bl B :: (rowsI x).map bl) := by
    refine M.chk_to (by rw [Bool.and_eq_true]; exact ⟨decide_eq_true (by rw [bl_size]; omega), by decide⟩) (M.to_ok.2 ?_)
    exact splitD_rows ten
  have j0 := next_join (a := [105, 109, 97, 103, 101]) (r := [nB x.nw, nB x.heap, nB x.many, nB x.entry, nB x.stacks]) (by decide) (by have : Lib.join (headW x) [32] = A := hA; unfold headW at this; rw [this]; omega)
  have hjA : Lib.join ([105, 109, 97, 103, 101] :: [nB x.nw, nB x.heap, nB x.many, nB x.entry, nB x.stacks]) [32] = A := hA
  have b1 := join_tail_len [105, 109, 97, 103, 101] [nB x.nw, nB x.heap, nB x.many, nB x.entry, nB x.stacks]
  have b2 := join_tail_len (nB x.nw) [nB x.heap, nB x.many, nB x.entry, nB x.stacks]
  have b3 := join_tail_len (nB x.heap) [nB x.many, nB x.entry, nB x.stacks]
  have b4 := join_tail_len (nB x.many) [nB x.entry, nB x.stacks]
  have b5 := join_tail_len (nB x.entry) [nB x.stacks]
  rw [hjA] at j0 b1
  have j1 := next_join (a := nB x.nw) (r := [nB x.heap, nB x.many, nB x.entry, nB x.stacks]) (plain_num _).2 (by omega)
  have j2 := next_join (a := nB x.heap) (r := [nB x.many, nB x.entry, nB x.stacks]) (plain_num _).2 (by omega)
  have j3 := next_join (a := nB x.many) (r := [nB x.entry, nB x.stacks]) (plain_num _).2 (by omega)
  have j4 := next_join (a := nB x.entry) (r := [nB x.stacks]) (plain_num _).2 (by omega)
  have j5 := next_join (a := nB x.stacks) (r := []) (plain_num _).2 (by omega)
  have k0 := next_join (a := [115, 116, 97, 114, 116, 115]) (r := x.starts.map nB) (by decide) (by have : Lib.join (startW x) [32] = B := hB; unfold startW at this; rw [this]; omega)
  have hjB : Lib.join ([115, 116, 97, 114, 116, 115] :: x.starts.map nB) [32] = B := hB
  rw [hjB] at k0
  obtain ⟨c, hw⟩ := readWords F h (A := bl A) (B := bl B)
  have i0 : inBd (bl A :: bl B :: (rowsI x).map bl) 0 = true := inB_iff.2 ⟨by decide, by simp⟩
  have i1 : inBd (bl A :: bl B :: (rowsI x).map bl) 1 = true := inB_iff.2 ⟨by decide, by simp⟩
  have hsl : slB (bl A :: bl B :: (rowsI x).map bl) 2 ((bl A :: bl B :: (rowsI x).map bl).length : Int) = true := slB_iff.2 ⟨by decide, by simp only [List.length_cons]; omega, by rw [Int.toNat_natCast]; exact Nat.le_refl _⟩
  unfold image_ReadM
  refine M.bnd_to ht (M.bnd_to hsp (M.f_to (decide_eq_false (by simp only [List.length_cons]; omega)) (M.chk_to i0 ?_)))
  refine M.bnd_to j0 (M.bnd_to j1 (M.bnd_to (val_num c1) (M.bnd_to j2 (M.bnd_to (val_num c2) (M.bnd_to j3 (M.bnd_to (val_num c3) (M.bnd_to j4 (M.bnd_to (val_num c4) (M.bnd_to j5 (M.bnd_to (val_num c5) (M.chk_to i1 ?_)))))))))))
  refine M.bnd_to k0 (M.bnd_to (readStarts F h rfl) (M.chk_to hsl (M.bnd_to hw ?_)))
  rw [wi64 (a := x.nw) (by omega), wi64 (a := x.heap) (by omega), wi64 (a := x.many) (by omega), wi64 (a := x.entry) (by omega), wi64 (a := x.stacks) (by omega)]
  refine M.bnd_to (ilist_to F h) (M.f_to ?_ (M.ok_to _))
  dsimp only
  rw [ba_bne]
  simp
end
end Mu
end
section
/-
  muntinlaw31.ImageGets answers true of any text.
  Conditions: what is laid (GL).
-/
namespace Mu
open Go Go.RowKit Go.Proofs

theorem head31_true : law31_head.to true := ⟨40, by kernel_rfl⟩
theorem sameB_self (x : Img) : sameB x x = true := (sameB_iff).2 rfl
theorem getE_ok {L : List Int} (h : getOK L = true) : getE L = 0 ∧ getX L = refX L := ⟨if_pos h, if_pos h⟩
end Mu
end
section
/-
  Bytes that are an image's: what is put is got; none differs from another one in one number alone; their length is told by their head.
  Conditions: none.
-/
namespace Mu
open Go Go.RowKit Go.Proofs

/-- an image's numbers and their check -/
def allN (x : Img) : List Int := numsL x ++ [sumF (numsL x)]
theorem putL_all (x : Img) : putL x = magicL ++ bytesN (allN x) := by
  unfold putL allN bytesN
  rw [List.flatMap_append, List.append_assoc]
  simp
theorem allN_u {x : Img} (H : FineImg x) : allU32 (allN x) := fun a ha => by
  rcases List.mem_append.1 ha with ha | ha
  · exact numsL_u H a ha
  · simp only [List.mem_cons, List.not_mem_nil, or_false] at ha
    subst ha
    exact sumF_wf _
theorem allN_len (x : Img) : (allN x).length = 8 + x.starts.length + x.words.length := by
  unfold allN
  rw [List.length_append, numsL_len]
  simp
  omega
theorem putL_len (x : Img) : (putL x).length = 36 + 4 * (x.starts.length + x.words.length) := by
  rw [putL_all, List.length_append, bytesN_len, allN_len]
  simp [magicL]
  omega
/-- what is put is got -/
theorem ref_put {x : Img} (H : FineImg x) (h : MayP x) : refX (putL x) = x := by
  have hW : wordsOf (bytesN (allN x)) = IntKind.u32.wrap x.nw :: IntKind.u32.wrap x.heap :: IntKind.u32.wrap x.many :: IntKind.u32.wrap x.entry :: IntKind.u32.wrap x.stacks :: IntKind.u32.wrap x.starts.length :: IntKind.u32.wrap x.words.length :: ((x.starts ++ x.words) ++ [sumF (numsL x)]) := by
    rw [words_bytesN (allN_u H)]
    unfold allN numsL headL
    simp
  rw [putL_all, ref_parts hW]
  obtain ⟨⟨⟨a1, a2⟩, a3, a4⟩, ⟨⟨b1, b2⟩, ⟨b3, b4⟩, b5⟩, c, d, e1, e2, e3⟩ := h
  have hen : 0 ≤ x.entry ∧ x.entry ≤ 4294967295 := by
    rcases c with c | c
    · unfold fitsB at c
      simp at c
      omega
    · omega
  have w : ∀ a : Int, 0 ≤ a ∧ a ≤ 4294967295 → IntKind.u32.wrap a = a := fun a ha => by rw [wrap_u32m]; omega
  rw [w x.nw (by omega), w x.heap (by omega), w x.many (by omega), w x.entry hen, w x.stacks (by omega), w x.starts.length (by omega)]
  have e4 : ((x.starts.length : Int)).toNat = x.starts.length := by omega
  rw [e4, List.drop_left, List.take_left]
theorem put_ok {x : Img} (H : FineImg x) (h : mayB x = true) : getOK (putL x) = true := by
  unfold getOK
  rw [ref_put H (mayB_iff.1 h), h, decide_eq_true (p := putL x = putL x) rfl, decide_eq_true (by rw [putL_len]; omega)]
  rfl
end Mu
end
section
/-
  muntinlaw31.ImageReads and ImagePuts: what they compute; they answer true.
  Conditions: what is laid (GL).
-/
namespace Mu
open Go Go.RowKit Go.Proofs

def law31_ImageReads (s : ByteArray) (x : Img) : M Bool := M.bnd (M.whn (!(decide ((s.size : Int) > 4000))) false (law31_great x)) fun r2 => M.cnd ((decide ((s.size : Int) > 4000)) || r2) (M.bnd law31_head fun r4 => M.ok r4) (M.bnd (image_ReadM s) fun r5 => M.cnd (r5.2 != 0) (M.bnd (r31_ListW x) fun r8 => M.bnd (M.whn (((r5.2 == 5) && ((r5.1.words.length : Int) == 0)) && ((r8.2 != 0) || (r8.1 != s))) false law31_head) fun r9 => M.ok ((((r5.2 == 5) && ((r5.1.words.length : Int) == 0)) && ((r8.2 != 0) || (r8.1 != s))) && r9)) (M.bnd (r31_ListW r5.1) fun r10 => M.bnd (M.whn ((r10.2 == 0) && (r10.1 == s)) false law31_head) fun r11 => M.ok (((r10.2 == 0) && (r10.1 == s)) && r11)))
set_option maxRecDepth 100000 in
set_option maxHeartbeats 4000000 in
theorem law31_ImageReads_l {s : ByteArray} {x : Img} {r : Bool} (H : (law31_ImageReads s x).to r) : FnT GL Tryd.prog 4 [.lit (.string s), .agg (encImg x)] (.lit (.bool r)) := by
  delta law31_ImageReads at H
  try dsimp only at H
  have hL := gl_lasts
  refine FnT.of_awp Tryd.func4 rfl (by kernel_rfl) rfl Tryd.ntmps4 fun C hC hG => ?_
  simp only [List.length_cons, List.length_nil, Nat.reduceAdd, Nat.reduceSub, List.replicate_succ, List.replicate_zero, List.cons_append, List.nil_append]
  refine wR (hx := by ((refine aSeq_t rfl (AOp.boxI 0 rfl rfl Parts0.agg ?_); refine sNtM (ht := set3) (hk := ?_)); refine sA (hq := Quiet.assign rfl getC) (ht := set4) (hk := ?_); exact wEnd rfl)) (hk := ?_)
  refine Awp.seq fun Khs1 hs1 => ?_
  obtain ⟨r2, k2, H⟩ := M.to_bnd.1 H
  refine wR (hx := by (refine sA (hq := Quiet.move rfl get0) (ht := (setS8 set3)) (hk := ?_); refine sA (hq := Quiet.lnS rfl (getS8 get3)) (ht := (setS8 set4)) (hk := ?_); refine sA (hq := Quiet.bin rfl (getS8 get4) getC rfl) (ht := (setS8 set5)) (hk := ?_); refine sA (hq := Quiet.move rfl (getS8 get5)) (ht := (setS8 set6)) (hk := ?_); refine sG (g := (!(decide ((s.size : Int) > 4000)))) (hg := gA_f rfl) (hq := fun hg => Quiet.loadA_ptr rfl get3 rfl rfl) (ht := (setS8 set7)) (hk := ?_); refine sG (g := (!(decide ((s.size : Int) > 4000)))) (hg := gA_f rfl) (hq := fun hg => by ((try simp only [cndT hg]); (try simp only [cndA hg]); exact Quiet.callA rfl rfl (law31_great_l (M.to_whn k2 hg)) rfl rfl)) (ht := (setS8 (setS8 set0))) (hk := ?_); refine sA (hq := Quiet.pickOrB rfl (getS8 get6) getC (getS8 (getS8 get0))) (ht := (setS8 (setS8 set1))) (hk := ?_); exact wEnd rfl)) (hk := ?_)
  refine Awp.cond rfl (fun hb3 => ?_) (fun hb3 => ?_)
  · have H := M.to_t hb3 H
    obtain ⟨r4, k4, H⟩ := M.to_bnd.1 H
    have k4 := law31_head_l k4
    refine wR (hx := by (refine sA (hq := Quiet.callTA rfl rfl hC hL hG k4 rfl rfl) (ht := (setS8 (setS8 set2))) (hk := ?_); refine sA (hq := Quiet.assign rfl (getS8 (getS8 get2))) (ht := set4) (hk := ?_); exact wEnd rfl)) (hk := ?_)
    obtain rfl := M.to_ok.1 H
    exact Awp.ret ⟨.inr rfl, Fin.cl rfl⟩
  · have H := M.to_f hb3 H
    refine Awp.skip ?_
    refine hs1 _ ?_
    refine nT (hk := ?_)
    obtain ⟨r5, k5, H⟩ := M.to_bnd.1 H
    have k5 := image_ReadM_l k5
    refine wR (hx := by (refine sA (hq := Quiet.move rfl get0) (ht := (setS8 (setS8 set4))) (hk := ?_); refine sA (hq := Quiet.callTA rfl rfl hC hL hG k5 rfl rfl) (ht := (setS8 (setS8 set5))) (hk := ?_); refine sA (hq := Quiet.move rfl (getS8 (getS8 get5))) (ht := (setS8 (setS8 set3))) (hk := ?_); refine sA (hq := Quiet.extract rfl (getS8 (getS8 get3)) rfl) (ht := (setS8 (setS8 set6))) (hk := ?_); refine sA (hq := Quiet.extract rfl (getS8 (getS8 get3)) rfl) (ht := (setS8 (setS8 set7))) (hk := ?_); (refine aSeq_t rfl (AOp.alI 1 rfl rfl ?_); refine sNtM (ht := set5) (hk := ?_)); (refine aSeq_t rfl (AOp.stBox rfl rfl rfl (Parts.aggB rfl) rfl (Nat.le_of_ble_eq_true rfl) ?_); refine sNtM (ht := setN) (hk := ?_)); refine sA (hq := Quiet.assign rfl (getS8 (getS8 get7))) (ht := set6) (hk := ?_); exact wEnd rfl)) (hk := ?_)
    refine Awp.seq fun Khs6 hs6 => ?_
    refine wR (hx := by (refine sA (hq := Quiet.move rfl get6) (ht := (setS8 (setS8 (setS8 set0)))) (hk := ?_); refine sA (hq := Quiet.bin rfl (getS8 (getS8 (getS8 get0))) getC rfl) (ht := (setS8 (setS8 (setS8 set1)))) (hk := ?_); exact wEnd rfl)) (hk := ?_)
    refine Awp.cond rfl (fun hb7 => ?_) (fun hb7 => ?_)
    · have H := M.to_t hb7 H
      obtain ⟨r8, k8, H⟩ := M.to_bnd.1 H
      have k8 := r31_ListW_l k8
      refine wR (hx := by (refine sA (hq := Quiet.loadA_ptr rfl get3 rfl rfl) (ht := (setS8 (setS8 (setS8 set3)))) (hk := ?_); refine sA (hq := Quiet.callA rfl rfl k8 rfl rfl) (ht := (setS8 (setS8 (setS8 set4)))) (hk := ?_); refine sA (hq := Quiet.move rfl (getS8 (getS8 (getS8 get4)))) (ht := (setS8 (setS8 (setS8 set2)))) (hk := ?_); refine sA (hq := Quiet.extract rfl (getS8 (getS8 (getS8 get2))) rfl) (ht := (setS8 (setS8 (setS8 set5)))) (hk := ?_); refine sA (hq := Quiet.extract rfl (getS8 (getS8 (getS8 get2))) rfl) (ht := (setS8 (setS8 (setS8 set6)))) (hk := ?_); refine sA (hq := Quiet.assign rfl (getS8 (getS8 (getS8 get5)))) (ht := set7) (hk := ?_); refine sA (hq := Quiet.assign rfl (getS8 (getS8 (getS8 get6)))) (ht := (setS8 set0)) (hk := ?_); exact wEnd rfl)) (hk := ?_)
      obtain ⟨r9, k9, H⟩ := M.to_bnd.1 H
      refine wR (hx := by (refine sA (hq := Quiet.move rfl get6) (ht := (setS8 (setS8 (setS8 set7)))) (hk := ?_); refine sA (hq := Quiet.bin rfl (getS8 (getS8 (getS8 get7))) getC rfl) (ht := (setS32 set0)) (hk := ?_); refine sA (hq := Quiet.move rfl (getS32 get0)) (ht := (setS32 set1)) (hk := ?_); refine sG (g := (r5.2 == 5)) (hg := gA_t rfl) (hq := fun hg => Quiet.fa_ptr rfl get5 rfl) (ht := (setS32 set2)) (hk := ?_); refine sG (g := (r5.2 == 5)) (hg := gA_t rfl) (hq := fun hg => Quiet.load_ptr rfl ((getS32 get2).trans (cndT hg _ _)) rfl rfl) (ht := (setS32 set3)) (hk := ?_); refine sG (g := (r5.2 == 5)) (hg := gA_t rfl) (hq := fun hg => Quiet.ln rfl ((getS32 get3).trans (cndT hg _ _))) (ht := (setS32 set4)) (hk := ?_); refine sG (g := (r5.2 == 5)) (hg := gA_t rfl) (hq := fun hg => Quiet.bin rfl ((getS32 get4).trans (cndT hg _ _)) getC rfl) (ht := (setS32 set5)) (hk := ?_); refine sA (hq := Quiet.pickAndB rfl (getS32 get1) (getS32 get5) getC) (ht := (setS32 set6)) (hk := ?_); refine sA (hq := Quiet.move rfl (getS32 get6)) (ht := (setS32 set7)) (hk := ?_); refine sG (g := ((r5.2 == 5) && ((r5.1.words.length : Int) == 0))) (hg := gA_t rfl) (hq := fun hg => Quiet.move rfl (getS8 get0)) (ht := (setS32 (setS8 set0))) (hk := ?_); refine sG (g := ((r5.2 == 5) && ((r5.1.words.length : Int) == 0))) (hg := gA_t rfl) (hq := fun hg => Quiet.bin rfl ((getS32 (getS8 get0)).trans (cndT hg _ _)) getC rfl) (ht := (setS32 (setS8 set1))) (hk := ?_); refine sG (g := ((r5.2 == 5) && ((r5.1.words.length : Int) == 0))) (hg := gA_t rfl) (hq := fun hg => Quiet.move rfl ((getS32 (getS8 get1)).trans (cndT hg _ _))) (ht := (setS32 (setS8 set2))) (hk := ?_); refine sG (g := (((r5.2 == 5) && ((r5.1.words.length : Int) == 0)) && (!(r8.2 != 0)))) (hg := gA_fc rfl rfl) (hq := fun hg => by (have hg' := and_l hg; exact Quiet.move rfl get7)) (ht := (setS32 (setS8 set3))) (hk := ?_); refine sG (g := (((r5.2 == 5) && ((r5.1.words.length : Int) == 0)) && (!(r8.2 != 0)))) (hg := gA_fc rfl rfl) (hq := fun hg => by (have hg' := and_l hg; exact Quiet.move rfl get0)) (ht := (setS32 (setS8 set4))) (hk := ?_); refine sG (g := (((r5.2 == 5) && ((r5.1.words.length : Int) == 0)) && (!(r8.2 != 0)))) (hg := gA_fc rfl rfl) (hq := fun hg => by (have hg' := and_l hg; exact Quiet.neS rfl ((getS32 (getS8 get3)).trans (cndT hg _ _)) ((getS32 (getS8 get4)).trans (cndT hg _ _)))) (ht := (setS32 (setS8 set5))) (hk := ?_); refine sG (g := ((r5.2 == 5) && ((r5.1.words.length : Int) == 0))) (hg := gA_t rfl) (hq := fun hg => Quiet.pickOrB rfl ((getS32 (getS8 get2)).trans (cndT hg _ _)) getC ((getS32 (getS8 get5)).trans (cndA hg _ _))) (ht := (setS32 (setS8 set6))) (hk := ?_); refine sA (hq := Quiet.pickAndB rfl (getS32 get7) (getS32 (getS8 get6)) getC) (ht := (setS32 (setS8 set7))) (hk := ?_); refine sA (hq := Quiet.move rfl (getS32 (getS8 get7))) (ht := (setS32 (setS8 (setS8 set0)))) (hk := ?_); refine sG (g := (((r5.2 == 5) && ((r5.1.words.length : Int) == 0)) && ((r8.2 != 0) || (r8.1 != s)))) (hg := gA_t rfl) (hq := fun hg => by ((try simp only [cndT hg]); (try simp only [cndA hg]); exact Quiet.callTA rfl rfl hC hL hG (law31_head_l (M.to_whn k9 hg)) rfl rfl)) (ht := (setS32 (setS8 (setS8 set1)))) (hk := ?_); refine sA (hq := Quiet.pickAndB rfl (getS32 (getS8 (getS8 get0))) (getS32 (getS8 (getS8 get1))) getC) (ht := (setS32 (setS8 (setS8 set2)))) (hk := ?_); refine sA (hq := Quiet.assign rfl (getS32 (getS8 (getS8 get2)))) (ht := set4) (hk := ?_); exact wEnd rfl)) (hk := ?_)
      obtain rfl := M.to_ok.1 H
      exact Awp.ret ⟨.inr rfl, Fin.cl rfl⟩
    · have H := M.to_f hb7 H
      refine Awp.skip ?_
      refine hs6 _ ?_
      refine nT (hk := ?_)
      obtain ⟨r10, k10, H⟩ := M.to_bnd.1 H
      have k10 := r31_ListW_l k10
      refine wR (hx := by (refine sA (hq := Quiet.loadA_ptr rfl get5 rfl rfl) (ht := (setS32 (setS8 (setS8 set4)))) (hk := ?_); refine sA (hq := Quiet.callA rfl rfl k10 rfl rfl) (ht := (setS32 (setS8 (setS8 set5)))) (hk := ?_); refine sA (hq := Quiet.move rfl (getS32 (getS8 (getS8 get5)))) (ht := (setS32 (setS8 (setS8 set3)))) (hk := ?_); refine sA (hq := Quiet.extract rfl (getS32 (getS8 (getS8 get3))) rfl) (ht := (setS32 (setS8 (setS8 set6)))) (hk := ?_); refine sA (hq := Quiet.extract rfl (getS32 (getS8 (getS8 get3))) rfl) (ht := (setS32 (setS8 (setS8 set7)))) (hk := ?_); refine sA (hq := Quiet.assign rfl (getS32 (getS8 (getS8 get6)))) (ht := (setS8 set1)) (hk := ?_); refine sA (hq := Quiet.assign rfl (getS32 (getS8 (getS8 get7)))) (ht := (setS8 set2)) (hk := ?_); exact wEnd rfl)) (hk := ?_)
      obtain ⟨r11, k11, H⟩ := M.to_bnd.1 H
      refine wR (hx := by (refine sA (hq := Quiet.move rfl (getS8 get2)) (ht := (setS32 (setS8 (setS8 (setS8 set0))))) (hk := ?_); refine sA (hq := Quiet.bin rfl (getS32 (getS8 (getS8 (getS8 get0)))) getC rfl) (ht := (setS32 (setS8 (setS8 (setS8 set1))))) (hk := ?_); refine sA (hq := Quiet.move rfl (getS32 (getS8 (getS8 (getS8 get1))))) (ht := (setS32 (setS8 (setS8 (setS8 set2))))) (hk := ?_); refine sG (g := (r10.2 == 0)) (hg := gA_t rfl) (hq := fun hg => Quiet.move rfl (getS8 get1)) (ht := (setS32 (setS8 (setS8 (setS8 set3))))) (hk := ?_); refine sG (g := (r10.2 == 0)) (hg := gA_t rfl) (hq := fun hg => Quiet.move rfl get0) (ht := (setS32 (setS8 (setS8 (setS8 set4))))) (hk := ?_); refine sG (g := (r10.2 == 0)) (hg := gA_t rfl) (hq := fun hg => Quiet.eqS rfl ((getS32 (getS8 (getS8 (getS8 get3)))).trans (cndT hg _ _)) ((getS32 (getS8 (getS8 (getS8 get4)))).trans (cndT hg _ _))) (ht := (setS32 (setS8 (setS8 (setS8 set5))))) (hk := ?_); refine sA (hq := Quiet.pickAndB rfl (getS32 (getS8 (getS8 (getS8 get2)))) (getS32 (getS8 (getS8 (getS8 get5)))) getC) (ht := (setS32 (setS8 (setS8 (setS8 set6))))) (hk := ?_); refine sA (hq := Quiet.move rfl (getS32 (getS8 (getS8 (getS8 get6))))) (ht := (setS32 (setS8 (setS8 (setS8 set7))))) (hk := ?_); refine sG (g := ((r10.2 == 0) && (r10.1 == s))) (hg := gA_t rfl) (hq := fun hg => by ((try simp only [cndT hg]); (try simp only [cndA hg]); exact Quiet.callTA rfl rfl hC hL hG (law31_head_l (M.to_whn k11 hg)) rfl rfl)) (ht := (setS32 (setS32 set0))) (hk := ?_); refine sA (hq := Quiet.pickAndB rfl (getS32 (getS8 (getS8 (getS8 get7)))) (getS32 (getS32 get0)) getC) (ht := (setS32 (setS32 set1))) (hk := ?_); refine sA (hq := Quiet.assign rfl (getS32 (getS32 get1))) (ht := set4) (hk := ?_); exact wEnd rfl)) (hk := ?_)
      obtain rfl := M.to_ok.1 H
      exact Awp.ret ⟨.inr rfl, Fin.cl rfl⟩
def law31_ImagePuts (x : Img) (other : Img) : M Bool := M.bnd (law31_great x) fun r2 => M.bnd (M.whn (!r2) false (law31_great other)) fun r3 => M.cnd (r2 || r3) (M.bnd law31_head fun r5 => M.ok r5) (M.bnd (image_Put x) fun r6 => M.bnd (ref31_Put x) fun r7 => M.bnd (image_List x) fun r8 => M.bnd (r31_ListW x) fun r9 => M.bnd (M.whn (!((((r6.1 != r7.1) || (r6.2 != r7.2)) || (r8.1 != r9.1)) || (r8.2 != r9.2))) false (image_May x)) fun r11 => M.bnd (M.whn (!((((r6.1 != r7.1) || (r6.2 != r7.2)) || (r8.1 != r9.1)) || (r8.2 != r9.2))) false (ref31_May x)) fun r12 => M.bnd (M.whn (!(((((r6.1 != r7.1) || (r6.2 != r7.2)) || (r8.1 != r9.1)) || (r8.2 != r9.2)) || (r11 != r12))) false (image_Same x other)) fun r13 => M.bnd (M.whn (!(((((r6.1 != r7.1) || (r6.2 != r7.2)) || (r8.1 != r9.1)) || (r8.2 != r9.2)) || (r11 != r12))) false (ref31_Same x other)) fun r14 => M.bnd (M.whn (!((((((r6.1 != r7.1) || (r6.2 != r7.2)) || (r8.1 != r9.1)) || (r8.2 != r9.2)) || (r11 != r12)) || (r13 != r14))) false (image_Same x x)) fun r15 => M.cnd (((((((r6.1 != r7.1) || (r6.2 != r7.2)) || (r8.1 != r9.1)) || (r8.2 != r9.2)) || (r11 != r12)) || (r13 != r14)) || (!r15)) (M.ok false) (M.cnd (r6.2 != 0) (M.bnd (M.whn ((r6.2 == 5) && (r8.2 == 5)) false law31_head) fun r19 => M.ok (((r6.2 == 5) && (r8.2 == 5)) && r19)) (M.bnd (image_Get r6.1) fun r20 => M.bnd (image_ReadM r8.1) fun r21 => M.bnd (M.whn ((r20.2 == 0) && (r21.2 == 0)) false (ref31_Same x r20.1)) fun r22 => M.bnd (M.whn (((r20.2 == 0) && (r21.2 == 0)) && r22) false (ref31_Same x r21.1)) fun r23 => M.bnd (M.whn ((((r20.2 == 0) && (r21.2 == 0)) && r22) && r23) false law31_head) fun r24 => M.ok (((((r20.2 == 0) && (r21.2 == 0)) && r22) && r23) && r24))))
set_option maxRecDepth 100000 in
set_option maxHeartbeats 4000000 in
theorem law31_ImagePuts_l {x : Img} {other : Img} {r : Bool} (H : (law31_ImagePuts x other).to r) : FnT GL Tryd.prog 6 [.agg (encImg x), .agg (encImg other)] (.lit (.bool r)) := by
  delta law31_ImagePuts at H
  try dsimp only at H
  have hL := gl_lasts
  refine FnT.of_awp Tryd.func6 rfl (by kernel_rfl) rfl Tryd.ntmps6 fun C hC hG => ?_
  simp only [List.length_cons, List.length_nil, Nat.reduceAdd, Nat.reduceSub, List.replicate_succ, List.replicate_zero, List.cons_append, List.nil_append]
  refine wR (hx := by ((refine aSeq_t rfl (AOp.boxI 0 rfl rfl Parts0.agg ?_); refine sNtM (ht := set2) (hk := ?_)); (refine aSeq_t rfl (AOp.boxI 1 rfl rfl Parts0.agg ?_); refine sNtM (ht := set3) (hk := ?_)); refine sA (hq := Quiet.assign rfl getC) (ht := set4) (hk := ?_); exact wEnd rfl)) (hk := ?_)
  refine Awp.seq fun Khs1 hs1 => ?_
  obtain ⟨r2, k2, H⟩ := M.to_bnd.1 H
  have k2 := law31_great_l k2
  obtain ⟨r3, k3, H⟩ := M.to_bnd.1 H
  refine wR (hx := by (refine sA (hq := Quiet.loadA_ptr rfl get2 rfl rfl) (ht := (setS8 (setS8 set1))) (hk := ?_); refine sA (hq := Quiet.callA rfl rfl k2 rfl rfl) (ht := (setS8 (setS8 set2))) (hk := ?_); refine sA (hq := Quiet.move rfl (getS8 (getS8 get2))) (ht := (setS8 (setS8 set3))) (hk := ?_); refine sG (g := (!r2)) (hg := gA_f rfl) (hq := fun hg => Quiet.loadA_ptr rfl get3 rfl rfl) (ht := (setS8 (setS8 set4))) (hk := ?_); refine sG (g := (!r2)) (hg := gA_f rfl) (hq := fun hg => by ((try simp only [cndT hg]); (try simp only [cndA hg]); exact Quiet.callA rfl rfl (law31_great_l (M.to_whn k3 hg)) rfl rfl)) (ht := (setS8 (setS8 set5))) (hk := ?_); refine sA (hq := Quiet.pickOrB rfl (getS8 (getS8 get3)) getC (getS8 (getS8 get5))) (ht := (setS8 (setS8 set6))) (hk := ?_); exact wEnd rfl)) (hk := ?_)
  refine Awp.cond rfl (fun hb4 => ?_) (fun hb4 => ?_)
  · have H := M.to_t hb4 H
    obtain ⟨r5, k5, H⟩ := M.to_bnd.1 H
    have k5 := law31_head_l k5
    refine wR (hx := by (refine sA (hq := Quiet.callTA rfl rfl hC hL hG k5 rfl rfl) (ht := (setS8 (setS8 set7))) (hk := ?_); refine sA (hq := Quiet.assign rfl (getS8 (getS8 get7))) (ht := set4) (hk := ?_); exact wEnd rfl)) (hk := ?_)
    obtain rfl := M.to_ok.1 H
    exact Awp.ret ⟨.inr rfl, Fin.cl rfl⟩
  · have H := M.to_f hb4 H
    refine Awp.skip ?_
    refine hs1 _ ?_
    refine nT (hk := ?_)
    obtain ⟨r6, k6, H⟩ := M.to_bnd.1 H
    have k6 := image_Put_l k6
    refine wR (hx := by (refine sA (hq := Quiet.loadA_ptr rfl get2 rfl rfl) (ht := (setS8 (setS8 (setS8 set1)))) (hk := ?_); refine sA (hq := Quiet.callA rfl rfl k6 rfl rfl) (ht := (setS8 (setS8 (setS8 set2)))) (hk := ?_); refine sA (hq := Quiet.move rfl (getS8 (getS8 (getS8 get2)))) (ht := (setS8 (setS8 (setS8 set0)))) (hk := ?_); refine sA (hq := Quiet.extract rfl (getS8 (getS8 (getS8 get0))) rfl) (ht := (setS8 (setS8 (setS8 set3)))) (hk := ?_); refine sA (hq := Quiet.extract rfl (getS8 (getS8 (getS8 get0))) rfl) (ht := (setS8 (setS8 (setS8 set4)))) (hk := ?_); refine sA (hq := Quiet.assign rfl (getS8 (getS8 (getS8 get3)))) (ht := set5) (hk := ?_); refine sA (hq := Quiet.assign rfl (getS8 (getS8 (getS8 get4)))) (ht := set6) (hk := ?_); exact wEnd rfl)) (hk := ?_)
    obtain ⟨r7, k7, H⟩ := M.to_bnd.1 H
    have k7 := ref31_Put_l k7
    refine wR (hx := by (refine sA (hq := Quiet.loadA_ptr rfl get2 rfl rfl) (ht := (setS8 (setS8 (setS8 set6)))) (hk := ?_); refine sA (hq := Quiet.callA rfl rfl k7 rfl rfl) (ht := (setS8 (setS8 (setS8 set7)))) (hk := ?_); refine sA (hq := Quiet.move rfl (getS8 (getS8 (getS8 get7)))) (ht := (setS8 (setS8 (setS8 set5)))) (hk := ?_); refine sA (hq := Quiet.extract rfl (getS8 (getS8 (getS8 get5))) rfl) (ht := (setS32 set0)) (hk := ?_); refine sA (hq := Quiet.extract rfl (getS8 (getS8 (getS8 get5))) rfl) (ht := (setS32 set1)) (hk := ?_); refine sA (hq := Quiet.assign rfl (getS32 get0)) (ht := set7) (hk := ?_); refine sA (hq := Quiet.assign rfl (getS32 get1)) (ht := (setS8 set0)) (hk := ?_); exact wEnd rfl)) (hk := ?_)
    obtain ⟨r8, k8, H⟩ := M.to_bnd.1 H
    have k8 := image_List_l k8
    refine wR (hx := by (refine sA (hq := Quiet.loadA_ptr rfl get2 rfl rfl) (ht := (setS32 set3)) (hk := ?_); refine sA (hq := Quiet.callTA rfl rfl hC hL hG k8 rfl rfl) (ht := (setS32 set4)) (hk := ?_); refine sA (hq := Quiet.move rfl (getS32 get4)) (ht := (setS32 set2)) (hk := ?_); refine sA (hq := Quiet.extract rfl (getS32 get2) rfl) (ht := (setS32 set5)) (hk := ?_); refine sA (hq := Quiet.extract rfl (getS32 get2) rfl) (ht := (setS32 set6)) (hk := ?_); refine sA (hq := Quiet.assign rfl (getS32 get5)) (ht := (setS8 set1)) (hk := ?_); refine sA (hq := Quiet.assign rfl (getS32 get6)) (ht := (setS8 set2)) (hk := ?_); exact wEnd rfl)) (hk := ?_)
    obtain ⟨r9, k9, H⟩ := M.to_bnd.1 H
    have k9 := r31_ListW_l k9
    refine wR (hx := by (refine sA (hq := Quiet.loadA_ptr rfl get2 rfl rfl) (ht := (setS32 (setS8 set0))) (hk := ?_); refine sA (hq := Quiet.callA rfl rfl k9 rfl rfl) (ht := (setS32 (setS8 set1))) (hk := ?_); refine sA (hq := Quiet.move rfl (getS32 (getS8 get1))) (ht := (setS32 set7)) (hk := ?_); refine sA (hq := Quiet.extract rfl (getS32 get7) rfl) (ht := (setS32 (setS8 set2))) (hk := ?_); refine sA (hq := Quiet.extract rfl (getS32 get7) rfl) (ht := (setS32 (setS8 set3))) (hk := ?_); refine sA (hq := Quiet.assign rfl (getS32 (getS8 get2))) (ht := (setS8 set3)) (hk := ?_); refine sA (hq := Quiet.assign rfl (getS32 (getS8 get3))) (ht := (setS8 set4)) (hk := ?_); exact wEnd rfl)) (hk := ?_)
    refine Awp.seq fun Khs10 hs10 => ?_
    obtain ⟨r11, k11, H⟩ := M.to_bnd.1 H
    obtain ⟨r12, k12, H⟩ := M.to_bnd.1 H
    obtain ⟨r13, k13, H⟩ := M.to_bnd.1 H
    obtain ⟨r14, k14, H⟩ := M.to_bnd.1 H
    obtain ⟨r15, k15, H⟩ := M.to_bnd.1 H
    refine wD 40 (hq := by (refine qA (hq := Quiet.move rfl get5) (ht := (setS32 (setS8 set4))) (hk := ?_); refine qA (hq := Quiet.move rfl get7) (ht := (setS32 (setS8 set5))) (hk := ?_); refine qA (hq := Quiet.neS rfl (getS32 (getS8 get4)) (getS32 (getS8 get5))) (ht := (setS32 (setS8 set6))) (hk := ?_); refine qA (hq := Quiet.move rfl (getS32 (getS8 get6))) (ht := (setS32 (setS8 set7))) (hk := ?_); refine qG (g := (!(r6.1 != r7.1))) (hg := gA_f rfl) (hq := fun hg => Quiet.move rfl get6) (ht := (setS32 (setS8 (setS8 set0)))) (hk := ?_); refine qG (g := (!(r6.1 != r7.1))) (hg := gA_f rfl) (hq := fun hg => Quiet.move rfl (getS8 get0)) (ht := (setS32 (setS8 (setS8 set1)))) (hk := ?_); refine qG (g := (!(r6.1 != r7.1))) (hg := gA_f rfl) (hq := fun hg => Quiet.bin rfl ((getS32 (getS8 (getS8 get0))).trans (cndT hg _ _)) ((getS32 (getS8 (getS8 get1))).trans (cndT hg _ _)) rfl) (ht := (setS32 (setS8 (setS8 set2)))) (hk := ?_); refine qA (hq := Quiet.pickOrB rfl (getS32 (getS8 get7)) getC (getS32 (getS8 (getS8 get2)))) (ht := (setS32 (setS8 (setS8 set3)))) (hk := ?_); refine qA (hq := Quiet.move rfl (getS32 (getS8 (getS8 get3)))) (ht := (setS32 (setS8 (setS8 set4)))) (hk := ?_); refine qG (g := (!((r6.1 != r7.1) || (r6.2 != r7.2)))) (hg := gA_f rfl) (hq := fun hg => Quiet.move rfl (getS8 get1)) (ht := (setS32 (setS8 (setS8 set5)))) (hk := ?_); refine qG (g := (!((r6.1 != r7.1) || (r6.2 != r7.2)))) (hg := gA_f rfl) (hq := fun hg => Quiet.move rfl (getS8 get3)) (ht := (setS32 (setS8 (setS8 set6)))) (hk := ?_); refine qG (g := (!((r6.1 != r7.1) || (r6.2 != r7.2)))) (hg := gA_f rfl) (hq := fun hg => Quiet.neS rfl ((getS32 (getS8 (getS8 get5))).trans (cndT hg _ _)) ((getS32 (getS8 (getS8 get6))).trans (cndT hg _ _))) (ht := (setS32 (setS8 (setS8 set7)))) (hk := ?_); refine qA (hq := Quiet.pickOrB rfl (getS32 (getS8 (getS8 get4))) getC (getS32 (getS8 (getS8 get7)))) (ht := (setS32 (setS8 (setS8 (setS8 set0))))) (hk := ?_); refine qA (hq := Quiet.move rfl (getS32 (getS8 (getS8 (getS8 get0))))) (ht := (setS32 (setS8 (setS8 (setS8 set1))))) (hk := ?_); refine qG (g := (!(((r6.1 != r7.1) || (r6.2 != r7.2)) || (r8.1 != r9.1)))) (hg := gA_f rfl) (hq := fun hg => Quiet.move rfl (getS8 get2)) (ht := (setS32 (setS8 (setS8 (setS8 set2))))) (hk := ?_); refine qG (g := (!(((r6.1 != r7.1) || (r6.2 != r7.2)) || (r8.1 != r9.1)))) (hg := gA_f rfl) (hq := fun hg => Quiet.move rfl (getS8 get4)) (ht := (setS32 (setS8 (setS8 (setS8 set3))))) (hk := ?_); refine qG (g := (!(((r6.1 != r7.1) || (r6.2 != r7.2)) || (r8.1 != r9.1)))) (hg := gA_f rfl) (hq := fun hg => Quiet.bin rfl ((getS32 (getS8 (getS8 (getS8 get2)))).trans (cndT hg _ _)) ((getS32 (getS8 (getS8 (getS8 get3)))).trans (cndT hg _ _)) rfl) (ht := (setS32 (setS8 (setS8 (setS8 set4))))) (hk := ?_); refine qA (hq := Quiet.pickOrB rfl (getS32 (getS8 (getS8 (getS8 get1)))) getC (getS32 (getS8 (getS8 (getS8 get4))))) (ht := (setS32 (setS8 (setS8 (setS8 set5))))) (hk := ?_); refine qA (hq := Quiet.move rfl (getS32 (getS8 (getS8 (getS8 get5))))) (ht := (setS32 (setS8 (setS8 (setS8 set6))))) (hk := ?_); refine qG (g := (!((((r6.1 != r7.1) || (r6.2 != r7.2)) || (r8.1 != r9.1)) || (r8.2 != r9.2)))) (hg := gA_f rfl) (hq := fun hg => Quiet.loadA_ptr rfl get2 rfl rfl) (ht := (setS32 (setS8 (setS8 (setS8 set7))))) (hk := ?_); refine qG (g := (!((((r6.1 != r7.1) || (r6.2 != r7.2)) || (r8.1 != r9.1)) || (r8.2 != r9.2)))) (hg := gA_f rfl) (hq := fun hg => by ((try simp only [cndT hg]); (try simp only [cndA hg]); exact Quiet.callA rfl rfl (image_May_l (M.to_whn k11 hg)) rfl rfl)) (ht := (setS32 (setS32 set0))) (hk := ?_); refine qG (g := (!((((r6.1 != r7.1) || (r6.2 != r7.2)) || (r8.1 != r9.1)) || (r8.2 != r9.2)))) (hg := gA_f rfl) (hq := fun hg => Quiet.loadA_ptr rfl get2 rfl rfl) (ht := (setS32 (setS32 set1))) (hk := ?_); refine qG (g := (!((((r6.1 != r7.1) || (r6.2 != r7.2)) || (r8.1 != r9.1)) || (r8.2 != r9.2)))) (hg := gA_f rfl) (hq := fun hg => by ((try simp only [cndT hg]); (try simp only [cndA hg]); exact Quiet.callA rfl rfl (ref31_May_l (M.to_whn k12 hg)) rfl rfl)) (ht := (setS32 (setS32 set2))) (hk := ?_); refine qG (g := (!((((r6.1 != r7.1) || (r6.2 != r7.2)) || (r8.1 != r9.1)) || (r8.2 != r9.2)))) (hg := gA_f rfl) (hq := fun hg => Quiet.neb rfl ((getS32 (getS32 get0)).trans (cndT hg _ _)) ((getS32 (getS32 get2)).trans (cndT hg _ _)) rfl) (ht := (setS32 (setS32 set3))) (hk := ?_); refine qA (hq := Quiet.pickOrB rfl (getS32 (getS8 (getS8 (getS8 get6)))) getC (getS32 (getS32 get3))) (ht := (setS32 (setS32 set4))) (hk := ?_); refine qA (hq := Quiet.move rfl (getS32 (getS32 get4))) (ht := (setS32 (setS32 set5))) (hk := ?_); refine qG (g := (!(((((r6.1 != r7.1) || (r6.2 != r7.2)) || (r8.1 != r9.1)) || (r8.2 != r9.2)) || (r11 != r12)))) (hg := gA_f rfl) (hq := fun hg => Quiet.loadA_ptr rfl get2 rfl rfl) (ht := (setS32 (setS32 set6))) (hk := ?_); refine qG (g := (!(((((r6.1 != r7.1) || (r6.2 != r7.2)) || (r8.1 != r9.1)) || (r8.2 != r9.2)) || (r11 != r12)))) (hg := gA_f rfl) (hq := fun hg => Quiet.loadA_ptr rfl get3 rfl rfl) (ht := (setS32 (setS32 set7))) (hk := ?_); refine qG (g := (!(((((r6.1 != r7.1) || (r6.2 != r7.2)) || (r8.1 != r9.1)) || (r8.2 != r9.2)) || (r11 != r12)))) (hg := gA_f rfl) (hq := fun hg => by ((try simp only [cndT hg]); (try simp only [cndA hg]); exact Quiet.callA rfl rfl (image_Same_l (M.to_whn k13 hg)) rfl rfl)) (ht := (setS32 (setS32 (setS8 set0)))) (hk := ?_); refine qG (g := (!(((((r6.1 != r7.1) || (r6.2 != r7.2)) || (r8.1 != r9.1)) || (r8.2 != r9.2)) || (r11 != r12)))) (hg := gA_f rfl) (hq := fun hg => Quiet.loadA_ptr rfl get2 rfl rfl) (ht := (setS32 (setS32 (setS8 set1)))) (hk := ?_); refine qG (g := (!(((((r6.1 != r7.1) || (r6.2 != r7.2)) || (r8.1 != r9.1)) || (r8.2 != r9.2)) || (r11 != r12)))) (hg := gA_f rfl) (hq := fun hg => Quiet.loadA_ptr rfl get3 rfl rfl) (ht := (setS32 (setS32 (setS8 set2)))) (hk := ?_); refine qG (g := (!(((((r6.1 != r7.1) || (r6.2 != r7.2)) || (r8.1 != r9.1)) || (r8.2 != r9.2)) || (r11 != r12)))) (hg := gA_f rfl) (hq := fun hg => by ((try simp only [cndT hg]); (try simp only [cndA hg]); exact Quiet.callA rfl rfl (ref31_Same_l (M.to_whn k14 hg)) rfl rfl)) (ht := (setS32 (setS32 (setS8 set3)))) (hk := ?_); refine qG (g := (!(((((r6.1 != r7.1) || (r6.2 != r7.2)) || (r8.1 != r9.1)) || (r8.2 != r9.2)) || (r11 != r12)))) (hg := gA_f rfl) (hq := fun hg => Quiet.neb rfl ((getS32 (getS32 (getS8 get0))).trans (cndT hg _ _)) ((getS32 (getS32 (getS8 get3))).trans (cndT hg _ _)) rfl) (ht := (setS32 (setS32 (setS8 set4)))) (hk := ?_); refine qA (hq := Quiet.pickOrB rfl (getS32 (getS32 get5)) getC (getS32 (getS32 (getS8 get4)))) (ht := (setS32 (setS32 (setS8 set5)))) (hk := ?_); refine qA (hq := Quiet.move rfl (getS32 (getS32 (getS8 get5)))) (ht := (setS32 (setS32 (setS8 set6)))) (hk := ?_); refine qG (g := (!((((((r6.1 != r7.1) || (r6.2 != r7.2)) || (r8.1 != r9.1)) || (r8.2 != r9.2)) || (r11 != r12)) || (r13 != r14)))) (hg := gA_f rfl) (hq := fun hg => Quiet.loadA_ptr rfl get2 rfl rfl) (ht := (setS32 (setS32 (setS8 set7)))) (hk := ?_); refine qG (g := (!((((((r6.1 != r7.1) || (r6.2 != r7.2)) || (r8.1 != r9.1)) || (r8.2 != r9.2)) || (r11 != r12)) || (r13 != r14)))) (hg := gA_f rfl) (hq := fun hg => Quiet.loadA_ptr rfl get2 rfl rfl) (ht := (setS32 (setS32 (setS8 (setS8 set0))))) (hk := ?_); refine qG (g := (!((((((r6.1 != r7.1) || (r6.2 != r7.2)) || (r8.1 != r9.1)) || (r8.2 != r9.2)) || (r11 != r12)) || (r13 != r14)))) (hg := gA_f rfl) (hq := fun hg => by ((try simp only [cndT hg]); (try simp only [cndA hg]); exact Quiet.callA rfl rfl (image_Same_l (M.to_whn k15 hg)) rfl rfl)) (ht := (setS32 (setS32 (setS8 (setS8 set1))))) (hk := ?_); refine qG (g := (!((((((r6.1 != r7.1) || (r6.2 != r7.2)) || (r8.1 != r9.1)) || (r8.2 != r9.2)) || (r11 != r12)) || (r13 != r14)))) (hg := gA_f rfl) (hq := fun hg => Quiet.bnot rfl ((getS32 (getS32 (getS8 (getS8 get1)))).trans (cndT hg _ _))) (ht := (setS32 (setS32 (setS8 (setS8 set2))))) (hk := ?_); refine qA (hq := Quiet.pickOrB rfl (getS32 (getS32 (getS8 get6))) getC (getS32 (getS32 (getS8 (getS8 get2))))) (ht := (setS32 (setS32 (setS8 (setS8 set3))))) (hk := ?_); exact qEnd rfl)) (hx := by (exact wEnd rfl)) (hk := ?_)
    refine Awp.cond rfl (fun hb16 => ?_) (fun hb16 => ?_)
    · have H := M.to_t hb16 H
      refine wR (hx := by (refine sA (hq := Quiet.assign rfl getC) (ht := set4) (hk := ?_); exact wEnd rfl)) (hk := ?_)
      obtain rfl := M.to_ok.1 H
      exact Awp.ret ⟨.inr rfl, Fin.cl rfl⟩
    · have H := M.to_f hb16 H
      refine Awp.skip ?_
      refine hs10 _ ?_
      refine nT (hk := ?_)
      refine Awp.seq fun Khs17 hs17 => ?_
      refine wR (hx := by (refine sA (hq := Quiet.move rfl get6) (ht := (setS32 (setS32 (setS8 (setS8 set4))))) (hk := ?_); refine sA (hq := Quiet.bin rfl (getS32 (getS32 (getS8 (getS8 get4)))) getC rfl) (ht := (setS32 (setS32 (setS8 (setS8 set5))))) (hk := ?_); exact wEnd rfl)) (hk := ?_)
      refine Awp.cond rfl (fun hb18 => ?_) (fun hb18 => ?_)
      · have H := M.to_t hb18 H
        obtain ⟨r19, k19, H⟩ := M.to_bnd.1 H
        refine wR (hx := by (refine sA (hq := Quiet.move rfl get6) (ht := (setS32 (setS32 (setS8 (setS8 set6))))) (hk := ?_); refine sA (hq := Quiet.bin rfl (getS32 (getS32 (getS8 (getS8 get6)))) getC rfl) (ht := (setS32 (setS32 (setS8 (setS8 set7))))) (hk := ?_); refine sA (hq := Quiet.move rfl (getS32 (getS32 (getS8 (getS8 get7))))) (ht := (setS32 (setS32 (setS8 (setS8 (setS8 set0)))))) (hk := ?_); refine sG (g := (r6.2 == 5)) (hg := gA_t rfl) (hq := fun hg => Quiet.move rfl (getS8 get2)) (ht := (setS32 (setS32 (setS8 (setS8 (setS8 set1)))))) (hk := ?_); refine sG (g := (r6.2 == 5)) (hg := gA_t rfl) (hq := fun hg => Quiet.bin rfl ((getS32 (getS32 (getS8 (getS8 (getS8 get1))))).trans (cndT hg _ _)) getC rfl) (ht := (setS32 (setS32 (setS8 (setS8 (setS8 set2)))))) (hk := ?_); refine sA (hq := Quiet.pickAndB rfl (getS32 (getS32 (getS8 (getS8 (getS8 get0))))) (getS32 (getS32 (getS8 (getS8 (getS8 get2))))) getC) (ht := (setS32 (setS32 (setS8 (setS8 (setS8 set3)))))) (hk := ?_); refine sA (hq := Quiet.move rfl (getS32 (getS32 (getS8 (getS8 (getS8 get3)))))) (ht := (setS32 (setS32 (setS8 (setS8 (setS8 set4)))))) (hk := ?_); refine sG (g := ((r6.2 == 5) && (r8.2 == 5))) (hg := gA_t rfl) (hq := fun hg => by ((try simp only [cndT hg]); (try simp only [cndA hg]); exact Quiet.callTA rfl rfl hC hL hG (law31_head_l (M.to_whn k19 hg)) rfl rfl)) (ht := (setS32 (setS32 (setS8 (setS8 (setS8 set5)))))) (hk := ?_); refine sA (hq := Quiet.pickAndB rfl (getS32 (getS32 (getS8 (getS8 (getS8 get4))))) (getS32 (getS32 (getS8 (getS8 (getS8 get5))))) getC) (ht := (setS32 (setS32 (setS8 (setS8 (setS8 set6)))))) (hk := ?_); refine sA (hq := Quiet.assign rfl (getS32 (getS32 (getS8 (getS8 (getS8 get6)))))) (ht := set4) (hk := ?_); exact wEnd rfl)) (hk := ?_)
        obtain rfl := M.to_ok.1 H
        exact Awp.ret ⟨.inr rfl, Fin.cl rfl⟩
      · have H := M.to_f hb18 H
        refine Awp.skip ?_
        refine hs17 _ ?_
        refine nT (hk := ?_)
        obtain ⟨r20, k20, H⟩ := M.to_bnd.1 H
        have k20 := image_Get_l k20
        refine wR (hx := by (refine sA (hq := Quiet.move rfl get5) (ht := (setS32 (setS32 (setS32 set0)))) (hk := ?_); refine sA (hq := Quiet.callA rfl rfl k20 rfl rfl) (ht := (setS32 (setS32 (setS32 set1)))) (hk := ?_); refine sA (hq := Quiet.move rfl (getS32 (getS32 (getS32 get1)))) (ht := (setS32 (setS32 (setS8 (setS8 (setS8 set7)))))) (hk := ?_); refine sA (hq := Quiet.extract rfl (getS32 (getS32 (getS8 (getS8 (getS8 get7))))) rfl) (ht := (setS32 (setS32 (setS32 set2)))) (hk := ?_); refine sA (hq := Quiet.extract rfl (getS32 (getS32 (getS8 (getS8 (getS8 get7))))) rfl) (ht := (setS32 (setS32 (setS32 set3)))) (hk := ?_); (refine aSeq_t rfl (AOp.alI 2 rfl rfl ?_); refine sNtM (ht := (setS8 set5)) (hk := ?_)); (refine aSeq_t rfl (AOp.stBox rfl rfl rfl (Parts.aggB rfl) rfl (Nat.le_of_ble_eq_true rfl) ?_); refine sNtM (ht := setN) (hk := ?_)); refine sA (hq := Quiet.assign rfl (getS32 (getS32 (getS32 get3)))) (ht := (setS8 set6)) (hk := ?_); exact wEnd rfl)) (hk := ?_)
        obtain ⟨r21, k21, H⟩ := M.to_bnd.1 H
        have k21 := image_ReadM_l k21
        refine wR (hx := by (refine sA (hq := Quiet.move rfl (getS8 get1)) (ht := (setS32 (setS32 (setS32 set5)))) (hk := ?_); refine sA (hq := Quiet.callTA rfl rfl hC hL hG k21 rfl rfl) (ht := (setS32 (setS32 (setS32 set6)))) (hk := ?_); refine sA (hq := Quiet.move rfl (getS32 (getS32 (getS32 get6)))) (ht := (setS32 (setS32 (setS32 set4)))) (hk := ?_); refine sA (hq := Quiet.extract rfl (getS32 (getS32 (getS32 get4))) rfl) (ht := (setS32 (setS32 (setS32 set7)))) (hk := ?_); refine sA (hq := Quiet.extract rfl (getS32 (getS32 (getS32 get4))) rfl) (ht := (setS32 (setS32 (setS32 (setS8 set0))))) (hk := ?_); (refine aSeq_t rfl (AOp.alI 3 rfl rfl ?_); refine sNtM (ht := (setS8 set7)) (hk := ?_)); (refine aSeq_t rfl (AOp.stBox rfl rfl rfl (Parts.aggB rfl) rfl (Nat.le_of_ble_eq_true rfl) ?_); refine sNtM (ht := setN) (hk := ?_)); refine sA (hq := Quiet.assign rfl (getS32 (getS32 (getS32 (getS8 get0))))) (ht := (setS8 (setS8 set0))) (hk := ?_); exact wEnd rfl)) (hk := ?_)
        obtain ⟨r22, k22, H⟩ := M.to_bnd.1 H
        obtain ⟨r23, k23, H⟩ := M.to_bnd.1 H
        obtain ⟨r24, k24, H⟩ := M.to_bnd.1 H
        refine wR (hx := by (refine sA (hq := Quiet.move rfl (getS8 get6)) (ht := (setS32 (setS32 (setS32 (setS8 set1))))) (hk := ?_); refine sA (hq := Quiet.bin rfl (getS32 (getS32 (getS32 (getS8 get1)))) getC rfl) (ht := (setS32 (setS32 (setS32 (setS8 set2))))) (hk := ?_); refine sA (hq := Quiet.move rfl (getS32 (getS32 (getS32 (getS8 get2))))) (ht := (setS32 (setS32 (setS32 (setS8 set3))))) (hk := ?_); refine sG (g := (r20.2 == 0)) (hg := gA_t rfl) (hq := fun hg => Quiet.move rfl (getS8 (getS8 get0))) (ht := (setS32 (setS32 (setS32 (setS8 set4))))) (hk := ?_); refine sG (g := (r20.2 == 0)) (hg := gA_t rfl) (hq := fun hg => Quiet.bin rfl ((getS32 (getS32 (getS32 (getS8 get4)))).trans (cndT hg _ _)) getC rfl) (ht := (setS32 (setS32 (setS32 (setS8 set5))))) (hk := ?_); refine sA (hq := Quiet.pickAndB rfl (getS32 (getS32 (getS32 (getS8 get3)))) (getS32 (getS32 (getS32 (getS8 get5)))) getC) (ht := (setS32 (setS32 (setS32 (setS8 set6))))) (hk := ?_); refine sA (hq := Quiet.move rfl (getS32 (getS32 (getS32 (getS8 get6))))) (ht := (setS32 (setS32 (setS32 (setS8 set7))))) (hk := ?_); refine sG (g := ((r20.2 == 0) && (r21.2 == 0))) (hg := gA_t rfl) (hq := fun hg => Quiet.loadA_ptr rfl get2 rfl rfl) (ht := (setS32 (setS32 (setS32 (setS8 (setS8 set0)))))) (hk := ?_); refine sG (g := ((r20.2 == 0) && (r21.2 == 0))) (hg := gA_t rfl) (hq := fun hg => Quiet.loadA_ptr rfl (getS8 get5) rfl rfl) (ht := (setS32 (setS32 (setS32 (setS8 (setS8 set1)))))) (hk := ?_); refine sG (g := ((r20.2 == 0) && (r21.2 == 0))) (hg := gA_t rfl) (hq := fun hg => by ((try simp only [cndT hg]); (try simp only [cndA hg]); exact Quiet.callA rfl rfl (ref31_Same_l (M.to_whn k22 hg)) rfl rfl)) (ht := (setS32 (setS32 (setS32 (setS8 (setS8 set2)))))) (hk := ?_); refine sA (hq := Quiet.pickAndB rfl (getS32 (getS32 (getS32 (getS8 get7)))) (getS32 (getS32 (getS32 (getS8 (getS8 get2))))) getC) (ht := (setS32 (setS32 (setS32 (setS8 (setS8 set3)))))) (hk := ?_); refine sA (hq := Quiet.move rfl (getS32 (getS32 (getS32 (getS8 (getS8 get3)))))) (ht := (setS32 (setS32 (setS32 (setS8 (setS8 set4)))))) (hk := ?_); refine sG (g := (((r20.2 == 0) && (r21.2 == 0)) && r22)) (hg := gA_t rfl) (hq := fun hg => Quiet.loadA_ptr rfl get2 rfl rfl) (ht := (setS32 (setS32 (setS32 (setS8 (setS8 set5)))))) (hk := ?_); refine sG (g := (((r20.2 == 0) && (r21.2 == 0)) && r22)) (hg := gA_t rfl) (hq := fun hg => Quiet.loadA_ptr rfl (getS8 get7) rfl rfl) (ht := (setS32 (setS32 (setS32 (setS8 (setS8 set6)))))) (hk := ?_); refine sG (g := (((r20.2 == 0) && (r21.2 == 0)) && r22)) (hg := gA_t rfl) (hq := fun hg => by ((try simp only [cndT hg]); (try simp only [cndA hg]); exact Quiet.callA rfl rfl (ref31_Same_l (M.to_whn k23 hg)) rfl rfl)) (ht := (setS32 (setS32 (setS32 (setS8 (setS8 set7)))))) (hk := ?_); refine sA (hq := Quiet.pickAndB rfl (getS32 (getS32 (getS32 (getS8 (getS8 get4))))) (getS32 (getS32 (getS32 (getS8 (getS8 get7))))) getC) (ht := (setS32 (setS32 (setS32 (setS8 (setS8 (setS8 set0))))))) (hk := ?_); refine sA (hq := Quiet.move rfl (getS32 (getS32 (getS32 (getS8 (getS8 (getS8 get0))))))) (ht := (setS32 (setS32 (setS32 (setS8 (setS8 (setS8 set1))))))) (hk := ?_); refine sG (g := ((((r20.2 == 0) && (r21.2 == 0)) && r22) && r23)) (hg := gA_t rfl) (hq := fun hg => by ((try simp only [cndT hg]); (try simp only [cndA hg]); exact Quiet.callTA rfl rfl hC hL hG (law31_head_l (M.to_whn k24 hg)) rfl rfl)) (ht := (setS32 (setS32 (setS32 (setS8 (setS8 (setS8 set2))))))) (hk := ?_); refine sA (hq := Quiet.pickAndB rfl (getS32 (getS32 (getS32 (getS8 (getS8 (getS8 get1)))))) (getS32 (getS32 (getS32 (getS8 (getS8 (getS8 get2)))))) getC) (ht := (setS32 (setS32 (setS32 (setS8 (setS8 (setS8 set3))))))) (hk := ?_); refine sA (hq := Quiet.assign rfl (getS32 (getS32 (getS32 (getS8 (getS8 (getS8 get3))))))) (ht := set4) (hk := ?_); exact wEnd rfl)) (hk := ?_)
        obtain rfl := M.to_ok.1 H
        exact Awp.ret ⟨.inr rfl, Fin.cl rfl⟩
end Mu
end
section
/-
  '[]byte(text)' that is written to: bytes of the call's own, whatever the mark behind them.
  Conditions: none; generic.
-/
namespace Mu
open Go Go.RowKit Go.Proofs Go.ChangeShapes Go.WideShapes

section
variable {P : Program} {C : Ctx} {o : Oper} {t : List AV} {h : List ABlk} {K : St → Prop}
end
end Mu
end
section
/-
  Images of bytes that are turned: what muntinlaw31.ImageTurned computes.
  Conditions: what is laid (GL).
-/
namespace Mu
open Go Go.RowKit Go.Proofs

end Mu
end
section
/-
  muntinlaw31.ImageTurned answers true of any image, and any two numbers.
  Conditions: what is laid (GL).
-/
namespace Mu
open Go Go.RowKit Go.Proofs

/-! ### bytes that are turned -/
section
variable {L : List Int} {K : Nat} {B : Nat → Int}
end
section
variable {at1 by2 e : Int} {s : ByteArray} {K : Nat}
end
theorem image_Get_to {l : List Int} (hu : allU8 l) (hl : l.length ≤ 900000000) : (image_Get (bytesOf l)).to (getX l, getE l) := by
  unfold image_Get
  rw [bytesL_bytesOf hu]
  exact M.chk_to (decide_eq_true (by rw [bytesOf_size]; exact hl)) (M.ok_to _)
end Mu
end
section
/-
  muntinlaw31.ImageReads and ImagePuts answer true.
  Conditions: what is laid (GL).
-/
namespace Mu
open Go Go.RowKit Go.Proofs

theorem reads31_true (s : ByteArray) (x : Img) (H : fineB x = true) : (law31_ImageReads s x).to true := by
  have F := fineB_iff.1 H
  unfold law31_ImageReads
  by_cases hs : (s.size : Int) > 4000
  · exact M.bnd_to (M.whn_f (by rw [decide_eq_true hs]; rfl)) (M.t_to (by rw [decide_eq_true hs]; rfl) (M.bnd_to head31_true (M.ok_to _)))
  · refine M.bnd_to (M.whn_t (by rw [decide_eq_false hs]; rfl) (show (law31_great x).to (greatI x) from M.ok_to _)) ?_
    cases hg : greatI x with
    | true => exact M.t_to (by simp) (M.bnd_to head31_true (M.ok_to _))
    | false =>
      refine M.f_to (by rw [decide_eq_false hs]; rfl) ?_
      obtain ⟨r, hr, hc⟩ := readM_any s (by omega)
      refine M.bnd_to hr ?_
      rcases hc with rfl | ⟨y, Fy, hy, he, rfl⟩
      · refine M.t_to rfl ?_
        cases hm : mayB x with
        | false => exact M.bnd_to (rlist_no F hm) (M.bnd_to (M.whn_t rfl head31_true) (M.ok_to _))
        | true =>
          refine M.bnd_to (rlist_to F hm) ?_
          have hne : (bl (listX x) != s) = true := by
            rw [ba_bne, decide_eq_false]
            · rfl
            · intro e
              have h1 := read_list F hm
              rw [e] at h1
              have := M.to_inj hr h1
              cases this
          dsimp only
          rw [hne]
          exact M.bnd_to (M.whn_t rfl head31_true) (M.ok_to _)
      · refine M.f_to rfl (M.bnd_to (rlist_to Fy hy) ?_)
        have heq : (bl (listX y) == s) = true := by rw [ba_beq, he]; simp
        dsimp only
        rw [heq]
        exact M.bnd_to (M.whn_t rfl head31_true) (M.ok_to _)
theorem puts31_true (x other : Img) (H : fineB x = true) (_H' : fineB other = true) : (law31_ImagePuts x other).to true := by
  have F := fineB_iff.1 H
  unfold law31_ImagePuts
  refine M.bnd_to (show (law31_great x).to (greatI x) from M.ok_to _) ?_
  cases hg : greatI x with
  | true => exact M.bnd_to (M.whn_f rfl) (M.t_to rfl (M.bnd_to head31_true (M.ok_to _)))
  | false =>
    refine M.bnd_to (M.whn_t rfl (show (law31_great other).to (greatI other) from M.ok_to _)) ?_
    cases hg' : greatI other with
    | true => exact M.t_to rfl (M.bnd_to head31_true (M.ok_to _))
    | false =>
      refine M.f_to rfl (M.bnd_to (M.chk_to H (M.ok_to _)) (M.bnd_to (M.chk_to H (M.ok_to _)) ?_))
      have b1 : ∀ a : ByteArray, (a != a) = false := fun a => by rw [ba_bne]; simp
      have b2 : ∀ a : Int, (a != a) = false := fun a => by simp
      have b3 : ∀ a : Bool, (a != a) = false := fun a => by cases a <;> rfl
      cases hm : mayB x with
      | false =>
        have e1 : putS x = ⟨#[]⟩ := if_neg (by rw [hm]; exact Bool.false_ne_true)
        have e2 : putE x = 5 := if_neg (by rw [hm]; exact Bool.false_ne_true)
        refine M.bnd_to (ilist_no F hm) (M.bnd_to (rlist_no F hm) ?_)
        simp only [e1, e2, b1, b2, Bool.or_false, Bool.not_false]
        refine M.bnd_to (M.whn_t rfl (M.chk_to H (M.ok_to _))) (M.bnd_to (M.whn_t rfl (M.chk_to H (M.ok_to _))) ?_)
        simp only [b3, Bool.or_false, Bool.not_false]
        refine M.bnd_to (M.whn_t rfl (M.chk_to H (M.ok_to _))) (M.bnd_to (M.whn_t rfl (M.chk_to H (M.ok_to _))) ?_)
        simp only [b3, Bool.or_false, Bool.not_false]
        refine M.bnd_to (M.whn_t rfl (M.chk_to H (M.to_ok.2 (sameB_self x)))) (M.f_to rfl (M.t_to rfl ?_))
        exact M.bnd_to (M.whn_t rfl head31_true) (M.ok_to _)
      | true =>
        have e1 : putS x = bytesOf (putL x) := if_pos hm
        have e2 : putE x = 0 := if_pos hm
        have hu := putL_8 F
        have hok := put_ok F hm
        have hlen := putL_len x
        have hN := mayN F (mayB_iff.1 hm)
        have hw := hN.words
        have hst := hN.starts
        refine M.bnd_to (ilist_to F hm) (M.bnd_to (rlist_to F hm) ?_)
        simp only [e1, e2, b1, b2, Bool.or_false, Bool.not_false]
        refine M.bnd_to (M.whn_t rfl (M.chk_to H (M.ok_to _))) (M.bnd_to (M.whn_t rfl (M.chk_to H (M.ok_to _))) ?_)
        simp only [b3, Bool.or_false, Bool.not_false]
        refine M.bnd_to (M.whn_t rfl (M.chk_to H (M.ok_to _))) (M.bnd_to (M.whn_t rfl (M.chk_to H (M.ok_to _))) ?_)
        simp only [b3, Bool.or_false, Bool.not_false]
        refine M.bnd_to (M.whn_t rfl (M.chk_to H (M.to_ok.2 (sameB_self x)))) (M.f_to rfl (M.f_to rfl ?_))
        have hget := image_Get_to hu (by omega : (putL x).length ≤ 900000000)
        obtain ⟨g1, g2⟩ := getE_ok hok
        rw [g1, g2, ref_put F (mayB_iff.1 hm)] at hget
        refine M.bnd_to hget (M.bnd_to (read_list F hm) ?_)
        refine M.bnd_to (M.whn_t rfl (M.chk_to H (M.to_ok.2 (sameB_self x)))) ?_
        refine M.bnd_to (M.whn_t rfl (M.chk_to H (M.to_ok.2 (sameB_self x)))) ?_
        exact M.bnd_to (M.whn_t rfl head31_true) (M.ok_to _)
theorem imageReads31_fn (s : ByteArray) (x : Img) (H : fineB x = true) : FnT GL Tryd.prog 4 [.lit (.string s), .agg (encImg x)] (.lit (.bool true)) := law31_ImageReads_l (reads31_true s x H)
theorem imagePuts31_fn (x other : Img) (H : fineB x = true) (H' : fineB other = true) : FnT GL Tryd.prog 6 [.agg (encImg x), .agg (encImg other)] (.lit (.bool true)) := law31_ImagePuts_l (puts31_true x other H H')
end Mu
end
section
/-
  What a row needs of contracts: calls, literals, rows of arguments.
  Conditions: none; generic.
-/
namespace Mu
open Go Go.RowKit Go.Proofs

theorem rel_litv {W : World} {S : Nat → Prop} {h : List ABlk} {ψ : Nat → Value} (v : Value) : AV.rel W S h ψ (.lit v) v := by
  unfold AV.rel
  rfl
theorem relL_one {W : World} {S : Nat → Prop} {h : List ABlk} {ψ : Nat → Value} {x : AV} {v : Value} (hv : AV.rel W S h ψ x v) : AV.relL W S h ψ [x] [v] := by
  unfold AV.relL
  exact ⟨v, [], rfl, hv, by unfold AV.relL; rfl⟩
theorem relL_more {W : World} {S : Nat → Prop} {h : List ABlk} {ψ : Nat → Value} {x : AV} {v : Value} {l : List AV} {vs : List Value} (hv : AV.rel W S h ψ x v) (hl : AV.relL W S h ψ l vs) : AV.relL W S h ψ (x :: l) (v :: vs) := by
  unfold AV.relL
  exact ⟨v, vs, rfl, hv, hl⟩
end Mu
end
section
/-
  What a row gives of an image that comes in.
  Conditions: none.
-/
namespace Mu
open Go Go.RowKit Go.Proofs

theorem rel_img {W : World} {S : Nat → Prop} {h : List ABlk} {ψ : Nat → Value} {cs : List Value} {x : Img} (hR : tImg.RS W S cs x) : AV.rel W S h ψ (.agg (encImg x)) (.agg cs.toArray) := by
  unfold AV.rel
  exact ⟨cs, rfl, EncOf.ok (T := tImg) W S h ψ cs x hR⟩
theorem one_u32 (x : Int) : 1 ≤ (Ty.int .u32).bulk x := Nat.le_refl _
theorem bulk_img (x : Img) : x.words.length + x.starts.length ≤ tImg.bulk x := by
  have h1 := bulkL_length one_u32 x.words
  have h2 := bulkL_length one_u32 x.starts
  simp only [tImg, Ty.via, Ty.cons, Ty.slice, Ty.none_, tInt] at h1 h2 ⊢
  omega
theorem u32s_of {w : World} {S : Nat → Prop} {cs : List Value} {l : List Int} (h : (Ty.int .u32).slice.RS w S cs l) : ∀ a ∈ l, wfI .u32 a := by
  obtain ⟨A, c, rfl, _, _, hi⟩ := h
  intro x hx
  obtain ⟨j, hj⟩ := List.mem_iff_getElem?.1 hx
  obtain ⟨b, o, _, _, cs', ⟨_, h1⟩, _⟩ := hi j x hj
  exact h1
theorem fine_img {w : World} {S : Nat → Prop} {cs : List Value} {x : Img} (hR : tImg.RS w S cs x) (hb : tImg.bulk x ≤ 2097152) : fineB x = true := by
  have hl := bulk_img x
  have ho := ok_Img hR
  obtain ⟨s1, s5, _, _, h1, _, _, _, h5, _⟩ := tImg_R.1 hR
  exact fineB_iff.2 ⟨ho, by omega, by omega, u32s_of h5, u32s_of h1⟩
end Mu
end
section
/-
  The arguments of a row, read; what a call that makes new blocks only leaves of them.
  Conditions: none.
-/
namespace Mu
open Go Go.RowKit Go.ChangeShapes Go.WideShapes Go.Proofs

theorem laid_out : laidOutB Tryd.prog = true := by kernel_rfl
mutual
theorem bulk_le {H : Type} : ∀ d : DataW H, bulkD d ≤ YtpippebmbphhfaaDoor.Rows.uptoBulk d
  | .lit (.string _) => Nat.le_refl _
  | .lit (.bool _) => Nat.le_refl _
  | .lit (.int _ _) => Nat.le_refl _
  | .lit (.float _ _) => Nat.le_refl _
  | .lit .nil => Nat.le_refl _
  | .nil => Nat.le_refl _
  | .ptr d => by show 1 ≤ YtpippebmbphhfaaDoor.Rows.uptoBulk d + 1; omega
  | .slice e s => by
    have h1 := bulks_le e
    have h2 := bulks_le s
    show bulkD.go e + bulkD.go s + 1 ≤ YtpippebmbphhfaaDoor.Rows.uptoBulkAll e + YtpippebmbphhfaaDoor.Rows.uptoBulkAll s + 1
    omega
  | .agg p => by
    have h1 := bulks_le p
    show bulkD.go p + 1 ≤ YtpippebmbphhfaaDoor.Rows.uptoBulkAll p + 1
    omega
  | .iface _ d => by show 1 ≤ YtpippebmbphhfaaDoor.Rows.uptoBulk d + 1; omega
  | .map m => by show 1 ≤ YtpippebmbphhfaaDoor.Rows.uptoBulkEntries m + 1; omega
  | .held _ => Nat.le_refl _
theorem bulks_le {H : Type} : ∀ l : List (DataW H), bulkD.go l ≤ YtpippebmbphhfaaDoor.Rows.uptoBulkAll l
  | [] => Nat.le_refl _
  | d :: r => by
    have h1 := bulk_le d
    have h2 := bulks_le r
    show bulkD d + bulkD.go r ≤ YtpippebmbphhfaaDoor.Rows.uptoBulk d + YtpippebmbphhfaaDoor.Rows.uptoBulkAll r
    omega
end

/-- an argument of a type that is read: a value of many cells -/
theorem open_many {α : Type} {t : TypeId} {T : Ty α} {H : Type} {enc : TypeId × Value → H} {W : World} {v : Value} {d : DataW H} {p : List MemPlace} (ho : Opens Tryd.prog t T) (hs : 1 < T.size)
    (h : DataW.Trod enc Tryd.prog W 0 (fun _ => true) true t v d p) (hp : ∀ x ∈ p, x.block < W.heap.size) :
    ∃ cs x, v = .agg cs.toArray ∧ T.R W W.heap.size cs x ∧ T.bulk x ≤ YtpippebmbphhfaaDoor.Rows.uptoBulk d := by
  obtain ⟨fuel, hf⟩ := h
  obtain ⟨x, hR, hb⟩ := ho.go H enc W 0 _ true fuel _ (d, p) W.heap.size hf hp
  have hl := T.len hR
  refine ⟨v.cells.toList, x, ?_, hR, Nat.le_trans hb (bulk_le d)⟩
  cases v <;> first
    | (simp [Value.cells] at hl; omega)
    | simp [Value.cells]
/-- what an argument read as, it reads as behind a call that makes new blocks only -/
theorem stays {t : TypeId} {H : Type} {enc : TypeId × Value → H} {W W' : World} {v : Value} {d : DataW H} {p : List MemPlace} (hr : Tryd.prog.readableRec t = true) (ht : t < Tryd.prog.types.size)
    (h : DataW.Trod enc Tryd.prog W 0 (fun _ => true) true t v d p) (hb : Below W.heap.size W W') (hp : ∀ x ∈ p, x.block < W.heap.size) :
    DataW.Trod enc Tryd.prog W' 0 (fun b => decide (b < W.heap.size)) true t v d p := Below.trod laid_out hr ht h hb hp
end Mu
end
