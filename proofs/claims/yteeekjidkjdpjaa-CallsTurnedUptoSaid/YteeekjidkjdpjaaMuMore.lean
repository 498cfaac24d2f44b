/-
  muntinlaw20.CallsMore, walked: it is true.
  Conditions: the program's bulk is at most 2^20.
-/
import Derived.Test.YteeekjidkjdpjaaMuFollow
import Derived.Test.YteeekjidkjdpjaaMuMoreR
import Derived.Test.YteeekjidkjdpjaaMuMem
import Derived.Deep.DrawnRows
import Derived.Deep.RegionHeld3
namespace Mu
open Go Go.RowKit Go.Proofs

theorem func_info : (Try.prog.info? 31).map (fun i => (i.zero, i.size, i.bytes)) = some (some (.agg #[.string ⟨#[]⟩, .int .i64 0, .int .i64 0, .slice none 0 0]), 4, 56) := by kernel_rfl
theorem block_info : (Try.prog.info? 42).map (fun i => (i.zero, i.size, i.bytes)) = some (some (.agg #[.string ⟨#[]⟩, .slice none 0 0]), 2, 40) := by kernel_rfl
theorem row_new {w : World} {base sz : Nat} (e : TypeId) (g : Nat) (hg : g = w.heap.size) (hb : base ≤ g := by omega) : (w.alloc (.cells #[] e)).ownsRow base e sz (.slice (some ⟨g, 0, none⟩) 0 0) 0 [] := by
  subst hg
  exact ⟨by simp, .inr ⟨_, 0, #[], rfl, hb, heap_alloc_new _ _, Nat.le_refl _, Nat.zero_le _, by simp, by simp⟩⟩

theorem Fr.alloc {w w1 : World} (h : Fr w w1) (o : Obj) : Fr w (w1.alloc o) := Below.alloc h h.size o
section
variable {w0 w' : World} {p : Prog} {us : List Value}
theorem fr_reach (f : Int) (hR : tProg.R w0 w0.heap.size us p) (hsm : tProg.bulk p ≤ 2097152) (h : Fr w0 w') :
    Calls Try.prog 19 #[.agg us.toArray, .int .i64 f] w' fun e w'' => ∃ A c, e = .returned (.slice A (reachAll p f).length c) ∧ Fr w0 w'' ∧ Got (.slice A (reachAll p f).length c) (reachAll p f) w'' ∧ Hid (Below w'.heap.size w' w'') :=
  (Reach_any p f w' us (Ty.below hR h h.size) hsm).mono fun _ _ ⟨v, h1, h2, h3⟩ => by
    obtain ⟨A, c, rfl⟩ := own_form h2
    exact ⟨A, c, h1, Fr.call' h3 h, OwnI.read h2 (reachAll_wf hsm), h3⟩
theorem fr_depth (f : Int) (hR : tProg.R w0 w0.heap.size us p) (hsm : tProg.bulk p ≤ 2097152) (h : Fr w0 w') :
    Calls Try.prog 21 #[.agg us.toArray, .int .i64 f] w' fun e w'' => e = .returned (.int .i64 (depthC p f)) ∧ Fr w0 w'' :=
  (Depth_any p f w' us (Ty.below hR h h.size) hsm).mono fun _ _ hp => ⟨hp.1, Fr.call' hp.2 h⟩
theorem fr_in {u : Value} {l : List Int} (n : Int) (h : Fr w0 w') (h1 : Got u l w') (hl : l.length ≤ 2097152) :
    Calls Try.prog 23 #[u, .int .i64 n] w' fun e w'' => e = .returned (.bool (l.contains n)) ∧ Fr w0 w'' ∧ Hid (Below w'.heap.size w' w'') :=
  (law20_in l n u w' h1 hl).mono fun _ _ hp => ⟨hp.1, Fr.call' hp.2 h, hp.2⟩
theorem fr_head (h : Fr w0 w') : Calls Try.prog 13 #[] w' fun e w'' => e = .returned (.bool true) ∧ Fr w0 w'' :=
  (head_any w').mono fun _ _ hp => ⟨hp.1, Fr.call' hp.2 h⟩
theorem fr_leaf {fn : Func} {fs : List Value} (hR : tFunc.R w0 w0.heap.size fs fn) (hsm : tFunc.bulk fn ≤ 2097152) (h : Fr w0 w') :
    Calls Try.prog 14 #[.agg fs.toArray] w' fun e w'' => e = .returned (.bool (leaf fn.blocks)) ∧ Fr w0 w'' :=
  (leaf_any fn w' fs (Ty.below hR h h.size) hsm).mono fun _ _ hp => ⟨hp.1, Fr.call' hp.2 h⟩
end
theorem more_at {p : Prog} {f : Nat} {fn : Func} {k : Int} (hf : f < p.funcs.length) : (moreP p f fn k).funcs[f]? = some (moreF fn k) := by simp [moreP, hf]
theorem func_blocks {w : World} {B n c : Nat} {u v x : Value} {A : Option Addr} {fn : Func} (h : tFunc.R w B [u, v, x, .slice A n c] fn) : tBlock.slice.R w B [.slice A n c] fn.blocks := by
  obtain ⟨A', c', e, _, _, _, hB⟩ := tFunc_R.1 h
  simp only [List.cons.injEq, Value.slice.injEq, and_true] at e
  obtain ⟨_, _, _, rfl, rfl, rfl⟩ := e
  exact hB

/-- the program with a call more, as it lies behind the store -/
theorem more_reads {p : Prog} {fn : Func} {q kk n cap c c' g : Nat} {w w3 X w5 : World} {A' A : Option Addr} {v5 : Value} {cells bcells : List Value} {m : Nat} (hfn : p.funcs[q]? = some fn) (hn : n = p.funcs.length)
    (hk : wfI .i64 kk) (hR : tProg.R w w.heap.size [.int .i64 p.heap, .slice A' p.threads.length c', .slice A p.funcs.length c] p) (hb : Below w.heap.size w w3)
    (hcr : ∀ i d, p.funcs[i]? = some d → tFunc.R w w.heap.size ((cells.drop (i * 4)).take 4) d) (hbr : ∀ i d, fn.blocks[i]? = some d → tBlock.R w w.heap.size ((bcells.drop (i * 2)).take 2) d)
    (ho3 : w3.ownsRow (w.heap.size + 1) 31 4 (.slice (some ⟨g, 0, none⟩) n cap) n cells)
    (hX : X = ((w3.alloc (.cells (insVals 5 kk).toArray 39)).alloc (.cells #[.string ⟨#[]⟩, .slice (some ⟨w3.heap.size, 0, none⟩) 1 1] 42)).drew)
    (hm : m = fn.blocks.length + 1) (ho5 : w5.ownsRow w3.heap.size 42 2 v5 m ([.string ⟨#[]⟩, .slice (some ⟨w3.heap.size, 0, none⟩) 1 1] ++ bcells))
    (hg5 : X.grownBy w5 (some (w3.heap.size + 1))) :
    tProg.R (w5.setCell ⟨g, q * 4 + 3, none⟩ v5) (w5.setCell ⟨g, q * 4 + 3, none⟩ v5).heap.size [.int .i64 p.heap, .slice A' p.threads.length c', .slice (some ⟨g, 0, none⟩) n cap] (moreP p q fn kk) := by
  have hgl := (ho3.lt g rfl)
  have hXs : X.heap.size = w3.heap.size + 1 + 1 := by rw [hX]; simp [World.drew]
  have h5s := hg5.size
  have hX3 : ∀ k, k < w3.heap.size → X.heap[k]? = w3.heap[k]? := fun k hk => by
    rw [hX]
    show ((w3.alloc _).alloc _).heap[k]? = _
    rw [Below.heap_alloc _ _ _ (by simp; omega), Below.heap_alloc _ _ _ hk]
  have h53 : ∀ k, k < w3.heap.size → w5.heap[k]? = w3.heap[k]? := fun k hk => (hg5.block k (by omega) (by simp; omega)).trans (hX3 k hk)
  have h6s : (w5.setCell ⟨g, q * 4 + 3, none⟩ v5).heap.size = w5.heap.size := by simp [World.setCell]
  have hb6 : ∀ k, k < w.heap.size → (w5.setCell ⟨g, q * 4 + 3, none⟩ v5).heap[k]? = w.heap[k]? := fun k hk => by
    rw [Below.heap_setCell _ _ _ _ (by show k ≠ g; omega), h53 k (by have := hb.size; omega)]
    exact hb.block k hk
  have hsz := hb.size
  obtain ⟨A1, c1, A1', c1', e, hheap, hth, _⟩ := tProg_R.1 hR
  have ho6 : (w5.setCell ⟨g, q * 4 + 3, none⟩ v5).ownsRow (w.heap.size + 1) 31 4 (.slice (some ⟨g, 0, none⟩) n cap) n (cells.set (q * 4 + 3) v5) :=
    (World.ownsRow.stored (ownsRow_keep ho3 (fun k hk => h53 k (by have := (ho3.lt k hk).2; omega))) (q * 4 + 3) v5).1
  have hv : tBlock.slice.R (w5.setCell ⟨g, q * 4 + 3, none⟩ v5) (w5.setCell ⟨g, q * 4 + 3, none⟩ v5).heap.size [v5] (callB kk :: fn.blocks) := by
    refine blocks_row (n := m) (ownsRow_keep ho5 (fun k hk => Below.heap_setCell _ _ _ _ (by have := (ho5.lt k hk).1; show k ≠ g; omega))) hm (B1 := w3.heap.size) ?_ hk (fun i d hd => Ty.keep (hbr i d hd) hb6 (by omega)) (by show _ < _; omega) (fun r hr => by show r < _; have := (ho5.lt r hr).2; omega)
    rw [Below.heap_setCell _ _ _ _ (by show w3.heap.size ≠ g; omega), hg5.block _ (by omega) (by simp)]
    rw [hX]
    show ((w3.alloc _).alloc _).heap[w3.heap.size]? = _
    rw [Below.heap_alloc _ _ _ (by simp)]
    exact heap_alloc_new w3 _
  have hfr := funcs_row (k := (kk : Int)) hfn hn ho6 (fun i d hd => Ty.keep (hcr i d hd) hb6 (by omega)) hv (fun r hr => by cases hr; show g < _; omega)
  refine tProg_R.2 ⟨some ⟨g, 0, none⟩, cap, A', c', ?_, hheap, ?_, ?_⟩
  · simp only [more_len, hn]
    rfl
  · cases e
    exact Ty.keep (T := tInt.slice) (B := w.heap.size) hth hb6 (by omega)
  · rw [more_len, ← hn]
    exact hfr

set_option maxRecDepth 100000 in
set_option maxHeartbeats 4000000 in
theorem callsMore_any (p : Prog) (f k : Int) (w : World) (cs : List Value) (hR : tProg.R w w.heap.size cs p) (hsm : tProg.bulk p ≤ 1048576) (hwk : wfI .i64 k) :
    Calls Try.prog 5 #[.agg cs.toArray, .int .i64 f, .int .i64 k] w fun e w' => e = .returned (.bool true) ∧ Below w.heap.size w w' := by
  obtain ⟨A, c, A', c', rfl, _, _, hF⟩ := tProg_R.1 hR
  have hpl := prog_funcs_le p
  have hsm2 : tProg.bulk p ≤ 2097152 := by omega
  have HR := Lib.hid hR
  have HF := Lib.hid hF
  clear hR hF
  obtain ⟨cs, hcs⟩ : ∃ cs : List Value, cs = [.int .i64 p.heap, .slice A' p.threads.length c', .slice A p.funcs.length c] := ⟨_, rfl⟩
  have q0 : ∀ w', Bx w cs 25 w' → w'.cell? ⟨w.heap.size, 0, none⟩ = some (.int .i64 p.heap) := fun w' h => h.cell (by rw [hcs]; rfl)
  have q1 : ∀ w', Bx w cs 25 w' → w'.cell? ⟨w.heap.size, 1, none⟩ = some (.slice A' p.threads.length c') := fun w' h => h.cell (by rw [hcs]; rfl)
  have q2 : ∀ w', Bx w cs 25 w' → w'.cell? ⟨w.heap.size, 2, none⟩ = some (.slice A p.funcs.length c) := fun w' h => h.cell (by rw [hcs]; rfl)
  have hstart : Hid (Bx w cs 25 (w.alloc (.cells [.int .i64 p.heap, .slice A' p.threads.length c', .slice A p.funcs.length c].toArray 25))) := by rw [← hcs]; exact Bx.refl
  clear hcs
  have hal : ∀ W o, Bx w cs 25 W → Bx w cs 25 (W.alloc o) := fun _ o h => h.alloc o
  have H13 := Lib.hid fun w' (h : Bx w cs 25 w') => bx_head h
  go_enter Try.func5, Try.ntmps5
  go_wp2_with fail
  refine (bx_great hstart.out HR.out hsm2).mono ?_
  rintro e w1 ⟨b, rfl, hx⟩
  have hlt0 := hx.lt
  clear hstart
  cases b
  · by_cases hn : p.funcs.length ≤ 20
    · have dn : decide (20 < p.funcs.length) = false := decide_eq_false (by omega)
      by_cases f0 : f < 0
      · have df0 : decide (f < 0) = true := decide_eq_true f0
        go_wp2_with fail
        refine (H13.out _ hx).mono ?_
        rintro e w2 ⟨rfl, hx2⟩
        go_wp2_with fail
        go_ret
        exact ⟨rfl, hx2.below⟩
      · have df0 : decide (f < 0) = false := decide_eq_false f0
        by_cases f1 : (p.funcs.length : Int) ≤ f
        · have df1 : decide ((p.funcs.length : Int) ≤ f) = true := decide_eq_true f1
          go_wp2_with fail
          refine (H13.out _ hx).mono ?_
          rintro e w2 ⟨rfl, hx2⟩
          go_wp2_with fail
          go_ret
          exact ⟨rfl, hx2.below⟩
        · have df1 : decide ((p.funcs.length : Int) ≤ f) = false := decide_eq_false f1
          by_cases k0 : k < 0
          · have dk0 : decide (k < 0) = true := decide_eq_true k0
            go_wp2_with fail
            refine (H13.out _ hx).mono ?_
            rintro e w2 ⟨rfl, hx2⟩
            go_wp2_with fail
            go_ret
            exact ⟨rfl, hx2.below⟩
          · have dk0 : decide (k < 0) = false := decide_eq_false k0
            by_cases k1 : (p.funcs.length : Int) ≤ k
            · have dk1 : decide ((p.funcs.length : Int) ≤ k) = true := decide_eq_true k1
              go_wp2_with fail
              refine (H13.out _ hx).mono ?_
              rintro e w2 ⟨rfl, hx2⟩
              go_wp2_with fail
              go_ret
              exact ⟨rfl, hx2.below⟩
            · have dk1 : decide ((p.funcs.length : Int) ≤ k) = false := decide_eq_false k1
              obtain ⟨q, rfl⟩ := Int.eq_ofNat_of_zero_le (show 0 ≤ f by omega)
              obtain ⟨kk, rfl⟩ := Int.eq_ofNat_of_zero_le (show 0 ≤ k by omega)
              have hq : q < p.funcs.length := by omega
              have hkk : kk < p.funcs.length := by omega
              obtain ⟨fn, b, o, Aq, cq, rfl, hbl, hfn, hfs, _, _, _, k3, hRf⟩ := func_fact HF.out (k := q) hq hsm2
              obtain ⟨cells, hcl, hcs, hcr, hco⟩ := slice_src HF.out func_cells
              obtain ⟨bcells, hbl2, hbs, hbr, hbo⟩ := slice_src (func_blocks hRf) block_cells
              have r3 : ∀ w', Bx w cs 25 w' → w'.cell? ⟨b, o + q * 4 + 3, none⟩ = some (.slice Aq fn.blocks.length cq) := fun w' h => (h.far hbl).trans k3
              obtain ⟨i0, hi, hz0, hz1, hz2⟩ := info_parts func_info
              obtain ⟨i1, hi1, hy0, hy1, hy2⟩ := info_parts block_info
              have hsrc := Lib.hid fun w' (h : Bx w cs 25 w') => Src.below hcs h.below
              have hbsrc := Lib.hid fun w' (h : Bx w cs 25 w') => Src.below hbs h.below
              have HCL := Lib.hid hcl
              have HCR := Lib.hid hcr
              have HCO := Lib.hid hco
              have HFN := Lib.hid hfn
              have HBC := Lib.hid (And.intro hbl2 (And.intro hbr hbo))
              have hxa := Lib.hid (hal _ (.cells #[] 31) (hal w1 (.cells #[.int .i64 p.heap, .slice A' p.threads.length c', .slice (some ⟨b, o, none⟩) p.funcs.length c] 25) hx))
              have hown0 : Hid (((w1.alloc (.cells #[.int .i64 p.heap, .slice A' p.threads.length c', .slice (some ⟨b, o, none⟩) p.funcs.length c] 25)).alloc (.cells #[] 31)).ownsRow (w1.heap.size + 1) 31 4 (.slice (some ⟨w1.heap.size + 1, 0, none⟩) 0 0) 0 []) := row_new _ _ (by simp)
              have hq1 : Hid (((w1.alloc (.cells #[.int .i64 p.heap, .slice A' p.threads.length c', .slice (some ⟨b, o, none⟩) p.funcs.length c] 25)).alloc (.cells #[] 31)).heap[w1.heap.size]? = some (.cells #[.int .i64 p.heap, .slice A' p.threads.length c', .slice (some ⟨b, o, none⟩) p.funcs.length c] 25 (0, 0))) := box_alloc (heap_alloc_new w1 _) _
              clear hcl hcs hcr hco hfn hbl2 hbs hbr hbo k3
              go_wp2_with (at_builtin; refine list_more rfl (.tmp 46) (.tmp 48) _ rfl (w1.heap.size + 1) 31 i0 _ 4 56 Try.underlying23 hi hz0 hz1 hz2 rfl (by decide) rfl hown0.out rfl (hsrc.out _ hxa.out) HCO.out (by unfold maxLen; omega) (by omega) (by simp) ?_)
              intro v2 w2 ho2 hg2 hat2
              obtain ⟨g, cap, rfl, hgb, hgl⟩ := ho2.form (by omega)
              have hq2 := (hg2.block w1.heap.size (by simp; omega) (by simp [Value.ownBlock])).trans hq1.out
              have hqc : w2.cell? ⟨w1.heap.size, 2, none⟩ = some (.slice (some ⟨b, o, none⟩) p.funcs.length c) := box_cell (cs := [_, _, _]) hq2 rfl
              have hqf : w2.frozen? ⟨w1.heap.size, 2, none⟩ = false := box_free hq2
              have HQ2 := Lib.hid hq2
              have HO2 := Lib.hid ho2
              have HG2 := Lib.hid hg2
              clear hq2 ho2 hg2 hat2 hown0 hq1
              go_wp2_with fail
              obtain ⟨w3, hw3⟩ : ∃ w3 : World, w3 = w2.setCell ⟨w1.heap.size, 2, none⟩ (.slice (some ⟨g, 0, none⟩) p.funcs.length cap) := ⟨_, rfl⟩
              rw [← hw3]
              have hb2 : Hid (Bx w cs 25 w2) := by
                have h1 := Below.grown (show Below (w.heap.size + 1) _ _ from hxa.out) HG2.out (by simp; omega) (fun q hq => by simp [Value.ownBlock] at hq; omega)
                exact h1
              have hb3 : Hid (Bx w cs 25 w3) := by
                rw [hw3]
                exact Below.setCell hb2.out (by show w.heap.size + 1 ≤ w1.heap.size; omega) _
              have hq3 : Hid (w3.heap[w1.heap.size]? = some (.cells [Value.int .i64 p.heap, .slice A' p.threads.length c', .slice (some ⟨g, 0, none⟩) p.funcs.length cap].toArray 25 (0, 0))) := by
                rw [hw3]
                exact box_set (cs := [_, _, _]) HQ2.out
              have ho3 : Hid (w3.ownsRow (w1.heap.size + 1) 31 4 (.slice (some ⟨g, 0, none⟩) p.funcs.length cap) p.funcs.length cells) := by
                rw [hw3]
                have h := HO2.out
                exact ownsRow_keep h (fun k hk => Below.heap_setCell _ _ _ _ (by have := (h.lt k hk).1; show k ≠ w1.heap.size; omega))
              have hs3 : w1.heap.size < w3.heap.size := box_lt hq3.out
              have hg3 : g < w3.heap.size := (ho3.out.lt g rfl).2
              clear hw3 HQ2 HO2 HG2 hqc hqf hxa hx
              have e1 : ∀ w', Fx g w3 w' → w'.cell? ⟨w1.heap.size, 2, none⟩ = some (.slice (some ⟨g, 0, none⟩) p.funcs.length cap) := fun w' h => h.cell hs3 (by show w1.heap.size ≠ g; omega) (box_cell hq3.out rfl)
              have e2 : ∀ w', Fx g w3 w' → w'.cell? ⟨w.heap.size, 2, none⟩ = some (.slice (some ⟨b, o, none⟩) p.funcs.length c) := fun w' h => h.cell (by show w.heap.size < _; omega) (by show w.heap.size ≠ g; omega) (q2 _ hb3.out)
              have e3 : ∀ w', Fx g w3 w' → w'.cell? ⟨b, o + q * 4 + 3, none⟩ = some (.slice Aq fn.blocks.length cq) := fun w' h => h.cell (by show b < _; omega) (by show b ≠ g; omega) (r3 _ hb3.out)
              have qi0 : (0 : Int) ≤ (q : Int) := by omega
              have qi1 : (q : Int) < (p.funcs.length : Int) := by omega
              have hXf : Hid (Fr w3 (((w3.alloc (.cells #[.int .u8 5, .int .i64 0, .int .i64 0, .int .i64 0, .int .u32 0, .int .i64 kk, .slice none 0 0, .int .i64 0, .int .i64 0] 39)).alloc (.cells #[.string ⟨#[]⟩, .slice (some ⟨w3.heap.size, 0, none⟩) 1 1] 42)).drew)) := (Below.alloc (Below.alloc (Below.refl _ _) (Nat.le_refl _) _) (by simp) _).drew
              have hrow : Hid ((((w3.alloc (.cells #[.int .u8 5, .int .i64 0, .int .i64 0, .int .i64 0, .int .u32 0, .int .i64 kk, .slice none 0 0, .int .i64 0, .int .i64 0] 39)).alloc (.cells #[.string ⟨#[]⟩, .slice (some ⟨w3.heap.size, 0, none⟩) 1 1] 42)).drew).ownsRow w3.heap.size 42 2 (.slice (some ⟨w3.heap.size + 1, 0, none⟩) 1 1) 1 [.string ⟨#[]⟩, .slice (some ⟨w3.heap.size, 0, none⟩) 1 1]) := by
                refine row_lit (g := w3.heap.size + 1) (n := 1) ?_ (by omega) rfl one_max
                have := heap_alloc_new (w3.alloc (.cells #[.int .u8 5, .int .i64 0, .int .i64 0, .int .i64 0, .int .u32 0, .int .i64 kk, .slice none 0 0, .int .i64 0, .int .i64 0] 39)) (.cells #[.string ⟨#[]⟩, .slice (some ⟨w3.heap.size, 0, none⟩) 1 1] 42)
                rw [show (w3.alloc (.cells #[.int .u8 5, .int .i64 0, .int .i64 0, .int .i64 0, .int .u32 0, .int .i64 kk, .slice none 0 0, .int .i64 0, .int .i64 0] 39)).heap.size = w3.heap.size + 1 from by simp] at this
                exact this
              have hbl4 := func_blocks_le fn
              go_region_held3 (fun w' => Fx g w3 w') (first | assumption | exact Fx.drew Fx.refl | exact Fx.alloc (by assumption) _ | exact Fx.set_ (by assumption) _ _)
                ((refine step_more rfl (.tmp 58) (.tmp 64) 29 (by rfl) w3.heap.size 42 i1 _ 2 40 Try.underlying29 hi1 hy0 hy1 hy2 rfl (by decide) (by rfl) hrow.out (by rfl) (hbsrc.out _ (hb3.out.fr hXf.out)) HBC.out.2.2 (by unfold maxLen; omega) (by omega) (by simp; omega) ?_; intro v5 w5 ho5 hg5 hat5; obtain ⟨g5, c5, rfl, hgb5, hgl5⟩ := ho5.form (by omega); have hf5 : Fr w3 w5 := Below.grown hXf.out hg5 (by simp; omega) (fun r hr => by simp [Value.ownBlock] at hr; omega); have hc5 := (World.ownsRow.cellAt (ownsRow_keep ho3.out (fun k hk => hf5.block k (ho3.out.lt k hk).2)) (q * 4 + 3) (by omega)).trans (List.getElem?_eq_getElem (by have := HCL.out; rw [tFunc_size] at this; omega)); have hz5 := World.ownsRow.frozenAt (ownsRow_keep ho3.out (fun k hk => hf5.block k (ho3.out.lt k hk).2)) (q * 4 + 3); have hx5 : Fx g w3 w5 := Fx.below Fx.refl hf5; have HF5 := Lib.hid hf5; have HO5 := Lib.hid ho5; have HG5 := Lib.hid hg5; have HAT5 := Lib.hid hat5; clear ho5 hg5 hat5 hf5))
              have hR6 := Lib.hid (more_reads (n := p.funcs.length) HFN.out rfl hwk HR.out hb3.out.below HCR.out HBC.out.2.1 (by
                obtain ⟨h1, h2⟩ := ho3.out
                refine ⟨h1, ?_⟩
                rcases h2 with h2 | ⟨g', cap', cur, hv, hg', r⟩
                · exact .inl h2
                · exact .inr ⟨g', cap', cur, hv, by omega, r⟩) rfl (by omega) HO5.out HG5.out)
              have hx6 := Fx.set_ hx5 (q * 4 + 3) (Value.slice (some ⟨g5, 0, none⟩) (1 + fn.blocks.length) c5)
              obtain ⟨w6, hw6⟩ : ∃ w6 : World, w6 = w5.setCell ⟨g, q * 4 + 3, none⟩ (Value.slice (some ⟨g5, 0, none⟩) (1 + fn.blocks.length) c5) := ⟨_, rfl⟩
              rw [← hw6] at hR6 hx6 ⊢
              have hb6 : Hid (Bx w cs 25 w6) := by
                have h := hb3.out
                have h1 : Below (w.heap.size + 1) w3 w6 := by
                  rw [hw6]
                  exact Below.setCell (HF5.out.mono (by omega)) (by show w.heap.size + 1 ≤ g; omega) _
                exact Below.trans h h1
              have hq6 : Hid (w6.heap[w1.heap.size]? = some (.cells [Value.int .i64 p.heap, .slice A' p.threads.length c', .slice (some ⟨g, 0, none⟩) p.funcs.length cap].toArray 25 (0, 0))) := (hx6.block _ hs3 (by omega)).trans hq3.out
              have hs6 : w1.heap.size < w6.heap.size := box_lt hq6.out
              have hRp := Lib.hid (hb6.out.R HR.out)
              have hlen6 := more_len p q fn kk
              have HM := Lib.hid hlen6
              have hbk := bulk_more (k := (kk : Int)) HFN.out
              have hsm6 : Hid (tProg.bulk (moreP p q fn kk) ≤ 2097152) := by show _ ≤ _; omega
              clear hw6 hx6 hx5 hc5 hz5 HAT5 HF5 HO5 HG5 hrow hXf e1 e2 e3 hb3 hq3 ho3 hlen6 hbk
              have p0 : ∀ w', Fr w6 w' → w'.cell? ⟨w.heap.size, 0, none⟩ = some (.int .i64 p.heap) := fun w' h => q0 w' (hb6.out.fr h)
              have p1 : ∀ w', Fr w6 w' → w'.cell? ⟨w.heap.size, 1, none⟩ = some (.slice A' p.threads.length c') := fun w' h => q1 w' (hb6.out.fr h)
              have p2 : ∀ w', Fr w6 w' → w'.cell? ⟨w.heap.size, 2, none⟩ = some (.slice (some ⟨b, o, none⟩) p.funcs.length c) := fun w' h => q2 w' (hb6.out.fr h)
              have z0 : ∀ w', Fr w6 w' → w'.cell? ⟨w1.heap.size, 0, none⟩ = some (.int .i64 p.heap) := fun w' h => h.cell hs6 (box_cell hq6.out rfl)
              have z1 : ∀ w', Fr w6 w' → w'.cell? ⟨w1.heap.size, 1, none⟩ = some (.slice A' p.threads.length c') := fun w' h => h.cell hs6 (box_cell hq6.out rfl)
              have z2 : ∀ w', Fr w6 w' → w'.cell? ⟨w1.heap.size, 2, none⟩ = some (.slice (some ⟨g, 0, none⟩) p.funcs.length cap) := fun w' h => h.cell hs6 (box_cell hq6.out rfl)
              clear q0 q1 q2 r3
              go_wp2_with fail
              go_loopw [8] (fun i wr => ∃ r : Nat, r ≤ p.funcs.length ∧ i = .int .i64 r ∧ Fr w6 wr) (fun i _ => p.funcs.length - (RowKit.intOf i).toNat)
              case atStart => exact ⟨0, Nat.zero_le _, rfl, Fr.refl _⟩
              case round =>
                obtain ⟨r, hr, rfl, hf⟩ := hrel
                obtain ⟨wo, rfl⟩ : ∃ wo : World, wo = wr := ⟨_, rfl⟩
                by_cases hlt : r < p.funcs.length
                · have C1 := Lib.hid (reach_row hlt)
                  have C2 := Lib.hid (reach_row (p := moreP p q fn kk) (q := r) (by rw [HM.out]; exact hlt))
                  go_wp2_with fail
                  go_region_held3 (fun w' => Fr w6 w')
                    (first | assumption | exact Below.drew (by assumption))
                    (first
                      | ((with_reducible refine (fr_reach (r : Int) hRp.out hsm2 (by assumption)).mono ?_); rintro e w7 ⟨A7, c7, rfl, hf7, hg7, hb7⟩; rw [C1.out] at hg7; rw [C1.out])
                      | ((with_reducible refine (fr_reach (r : Int) hR6.out hsm6.out (by assumption)).mono ?_); rintro e w8 ⟨A8, c8, rfl, hf8, hg8, hb8⟩; rw [C2.out] at hg8; rw [C2.out]))
                  all_goals
                    first
                      | (have hG7 := Lib.hid (Got.keep hg7 hb8)
                         have hG8 := Lib.hid hg8)
                      | (have hG7 := Lib.hid hg7
                         have hG8 := Lib.hid (Got.keep hg8 hb7))
                    clear hg7 hg8 hb7 hb8 C1 C2
                    have L7 := reachC_len p r
                    have L8 : Hid ((reachC (moreP p q fn kk) r).length ≤ 2097152) := by have := reachC_len (moreP p q fn kk) r; have h2 := HM.out; show _ ≤ _; omega
                    go_wp2_with fail
                    go_loopw [11] (fun i wr => ∃ m : Nat, m ≤ (reachC p r).length ∧ i = .int .i64 m ∧ Fr w6 wr ∧ Hid (Got (.slice A7 (reachC p r).length c7) (reachC p r) wr) ∧ Hid (Got (.slice A8 (reachC (moreP p q fn kk) r).length c8) (reachC (moreP p q fn kk) r) wr)) (fun i _ => (reachC p r).length - (RowKit.intOf i).toNat)
                    case atStart => exact ⟨0, Nat.zero_le _, rfl, by assumption, hG7, hG8⟩
                    case round =>
                      obtain ⟨m, hm, rfl, hfr, hK7, hK8⟩ := hrel
                      obtain ⟨wi, rfl⟩ : ∃ wi : World, wi = wr := ⟨_, rfl⟩
                      clear hG7 hG8
                      by_cases hlt3 : m < (reachC p r).length
                      · obtain ⟨z, hz⟩ : ∃ z, (reachC p r)[m]? = some z := ⟨_, List.getElem?_eq_getElem hlt3⟩
                        obtain ⟨bz, oz, ez, hbz, hcz, _⟩ := int_at hK7.out hz
                        cases ez
                        have HIN : Hid ((reachC (moreP p q fn kk) r).contains z = true) := by
                          show _ = _
                          rw [List.contains_iff_mem]
                          exact reach_more HFN.out hlt (List.mem_of_getElem? hz)
                        clear hz
                        go_wp2_with fail
                        refine (fr_in z hfr hK8.out L8.out).mono ?_
                        rintro e w9 ⟨rfl, hf9, hb9⟩
                        rw [HIN.out]
                        have K7 := Lib.hid (Got.keep hK7.out hb9)
                        have K8 := Lib.hid (Got.keep hK8.out hb9)
                        clear hb9 hcz
                        go_wp2_with fail
                        go_roundw
                        case rel => exact ⟨m + 1, by omega, by go_num, hf9, K7, K8⟩
                        case measure => simp [RowKit.intOf]; omega
                      · obtain rfl : m = (reachC p r).length := by omega
                        clear hK7 hK8
                        go_wp2_with fail
                        go_region_held3 (fun w' => Fr w6 w')
                          (first | assumption | exact Below.drew (by assumption))
                          (first
                            | ((with_reducible refine (fr_depth (r : Int) hRp.out hsm2 (by assumption)).mono ?_); rintro e w10 ⟨rfl, hf10⟩)
                            | ((with_reducible refine (fr_depth (r : Int) hR6.out hsm6.out (by assumption)).mono ?_); rintro e w11 ⟨rfl, hf11⟩))
                        all_goals
                          have hdm := depth_more (k := (kk : Int)) HFN.out hlt
                          have HDM := Lib.hid hdm
                          clear hdm
                          by_cases hd : 0 ≤ depthC (moreP p q fn kk) r
                          · obtain ⟨hd1, hd2⟩ := HDM.out hd
                            have t1 : decide (0 ≤ depthC (moreP p q fn kk) r) = true := decide_eq_true hd
                            have t2 : decide (depthC p r < 0) = false := decide_eq_false (by omega)
                            have t3 : decide (depthC (moreP p q fn kk) r < depthC p r) = false := decide_eq_false (by omega)
                            clear HDM
                            go_wp2_with fail
                            go_roundw
                            case rel => exact ⟨r + 1, by omega, by go_num, by assumption⟩
                            case measure => simp [RowKit.intOf]; omega
                          · have t1 : decide (0 ≤ depthC (moreP p q fn kk) r) = false := decide_eq_false hd
                            clear HDM hd
                            go_wp2_with fail
                            go_roundw
                            case rel => exact ⟨r + 1, by omega, by go_num, by assumption⟩
                            case measure => simp [RowKit.intOf]; omega
                · obtain rfl : r = p.funcs.length := by omega
                  have C3 := Lib.hid (reach_row (p := moreP p q fn kk) (q := q) (by rw [HM.out]; exact hq))
                  have L9 : Hid ((reachC (moreP p q fn kk) q).length ≤ 2097152) := by have := reachC_len (moreP p q fn kk) q; have h2 := HM.out; show _ ≤ _; omega
                  have HN := Lib.hid (reach_new HFN.out hkk)
                  obtain ⟨_, _, _, _, e6, _, _, hF6⟩ := tProg_R.1 hR6.out
                  have hqs : q < (moreP p q fn kk).funcs.length := by rw [HM.out]; exact hq
                  have hF6' : tFunc.slice.R w6 w6.heap.size [.slice (some ⟨g, 0, none⟩) p.funcs.length cap] (moreP p q fn kk).funcs := by
                    simp only [List.cons.injEq, Value.slice.injEq, and_true] at e6
                    obtain ⟨_, _, ea, eb, ec⟩ := e6
                    rw [ea, eb, ec]
                    exact hF6
                  obtain ⟨fm, bm, om, Am, cm, em, hbm, hfm, hfsm, m0, m1, m2, m3, hRm⟩ := func_fact hF6' hqs hsm6.out
                  cases em
                  have hfm' : fm = moreF fn kk := by
                    rw [more_at hq] at hfm
                    injection hfm with hfm
                    exact hfm.symm
                  subst hfm'
                  have s0 : ∀ w', Fr w6 w' → w'.cell? ⟨g, q * 4, none⟩ = _ := fun w' h => h.cell hbm (by simpa using m0)
                  have s1 : ∀ w', Fr w6 w' → w'.cell? ⟨g, q * 4 + 1, none⟩ = _ := fun w' h => h.cell hbm (by simpa using m1)
                  have s2 : ∀ w', Fr w6 w' → w'.cell? ⟨g, q * 4 + 2, none⟩ = _ := fun w' h => h.cell hbm (by simpa using m2)
                  have s3 : ∀ w', Fr w6 w' → w'.cell? ⟨g, q * 4 + 3, none⟩ = _ := fun w' h => h.cell hbm (by simpa using m3)
                  have HLF := Lib.hid (leaf_more fn kk)
                  have HRM := Lib.hid hRm
                  clear e6 hF6 hF6' hfm m0 m1 m2 m3 hRm
                  go_wp2_with fail
                  refine (fr_reach (q : Int) hR6.out hsm6.out hf).mono ?_
                  rintro e w12 ⟨A12, c12, rfl, hf12, hg12, _⟩
                  rw [C3.out] at hg12
                  rw [C3.out]
                  go_wp2_with fail
                  refine (fr_in (kk : Int) hf12 hg12 L9.out).mono ?_
                  rintro e w13 ⟨rfl, hf13, _⟩
                  rw [HN.out]
                  clear hg12
                  go_wp2_with fail
                  refine (fr_leaf HRM.out hfsm hf13).mono ?_
                  rintro e w14 ⟨rfl, hf14⟩
                  rw [HLF.out]
                  go_wp2_with fail
                  refine (fr_head hf14).mono ?_
                  rintro e w15 ⟨rfl, hf15⟩
                  go_wp2_with fail
                  go_ret
                  exact ⟨rfl, hb6.out.below.trans (Below.mono hf15 hb6.out.below.size)⟩
    · have dn : decide (20 < p.funcs.length) = true := decide_eq_true (by omega)
      go_wp2_with fail
      refine (H13.out _ hx).mono ?_
      rintro e w2 ⟨rfl, hx2⟩
      go_wp2_with fail
      go_ret
      exact ⟨rfl, hx2.below⟩
  · go_wp2_with fail
    refine (H13.out _ hx).mono ?_
    rintro e w2 ⟨rfl, hx2⟩
    go_wp2_with fail
    go_ret
    exact ⟨rfl, hx2.below⟩
end Mu
