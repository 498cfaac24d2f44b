/-
  muntinlaw20.head, walked: it is true.
  Conditions: none.
-/
import Derived.Test.YteeekjidkjdpjaaMuHead1
import Derived.Test.YteeekjidkjdpjaaMuSame
import Derived.Test.YteeekjidkjdpjaaMuReachTop
import Derived.StillTailTactics
import Derived.Deep.RegionHeld3
namespace Mu
open Go Go.RowKit Go.Proofs

theorem exD_at : ∀ q, q < 4 → ([.int .i64 2, .int .i64 1, .int .i64 0, .int .i64 (-1)] : List Value)[q]? = some (.int .i64 (exD q)) := by
  intro q hq
  match q, hq with
  | 0, _ => rfl
  | 1, _ => rfl
  | 2, _ => rfl
  | 3, _ => rfl

theorem lit_slice {w : World} {g : Nat} {t : TypeId} {l : List Int} (h : w.heap[g]? = some (.cells (l.map (Value.int .i64)).toArray t (0, 0))) (hm : l.length ≤ maxLen) (hw : ∀ x ∈ l, wfI .i64 x) :
    tInt.slice.R w w.heap.size [.slice (some ⟨g, 0, none⟩) l.length l.length] l := by
  refine block_slice (T := tInt) h rfl (by simp [tInt_size]) hm (fun i d hd => ?_) (Array.getElem?_eq_some_iff.1 h).1
  have hi : i < l.length := (List.getElem?_eq_some_iff.1 hd).1
  have : l[i] = d := by
    rw [List.getElem?_eq_getElem hi] at hd
    injection hd
  refine ⟨?_, hw d (List.mem_of_getElem? hd)⟩
  show ((l.map (Value.int .i64)).drop (i * 1)).take 1 = _
  rw [Nat.mul_one, List.drop_eq_getElem_cons (by simpa using hi)]
  simp [this]

theorem wfs {l : List Int} (h : (l.all fun x => (Lit.int .i64 x).wf) = true) : ∀ x ∈ l, wfI .i64 x := fun x hx => List.all_eq_true.1 h x hx
theorem same_lit {w1 : World} {v1 : Value} {xs : List Int} {t : TypeId} (l : List Int) (H : tInt.slice.R w1 w1.heap.size [v1] xs) (hw : ∀ x ∈ l, wfI .i64 x) (hm : l.length ≤ maxLen) (hx : xs.length ≤ 2097152) :
    Calls Try.prog 16 #[v1, .slice (some ⟨w1.heap.size, 0, none⟩) l.length l.length] (w1.alloc (.cells (l.map (Value.int .i64)).toArray t)) fun e w' => e = .returned (.bool (decide (xs = l))) ∧ Below w1.heap.size w1 w' := by
  have hb : Below w1.heap.size w1 (w1.alloc (.cells (l.map (Value.int .i64)).toArray t)) := (Below.refl _ _).alloc (Nat.le_refl _) _
  exact (ref_same xs l _ _ _ (Ty.below H hb hb.size) (lit_slice (heap_alloc_new _ _) hm hw) hx).mono fun e w' h => ⟨h.1, hb.trans (h.2.mono hb.size)⟩

set_option maxRecDepth 100000 in
set_option maxHeartbeats 2000000 in
theorem head_any (w : World) :
    Calls Try.prog 13 #[] w fun e w' => e = .returned (.bool true) ∧ Below w.heap.size w w' := by
  go_enter Try.func13, Try.ntmps13
  go_wp2_with fail
  refine (example_any _).mono ?_
  rintro e w0 ⟨cs, rfl, hR, hb0⟩
  obtain ⟨A', c', b, o, c, rfl, hbl, hfs⟩ := ex_form hR
  have HR := Lib.hid hR
  have HB0 := Lib.hid hb0
  have HF := Lib.hid hfs
  clear hR hb0 hfs
  obtain ⟨cs, hcs⟩ : ∃ cs : List Value, cs = [.int .i64 0, .slice A' 0 c', .slice (some ⟨b, o, none⟩) 4 c] := ⟨_, rfl⟩
  have q0 : ∀ w', Bx w0 cs 25 w' → w'.cell? ⟨w0.heap.size, 0, none⟩ = some (.int .i64 0) := fun w' h => h.cell (by rw [hcs]; rfl)
  have q1 : ∀ w', Bx w0 cs 25 w' → w'.cell? ⟨w0.heap.size, 1, none⟩ = some (.slice A' 0 c') := fun w' h => h.cell (by rw [hcs]; rfl)
  have q2 : ∀ w', Bx w0 cs 25 w' → w'.cell? ⟨w0.heap.size, 2, none⟩ = some (.slice (some ⟨b, o, none⟩) 4 c) := fun w' h => h.cell (by rw [hcs]; rfl)
  have hstart : Hid (Bx w0 cs 25 (w0.alloc (.cells [.int .i64 0, .slice A' 0 c', .slice (some ⟨b, o, none⟩) 4 c].toArray 25))) := by rw [← hcs]; exact Bx.refl
  have HCS := Lib.hid hcs
  clear hcs
  go_wp2_with fail
  go_loopw [2] (fun i wr => ∃ q : Nat, q ≤ 4 ∧ i = .int .i64 q ∧ Bx w0 cs 25 wr) (fun i _ => 4 - (RowKit.intOf i).toNat)
  case atStart => exact ⟨0, Nat.zero_le _, rfl, hstart.out⟩
  case round =>
    obtain ⟨q, hq, rfl, hx⟩ := hrel
    clear hstart
    by_cases hlt : q < 4
    · obtain ⟨fn, Aq, cq, h1, h2, k0, k1, k2, k3, hfn⟩ := HF.out q hlt
      have r0 : ∀ w', Bx w0 cs 25 w' → w'.cell? ⟨b, o + q * 4, none⟩ = some (.string fn.name) := fun w' h => (h.far hbl).trans k0
      have r1 : ∀ w', Bx w0 cs 25 w' → w'.cell? ⟨b, o + q * 4 + 1, none⟩ = some (.int .i64 fn.args) := fun w' h => (h.far hbl).trans k1
      have r2 : ∀ w', Bx w0 cs 25 w' → w'.cell? ⟨b, o + q * 4 + 2, none⟩ = some (.int .i64 fn.regs) := fun w' h => (h.far hbl).trans k2
      have r3 : ∀ w', Bx w0 cs 25 w' → w'.cell? ⟨b, o + q * 4 + 3, none⟩ = some (.slice Aq fn.blocks.length cq) := fun w' h => (h.far hbl).trans k3
      have i0 : (0 : Int) ≤ (q : Int) := by omega
      have i1 : (q : Int) < 4 := by omega
      have HFN := Lib.hid hfn
      have HLF := Lib.hid h2
      have HD := Lib.hid (ex_depth q hlt)
      have hget : ∀ h, ([.int .i64 2, .int .i64 1, .int .i64 0, .int .i64 (-1)] : List Value)[q]'h = .int .i64 (exD q) := fun h => Option.some.inj ((List.getElem?_eq_getElem h).symm.trans (exD_at q hlt))
      have hgetD : ∀ d, ([.int .i64 2, .int .i64 1, .int .i64 0, .int .i64 (-1)] : List Value).getD q d = .int .i64 (exD q) := fun d => by rw [List.getD_eq_getElem?_getD, exD_at q hlt]; rfl
      clear hfn h2 k0 k1 k2 k3
      go_wp2_with fail
      have HL : Hid (∀ w', Bx w0 cs 25 w' → Calls Try.prog 14 #[.agg [.string fn.name, .int .i64 fn.args, .int .i64 fn.regs, .slice Aq fn.blocks.length cq].toArray] w' fun e w'' => e = .returned (.bool false) ∧ Bx w0 cs 25 w'') :=
        fun w' h => (leaf_any fn w' [.string fn.name, .int .i64 fn.args, .int .i64 fn.regs, .slice Aq fn.blocks.length cq] (h.R HFN.out) h1).mono fun e w1 hp => ⟨by rw [hp.1, HLF.out], h.call hp.2⟩
      have HDC : Hid (∀ w', Bx w0 cs 25 w' → Calls Try.prog 21 #[.agg [.int .i64 0, .slice A' 0 c', .slice (some ⟨b, o, none⟩) 4 c].toArray, .int .i64 q] w' fun e w'' => e = .returned (.int .i64 (exD q)) ∧ Bx w0 cs 25 w'' ∧ w'.heap.size ≤ w''.heap.size ∧ ∀ a : Addr, a.block < w'.heap.size → w''.cell? a = w'.cell? a) :=
        fun w' h => (Depth_any exProg q w' _ (h.R HR.out) ex_bulk).mono fun e w1 hp => ⟨by rw [hp.1, HD.out], h.call hp.2, hp.2.size, far hp.2⟩
      have hxd := hx.drew
      have hal : ∀ W o, Bx w0 cs 25 W → Bx w0 cs 25 (W.alloc o) := fun _ o h => h.alloc o
      go_region_law (first
        | (go_simp; go_at_call 14; refine (HL.out _ (by first | assumption | exact hal _ _ (by assumption))).mono ?_; rintro e w1 ⟨rfl, hx1⟩)
        | (go_simp; go_at_call 21; refine (HDC.out _ (by first | assumption | exact hal _ _ (by assumption))).mono ?_; rintro e w2 ⟨rfl, hx2, hs2, hf2⟩))
      all_goals
        clear HL HDC HD HLF HFN r0 r1 r2 r3 hget hgetD
        go_wp2_with fail
        go_roundw
        case rel => exact ⟨q + 1, by omega, by go_num, by first | assumption | exact hal _ _ (by assumption)⟩
        case measure => simp [RowKit.intOf]; omega
    · obtain rfl : q = 4 := by omega
      clear HF
      go_wp2_with fail
      refine (calls_any exProg 0 _ _ (hx.R HR.out) ex_bulk).mono ?_
      rintro e w1 ⟨v1, rfl, ho1, hb1⟩
      rw [ex_callsC0] at ho1
      have H1 := Lib.hid (OwnI.read ho1 (wfs (by decide)))
      have hx1 := hx.call hb1
      clear ho1 hb1 hx
      go_wp2_with fail
      refine (same_lit [1, 2] H1.out (wfs (by decide)) (by decide) (by decide)).mono ?_
      rintro e w2 ⟨rfl, hb2⟩
      have hx2 := hx1.call hb2
      clear hx1 hb2 H1
      go_wp2_with fail
      refine (Reach_any exProg 0 _ _ (hx2.R HR.out) ex_bulk).mono ?_
      rintro e w3 ⟨v3, rfl, ho3, hb3⟩
      rw [ex_reach0] at ho3
      have H3 := Lib.hid (OwnI.read ho3 (wfs (by decide)))
      have hx3 := hx2.call hb3
      clear ho3 hb3 hx2
      go_wp2_with fail
      refine (same_lit [1, 2] H3.out (wfs (by decide)) (by decide) (by decide)).mono ?_
      rintro e w4 ⟨rfl, hb4⟩
      have hx4 := hx3.call hb4
      clear hx3 hb4 H3
      go_wp2_with fail
      refine (Reach_any exProg 3 _ _ (hx4.R HR.out) ex_bulk).mono ?_
      rintro e w5 ⟨v5, rfl, ho5, hb5⟩
      rw [ex_reach3] at ho5
      have H5 := Lib.hid (OwnI.read ho5 (wfs (by decide)))
      have hx5 := hx4.call hb5
      clear ho5 hb5 hx4
      go_wp2_with fail
      refine (same_lit [0, 1, 2, 3] H5.out (wfs (by decide)) (by decide) (by decide)).mono ?_
      rintro e w6 ⟨rfl, hb6⟩
      have hx6 := hx5.call hb6
      clear hx5 hb6 H5
      go_wp2_with fail
      refine (calls_any exProg 9 _ _ (hx6.R HR.out) ex_bulk).mono ?_
      rintro e w7 ⟨v7, rfl, ho7, hb7⟩
      rw [ex_callsC9] at ho7
      obtain ⟨A7, c7, rfl⟩ := own_form ho7
      have hx7 := hx6.call hb7
      clear ho7 hb7 hx6
      go_wp2_with fail
      refine (leaf_any ⟨⟨#[]⟩, 0, 0, []⟩ _ [.string ⟨#[]⟩, .int .i64 0, .int .i64 0, .slice none 0 0] (tFunc_R.2 ⟨none, 0, rfl, sz0, wf0, wf0, Ty.slice_nil _ _ _⟩) (by decide)).mono ?_
      rintro e w8 ⟨rfl, hb8⟩
      have hx8 := hx7.call hb8
      clear hb8 hx7
      go_wp2_with fail
      go_ret
      exact ⟨rfl, HB0.out.trans (hx8.below.mono HB0.out.size)⟩
end Mu
