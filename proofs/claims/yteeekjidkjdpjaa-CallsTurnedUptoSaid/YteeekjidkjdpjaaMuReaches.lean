/-
  muntinref20.reaches, walked.
  Conditions: the program's bulk is at most 2^21; a function that there is.
-/
import Derived.Test.YteeekjidkjdpjaaMuRefCalls
import Derived.Test.YteeekjidkjdpjaaMuReach
namespace Mu
open Go Go.RowKit Go.Proofs

/-- a row of bools of the call's own -/
def OwnL (w : World) (base g cap n : Nat) (S : Nat → Bool) : Prop := w.ownsRow base 4 1 (.slice (some ⟨g, 0, none⟩) n cap) n ((List.range n).map fun k => Value.bool (S k))

theorem bool_info : (Try.prog.info? 4).map (fun i => (i.zero, i.size, i.bytes)) = some (some (.bool false), 1, 1) := by kernel_rfl
theorem OwnL.cell {w : World} {base g cap n k : Nat} {S : Nat → Bool} (h : OwnL w base g cap n S) (hk : k < n) : w.cell? ⟨g, k, none⟩ = some (.bool (S k)) := by
  rw [World.ownsRow.cellAt h k (by omega)]
  simp [hk]
theorem OwnL.set_ {w : World} {base g cap n k : Nat} {S : Nat → Bool} (h : OwnL w base g cap n S) : OwnL (w.setCell ⟨g, k, none⟩ (.bool true)) base g cap n (put S k) := by
  have := (World.ownsRow.stored h k (.bool true)).1
  unfold OwnL
  have e : ((List.range n).map fun j => Value.bool (S j)).set k (.bool true) = (List.range n).map fun j => Value.bool (Mu.put S k j) := by
    apply List.ext_getElem?
    intro j
    rw [List.getElem?_set]
    by_cases hj : j < n
    · by_cases he : k = j
      · subst he
        simp [hj, Mu.put]
      · simp [hj, he, Mu.put, Ne.symm he]
    · simp [hj]
      omega
  rw [← e]
  exact this
theorem OwnL.congr {w : World} {base g cap n : Nat} {S T : Nat → Bool} (h : OwnL w base g cap n S) (he : ∀ k, k < n → S k = T k) : OwnL w base g cap n T := by
  unfold OwnL at h ⊢
  have : ((List.range n).map fun k => Value.bool (S k)) = (List.range n).map fun k => Value.bool (T k) := List.map_congr_left (fun k hk => by rw [he k (by simpa using hk)])
  rwa [← this]
theorem OwnL.kept {w w' : World} {base g cap n : Nat} {S : Nat → Bool} (h : OwnL w base g cap n S) (hb : Below w.heap.size w w') : OwnL w' base g cap n S := ownsRow_keep h (fun g hg => hb.block g (h.lt g hg).2)
theorem OwnL.drewN {w : World} {base g cap n : Nat} {S : Nat → Bool} (h : OwnL w base g cap n S) (q : Nat) : OwnL (w.drewN q) base g cap n S := ownsRow_keep h (fun _ _ => rfl)
theorem OwnL.base {w : World} {base base' g cap n : Nat} {S : Nat → Bool} (h : OwnL w base g cap n S) (hb : base' ≤ base) : OwnL w base' g cap n S := by
  obtain ⟨h1, h2⟩ := h
  refine ⟨h1, ?_⟩
  rcases h2 with h2 | ⟨g, cap, cur, hv, hg, r⟩
  · exact .inl h2
  · exact .inr ⟨g, cap, cur, hv, by omega, r⟩
theorem OwnL.base_le {w : World} {base g cap n : Nat} {S : Nat → Bool} (h : OwnL w base g cap n S) : base ≤ g ∧ g < w.heap.size := World.ownsRow.lt h g rfl

theorem own_ne_bools {w : World} {base base' g0 cap n : Nat} {v : Value} {l : List Int} {S : Nat → Bool} (h : OwnI w base v l) (h' : OwnL w base' g0 cap n S) : ∀ g, (Value.slice (some ⟨g0, 0, none⟩) n cap).ownBlock = some g → v.ownBlock ≠ some g := by
  intro g hg hv
  rcases h.2 with ⟨rfl, _⟩ | ⟨g1, cap1, cur, rfl, _, hh, _⟩
  · cases hv
  · rcases h'.2 with ⟨h0, _⟩ | ⟨g2, cap', cur', e, _, hh', _⟩
    · cases h0
    · cases e
      cases hv
      cases hg
      rw [hh] at hh'
      injection hh' with hh'
      injection hh' with _ ht
      cases ht

/-- part of a visit -/
def part (succ : Nat → List Nat) (S : Nat → Bool) (k i : Nat) : Nat → Bool := fun j => if j ∈ (succ k).take i then true else S j
theorem part_zero (succ : Nat → List Nat) (S : Nat → Bool) (k : Nat) : part succ S k 0 = S := by funext j; simp [part]
theorem part_step {succ : Nat → List Nat} {S : Nat → Bool} {k i x : Nat} (h : (succ k)[i]? = some x) : part succ S k (i + 1) = put (part succ S k i) x := by
  funext j
  simp only [part, put]
  rw [List.take_add_one, h, Option.toList_some]
  by_cases e : j = x
  · simp [e]
  · simp [e]
theorem part_full {succ : Nat → List Nat} {S : Nat → Bool} {f k : Nat} (h : k = f ∨ S k = true) : part succ S k (succ k).length = visit succ f S k := by
  funext j
  unfold visit part
  rw [if_pos h, List.take_length]
theorem visit_none {succ : Nat → List Nat} {S : Nat → Bool} {f k : Nat} (h : ¬ k = f) (h' : S k = false) : visit succ f S k = S := by
  unfold visit
  rw [if_neg (by simp [h, h'])]

set_option maxRecDepth 100000 in
set_option maxHeartbeats 2000000 in
theorem reaches_any (p : Prog) (f : Nat) (w : World) (cs : List Value) (hf : f < p.funcs.length) (hR : tProg.R w w.heap.size cs p) (hsm : tProg.bulk p ≤ 2097152) :
    Calls Try.prog 45 #[.agg cs.toArray, .int .i64 f] w fun e w' => ∃ g cap, e = .returned (.slice (some ⟨g, 0, none⟩) p.funcs.length cap) ∧ OwnL w' w.heap.size g cap p.funcs.length (reachB p f) ∧ Below w.heap.size w w' := by
  obtain ⟨A, c, A', c', rfl, _, _, hF⟩ := tProg_R.1 hR
  have hpl := prog_funcs_le p
  obtain ⟨i0, hi, hz0, hz1, hz2⟩ := info_parts bool_info
  have HR := Lib.hid hR
  clear hR hF
  go_enter Try.func45, Try.ntmps45
  go_wp2_with (at_make; refine wpList_make_full _ rfl _ _ 69 rfl (w.heap.size + 1) 4 i0 (.bool false) 1 Try.underlying69 hi hz0 hz1 .i64 .i64 (p.funcs.length : Int) (p.funcs.length : Int) p.funcs.length rfl rfl rfl rfl (by rw [hz2]; omega) (by unfold maxLen; omega) (by simp) ?_; intro w1 ho hg)
  have hL0 : Hid (OwnL w1 (w.heap.size + 1) (w.heap.size + 1) p.funcs.length p.funcs.length (fun _ => false)) := by
    have e := made_all 1 p.funcs.length (by decide) (Value.bool false)
    rw [Nat.mul_one] at e
    have ho' := ho
    rw [Nat.mul_one] at ho'
    unfold OwnL
    show Hid _
    have e2 : (madeCells (Value.bool false).cells p.funcs.length).toList = (List.range p.funcs.length).map fun _ => Value.bool false := e
    rw [e2] at ho'
    simpa [Hid] using ho'
  have hB0 : Hid (Below (w.heap.size + 1) (w.alloc (.cells [.int .i64 p.heap, .slice A' p.threads.length c', .slice A p.funcs.length c].toArray 25)) w1) := (Below.refl _ _).grown hg (by simp) (fun _ h => by cases h)
  clear ho hg
  go_wp2_with fail
  clear hz1 hz2
  go_loopw [6] (fun i wr => ∃ r : Nat, r ≤ p.funcs.length ∧ i = .int .i64 r ∧ Hid (OwnL wr (w.heap.size + 1) (w.heap.size + 1) p.funcs.length p.funcs.length (rounds_ (succ p) p.funcs.length f r)) ∧ Below (w.heap.size + 1) (w.alloc (.cells [.int .i64 p.heap, .slice A' p.threads.length c', .slice A p.funcs.length c].toArray 25)) wr) (fun i _ => p.funcs.length - (RowKit.intOf i).toNat)
  case atStart => exact ⟨0, Nat.zero_le _, rfl, hL0, hB0.out⟩
  case round =>
    obtain ⟨r, hr, rfl, hL1, hbe⟩ := hrel
    obtain ⟨hfar, hbox, hlw, _⟩ := boxed hbe
    have hb2 := hbox 2 _ rfl
    have HBE := Lib.hid hbe
    clear hbe hbox hL0 hB0 hfar
    by_cases hlt : r < p.funcs.length
    · go_wp2_with fail
      obtain ⟨wo, rfl⟩ : ∃ wo : World, wo = wr := ⟨_, rfl⟩
      clear hb2 hlw
      go_loopw [7] (fun i wr => ∃ k : Nat, k ≤ p.funcs.length ∧ i = .int .i64 k ∧ Hid (OwnL wr (w.heap.size + 1) (w.heap.size + 1) p.funcs.length p.funcs.length (visits (succ p) f (rounds_ (succ p) p.funcs.length f r) k)) ∧ Below (w.heap.size + 1) (w.alloc (.cells [.int .i64 p.heap, .slice A' p.threads.length c', .slice A p.funcs.length c].toArray 25)) wr) (fun i _ => p.funcs.length - (RowKit.intOf i).toNat)
      case atStart => exact ⟨0, Nat.zero_le _, rfl, hL1, HBE.out⟩
      case round =>
        obtain ⟨k, hk, rfl, hL2, hbe⟩ := hrel
        obtain ⟨hfar, hbox, hlw, hbw⟩ := boxed hbe
        have hb0 := hbox 0 _ rfl
        have hb1 := hbox 1 _ rfl
        have hb2 := hbox 2 _ rfl
        have HBE2 := Lib.hid hbe
        have HBW := Lib.hid hbw
        clear hbe hbox hfar hbw hL1 HBE
        by_cases hlt2 : k < p.funcs.length
        · obtain ⟨S, hS⟩ : ∃ S, S = visits (succ p) f (rounds_ (succ p) p.funcs.length f r) k := ⟨_, rfl⟩
          rw [← hS] at hL2
          have HS := Lib.hid hS
          clear hS
          have hcell := hL2.out.cell hlt2
          by_cases hgo : k = f ∨ S k = true
          · have HGO := Lib.hid hgo
            have hnm : Hid (visits (succ p) f (rounds_ (succ p) p.funcs.length f r) (k + 1) = part (succ p) S k (succ p k).length) := by
              rw [part_full HGO.out, HS.out]
              exact rfl
            have HRr := Lib.hid (Ty.below HR.out HBW.out HBW.out.size)
            have hsl := succ_length p k
            have hcc : callsC p k = ofN (succ p k) := by
              rw [callsC, if_pos ⟨by omega, by omega⟩]
              simp
            have HCC := Lib.hid hcc
            clear hcc
            have hdec : (((k : Int) != (f : Int)) = false) ∨ (((k : Int) != (f : Int)) = true ∧ S k = true) := by
              rcases hgo with h | h
              · left; simp [h]
              · by_cases e : k = f
                · left; simp [e]
                · right; exact ⟨by simp; omega, h⟩
            clear hgo
            rcases hdec with hd | ⟨hd, hSk⟩
            · go_wp2_with fail
              refine (ref_calls_any p (k : Int) _ _ HRr.out hsm).mono ?_
              rintro e w2 ⟨v2, rfl, ho2, hbc⟩
              rw [HCC.out] at ho2
              have hL3 := Lib.hid (hL2.out.kept hbc)
              have hbe3 := Lib.hid (HBE2.out.trans (hbc.mono (by omega)))
              obtain ⟨A2, c2, rfl⟩ := own_form ho2
              have HO2 := Lib.hid ho2
              have hg2 := (fun g hg => (ho2.lt g hg).1 : ∀ g, (Value.slice A2 (ofN (succ p k)).length c2).ownBlock = some g → wr.heap.size ≤ g)
              have HG2 := Lib.hid hg2
              have hbsz := hbc.size
              have holn := ofN_length (succ p k)
              have HOLN := Lib.hid holn
              have hlow := hL2.out.base_le
              have HLOW := Lib.hid hlow
              clear ho2 hbc hg2 hL2 holn hlow hcell hb0 hb1 hb2 HBE2 HBW HRr
              go_wp2_with fail
              obtain ⟨wq, rfl⟩ : ∃ wq : World, wq = wr := ⟨_, rfl⟩
              obtain ⟨w2', rfl⟩ : ∃ w2' : World, w2' = w2 := ⟨_, rfl⟩
              go_loopw [9] (fun i wr => ∃ j : Nat, j ≤ (succ p k).length ∧ i = .int .i64 j ∧ Hid (OwnL wr (w.heap.size + 1) (w.heap.size + 1) p.funcs.length p.funcs.length (part (succ p) S k j)) ∧ Hid (OwnI wr wq.heap.size (.slice A2 (ofN (succ p k)).length c2) (ofN (succ p k))) ∧ Below (w.heap.size + 1) (w.alloc (.cells [.int .i64 p.heap, .slice A' p.threads.length c', .slice A p.funcs.length c].toArray 25)) wr) (fun i _ => (succ p k).length - (RowKit.intOf i).toNat)
              case atStart => exact ⟨0, Nat.zero_le _, rfl, by rw [part_zero]; exact hL3, HO2, hbe3.out⟩
              case round =>
                obtain ⟨j, hj, rfl, hL4, hO4, hbe⟩ := hrel
                have HBE4 := Lib.hid hbe
                clear hbe hL3 HO2 hbe3
                by_cases hlt3 : j < (succ p k).length
                · obtain ⟨x, hx⟩ : ∃ x, (succ p k)[j]? = some x := ⟨_, List.getElem?_eq_getElem hlt3⟩
                  have hxn : x < p.funcs.length := succ_lt p k x (List.mem_of_getElem? hx)
                  obtain ⟨gx, cx, ex, hgx, _⟩ := own_form' hO4.out (by rw [HOLN.out]; omega)
                  cases ex
                  have hcx := own_cell hO4.out (ofN_get hx)
                  have hlen : j < (ofN (succ p k)).length := by rw [HOLN.out]; exact hlt3
                  have hcl := hL4.out.cell hxn
                  have hfz : wr.frozen? ⟨w.heap.size + 1, x, none⟩ = false := World.ownsRow.frozenAt hL4.out x
                  have hnew : Hid (OwnL (wr.setCell ⟨w.heap.size + 1, x, none⟩ (.bool true)) (w.heap.size + 1) (w.heap.size + 1) p.funcs.length p.funcs.length (part (succ p) S k (j + 1))) := by
                    rw [part_step hx]
                    exact hL4.out.set_
                  have hnewO : Hid (OwnI (wr.setCell ⟨w.heap.size + 1, x, none⟩ (.bool true)) wq.heap.size (.slice (some ⟨gx, 0, none⟩) (ofN (succ p k)).length c2) (ofN (succ p k))) :=
                    ownsRow_keep hO4.out (fun g hg => Below.heap_setCell _ _ _ _ (by have := HG2.out g hg; have := HLOW.out; show g ≠ w.heap.size + 1; omega))
                  clear hx
                  go_wp2_with fail
                  go_roundw
                  case rel => exact ⟨j + 1, by omega, by go_num, hnew, hnewO, HBE4.out.setCell (Nat.le_refl _) _⟩
                  case measure => simp [RowKit.intOf]; omega
                · obtain rfl : j = (succ p k).length := by omega
                  have hge : (ofN (succ p k)).length ≤ (succ p k).length := by rw [HOLN.out]; omega
                  go_wp2_with fail
                  go_roundw
                  case rel => exact ⟨k + 1, by omega, by go_num, by rw [hnm.out]; exact hL4, HBE4.out⟩
                  case measure => simp [RowKit.intOf]; omega
            · rw [hSk] at hcell
              clear hSk
              go_wp2_with fail
              refine (ref_calls_any p (k : Int) _ _ HRr.out hsm).mono ?_
              rintro e w2 ⟨v2, rfl, ho2, hbc⟩
              rw [HCC.out] at ho2
              have hL3 := Lib.hid (hL2.out.kept hbc)
              have hbe3 := Lib.hid (HBE2.out.trans (hbc.mono (by omega)))
              obtain ⟨A2, c2, rfl⟩ := own_form ho2
              have HO2 := Lib.hid ho2
              have hg2 := (fun g hg => (ho2.lt g hg).1 : ∀ g, (Value.slice A2 (ofN (succ p k)).length c2).ownBlock = some g → wr.heap.size ≤ g)
              have HG2 := Lib.hid hg2
              have hbsz := hbc.size
              have holn := ofN_length (succ p k)
              have HOLN := Lib.hid holn
              have hlow := hL2.out.base_le
              have HLOW := Lib.hid hlow
              clear ho2 hbc hg2 hL2 holn hlow hcell hb0 hb1 hb2 HBE2 HBW HRr
              go_wp2_with fail
              obtain ⟨wq, rfl⟩ : ∃ wq : World, wq = wr := ⟨_, rfl⟩
              obtain ⟨w2', rfl⟩ : ∃ w2' : World, w2' = w2 := ⟨_, rfl⟩
              go_loopw [9] (fun i wr => ∃ j : Nat, j ≤ (succ p k).length ∧ i = .int .i64 j ∧ Hid (OwnL wr (w.heap.size + 1) (w.heap.size + 1) p.funcs.length p.funcs.length (part (succ p) S k j)) ∧ Hid (OwnI wr wq.heap.size (.slice A2 (ofN (succ p k)).length c2) (ofN (succ p k))) ∧ Below (w.heap.size + 1) (w.alloc (.cells [.int .i64 p.heap, .slice A' p.threads.length c', .slice A p.funcs.length c].toArray 25)) wr) (fun i _ => (succ p k).length - (RowKit.intOf i).toNat)
              case atStart => exact ⟨0, Nat.zero_le _, rfl, by rw [part_zero]; exact hL3, HO2, hbe3.out⟩
              case round =>
                obtain ⟨j, hj, rfl, hL4, hO4, hbe⟩ := hrel
                have HBE4 := Lib.hid hbe
                clear hbe hL3 HO2 hbe3
                by_cases hlt3 : j < (succ p k).length
                · obtain ⟨x, hx⟩ : ∃ x, (succ p k)[j]? = some x := ⟨_, List.getElem?_eq_getElem hlt3⟩
                  have hxn : x < p.funcs.length := succ_lt p k x (List.mem_of_getElem? hx)
                  obtain ⟨gx, cx, ex, hgx, _⟩ := own_form' hO4.out (by rw [HOLN.out]; omega)
                  cases ex
                  have hcx := own_cell hO4.out (ofN_get hx)
                  have hlen : j < (ofN (succ p k)).length := by rw [HOLN.out]; exact hlt3
                  have hcl := hL4.out.cell hxn
                  have hfz : wr.frozen? ⟨w.heap.size + 1, x, none⟩ = false := World.ownsRow.frozenAt hL4.out x
                  have hnew : Hid (OwnL (wr.setCell ⟨w.heap.size + 1, x, none⟩ (.bool true)) (w.heap.size + 1) (w.heap.size + 1) p.funcs.length p.funcs.length (part (succ p) S k (j + 1))) := by
                    rw [part_step hx]
                    exact hL4.out.set_
                  have hnewO : Hid (OwnI (wr.setCell ⟨w.heap.size + 1, x, none⟩ (.bool true)) wq.heap.size (.slice (some ⟨gx, 0, none⟩) (ofN (succ p k)).length c2) (ofN (succ p k))) :=
                    ownsRow_keep hO4.out (fun g hg => Below.heap_setCell _ _ _ _ (by have := HG2.out g hg; have := HLOW.out; show g ≠ w.heap.size + 1; omega))
                  clear hx
                  go_wp2_with fail
                  go_roundw
                  case rel => exact ⟨j + 1, by omega, by go_num, hnew, hnewO, HBE4.out.setCell (Nat.le_refl _) _⟩
                  case measure => simp [RowKit.intOf]; omega
                · obtain rfl : j = (succ p k).length := by omega
                  have hge : (ofN (succ p k)).length ≤ (succ p k).length := by rw [HOLN.out]; omega
                  go_wp2_with fail
                  go_roundw
                  case rel => exact ⟨k + 1, by omega, by go_num, by rw [hnm.out]; exact hL4, HBE4.out⟩
                  case measure => simp [RowKit.intOf]; omega
          · have h1 : ¬ k = f := fun e => hgo (.inl e)
            have h2 : S k = false := by
              rcases hb : S k with _ | _
              · rfl
              · exact absurd (Or.inr hb) hgo
            have hd : ((k : Int) != (f : Int)) = true := by simp; omega
            have hnm : Hid (visits (succ p) f (rounds_ (succ p) p.funcs.length f r) (k + 1) = S) := by
              show visit _ _ _ _ = _
              rw [← HS.out, visit_none h1 h2]
            rw [h2] at hcell
            clear hgo h1 h2
            go_wp2_with fail
            go_roundw
            case rel => exact ⟨k + 1, by omega, by go_num, by rw [hnm.out]; exact hL2, HBE2.out⟩
            case measure => simp [RowKit.intOf]; omega
        · obtain rfl : k = p.funcs.length := by omega
          go_wp2_with fail
          go_roundw
          case rel => exact ⟨r + 1, by omega, by go_num, hL2, HBE2.out⟩
          case measure => simp [RowKit.intOf]; omega
    · obtain rfl : r = p.funcs.length := by omega
      go_wp2_with fail
      go_ret
      exact ⟨_, _, rfl, (show OwnL _ _ _ _ _ _ from hL1.out).base (by omega), (boxed HBE.out).2.2.2⟩
end Mu
