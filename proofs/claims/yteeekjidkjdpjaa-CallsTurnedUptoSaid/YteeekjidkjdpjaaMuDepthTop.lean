/-
  calls.Depth, walked.
  Conditions: the program's bulk is at most 2^21.
-/
import Derived.Test.YteeekjidkjdpjaaMuDepth
namespace Mu
open Go Go.RowKit Go.Proofs Go.Maps

theorem GOut.gd {base gb mb c : Nat} {A : Option Addr} {w : World} {p : Prog} (h : GOut base gb mb A c w p) : GD gb mb A c w p :=
  ⟨h.read.st, h.mapc, Nat.ne_of_gt h.lt, h.read.lt, Ty.keepS _ h.tabS (fun _ _ => rfl) (fun _ hk => ⟨Nat.ne_of_gt hk.1, hk.2.2⟩)⟩
theorem GOut.known {base gb mb c : Nat} {A : Option Addr} {w : World} {p : Prog} (h : GOut base gb mb A c w p) : Known p w mb (fun _ => none) (.map []) :=
  ⟨⟨0, Nat.zero_le _, MI.empty h.mapo⟩, fun _ _ h => by cases h⟩
theorem GOut.keep {base gb mb c : Nat} {A : Option Addr} {w w' : World} {p : Prog} (h : GOut base gb mb A c w p) (hb : Below w.heap.size w w') : GOut base gb mb A c w' p :=
  ⟨h.read.keep hb, Ty.keepS _ h.tabS (fun k hk => hb.block k hk.2.2) (fun _ hk => ⟨hk.1, hk.2.1, Nat.lt_of_lt_of_le hk.2.2 hb.size⟩), (hb.cell (p := ⟨gb, 1, none⟩) h.read.lt).trans h.mapc, (hb.block mb (Nat.lt_trans h.lt h.read.lt)).trans h.mapo, h.lo, h.lt⟩

/-- turns: a circle is reached -/
theorem turnsB_iff {p : Prog} {f : Nat} (hf : f < p.funcs.length) : turnsB p f = false ↔ Acyc (succ p) f := by
  have hr : ∀ k, k < p.funcs.length → ∀ j, reachB p k j = true ↔ Rch (succ p) k j := fun k hk j => rounds_end (succ_lt p) hk j
  unfold turnsB
  rw [List.any_eq_false]
  constructor
  · intro h k hk hkk
    have hkn : k < p.funcs.length := hkk.lt (succ_lt p)
    have := h k (by simpa using hkn)
    unfold turnsAt at this
    apply this
    rw [Bool.and_eq_true, Bool.or_eq_true]
    refine ⟨?_, (hr k hkn k).2 hkk⟩
    rcases hk with rfl | hk
    · right; simp
    · left; exact (hr f hf k).2 hk
  · intro h k hk
    have hkn : k < p.funcs.length := by simpa using hk
    unfold turnsAt
    intro hc
    rw [Bool.and_eq_true, Bool.or_eq_true] at hc
    refine h k ?_ ((hr k hkn k).1 hc.2)
    rcases hc.1 with h1 | h1
    · right; exact (hr f hf k).1 h1
    · left; simpa using h1

def selfAt (p : Prog) (k : Int) : Bool := (reachC p k.toNat).contains k

theorem mem_reachC {p : Prog} {f k : Nat} (hf : f < p.funcs.length) : (k : Int) ∈ reachC p f ↔ Rch (succ p) f k := by
  unfold reachC ofN
  rw [List.mem_map]
  constructor
  · rintro ⟨j, hj, e⟩
    have : j = k := Int.ofNat.inj e
    subst this
    exact (rounds_end (succ_lt p) hf j).1 (List.mem_filter.1 hj).2
  · intro h
    exact ⟨k, List.mem_filter.2 ⟨by simpa using h.lt (succ_lt p), (rounds_end (succ_lt p) hf k).2 h⟩, rfl⟩
theorem selfAt_iff {p : Prog} {k : Nat} (hk : k < p.funcs.length) : selfAt p k = true ↔ Rch (succ p) k k := by
  unfold selfAt
  rw [List.contains_iff_mem]
  exact mem_reachC hk
theorem reachC_lt {p : Prog} {f : Nat} {z : Int} (h : z ∈ reachC p f) : ∃ k : Nat, z = k ∧ k < p.funcs.length := by
  unfold reachC ofN at h
  obtain ⟨k, hk, rfl⟩ := List.mem_map.1 h
  exact ⟨k, rfl, by simpa using (List.mem_filter.1 hk).1⟩
theorem reachC_len (p : Prog) (f : Nat) : (reachC p f).length ≤ p.funcs.length := range_filter_len _ _
theorem reachC_wf {p : Prog} {f : Nat} (hsm : tProg.bulk p ≤ 2097152) : ∀ x ∈ reachC p f, wfI .i64 x := by
  intro x hx
  obtain ⟨k, rfl, hk⟩ := reachC_lt hx
  have := prog_funcs_le p
  simp [wfI, Lit.wf, IntKind.min, IntKind.max, IntKind.signed, IntKind.bits]
  omega

/-- slices.Contains on a row that is read -/
theorem contains_any {v : Value} {xs : List Int} {x : Int} {w : World} {S : Nat → Prop} (h : tInt.slice.RS w S [v] xs) (hn : xs.length ≤ 2147483648) :
    Calls Try.prog 46 #[v, .int .i64 x] w fun e w' => e = .returned (.bool (xs.contains x)) ∧ w = w' := by
  obtain ⟨A, c, rfl⟩ := slice_form h
  by_cases hz : xs = []
  · subst hz
    refine (Try.slices_Contains_int_empty _ _ _ _).mono fun e w' ⟨he, hw⟩ => ⟨he, hw.symm⟩
  · have hpos : 0 < xs.length := List.length_pos_iff.2 hz
    obtain ⟨b, o, e, _⟩ := int_at h (List.getElem?_eq_getElem hpos)
    cases e
    refine (Try.slices_Contains_int b o xs.length c xs x w (Nat.le_refl _) (by omega) (fun j hj => ?_)).mono fun e w' ⟨he, hw⟩ => ?_
    · obtain ⟨b', o', e', _, hc, _⟩ := int_at h (List.getElem?_eq_getElem hj)
      cases e'
      rw [hc]
      simp [List.getD, hj]
    · rw [List.take_length] at he
      exact ⟨he, hw.symm⟩

theorem any_step {P : Int → Bool} {l : List Int} {j : Nat} {z : Int} (hz : l[j]? = some z) (h : (l.take j).any P = false) (hp : P z = false) : Hid ((l.take (j + 1)).any P = false) := by
  show _ = _
  rw [List.take_add_one, hz, List.any_append, h]
  simp [hp]

def depthC' (p : Prog) (f : Int) : Int := if 0 ≤ f ∧ f < p.funcs.length ∧ turnsB p f.toNat = false then (lngN (succ p) p.funcs.length f.toNat : Nat) else -1

theorem self_row {p : Prog} {f : Nat} (hf : f < p.funcs.length) : (reachC p f ++ [(f : Int)]).any (selfAt p) = turnsB p f := by
  rcases ht : turnsB p f with _ | _
  · rw [turnsB_iff hf] at ht
    rw [List.any_eq_false]
    intro z hz
    rcases List.mem_append.1 hz with h | h
    · obtain ⟨k, rfl, hk⟩ := reachC_lt h
      rw [selfAt_iff hk]
      exact ht k (.inr ((mem_reachC hf).1 h))
    · simp at h
      subst h
      rw [selfAt_iff hf]
      exact ht f (.inl rfl)
  · rw [List.any_eq_true]
    have h1 : ¬ Acyc (succ p) f := fun h => by rw [(turnsB_iff hf).2 h] at ht; cases ht
    have h2 : ∃ k, (k = f ∨ Rch (succ p) f k) ∧ Rch (succ p) k k := by
      apply Classical.byContradiction
      intro hn
      exact h1 fun k hk hkk => hn ⟨k, hk, hkk⟩
    obtain ⟨k, hk, hkk⟩ := h2
    have hkn := hkk.lt (succ_lt p)
    refine ⟨(k : Int), ?_, (selfAt_iff hkn).2 hkk⟩
    rcases hk with rfl | hk
    · simp
    · exact List.mem_append.2 (.inl ((mem_reachC hf).2 hk))

set_option maxRecDepth 100000 in
set_option maxHeartbeats 2000000 in
theorem Depth_in (p : Prog) (f : Nat) (w : World) (cs : List Value) (hf : f < p.funcs.length) (hR : tProg.R w w.heap.size cs p) (hsm : tProg.bulk p ≤ 2097152) :
    Calls Try.prog 21 #[.agg cs.toArray, .int .i64 f] w fun e w' => e = .returned (.int .i64 (depthC' p f)) ∧ Below w.heap.size w w' := by
  obtain ⟨A, c, A', c', rfl, _, _, hF⟩ := tProg_R.1 hR
  have hpl := prog_funcs_le p
  obtain ⟨i0, hi, hz0, hz1, hz2⟩ := info_parts int_info
  have hb : Hid (Below w.heap.size w (w.alloc (.cells [.int .i64 p.heap, .slice A' p.threads.length c', .slice A p.funcs.length c].toArray 25))) := (Below.refl _ _).alloc (Nat.le_refl _) _
  have d0 : decide ((f : Int) < 0) = false := decide_eq_false (by omega)
  have d1 : decide ((p.funcs.length : Int) ≤ (f : Int)) = false := decide_eq_false (by omega)
  have d2 : decide (p.funcs.length ≤ f) = false := decide_eq_false (by omega)
  have HR := Lib.hid (Ty.below hR hb.out hb.out.size)
  clear hR hF
  go_enter Try.func21, Try.ntmps21
  go_wp2_with fail
  refine (graphOf_out p _ _ HR.out hsm).mono ?_
  rintro e w1 ⟨gb, mb, Ag, cg, rfl, hG, hb1⟩
  have HG := Lib.hid hG
  have HB1 := Lib.hid (hb.out.trans (hb1.mono hb.out.size))
  clear hG hb1
  go_wp2_with fail
  refine (reach_any p f gb cg Ag _ hf HG.out.read hsm).mono ?_
  rintro e w2 ⟨v2, rfl, ho2, hb2⟩
  have HG2 := Lib.hid (HG.out.keep hb2)
  have HB12 := Lib.hid hb2
  have HB2 := Lib.hid (HB1.out.trans (hb2.mono HB1.out.size))
  have hs12 := hb2.size
  have hgl := HG.out.read.lt
  have hml := HG.out.lt
  have HO2 := Lib.hid ho2
  have hrl := reachC_len p f
  have HRL := Lib.hid hrl
  clear hb2 ho2 hrl
  go_wp2_with (at_builtin; refine wpList_append_own _ rfl _ _ 22 rfl w1.heap.size 3 i0 (.int .i64 0) 1 8 Try.underlying22 hi hz0 hz1 hz2 rfl (by decide) _ _ _ rfl (HO2.out.alloc _) ⟨w2.heap.size, 0, none⟩ 1 1 [.int .i64 f] rfl rfl ?c1 ?c2 ?c3 ?c4 ?c5 ?_)
  case c1 =>
    intro q u hq
    match q, hq with
    | 0, hq => simp at hq; subst hq; simp [Addr.add]
  case c2 => intro u hu; simp at hu; subst hu; rfl
  case c3 => have := HRL.out; unfold maxLen; omega
  case c4 => have := HRL.out; omega
  case c5 => simp; omega
  intro v3 w3 ho3 hg3 _
  have HO3 := Lib.hid (show OwnI w3 w1.heap.size v3 (reachC p f ++ [(f : Int)]) from .of ho3 (by simp) (by simp))
  have HB3 := Lib.hid (show Below w1.heap.size w1 w3 from (HB12.out.alloc hs12 _).grown hg3 (by simp; omega) (fun q hq => (HO2.out.lt q hq).1))
  clear ho3 hg3 HO2 HB2 HG2 HB12 hs12
  obtain ⟨g3, c3, rfl, _, _⟩ := own_form' HO3.out (by simp)
  have hll : (reachC p f ++ [(f : Int)]).length ≤ p.funcs.length + 1 := by have := HRL.out; simp; omega
  have hmem : ∀ z ∈ reachC p f ++ [(f : Int)], ∃ k : Nat, z = k ∧ k < p.funcs.length := by
    intro z hz
    rcases List.mem_append.1 hz with h | h
    · exact reachC_lt h
    · simp at h
      exact ⟨f, h, hf⟩
  have HMEM := Lib.hid hmem
  have HROW := Lib.hid (self_row hf)
  obtain ⟨l, hl⟩ : ∃ l, l = reachC p f ++ [(f : Int)] := ⟨_, rfl⟩
  rw [← hl] at HO3 HMEM HROW hll ⊢
  clear hmem hl
  go_wp2_with fail
  go_loopw [28] (fun i wr => ∃ j : Nat, j ≤ l.length ∧ i = .int .i64 j ∧ Hid ((l.take j).any (selfAt p) = false) ∧ Hid (OwnI wr w1.heap.size (.slice (some ⟨g3, 0, none⟩) l.length c3) l) ∧ Below w1.heap.size w1 wr) (fun i _ => l.length - (RowKit.intOf i).toNat)
  case atStart => exact ⟨0, Nat.zero_le _, rfl, rfl, HO3, HB3.out⟩
  case round =>
    obtain ⟨j, hj, rfl, hno, hO, hbe⟩ := hrel
    have HBE := Lib.hid hbe
    have hbsz := hbe.size
    clear hbe HO3 HB3
    have HGr := Lib.hid (HG.out.keep HBE.out)
    by_cases hlt : j < l.length
    · obtain ⟨z, hz⟩ : ∃ z, l[j]? = some z := ⟨_, List.getElem?_eq_getElem hlt⟩
      obtain ⟨k, rfl, hk⟩ := HMEM.out z (List.mem_of_getElem? hz)
      have hcz := own_cell hO.out hz
      have HZ := Lib.hid hz
      clear hz
      go_wp2_with fail
      refine (reach_any p k gb cg Ag _ hk HGr.out.read hsm).mono ?_
      rintro e w4 ⟨v4, rfl, ho4, hb4⟩
      have HR4 := Lib.hid (OwnI.read ho4 (reachC_wf hsm))
      have hO4 := Lib.hid (hO.out.kept hb4)
      have HB4 := Lib.hid (HBE.out.trans (hb4.mono hbsz))
      have hrk := reachC_len p k
      have HRK := Lib.hid hrk
      clear ho4 hb4 hcz hrk
      go_wp2_with fail
      refine (contains_any HR4.out (by have := HRK.out; omega)).mono ?_
      rintro e w5 ⟨rfl, rfl⟩
      have hsf : Hid ((reachC p k).contains (k : Int) = selfAt p k) := by
        show _ = _
        unfold selfAt
        rw [show ((k : Int)).toNat = k from by omega]
      by_cases hS : selfAt p (k : Int) = true
      · rw [hsf.out, hS]
        have ht : turnsB p f = true := by
          rw [← HROW.out, List.any_eq_true]
          exact ⟨(k : Int), List.mem_of_getElem? HZ.out, hS⟩
        have HT := Lib.hid ht
        clear hS ht
        go_wp2_with fail
        go_ret
        exact ⟨ret_int (by rw [depthC', if_neg (by rw [show ((f : Int)).toNat = f from by omega, HT.out]; simp)]), HB1.out.trans (HB4.out.mono HB1.out.size)⟩
      · have hS' : selfAt p (k : Int) = false := by simpa using hS
        rw [hsf.out, hS']
        have hnew := any_step HZ.out hno.out hS'
        clear hS hS'
        go_wp2_with fail
        go_roundw
        case rel => exact ⟨j + 1, by omega, by go_num, hnew, hO4, HB4.out⟩
        case measure => simp [RowKit.intOf]; omega
    · obtain rfl : j = l.length := by omega
      have ht : turnsB p f = false := by
        have := hno.out
        rw [List.take_length, HROW.out] at this
        exact this
      have HT := Lib.hid ht
      clear ht
      go_wp2_with fail
      refine (depth_any p gb mb cg Ag hsm (p.funcs.length + 1) f _ _ _ hf ((turnsB_iff hf).1 HT.out) (by classical have := cnt_le p.funcs.length (fun j => decide (Rch (succ p) f j)); omega) HGr.out.gd HGr.out.known).mono ?_
      rintro e w4 ⟨M', D', rfl, hkn, hg4, _⟩
      have HG4 := Lib.hid hg4
      clear hkn hg4
      go_wp2_with fail
      go_ret
      refine ⟨ret_int (by rw [depthC', if_pos ⟨by omega, by omega, by rw [show ((f : Int)).toNat = f from by omega]; exact HT.out⟩]; simp), ?_⟩
      have hlo := HG.out.lo
      have hbs := hb.out.size
      exact (HB1.out.trans (HBE.out.mono HB1.out.size)).grown HG4.out (by have := HB1.out.size; omega) (fun q hq => by cases hq; omega)
end Mu
