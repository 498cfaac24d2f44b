/-
  The graph's depth, walked: the longest way, told by a map of what is known.
  Conditions: from the function no circle is reached; the program's bulk is at most 2^21.
-/
import Derived.Test.YteeekjidkjdpjaaMuReachTop
import Derived.Test.YteeekjidkjdpjaaMuRefDepth
import Derived.Maps.OwnSet
namespace Mu
open Go Go.RowKit Go.Proofs Go.Maps

/-- block b is a map from ints to ints, of at most n entries -/
structure MI (w : World) (b n : Nat) (M : Int → Option Int) (D : DataW Unit) : Prop where
  own : w.ownsMap Try.prog 3 (plainElem Try.prog 3) b n D
  is : IsMap D
  has : ∀ k, Maps.has D (.int .i64 k) = (M k).isSome
  at_ : ∀ k v, M k = some v → ∀ z, D.atKey (.int .i64 k) z = .lit (.int .i64 v)

theorem MI.kept {w w' : World} {b n : Nat} {M : Int → Option Int} {D : DataW Unit} (h : MI w b n M D) (hk : w'.heap[b]? = w.heap[b]?) : MI w' b n M D := by
  obtain ⟨es, cl, h1, h2⟩ := h.own
  exact ⟨⟨es, cl, hk.trans h1, h2⟩, h.is, h.has, h.at_⟩
theorem MI.lt {w : World} {b n : Nat} {M : Int → Option Int} {D : DataW Unit} (h : MI w b n M D) : b < w.heap.size := h.own.lt
theorem MI.empty {w : World} {b : Nat} (h : w.heap[b]? = some (.map #[] 0)) : MI w b 0 (fun _ => none) (.map []) := by
  have hb : b < w.heap.size := (Array.getElem?_eq_some_iff.1 h).1
  refine ⟨?_, isMap_empty, fun _ => rfl, fun _ _ h => by cases h⟩
  obtain ⟨es, cl, e, r⟩ := World.ownsMap_made (H := Unit) w Try.prog 3 (plainElem Try.prog 3)
  have e2 : (w.alloc (.map #[] 0)).heap[w.heap.size]? = some (.map #[] 0) := heap_alloc_new w _
  rw [e2] at e
  injection e with e
  injection e with e3 e4
  subst e3 e4
  exact ⟨#[], 0, h, r⟩

theorem int_law : Keyed Try.prog 3 := int_keyed Try.underlying3
theorem int_zero (w : World) : (zeroValue 3).run Try.prog w = .ok (.int .i64 0) w := by kernel_rfl
theorem int_key {a : Int} (h : wfI .i64 a) : keyOf Try.prog 3 (.int .i64 a) = some (.int .i64 a) := keyOf_int_mk Try.underlying3 h

theorem MI.put {w w' : World} {b n : Nat} {M : Int → Option Int} {D : DataW Unit} (h : MI w b n M D) {k v : Int} (hk : wfI .i64 k) (ho : w'.ownsMap Try.prog 3 (plainElem Try.prog 3) b (n + 1) (D.put (.int .i64 k) (.lit (.int .i64 v)))) :
    MI w' b (n + 1) (fun j => if j = k then some v else M j) (D.put (.int .i64 k) (.lit (.int .i64 v))) := by
  have hkl : WideAt.IsKeyLit (.int .i64 k) := int_law.key (int_key hk)
  refine ⟨ho, h.is.put _ _, fun j => ?_, fun j u hj z => ?_⟩
  · by_cases e : j = k
    · subst e
      simp [has_put_same h.is hkl]
    · rw [has_put_other (by simpa using e), h.has]
      simp [e]
  · by_cases e : j = k
    · subst e
      simp at hj
      subst hj
      exact atKey_put_same h.is hkl _ _
    · simp only [e, if_false] at hj
      rw [atKey_put_other (by simpa using e)]
      exact h.at_ j u hj z

/-- what is known is right -/
structure Known (p : Prog) (w : World) (mb : Nat) (M : Int → Option Int) (D : DataW Unit) : Prop where
  ex : ∃ n, n ≤ cnt p.funcs.length (fun k => (M k).isSome) ∧ MI w mb n M D
  sound : ∀ k v, M k = some v → ∃ j : Nat, k = j ∧ j < p.funcs.length ∧ v = (lngN (succ p) p.funcs.length j : Nat)

theorem Known.kept {p : Prog} {w w' : World} {mb : Nat} {M : Int → Option Int} {D : DataW Unit} (h : Known p w mb M D) (hk : w'.heap[mb]? = w.heap[mb]?) : Known p w' mb M D :=
  ⟨let ⟨n, h1, h2⟩ := h.ex; ⟨n, h1, h2.kept hk⟩, h.sound⟩

/-- the graph, as a depth reads it -/
structure GD (gb mb : Nat) (A : Option Addr) (c : Nat) (w : World) (p : Prog) : Prop where
  st : w.cell? ⟨gb, 0, none⟩ = some (.slice A p.funcs.length c)
  mp : w.cell? ⟨gb, 1, none⟩ = some (.map (some mb))
  ne : gb ≠ mb
  lt : gb < w.heap.size
  tab : tInt.slice.slice.RS w (fun k => k ≠ mb ∧ k < w.heap.size) [.slice A p.funcs.length c] (tab p p.funcs.length)

theorem GD.grown {gb mb c : Nat} {A : Option Addr} {w w' : World} {p : Prog} (h : GD gb mb A c w p) (hg : w.grownBy w' (some mb)) : GD gb mb A c w' p :=
  ⟨hg.cell (a := ⟨gb, 0, none⟩) h.st (by simpa using h.ne), hg.cell (a := ⟨gb, 1, none⟩) h.mp (by simpa using h.ne), h.ne, Nat.lt_of_lt_of_le h.lt hg.size,
    Ty.keepS _ h.tab (fun k hk => hg.block k hk.2 (by simpa using hk.1)) (fun k hk => ⟨hk.1, Nat.lt_of_lt_of_le hk.2 hg.size⟩)⟩

theorem grown_trans {a b c : World} {row : Option Nat} (h : a.grownBy b row) (k : b.grownBy c row) : a.grownBy c row :=
  ⟨k.os.trans h.os, k.tape.trans h.tape, k.output.trans h.output, Nat.le_trans h.size k.size, fun i hi hr => (k.block i (Nat.lt_of_lt_of_le hi h.size) hr).trans (h.block i hi hr)⟩

/-- what a depth leaves -/
def DPost (p : Prog) (f mb : Nat) (w : World) (M : Int → Option Int) (e : Ending) (w' : World) : Prop :=
  ∃ M' D', e = .returned (.int .i64 (lngN (succ p) p.funcs.length f : Nat)) ∧ Known p w' mb M' D' ∧ w.grownBy w' (some mb) ∧
    (∀ q : Nat, M' q ≠ none → M q ≠ none ∨ q = f ∨ Rch (succ p) f q)

theorem max_step {l : List Nat} {j k : Nat} (h : l[j]? = some k) (F : Nat → Nat) : maxL ((l.take (j + 1)).map F) = max (maxL ((l.take j).map F)) (F k) := by
  rw [List.take_add_one, h, Option.toList_some, List.map_append, maxL_append]
  simp [maxL_cons, maxL_nil]

open Classical in
set_option maxRecDepth 100000 in
set_option maxHeartbeats 2000000 in
theorem depth_any (p : Prog) (gb mb c : Nat) (A : Option Addr) (hsm : tProg.bulk p ≤ 2097152) (m : Nat) :
    ∀ (f : Nat) (w : World) (M : Int → Option Int) (D : DataW Unit), f < p.funcs.length → Acyc (succ p) f → cnt p.funcs.length (fun j => decide (Rch (succ p) f j)) < m → GD gb mb A c w p → Known p w mb M D →
    Calls Try.prog 47 #[.pointer (some ⟨gb, 0, none⟩), .int .i64 f] w (DPost p f mb w M) := by
  induction m with
  | zero => intro f w M D _ _ h; omega
  | succ m ih =>
    intro f w M D hf ha hcnt hG hK
    have hpl := prog_funcs_le p
    have hst := hG.st
    have hmp := hG.mp
    have hgl := hG.lt
    obtain ⟨n0, hn0, hMI⟩ := hK.ex
    have hown := Lib.hid hMI.own
    have hkey : keyOf Try.prog 3 (.int .i64 f) = some (.int .i64 f) := int_key (by simp [wfI, Lit.wf, IntKind.min, IntKind.max, IntKind.signed, IntKind.bits]; omega)
    have HKEY := Lib.hid hkey
    have HIH := Lib.hid ih
    have HA := Lib.hid ha
    have HG := Lib.hid hG
    have HK := Lib.hid hK
    have HC := Lib.hid hcnt
    have hhas := hMI.has f
    have hat := hMI.at_ f
    clear ih ha hG hK hcnt hMI hn0 hkey
    rcases hM : M f with _ | v
    · rw [hM] at hhas
      have hno : Maps.has D (.int .i64 f) = false := hhas
      have HM := Lib.hid hM
      clear hat hhas hM
      obtain ⟨tb, to_, Af, cf, eA, htbS, hrow, hrowR⟩ := slices_at HG.out.tab (tab_get hf)
      cases eA
      have HRF := Lib.hid hrowR
      have hol := ofN_length (succ p f)
      have HOL := Lib.hid hol
      have hsl := succ_length p f
      have HTB := Lib.hid htbS
      clear hrowR hol htbS
      go_enter Try.func47, Try.ntmps47
      go_wp2_with (at_lookup; refine wpList_lookup_own_ok_int _ rfl _ _ 79 rfl 3 3 .i64 int_law Try.underlying79 Try.underlying3 (int_zero _) mb n0 D rfl hown.out _ _ rfl HKEY.out ?_; intro c hc hwc; clear hc hwc)
      clear hst hmp hrow
      go_loopw [7, 29] (fun nv i wr => ∃ j : Nat, j ≤ (succ p f).length ∧ i = .int .i64 j ∧ nv = .int .i64 (maxL (((succ p f).take j).map fun k => lngN (succ p) p.funcs.length k + 1) : Nat) ∧ w.grownBy wr (some mb) ∧ Hid (∃ M' D', Known p wr mb M' D' ∧ ∀ q : Nat, M' q ≠ none → M q ≠ none ∨ Rch (succ p) f q)) (fun _ i _ => (succ p f).length - (RowKit.intOf i).toNat)
      case atStart => exact ⟨0, Nat.zero_le _, rfl, rfl, World.grownBy.refl _ _, M, D, HK.out, fun q hq => .inl hq⟩
      case round =>
        obtain ⟨j, hj, rfl, rfl, hgr, hkn⟩ := hrel
        obtain ⟨M', D', hkn, hfr⟩ := hkn.out
        have HGR := Lib.hid hgr
        have HKN := Lib.hid hkn
        have HFR := Lib.hid hfr
        clear hgr hkn hfr hno
        have HGW := Lib.hid (HG.out.grown HGR.out)
        by_cases hlt : j < (succ p f).length
        · obtain ⟨k, hk⟩ : ∃ k, (succ p f)[j]? = some k := ⟨_, List.getElem?_eq_getElem hlt⟩
          have hmem := List.mem_of_getElem? hk
          have hkn' := succ_lt p f k hmem
          have hrw : tInt.slice.RS wr (fun k => k ≠ mb ∧ k < wr.heap.size) [.slice Af (ofN (succ p f)).length cf] (ofN (succ p f)) :=
            Ty.keepS _ HRF.out (fun k hk => HGR.out.block k hk.2 (by simpa using hk.1)) (fun k hk => ⟨hk.1, Nat.lt_of_lt_of_le hk.2 HGR.out.size⟩)
          obtain ⟨b1, o1, e1, hb1, hc1, _⟩ := int_at hrw (ofN_get hk)
          cases e1
          have hlen : j < (ofN (succ p f)).length := by rw [HOL.out]; exact hlt
          have hmx := max_step hk (fun k => lngN (succ p) p.funcs.length k + 1)
          have hlk : lngN (succ p) p.funcs.length k ≤ p.funcs.length := lngN_le (succ_lt p) (HA.out.step hmem)
          have hmxle : maxL (((succ p f).take j).map fun k => lngN (succ p) p.funcs.length k + 1) ≤ p.funcs.length + 1 := maxL_le (by
            intro x hx
            obtain ⟨q, hq, rfl⟩ := List.mem_map.1 hx
            have hqm : q ∈ succ p f := List.mem_of_mem_take hq
            have := lngN_le (succ_lt p) (HA.out.step hqm)
            omega)
          have hcl := reach_card_lt (n := p.funcs.length) (succ_lt p) HA.out hmem
          have HCL := Lib.hid hcl
          have HMX := Lib.hid hmx
          have HMEM := Lib.hid hmem
          have HIHk := Lib.hid (HIH.out k wr M' D' hkn' (HA.out.step hmem) (by have := HC.out; omega) HGW.out HKN.out)
          clear hk hmem hrw hmx hcl hb1
          go_wp2_with fail
          refine HIHk.out.mono ?_
          rintro e w2 ⟨M2, D2, rfl, hk2, hg2, hf2⟩
          have HK2 := Lib.hid hk2
          have HG2 := Lib.hid hg2
          have HF2 := Lib.hid hf2
          clear hk2 hg2 hf2 hc1
          go_wp2_with fail
          go_roundw
          case rel =>
            refine ⟨j + 1, by omega, by go_num, ?_, grown_trans HGR.out HG2.out, M2, D2, HK2.out, fun q hq => ?_⟩
            · rw [HMX.out]
              exact congrArg (Value.int .i64) (by rw [List.map_take]; omega)
            · rcases HF2.out q hq with h | h | h
              · exact HFR.out q h
              · exact .inr (h ▸ Rch.one HMEM.out)
              · exact .inr (.head HMEM.out h)
          case measure => simp [RowKit.intOf]; omega
        · obtain rfl : j = (succ p f).length := by omega
          have hge : (ofN (succ p f)).length ≤ (succ p f).length := by rw [HOL.out]; omega
          have hmp2 := HGW.out.mp
          obtain ⟨n1, hn1, hMI⟩ := HKN.out.ex
          have hcn := cnt_le p.funcs.length (fun k => (M' k).isSome)
          have HMI := Lib.hid hMI
          have hval : maxL (((succ p f).take (succ p f).length).map fun k => lngN (succ p) p.funcs.length k + 1) = lngN (succ p) p.funcs.length f := by
            rw [List.take_length, ← lngN_eq (succ_lt p) HA.out]
          have HVAL := Lib.hid hval
          have hlf := lngN_le (succ_lt p) HA.out
          have hwv : wfI .i64 (maxL (((succ p f).take (succ p f).length).map fun k => lngN (succ p) p.funcs.length k + 1) : Nat) := by
            rw [hval]
            simp [wfI, Lit.wf, IntKind.min, IntKind.max, IntKind.signed, IntKind.bits]; omega
          have HWV := Lib.hid hwv
          have hfn : Hid (M' f = none) := by
            show _ = _
            rcases hh : M' f with _ | v
            · rfl
            · rcases HFR.out f (by rw [hh]; simp) with h | h
              · exact absurd HM.out h
              · exact absurd h (HA.out f (.inl rfl))
          have HN1 := Lib.hid hn1
          clear hMI hval hwv hn1 hlf
          go_wp2_with (at_mapUpdate; refine wpList_mapUpdate_own _ rfl _ _ _ 79 rfl 3 3 int_law Try.underlying79 _ mb n1 D' rfl HMI.out.own (by have := HN1.out; unfold maxLen; omega) _ _ _ rfl rfl HKEY.out _ [] (plainElem_int Try.underlying3 HWV.out) ?_; intro w3 hown3 hg3)
          have HO3 := Lib.hid hown3
          have HG3 := Lib.hid hg3
          clear hown3 hg3 hmp2
          go_wp2_with fail
          go_ret
          have hput := HMI.out.put (k := (f : Int)) (v := (maxL (((succ p f).take (succ p f).length).map fun k => lngN (succ p) p.funcs.length k + 1) : Nat)) (by simp [wfI, Lit.wf, IntKind.min, IntKind.max, IntKind.signed, IntKind.bits]; omega) HO3.out
          refine ⟨_, _, ret_int (by rw [← lngN_eq (succ_lt p) HA.out]), ⟨⟨n1 + 1, ?_, hput⟩, ?_⟩, grown_trans HGR.out HG3.out, ?_⟩
          · have h1 := HN1.out
            have h2 := cnt_lt (n := p.funcs.length) (S := fun k => (M' k).isSome) (T := fun k => ((fun j => if j = (f : Int) then some ((maxL (((succ p f).take (succ p f).length).map fun k => lngN (succ p) p.funcs.length k + 1) : Nat) : Int) else M' j) (k : Int)).isSome) (fun k _ hk => by
              show (if (k : Int) = (f : Int) then some _ else M' k).isSome = true
              split
              · rfl
              · exact hk) hf (by simp [hfn.out]) (by simp)
            exact Nat.lt_of_le_of_lt h1 h2
          · intro k v hkv
            by_cases e : k = (f : Int)
            · simp only [e, if_true, Option.some.injEq] at hkv
              exact ⟨f, e, hf, by rw [← hkv, HVAL.out]⟩
            · simp only [e, if_false] at hkv
              exact HKN.out.sound k v hkv
          · intro q hq
            by_cases e : (q : Int) = (f : Int)
            · exact .inr (.inl (by omega))
            · simp only [e, if_false] at hq
              rcases HFR.out q hq with h | h
              · exact .inl h
              · exact .inr (.inr h)
    · rw [hM] at hhas
      have hyes : Maps.has D (.int .i64 f) = true := hhas
      have hv : v = (lngN (succ p) p.funcs.length f : Nat) := by
        obtain ⟨j, e, _, hv⟩ := HK.out.sound f v hM
        have : f = j := by omega
        subst this
        exact hv
      have HAT := Lib.hid (hat v hM)
      have HV := Lib.hid hv
      clear hat hhas hM hv
      go_enter Try.func47, Try.ntmps47
      go_wp2_with (at_lookup; refine wpList_lookup_own_ok_int _ rfl _ _ 79 rfl 3 3 .i64 int_law Try.underlying79 Try.underlying3 (int_zero _) mb n0 D rfl hown.out _ _ rfl HKEY.out ?_; intro c hc hwc; rw [HAT.out] at hc; cases hc; clear hwc)
      go_ret
      exact ⟨M, D, ret_int HV.out, HK.out, World.grownBy.refl _ _, fun q hq => .inl hq⟩
end Mu
