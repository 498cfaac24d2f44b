/-
  The graph's reach, walked.
  Conditions: the program's bulk is at most 2^21; a function that there is.
-/
import Derived.Test.YteeekjidkjdpjaaMuGraphOf
import Derived.Test.YteeekjidkjdpjaaMuBits
import Derived.Test.YteeekjidkjdpjaaMuSame
import Derived.Test.YteeekjidkjdpjaaMuRefCalls
import Derived.Deep.RegionHeld3
import Derived.Laws.AppendOwnNone
namespace Mu
open Go Go.RowKit Go.Proofs

/-- the graph as it is read: its struct at gb, the table of calls -/
structure GRead (gb : Nat) (A : Option Addr) (c : Nat) (w : World) (p : Prog) : Prop where
  st : w.cell? ⟨gb, 0, none⟩ = some (.slice A p.funcs.length c)
  lt : gb < w.heap.size
  tab : tInt.slice.slice.R w w.heap.size [.slice A p.funcs.length c] (tab p p.funcs.length)

theorem GRead.keep {gb c : Nat} {A : Option Addr} {w w' : World} {p : Prog} (h : GRead gb A c w p) (hb : Below w.heap.size w w') : GRead gb A c w' p :=
  ⟨(hb.cell (p := ⟨gb, 0, none⟩) h.lt).trans h.st, Nat.lt_of_lt_of_le h.lt hb.size, Ty.below h.tab hb hb.size⟩

theorem tab_get {p : Prog} {k : Nat} (hk : k < p.funcs.length) : (tab p p.funcs.length)[k]? = some (ofN (succ p k)) := by
  simp only [tab, List.getElem?_map, List.getElem?_range hk, Option.map_some, Option.some.injEq]
  rw [callsC, if_pos ⟨by omega, by omega⟩]
  simp

theorem ofN_get {l : List Nat} {i : Nat} {z : Nat} (h : l[i]? = some z) : (ofN l)[i]? = some (z : Int) := by
  simp [ofN, h]
theorem ofN_append (l m : List Nat) : ofN (l ++ m) = ofN l ++ ofN m := by simp [ofN]
theorem ofN_length (l : List Nat) : (ofN l).length = l.length := by simp [ofN]
theorem own_cell {w : World} {base g cap n : Nat} {l : List Int} {i : Nat} {z : Int} (h : OwnI w base (.slice (some ⟨g, 0, none⟩) n cap) l) (hz : l[i]? = some z) : w.cell? ⟨g, i, none⟩ = some (.int .i64 z) := by
  have hi := (List.getElem?_eq_some_iff.1 hz).1
  rcases h.2 with ⟨h0, _⟩ | ⟨g', cap', cur, e, _, hh, _, _, _, h4⟩
  · cases h0
  · cases e
    have h5 := h.cells (g := g) rfl i (.int .i64 z) (by simp [hz])
    have e1 : (⟨g, 0, none⟩ : Addr).add i = ⟨g, i, none⟩ := by
      unfold Addr.add
      by_cases hz : i = 0 <;> simp [hz]
    rwa [e1] at h5
theorem own_form' {w : World} {base : Nat} {v : Value} {l : List Int} (h : OwnI w base v l) (hp : 0 < l.length) : ∃ g c, v = .slice (some ⟨g, 0, none⟩) l.length c ∧ base ≤ g ∧ g < w.heap.size := by
  rcases h.2 with ⟨rfl, h0⟩ | ⟨g, cap, cur, rfl, hg, hh, _⟩
  · omega
  · exact ⟨g, cap, rfl, hg, (Array.getElem?_eq_some_iff.1 hh).1⟩

/-- what the worklist's loop keeps -/
structure RInv (p : Prog) (f gs : Nat) (w wr : World) (v : Value) (wl : List Nat) (i : Nat) (S : Nat → Bool) : Prop where
  bfs : Bfs (succ p) p.funcs.length f wl i S
  wait : OwnI wr w.heap.size v (ofN wl)
  bits : OwnB wr w.heap.size (.slice (some ⟨gs, 0, none⟩) (p.funcs.length / 64 + 1) (p.funcs.length / 64 + 1)) (p.funcs.length / 64 + 1) S
  below : Below w.heap.size w wr

theorem own_ne_bits {w : World} {base base' m : Nat} {v v' : Value} {l : List Int} {S : Nat → Bool} (h : OwnI w base v l) (h' : OwnB w base' v' m S) : ∀ g, v'.ownBlock = some g → v.ownBlock ≠ some g := by
  intro g hg hv
  rcases h.2 with ⟨rfl, _⟩ | ⟨g1, cap, cur, rfl, _, hh, _⟩
  · cases hv
  · rcases h'.2 with ⟨rfl, _⟩ | ⟨g2, cap', cur', rfl, _, hh', _⟩
    · cases hg
    · cases hv
      cases hg
      rw [hh] at hh'
      injection hh' with hh'
      injection hh' with _ ht
      cases ht
theorem OwnB.base {w : World} {base base' m : Nat} {v : Value} {S : Nat → Bool} (h : OwnB w base v m S) (hb : base' ≤ base) : OwnB w base' v m S := by
  obtain ⟨h1, h2⟩ := h
  refine ⟨h1, ?_⟩
  rcases h2 with h2 | ⟨g, cap, cur, hv, hg, r⟩
  · exact .inl h2
  · exact .inr ⟨g, cap, cur, hv, by omega, r⟩

/-- a bit is put: what turns -/
theorem bits_put' (w : World) (base m k g cap : Nat) (S : Nat → Bool) (ho : OwnB w base (.slice (some ⟨g, 0, none⟩) m cap) m S) (hk : k < m * 64) (hm : m ≤ 65536) :
    Calls Try.prog 69 #[.slice (some ⟨g, 0, none⟩) m cap, .int .i64 k] w fun e w' => e = .returned (.bool (!S k)) ∧ OwnB w' base (.slice (some ⟨g, 0, none⟩) m cap) m (Mu.put S k) ∧ w.grownBy w' (some g) := by
  refine (bits_put w base m k g cap S ho hk hm).mono fun e w' ⟨he, hw⟩ => ?_
  subst hw
  exact ⟨he, ho.put hk, (World.ownsRow.stored ho _ _).2⟩

theorem put_same {S : Nat → Bool} {k : Nat} (h : S k = true) : Mu.put S k = S := by
  funext j
  unfold Mu.put
  split
  · rename_i e; rw [e, h]
  · rfl

/-- the loop's start -/
theorem RInv.start {p : Prog} {f : Nat} {w w1 w2 : World} {v : Value} (ho : OwnI w1 w.heap.size v (ofN (succ p f))) (hb : Below w.heap.size w w1)
    (ho2 : OwnB w2 w1.heap.size (.slice (some ⟨w1.heap.size, 0, none⟩) (p.funcs.length / 64 + 1) (p.funcs.length / 64 + 1)) (p.funcs.length / 64 + 1) (fun _ => false)) (hg : w1.grownBy w2 none) :
    RInv p f w1.heap.size w w2 v (succ p f) 0 (fun _ => false) :=
  ⟨Bfs.init _ _, ownsRow_keep ho (fun g hg' => hg.block g (ho.lt g hg').2 (by simp)), ho2.base hb.size, hb.grown hg hb.size (fun _ h => by cases h)⟩

/-- the bit was there -/
theorem RInv.old {p : Prog} {f gs i k : Nat} {w wr w3 : World} {v : Value} {wl : List Nat} {S : Nat → Bool} (h : RInv p f gs w wr v wl i S) (hk : wl[i]? = some k) (hS : S k = true)
    (ho3 : OwnB w3 w.heap.size (.slice (some ⟨gs, 0, none⟩) (p.funcs.length / 64 + 1) (p.funcs.length / 64 + 1)) (p.funcs.length / 64 + 1) (Mu.put S k)) (hg : wr.grownBy w3 (some gs)) :
    RInv p f gs w w3 v wl (i + 1) S := by
  rw [put_same hS] at ho3
  refine ⟨h.bfs.old hk hS, ownsRow_keep h.wait (fun g hg' => hg.block g (h.wait.lt g hg').2 (fun e => own_ne_bits h.wait h.bits gs rfl (hg'.trans e))), ho3, h.below.grown hg h.below.size (fun q hq => ?_)⟩
  cases hq
  exact (World.ownsRow.lt h.bits gs rfl).1

theorem RInv.mid {p : Prog} {f gs i : Nat} {w wr w3 : World} {v : Value} {wl : List Nat} {S : Nat → Bool} (h : RInv p f gs w wr v wl i S)
    (hg : wr.grownBy w3 (some gs)) : OwnI w3 w.heap.size v (ofN wl) ∧ Below w.heap.size w w3 := by
  refine ⟨ownsRow_keep h.wait (fun g hg' => hg.block g (h.wait.lt g hg').2 (fun e => own_ne_bits h.wait h.bits gs rfl (hg'.trans e))), h.below.grown hg h.below.size (fun q hq => ?_)⟩
  cases hq
  exact (World.ownsRow.lt h.bits gs rfl).1

/-- the bit was not there: the row is appended -/
theorem RInv.new {p : Prog} {f gs i k n : Nat} {w wr w3 w4 : World} {v v' : Value} {wl : List Nat} {S : Nat → Bool} {cells : List Value} (h : RInv p f gs w wr v wl i S) (hk : wl[i]? = some k) (hS : S k = false)
    (ho3 : OwnB w3 w.heap.size (.slice (some ⟨gs, 0, none⟩) (p.funcs.length / 64 + 1) (p.funcs.length / 64 + 1)) (p.funcs.length / 64 + 1) (Mu.put S k)) (hg : wr.grownBy w3 (some gs))
    (ho4 : w4.ownsRow w.heap.size 3 1 v' n cells) (hn : n = (ofN (wl ++ succ p k)).length) (hc : cells = (ofN (wl ++ succ p k)).map (Value.int .i64)) (hg4 : w3.grownBy w4 v.ownBlock) :
    RInv p f gs w w4 v' (wl ++ succ p k) (i + 1) (Mu.put S k) := by
  obtain ⟨hw3, hb3⟩ := h.mid hg
  refine ⟨h.bfs.new (succ_lt p) hk hS, .of ho4 hn hc, ho3.keep (fun g hg' => hg4.block g (World.ownsRow.lt ho3 g hg').2 (fun e => own_ne_bits hw3 ho3 g hg' e.symm)), hb3.grown hg4 hb3.size (fun q hq => (hw3.lt q hq).1)⟩

def reachB (p : Prog) (f : Nat) : Nat → Bool := rounds_ (succ p) p.funcs.length f p.funcs.length
def reachC (p : Prog) (f : Nat) : List Int := ofN ((List.range p.funcs.length).filter (reachB p f))

set_option maxRecDepth 100000 in
set_option maxHeartbeats 2000000 in
theorem reach_any (p : Prog) (f gb c : Nat) (A : Option Addr) (w : World) (hf : f < p.funcs.length) (hG : GRead gb A c w p) (hsm : tProg.bulk p ≤ 2097152) :
    Calls Try.prog 44 #[.pointer (some ⟨gb, 0, none⟩), .int .i64 f] w fun e w' => ∃ v, e = .returned v ∧ OwnI w' w.heap.size v (reachC p f) ∧ Below w.heap.size w w' := by
  have hpl := prog_funcs_le p
  obtain ⟨tb, to_, Ar, cr, rfl, htb, hrow, hrowR⟩ := slices_at hG.tab (tab_get hf)
  have hst := hG.st
  have hgl := hG.lt
  have hsl := succ_length p f
  obtain ⟨i0, hi, hz0, hz1, hz2⟩ := info_parts int_info
  have HG := Lib.hid hG
  have HRR := Lib.hid hrowR
  clear hG hrowR
  have hRd : Hid (tInt.slice.R w.drew w.drew.heap.size [.slice Ar (ofN (succ p f)).length cr] (ofN (succ p f))) := Ty.keep (B := w.heap.size) HRR.out (fun _ _ => rfl) (Nat.le_refl _)
  have HC1 := Lib.hid (clone_any (w := w.drew) hRd.out (by rw [ofN_length]; omega))
  go_enter Try.func44, Try.ntmps44
  go_wp2_with fail
  go_region_held3 (fun w' => w'.cell? ⟨gb, 0, none⟩ = some (.slice (some ⟨tb, to_, none⟩) p.funcs.length c) ∧ w'.cell? ⟨tb, to_ + f, none⟩ = some (.slice Ar (ofN (succ p f)).length cr))
    (first | go_keep)
    (first
      | (go_at_call 68; refine (bits_new _ p.funcs.length (by omega)).mono ?_; rintro e w2 ⟨rfl, ho2, hg2⟩; have j1 := (hg2.cell (a := ⟨gb, 0, none⟩) k1 (by simp)); have j2 := (hg2.cell (a := ⟨tb, to_ + f, none⟩) k2 (by simp)); have HO2 := Lib.hid ho2; have HG2 := Lib.hid hg2; clear ho2 hg2)
      | (go_at_call 67; refine HC1.out.mono ?_; rintro e w1 ⟨v1, rfl, ho1, hb1⟩; have HO1 := Lib.hid ho1; have k1 := (hb1.cell (p := ⟨gb, 0, none⟩) hgl).trans hst; have k2 := (hb1.cell (p := ⟨tb, to_ + f, none⟩) htb).trans hrow; have HB1 := Lib.hid hb1; clear ho1 hb1))
  have hstart := Lib.hid (RInv.start (show OwnI w1 w.heap.size v1 _ from HO1.out) (undrew HB1.out) HO2.out HG2.out)
  clear HO1 HB1 HO2 HG2 k1 k2 j1 j2
  generalize w1.heap.size = gs at *
  clear w1 hst hrow
  go_wp2_with fail
  go_loopw [5, 7] (fun v i wr => ∃ q : Nat, i = .int .i64 q ∧ Hid (∃ wl S, RInv p f gs w wr v wl q S)) (fun v i _ => (succ p f).length + restOf (succ p) (fun _ => false) p.funcs.length - (RowKit.intOf i).toNat)
  case atStart => exact ⟨0, rfl, _, _, hstart.out⟩
  case round =>
    obtain ⟨q, rfl, hI⟩ := hrel
    obtain ⟨wl, S, hI⟩ := hI.out
    have HI := Lib.hid hI
    have hwl : wl.length ≤ 4398046511104 * 2 := by
      have := hI.bfs.length_le (m := p.funcs.length) (succ_length p)
      have h2 : (p.funcs.length + 1) * p.funcs.length ≤ 2097153 * 2097152 := Nat.mul_le_mul (by omega) (by omega)
      omega
    have hqm : wl.length ≤ (succ p f).length + restOf (succ p) (fun _ => false) p.funcs.length := by
      have := hI.bfs.size
      omega
    have hql := hI.bfs.le
    obtain ⟨Aw, cw, rfl⟩ := own_form hI.wait
    have hol := ofN_length wl
    have HOL := Lib.hid hol
    clear hI hstart hol
    by_cases hlt : q < wl.length
    · obtain ⟨k, hk⟩ : ∃ k, wl[q]? = some k := ⟨_, List.getElem?_eq_getElem hlt⟩
      have hkn : k < p.funcs.length := (HI.out.bfs.sound k (List.mem_of_getElem? hk)).lt (succ_lt p)
      obtain ⟨gw, cw', ew, hgw1, hgw2⟩ := own_form' HI.out.wait (by rw [HOL.out]; omega)
      cases ew
      have hcell := own_cell HI.out.wait (ofN_get hk)
      have hlen : q < (ofN wl).length := by rw [HOL.out]; exact hlt
      have HK := Lib.hid hk
      clear hk
      by_cases hS : S k = true
      · have HS := Lib.hid hS
        clear hS
        go_wp2_with fail
        refine (bits_put' _ w.heap.size (p.funcs.length / 64 + 1) k gs (p.funcs.length / 64 + 1) S HI.out.bits (by omega) (by omega)).mono ?_
        rintro e w3 ⟨rfl, ho3, hg3⟩
        rw [HS.out]
        have hnew := Lib.hid (HI.out.old HK.out HS.out ho3 hg3)
        clear ho3 hg3 HI hcell
        go_wp2_with fail
        go_roundw
        case rel => exact ⟨q + 1, by go_num, _, _, hnew.out⟩
        case measure => simp [RowKit.intOf]; omega
      · have hS' : S k = false := by simpa using hS
        have HS := Lib.hid hS'
        clear hS hS'
        go_wp2_with fail
        refine (bits_put' _ w.heap.size (p.funcs.length / 64 + 1) k gs (p.funcs.length / 64 + 1) S HI.out.bits (by omega) (by omega)).mono ?_
        rintro e w3 ⟨rfl, ho3, hg3⟩
        rw [HS.out]
        obtain ⟨hw3, hb3⟩ := HI.out.mid hg3
        obtain ⟨tb', to', Ak, ck, e', htk, hrow, hrowR⟩ := slices_at HG.out.tab (tab_get hkn)
        cases e'
        have hst3 := (hb3.cell (p := ⟨gb, 0, none⟩) hgl).trans HG.out.st
        have hrow3 := (hb3.cell (p := ⟨tb, to_ + k, none⟩) htk).trans hrow
        have hrR3 := Lib.hid (Ty.below (B := w.heap.size) hrowR hb3 hb3.size)
        have hnl : (wl ++ succ p k).length ≤ 4398048608256 := by
          have h1 := (HI.out.bfs.new (succ_lt p) HK.out HS.out).length_le (m := p.funcs.length) (succ_length p)
          have h2 : (p.funcs.length + 1) * p.funcs.length ≤ 2097153 * 2097152 := Nat.mul_le_mul (by omega) (by omega)
          omega
        have HO3 := Lib.hid ho3
        have HG3 := Lib.hid hg3
        have HW3 := Lib.hid hw3
        have HB3 := Lib.hid hb3
        have HNL := Lib.hid hnl
        clear ho3 hg3 hw3 hb3 hrow hrowR hcell hnl
        rcases Ak with _ | ad
        · obtain ⟨hnil, hz, hcz⟩ := slice_nil_at hrR3.out
          have hsk : succ p k = [] := by
            have := congrArg List.length hnil
            rw [ofN_length] at this
            exact List.eq_nil_of_length_eq_zero (by simpa using this)
          have hnew := Lib.hid (HI.out.new HK.out HS.out HO3.out HG3.out (w4 := w3) HW3.out (by rw [hsk, List.append_nil]) (by rw [hsk, List.append_nil]) (World.grownBy.refl _ _))
          rw [hz, hcz] at hrow3
          clear hnil hz hcz hsk HI
          go_wp2_with (at_builtin; refine wpList_append_own_none rfl (.tmp 38) (.tmp 45) 22 rfl w.heap.size 3 i0 1 Try.underlying22 hi _ _ _ rfl HW3.out rfl ?_)
          go_roundw
          case rel => exact ⟨q + 1, by go_num, _, _, hnew.out⟩
          case measure => simp [RowKit.intOf]; omega
        · have hnews : Hid (∀ (j : Nat) (u : Value), ((ofN (succ p k)).map (Value.int .i64))[j]? = some u → w3.cell? (ad.add j) = some u) := by
            intro j u hu
            simp only [List.getElem?_map, Option.map_eq_some_iff] at hu
            obtain ⟨z, hz, rfl⟩ := hu
            obtain ⟨b5, o5, e5, _, hc5, _⟩ := int_at hrR3.out hz
            cases e5
            rw [Go.WideShapes.add_plain]
            exact hc5
          go_wp2_with (at_builtin; refine wpList_append_own _ rfl (.tmp 38) (.tmp 45) 22 rfl w.heap.size 3 i0 (.int .i64 0) 1 8 Try.underlying22 hi hz0 hz1 hz2 rfl (by decide) _ _ _ rfl HW3.out ad (ofN (succ p k)).length ck ((ofN (succ p k)).map (Value.int .i64)) rfl (by simp) hnews.out (ints_oneCell _ _) ?c3 ?c4 HB3.out.size ?_)
          case c3 => have := HNL.out; rw [List.length_append] at this; rw [ofN_length, ofN_length]; unfold maxLen; omega
          case c4 => have := HNL.out; rw [List.length_append] at this; rw [ofN_length, ofN_length]; omega
          intro v' w4 ho4 hg4 _
          have hnew := Lib.hid (HI.out.new HK.out HS.out HO3.out HG3.out ho4 (by rw [ofN_append, List.length_append]) (by rw [ofN_append, List.map_append]) hg4)
          clear ho4 hg4 HI HO3 HG3 HW3 hnews hst3 hrow3
          go_wp2
          go_roundw
          case rel => exact ⟨q + 1, by go_num, _, _, hnew.out⟩
          case measure => simp [RowKit.intOf]; omega
    · have hge : (ofN wl).length ≤ q := by rw [HOL.out]; omega
      have hdq : decide (q < (ofN wl).length) = false := decide_eq_false (by omega)
      have hfin : Hid (∀ k, S k = reachB p f k) := fun k => by
        have h1 := HI.out.bfs.end_ (by omega) k
        have h2 := rounds_end (succ_lt p) hf k
        rw [Bool.eq_iff_iff, h1, ← h2]
        rfl
      have hst2 := (HI.out.below.cell (p := ⟨gb, 0, none⟩) hgl).trans HG.out.st
      have hb2 := Lib.hid HI.out.bits
      have hbw2 := Lib.hid HI.out.below
      clear HI hqm hql hwl
      go_wp2_with fail
      obtain ⟨wo, rfl⟩ : ∃ wo : World, wo = wr := ⟨_, rfl⟩
      clear hst2
      go_loopw [9, 52] (fun out i wr => ∃ r : Nat, r ≤ p.funcs.length ∧ i = .int .i64 r ∧ Hid (OwnI wr w.heap.size out (ofN ((List.range r).filter S))) ∧ Hid (OwnB wr w.heap.size (.slice (some ⟨gs, 0, none⟩) (p.funcs.length / 64 + 1) (p.funcs.length / 64 + 1)) (p.funcs.length / 64 + 1) S) ∧ Below w.heap.size w wr) (fun _ i _ => p.funcs.length - (RowKit.intOf i).toNat)
      case atStart => exact ⟨0, Nat.zero_le _, rfl, OwnI.nil _ _, hb2, hbw2.out⟩
      case round =>
        obtain ⟨r, hr, rfl, hown, hbits, hbe⟩ := hrel
        have hst := range_filter_step S r
        have hln := range_filter_len S (r + 1)
        have hsz := hbe.size
        have HBE := Lib.hid hbe
        have HST := Lib.hid hst
        have HLN := Lib.hid hln
        clear hbe hst hln hb2 hbw2
        by_cases hlt2 : r < p.funcs.length
        · by_cases hS : S r = true
          · have HS := Lib.hid hS
            clear hS
            go_wp2_with fail
            refine (bits_has _ w.heap.size (p.funcs.length / 64 + 1) r gs (p.funcs.length / 64 + 1) S hbits.out (by omega) (by omega)).mono ?_
            rintro e w3 ⟨rfl, rfl⟩
            rw [HS.out]
            go_wp2_with (at_builtin; refine wpList_append_own _ rfl _ _ 22 rfl w.heap.size 3 i0 (.int .i64 0) 1 8 Try.underlying22 hi hz0 hz1 hz2 rfl (by decide) _ _ _ rfl (hown.out.alloc _) ⟨wr.heap.size, 0, none⟩ 1 1 [.int .i64 r] rfl rfl ?c1 ?c2 ?c3 ?c4 ?c5 ?_)
            case c1 =>
              intro q u hq
              match q, hq with
              | 0, hq => simp at hq; subst hq; simp [Addr.add]
            case c2 => intro u hu; simp at hu; subst hu; rfl
            case c3 => have := HLN.out; rw [HST.out, HS.out] at this; simp at this ⊢; unfold maxLen; omega
            case c4 => have := HLN.out; rw [HST.out, HS.out] at this; simp at this ⊢; omega
            case c5 => simp; omega
            intro v' w2 hown' hgrow _
            have hnew : Hid (OwnI w2 w.heap.size v' (ofN ((List.range (r + 1)).filter S))) := by
              rw [HST.out, HS.out]
              exact .of hown' (by simp) (by simp)
            have hbits2 : Hid (OwnB w2 w.heap.size (.slice (some ⟨gs, 0, none⟩) (p.funcs.length / 64 + 1) (p.funcs.length / 64 + 1)) (p.funcs.length / 64 + 1) S) :=
              OwnB.keep (hbits.out.keep (fun g hg => Below.heap_alloc _ _ _ (World.ownsRow.lt hbits.out g hg).2)) (fun g hg => hgrow.block g (by have := (World.ownsRow.lt hbits.out g hg).2; simp; omega) (fun e => own_ne_bits hown.out hbits.out g hg e.symm))
            have hbe3 : Hid (Below w.heap.size w w2) := (HBE.out.alloc hsz _).grown hgrow (by simp; omega) (fun q hq => (hown.out.lt q hq).1)
            clear hown' hgrow hown HBE hbits
            go_wp2
            go_roundw
            case rel => exact ⟨r + 1, by omega, by go_num, hnew, hbits2, hbe3.out⟩
            case measure => simp [RowKit.intOf]; omega
          · have hS' : S r = false := by simpa using hS
            have HS := Lib.hid hS'
            clear hS hS'
            go_wp2_with fail
            refine (bits_has _ w.heap.size (p.funcs.length / 64 + 1) r gs (p.funcs.length / 64 + 1) S hbits.out (by omega) (by omega)).mono ?_
            rintro e w3 ⟨rfl, rfl⟩
            rw [HS.out]
            have hnew : Hid (OwnI wr w.heap.size u9 (ofN ((List.range (r + 1)).filter S))) := by
              rw [HST.out, HS.out]
              show OwnI _ _ _ _
              simpa using hown.out
            go_wp2_with fail
            go_roundw
            case rel => exact ⟨r + 1, by omega, by go_num, hnew, hbits, HBE.out⟩
            case measure => simp [RowKit.intOf]; omega
        · obtain rfl : r = p.funcs.length := by omega
          go_wp2_with fail
          go_ret
          have hfe : (List.range p.funcs.length).filter S = (List.range p.funcs.length).filter (reachB p f) := List.filter_congr (fun x _ => hfin.out x)
          exact ⟨_, rfl, by rw [reachC, ← hfe]; exact hown.out, HBE.out⟩
end Mu
