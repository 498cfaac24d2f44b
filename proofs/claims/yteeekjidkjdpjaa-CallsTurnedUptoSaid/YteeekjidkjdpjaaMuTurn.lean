/-
  muntinlaw20.CallsTurned, walked: it is true.
  Conditions: the program's bulk is at most 2^20.
-/
import Derived.Test.YteeekjidkjdpjaaMuMore
import Derived.Test.YteeekjidkjdpjaaMuTurnP
import Derived.Test.YteeekjidkjdpjaaMuOwnT
namespace Mu
open Go Go.RowKit Go.Proofs

theorem turned_any (a b : List Int) (n : Nat) (u v : Value) (w : World) (hu : Got u a w) (hv : Got v b w) (ht : TurnedL n a b) (hn : n ≤ 2097152) (ha : a.length ≤ 2097152) (hb : ∀ x ∈ b, 0 ≤ x ∧ x < n) :
    Calls Try.prog 24 #[u, v, .int .i64 n] w fun e w' => e = .returned (.bool true) ∧ Below w.heap.size w w' := by
  obtain ⟨A, c, rfl⟩ := slice_form hu
  obtain ⟨B, d, rfl⟩ := slice_form hv
  have HL := Lib.hid ht.1
  have HT := Lib.hid ht.2
  have HU := Lib.hid hu
  have HV := Lib.hid hv
  have HB := Lib.hid hb
  have hne : (((a.length : Nat) : Int) != ((b.length : Nat) : Int)) = false := by simp [HL.out]
  clear ht hu hv hb
  go_enter Try.func24, Try.ntmps24
  go_wp2_with fail
  go_loopw [7] (fun i wr => ∃ k : Nat, k ≤ a.length ∧ i = .int .i64 k ∧ Below w.heap.size w wr) (fun i _ => a.length - (RowKit.intOf i).toNat)
  case atStart => exact ⟨0, Nat.zero_le _, rfl, Below.refl _ _⟩
  case round =>
    obtain ⟨k, hk, rfl, hbe⟩ := hrel
    by_cases hlt : k < a.length
    · have hlb : k < b.length := by rw [← HL.out]; exact hlt
      obtain ⟨x, hx⟩ : ∃ x, a[k]? = some x := ⟨_, List.getElem?_eq_getElem hlt⟩
      obtain ⟨y, hy⟩ : ∃ y, b[b.length - 1 - k]? = some y := ⟨_, List.getElem?_eq_getElem (by omega)⟩
      have hxy := HT.out k x y hx hy
      obtain ⟨b1, o1, e1, hb1, hc1, _⟩ := int_at HU.out hx
      obtain ⟨b2, o2, e2, hb2, hc2, _⟩ := int_at HV.out hy
      cases e1
      cases e2
      have hc1' := (hbe.cell (p := ⟨b1, o1 + k, none⟩) hb1).trans hc1
      obtain ⟨m, hm⟩ : ∃ m : Nat, m = b.length - 1 - k := ⟨_, rfl⟩
      rw [← hm] at hc2 hy
      have hc2' := (hbe.cell (p := ⟨b2, o2 + m, none⟩) hb2).trans hc2
      have hmi : (b.length : Int) - 1 - (k : Int) = (m : Int) := by omega
      have hml : m < b.length := by omega
      have hyb := HB.out y (List.mem_of_getElem? hy)
      have HXY := Lib.hid hxy
      have hne2 : (x != (n : Int) - 1 - y) = false := by simp [HXY.out]
      clear hx hy hxy hm hc1 hc2
      have hbl : b.length ≤ 2097152 := by rw [← HL.out]; exact ha
      have im0 : (0 : Int) ≤ (m : Int) := by omega
      have im1 : (m : Int) < (b.length : Int) := by omega
      have ik0 : (0 : Int) ≤ (k : Int) := by omega
      have ik1 : (k : Int) < (a.length : Int) := by omega
      go_wp2_with fail
      have w0 : IntKind.i64.wrap ((b.length : Int) - 1) = (b.length : Int) - 1 := IntWalk.i64_in _ (by omega)
      have w1 : IntKind.i64.wrap ((b.length : Int) - 1 - (k : Int)) = (m : Int) := by rw [hmi]; exact IntWalk.i64_in _ (by omega)
      have w2 : IntKind.i64.wrap ((n : Int) - 1) = (n : Int) - 1 := IntWalk.i64_in _ (by omega)
      have w3 : IntKind.i64.wrap ((n : Int) - 1 - y) = (n : Int) - 1 - y := IntWalk.i64_in _ (by omega)
      clear hmi
      go_quiet (fail)
      clear w0 w1 w2 w3
      go_wp2_with fail
      go_roundw
      case rel => exact ⟨k + 1, by omega, by go_num, bdrew hbe _⟩
      case measure => simp [RowKit.intOf]; omega
    · obtain rfl : k = a.length := by omega
      go_wp2_with fail
      go_ret
      exact ⟨rfl, hbe⟩

section
variable {w0 w' : World} {p : Prog} {us : List Value}
theorem fr_calls (f : Int) (hR : tProg.R w0 w0.heap.size us p) (hsm : tProg.bulk p ≤ 2097152) (h : Fr w0 w') :
    Calls Try.prog 17 #[.agg us.toArray, .int .i64 f] w' fun e w'' => ∃ A c, e = .returned (.slice A (callsC p f).length c) ∧ Fr w0 w'' ∧ Got (.slice A (callsC p f).length c) (callsC p f) w'' ∧ Hid (Below w'.heap.size w' w'') :=
  (calls_any p f w' us (Ty.below hR h h.size) hsm).mono fun _ _ ⟨v, h1, h2, h3⟩ => by
    obtain ⟨A, c, rfl⟩ := own_form h2
    exact ⟨A, c, h1, Fr.call' h3 h, OwnI.read h2 (callsC_wf hsm), h3⟩
theorem fr_depthB (f : Int) (hR : tProg.R w0 w0.heap.size us p) (hsm : tProg.bulk p ≤ 2097152) (h : Fr w0 w') :
    Calls Try.prog 21 #[.agg us.toArray, .int .i64 f] w' fun e w'' => e = .returned (.int .i64 (depthC p f)) ∧ Fr w0 w'' := fr_depth f hR hsm h
theorem fr_turned {u v : Value} {a b : List Int} {n : Nat} (h : Fr w0 w') (hu : Got u a w') (hv : Got v b w') (ht : TurnedL n a b) (hn : n ≤ 2097152) (ha : a.length ≤ 2097152) (hb : ∀ x ∈ b, 0 ≤ x ∧ x < n) :
    Calls Try.prog 24 #[u, v, .int .i64 n] w' fun e w'' => e = .returned (.bool true) ∧ Fr w0 w'' :=
  (turned_any a b n u v w' hu hv ht hn ha hb).mono fun _ _ hp => ⟨hp.1, Fr.call' hp.2 h⟩
end
/-- o in the making: its box and the row of its functions -/
def TurnInv (p : Prog) (w : World) (B j : Nat) (wr : World) : Prop :=
  ∃ v S, wr.heap[B]? = some (.cells [Value.int .i64 p.heap, .slice none 0 0, v].toArray 25 (0, 0)) ∧ OwnT tFunc 31 wr (B + 1) v ((turnP p).funcs.take j) S ∧ ∀ k, S k → k < w.heap.size ∨ B + 1 ≤ k
theorem ins_info : (Try.prog.info? 39).map (fun i => (i.zero, i.size, i.bytes)) = some (some (.agg #[.int .u8 0, .int .i64 0, .int .i64 0, .int .i64 0, .int .u32 0, .int .i64 0, .slice none 0 0, .int .i64 0, .int .i64 0]), 9, 88) := by kernel_rfl

theorem ins_turn {w X : World} {S : Nat → Prop} {x : Ins} {A : Option Addr} {c n : Nat} {f' : Int} (h : InsCells w S [.int .u8 x.op, .int .i64 x.d, .int .i64 x.a, .int .i64 x.b, .int .u32 x.n, .int .i64 x.f, .slice A x.args.length c, .int .i64 x.l1, .int .i64 x.l2] x A c)
    (hk : ∀ k, S k → X.heap[k]? = w.heap[k]?) (hf : f' = (turnI n x).f) (hw : wfI .i64 f') :
    tIns.RS X S [.int .u8 x.op, .int .i64 x.d, .int .i64 x.a, .int .i64 x.b, .int .u32 x.n, .int .i64 f', .slice A x.args.length c, .int .i64 x.l1, .int .i64 x.l2] (turnI n x) := by
  obtain ⟨_, k0, k1, k2, k3, k4, k5, k6, k7, k8⟩ := h
  subst hf
  have e : turnI n x = { x with f := (turnI n x).f } := by
    unfold turnI
    split <;> rfl
  rw [e]
  exact tIns_R.2 ⟨A, c, rfl, k0, k1, k2, k3, k4, hw, k6, k7, tInt.slice.keepS k8 hk (fun _ h => h)⟩

theorem map_take_succ {β γ : Type} (g : β → γ) {l : List β} {y : Nat} {x : β} (h : l[y]? = some x) : (l.take (y + 1)).map g = (l.take y).map g ++ [g x] := by
  rw [List.take_add_one, h, Option.toList_some, List.map_append]
  rfl
theorem map_take_len {β γ : Type} (g : β → γ) (l : List β) (y : Nat) : ((l.take y).map g).length ≤ l.length := by
  rw [List.length_map, List.length_take]
  exact Nat.min_le_right _ _
/-- one instruction more -/
theorem turn_ins_step {w wp wr X w2 : World} {nm : ByteArray} {iv v' : Value} {ds : List Ins} {d : Ins} {cells cs : List Value} {m : Nat} (hw : w.heap.size ≤ wp.heap.size) (hb : Below wp.heap.size wp wr)
    (hbox : wr.heap[wp.heap.size]? = some (.cells [Value.string nm, iv].toArray 42 (0, 0))) (ho : wr.ownsRow (wp.heap.size + 1) 39 9 iv ds.length cells)
    (hr : ∀ i d, ds[i]? = some d → tIns.RS wr (fun k => k < w.heap.size) ((cells.drop (i * 9)).take 9) d) (hX : Below wr.heap.size wr X) (hd : tIns.RS X (fun k => k < w.heap.size) cs d) (hm : m = ds.length + 1)
    (ho2 : w2.ownsRow (wp.heap.size + 1) 39 9 v' m (cells ++ cs)) (hg : X.grownBy w2 iv.ownBlock) (hat : v'.ownBlock = iv.ownBlock ∨ v'.ownBlock = some X.heap.size) :
    Below wp.heap.size wp (w2.setCell ⟨wp.heap.size, 1, none⟩ v') ∧ (w2.setCell ⟨wp.heap.size, 1, none⟩ v').heap[wp.heap.size]? = some (.cells [Value.string nm, v'].toArray 42 (0, 0)) ∧
      OwnT tIns 39 (w2.setCell ⟨wp.heap.size, 1, none⟩ v') (wp.heap.size + 1) v' (ds ++ [d]) (fun k => k < w.heap.size) := by
  have hbs := hb.size
  have hXs := hX.size
  have hlt := box_lt hbox
  have ho1 := ho.lt
  have h2 : w2.heap[wp.heap.size]? = some (.cells [Value.string nm, iv].toArray 42 (0, 0)) :=
    (hg.block _ (by omega) (fun e => by have := (ho1 _ e.symm).1; omega)).trans ((hX.block _ hlt).trans hbox)
  have hT := (OwnT.snoc (T := tIns) (S := fun k => k < w.heap.size) (S' := fun k => k < w.heap.size) ho hr (fun k hk => ⟨by omega, fun e => by have := (ho1 _ e).1; omega⟩) (fun k hk => hX.block k (by omega)) hXs hd
    (fun k hk => ⟨by omega, fun e => by have := (ho1 _ e).1; omega⟩) hm ho2 hg hat).congr (S' := fun k => k < w.heap.size) (fun k => or_self_iff)
  have hlt2 := hT.lt
  refine ⟨?_, box_set h2, hT.keep (fun k hk => Below.heap_setCell _ _ _ _ ?_) (by simp [World.setCell])⟩
  · exact ((hb.trans (hX.mono hbs)).grown hg (by omega) (fun q hq => by have := (ho1 _ hq).1; omega)).setCell (Nat.le_refl _) _
  · show k ≠ wp.heap.size
    rcases hk with hk | hk
    · omega
    · have := (hlt2 k hk).1
      omega

/-- one block more -/
theorem turn_block_step {w wp wr X w2 : World} {base : Nat} {nm : ByteArray} {bv iv v' : Value} {ds : List Block} {is : List Ins} {S : Nat → Prop} {cells : List Value} {m : Nat} (hw : w.heap.size < base) (hbp : base ≤ wp.heap.size) (hb : Below wp.heap.size wp wr)
    (ho : wp.ownsRow base 42 2 bv ds.length cells) (hr : ∀ i d, ds[i]? = some d → tBlock.RS wp S ((cells.drop (i * 2)).take 2) d) (hS : ∀ k, S k → k < wp.heap.size ∧ bv.ownBlock ≠ some k) (hSb : ∀ k, S k → k < w.heap.size ∨ base ≤ k)
    (hi : OwnT tIns 39 wr (wp.heap.size + 1) iv is (fun k => k < w.heap.size)) (hnm : nm.size ≤ maxLen) (hX : Below wr.heap.size wr X) (hm : m = ds.length + 1)
    (ho2 : w2.ownsRow base 42 2 v' m (cells ++ [.string nm, iv])) (hg : X.grownBy w2 bv.ownBlock) (hat : v'.ownBlock = bv.ownBlock ∨ v'.ownBlock = some X.heap.size) :
    Below wp.heap.size wp X ∧ Below base wp w2 ∧ ∃ S, OwnT tBlock 42 w2 base v' (ds ++ [⟨nm, is⟩]) S ∧ ∀ k, S k → k < w.heap.size ∨ base ≤ k := by
  have hbs := hb.size
  have hXs := hX.size
  have ho1 := ho.lt
  have hil := hi.lt
  have hWX : Below wp.heap.size wp X := hb.trans (hX.mono hbs)
  obtain ⟨Ai, ci, rfl⟩ := hi.form
  refine ⟨hWX, (hWX.mono hbp).grown hg (by omega) (fun q hq => (ho1 _ hq).1), _, OwnT.snoc (T := tBlock) (S' := fun k => k < w.heap.size ∨ (Value.slice Ai is.length ci).ownBlock = some k) ho hr hS (fun k hk => hWX.block k (hS k hk).1) (by omega)
    (tBlock_R.2 ⟨Ai, ci, rfl, hnm, tIns.slice.keepS hi.read (fun k hk => hX.block k ?_) (fun _ h => h)⟩) (fun k hk => ⟨?_, fun e => ?_⟩) hm ho2 hg hat, fun k hk => ?_⟩
  · rcases hk with hk | hk
    · omega
    · exact (hil k hk).2
  · rcases hk with hk | hk
    · omega
    · have := (hil k hk).2; omega
  · have h1 := ho1 k e
    rcases hk with hk | hk
    · omega
    · have := (hil k hk).1; omega
  · rcases hk with hk | hk | hk
    · exact hSb k hk
    · exact .inl hk
    · have := (hil k hk).1
      exact .inr (by omega)

/-- one function more -/
theorem turn_func_step {p : Prog} {w wo wr X w2 : World} {B m j : Nat} {fn : Func} {bv fv v' : Value} {bs : List Block} {S S2 : Nat → Prop} {cells : List Value} (hw : w.heap.size ≤ B) (hBo : B < wo.heap.size) (hb : Below wo.heap.size wo wr)
    (hbox : wo.heap[B]? = some (.cells [Value.int .i64 p.heap, .slice none 0 0, fv].toArray 25 (0, 0))) (hj : ((turnP p).funcs.take j).length = m) (ho : wo.ownsRow (B + 1) 31 4 fv m cells)
    (hr : ∀ i d, ((turnP p).funcs.take j)[i]? = some d → tFunc.RS wo S ((cells.drop (i * 4)).take 4) d) (hS : ∀ k, S k → k < wo.heap.size ∧ fv.ownBlock ≠ some k) (hSb : ∀ k, S k → k < w.heap.size ∨ B + 1 ≤ k)
    (hbv : OwnT tBlock 42 wr (wo.heap.size + 1) bv bs S2) (hS2 : ∀ k, S2 k → k < w.heap.size ∨ wo.heap.size + 1 ≤ k) (hnm : fn.name.size ≤ maxLen) (hwa : wfI .i64 fn.args) (hwr : wfI .i64 fn.regs) (hd : (turnP p).funcs[j]? = some ⟨fn.name, fn.args, fn.regs, bs⟩)
    (hX : Below wr.heap.size (wr.setCell ⟨wo.heap.size, 3, none⟩ bv) X)
    (ho2 : w2.ownsRow (B + 1) 31 4 v' (m + 1) (cells ++ [.string fn.name, .int .i64 fn.args, .int .i64 fn.regs, bv])) (hg : X.grownBy w2 fv.ownBlock) (hat : v'.ownBlock = fv.ownBlock ∨ v'.ownBlock = some X.heap.size) :
    Below B wo (w2.setCell ⟨B, 2, none⟩ v') ∧ TurnInv p w B (j + 1) (w2.setCell ⟨B, 2, none⟩ v') := by
  subst hj
  have hbs := hb.size
  have hYs : (wr.setCell ⟨wo.heap.size, 3, none⟩ bv).heap.size = wr.heap.size := by simp [World.setCell]
  have hXs := hX.size
  rw [hYs] at hXs
  have ho1 := ho.lt
  have hbl := hbv.lt
  have hY : Below wo.heap.size wo (wr.setCell ⟨wo.heap.size, 3, none⟩ bv) := hb.setCell (Nat.le_refl _) _
  have hWX : Below wo.heap.size wo X := hY.trans (hX.mono hbs)
  have h2 : w2.heap[B]? = some (.cells [Value.int .i64 p.heap, .slice none 0 0, fv].toArray 25 (0, 0)) :=
    (hg.block _ (by omega) (fun e => by have := (ho1 _ e.symm).1; omega)).trans ((hWX.block _ hBo).trans hbox)
  obtain ⟨Ab, cb, rfl⟩ := hbv.form
  have hXr : ∀ k, (S2 k ∨ (Value.slice Ab bs.length cb).ownBlock = some k) → X.heap[k]? = wr.heap[k]? := fun k hk => by
    have hkl : k < wr.heap.size ∧ k ≠ wo.heap.size := by
      rcases hk with hk | hk
      · have h1 := (hbv.far k hk).1
        have h3 := hS2 k hk
        exact ⟨h1, by omega⟩
      · have := hbl k hk
        exact ⟨this.2, by omega⟩
    exact (hX.block k hkl.1).trans (Below.heap_setCell _ _ _ _ (by show k ≠ wo.heap.size; exact hkl.2))
  have hT := OwnT.snoc (T := tFunc) (d := (⟨fn.name, fn.args, fn.regs, bs⟩ : Func)) (S' := fun k => S2 k ∨ (Value.slice Ab bs.length cb).ownBlock = some k) ho hr hS (fun k hk => hWX.block k (hS k hk).1) (by omega)
    (tFunc_R.2 ⟨Ab, cb, rfl, hnm, hwa, hwr, tBlock.slice.keepS hbv.read hXr (fun _ h => h)⟩) (fun k hk => ⟨by
      rcases hk with hk | hk
      · have := (hbv.far k hk).1; omega
      · have := (hbl k hk).2; omega, fun e => by
      have h1 := ho1 k e
      rcases hk with hk | hk
      · have := hS2 k hk; omega
      · have := (hbl k hk).1; omega⟩) rfl ho2 hg hat
  have htk : (turnP p).funcs.take (j + 1) = (turnP p).funcs.take j ++ [⟨fn.name, fn.args, fn.regs, bs⟩] := by rw [List.take_add_one, hd]; rfl
  have hlt2 := hT.lt
  have hSS : ∀ k, (S k ∨ S2 k ∨ (Value.slice Ab bs.length cb).ownBlock = some k) → k < w.heap.size ∨ B + 1 ≤ k := fun k hk => by
    rcases hk with hk | hk | hk
    · exact hSb k hk
    · have := hS2 k hk; omega
    · have := (hbl k hk).1; omega
  have hb2 : Below B wo w2 := (hWX.mono (by omega)).grown hg (by omega) (fun q hq => by have := (ho1 _ hq).1; omega)
  refine ⟨hb2.setCell (Nat.le_refl _) _, v', _, box_set (cs := [_, _, _]) h2, ?_, hSS⟩
  rw [htk]
  refine hT.keep (fun k hk => Below.heap_setCell _ _ _ _ ?_) (by simp [World.setCell])
  show k ≠ B
  rcases hk with hk | hk
  · have := hSS k hk; omega
  · have := (hlt2 k hk).1; omega

set_option maxRecDepth 100000 in
set_option maxHeartbeats 4000000 in
theorem callsTurned_any (p : Prog) (at_ : Int) (w : World) (cs : List Value) (hR : tProg.R w w.heap.size cs p) (hsm : tProg.bulk p ≤ 1048576) (hat : wfI .u8 at_) :
    Calls Try.prog 6 #[.agg cs.toArray, .int .u8 at_] w fun e w' => e = .returned (.bool true) ∧ Below w.heap.size w w' := by
  obtain ⟨A, c, A', c', rfl, _, _, hF⟩ := tProg_R.1 hR
  have hpl := prog_funcs_le p
  have hsm2 : tProg.bulk p ≤ 2097152 := by omega
  have HR := Lib.hid hR
  have HF := Lib.hid hF
  clear hR hF
  obtain ⟨cs, hcs⟩ : ∃ cs : List Value, cs = [.int .i64 p.heap, .slice A' p.threads.length c', .slice A p.funcs.length c] := ⟨_, rfl⟩
  have q0 : ∀ w', Bx w cs 25 w' → w'.cell? ⟨w.heap.size, 0, none⟩ = some (.int .i64 p.heap) := fun w' h => h.cell (by rw [hcs]; rfl)
  have q1 : ∀ w', Bx w cs 25 w' → w'.cell? ⟨w.heap.size, 1, none⟩ = some (.slice A' p.threads.length c') := fun w' h => h.cell (by rw [hcs]; rfl)
  have q2 : ∀ w', Bx w cs 25 w' → w'.cell? ⟨w.heap.size, 2, none⟩ = some (.slice A p.funcs.length c) := fun w' h => h.cell (by rw [hcs]; rfl)
  have hstart : Hid (Bx w cs 25 (w.alloc (.cells [.int .i64 p.heap, .slice A' p.threads.length c', .slice A p.funcs.length c].toArray 25))) := by rw [← hcs]; exact Bx.refl
  clear hcs
  have H13 := Lib.hid fun w' (h : Bx w cs 25 w') => bx_head h
  go_enter Try.func6, Try.ntmps6
  go_wp2_with fail
  refine (bx_great hstart.out HR.out hsm2).mono ?_
  rintro e w1 ⟨b, rfl, hx⟩
  have hlt0 := hx.lt
  clear hstart
  cases b
  · by_cases hz : p.funcs.length = 0
    · have dz : ((p.funcs.length : Int) == 0) = true := by rw [hz]; rfl
      go_wp2_with fail
      refine (H13.out _ hx).mono ?_
      rintro e w2 ⟨rfl, hx2⟩
      go_wp2_with fail
      go_ret
      exact ⟨rfl, hx2.below⟩
    · have dz : ((p.funcs.length : Int) == 0) = false := by rw [beq_eq_false_iff_ne]; omega
      by_cases hn : p.funcs.length ≤ 40
      · have dn : decide (40 < p.funcs.length) = false := decide_eq_false (by omega)
        have h0 : Hid (TurnInv p w w1.heap.size 0 (w1.alloc (.cells [Value.int .i64 p.heap, .slice none 0 0, .slice none 0 0].toArray 25))) :=
          ⟨.slice none 0 0, fun k => k < w.heap.size, heap_alloc_new w1 _, OwnT.nil (fun k hk => by simp; omega), fun k hk => .inl hk⟩
        have hx0 := hx.alloc (.cells [Value.int .i64 p.heap, .slice none 0 0, .slice none 0 0].toArray 25)
        have ht0 : Hid (TurnInv p w w1.heap.size 0 (w1.alloc (.cells [Value.int .i64 p.heap, .slice none 0 0, .slice none 0 0].toArray 25)) ∧ w1.heap.size < (w1.alloc (.cells [Value.int .i64 p.heap, .slice none 0 0, .slice none 0 0].toArray 25)).heap.size) := ⟨h0.out, by simp⟩
        have wn : 0 < p.funcs.length := by omega
        clear hz h0
        go_wp2_with fail
        go_loopw [7] (fun i wr => ∃ (j : Nat) (z : Int), j ≤ p.funcs.length ∧ i = .int .i64 z ∧ Hid (z = (p.funcs.length : Int) - 1 - j) ∧ Bx w cs 25 wr ∧ Hid (TurnInv p w w1.heap.size j wr)) (fun i _ => (RowKit.intOf i + 1).toNat)
        case atStart => exact ⟨0, _, Nat.zero_le _, rfl, by show _ = _; omega, hx0, ht0.out.1⟩
        case round =>
          obtain ⟨j, z, hj, rfl, hzj, hxr, hinv⟩ := hrel
          obtain ⟨wo, rfl⟩ : ∃ wo : World, wo = wr := ⟨_, rfl⟩
          by_cases hlt : j < p.funcs.length
          · obtain ⟨r, hr⟩ : ∃ r : Nat, z = r := ⟨z.toNat, by have := hzj.out; omega⟩
            subst hr
            have hrl : r < p.funcs.length := by have := hzj.out; omega
            obtain ⟨fn, b, o, Aq, cq, rfl, hbl, hfn, hfs, k0, k1, k2, k3, hRf⟩ := func_fact HF.out (k := r) hrl hsm2
            have r0 := (hxr.far (a := ⟨b, o + r * 4, none⟩) hbl).trans k0
            have r1 := (hxr.far (a := ⟨b, o + r * 4 + 1, none⟩) hbl).trans k1
            have r2 := (hxr.far (a := ⟨b, o + r * 4 + 2, none⟩) hbl).trans k2
            have r3 := (hxr.far (a := ⟨b, o + r * 4 + 3, none⟩) hbl).trans k3
            have hQ := q2 _ hxr
            obtain ⟨W, hW⟩ : ∃ W : World, W = wo.alloc (.cells [.string fn.name, .int .i64 fn.args, .int .i64 fn.regs, .slice Aq fn.blocks.length cq].toArray 31) := ⟨_, rfl⟩
            have hWs : W.heap.size = wo.heap.size + 1 := by rw [hW]; simp
            have hWx : Hid (Bx w cs 25 W) := by rw [hW]; exact hxr.alloc _
            have hWb : Hid (Below wo.heap.size wo W) := by rw [hW]; exact (Below.refl _ _).alloc (Nat.le_refl _) _
            have hWf : Hid (W.heap[wo.heap.size]? = some (.cells [.string fn.name, .int .i64 fn.args, .int .i64 fn.regs, .slice Aq fn.blocks.length cq].toArray 31 (0, 0))) := by rw [hW]; exact heap_alloc_new wo _
            have hbl4 := func_blocks_le fn
            have hBR := Lib.hid (func_blocks hRf)
            have hlt1 := hxr.lt
            have hst2 : Hid (∃ S, OwnT tBlock 42 W (wo.heap.size + 1) (.slice none 0 0) ((fn.blocks.take 0).map (turnB p.funcs.length)) S ∧ ∀ k, S k → k < w.heap.size ∨ wo.heap.size + 1 ≤ k) :=
              ⟨fun k => k < w.heap.size, OwnT.nil (fun k hk => by omega), fun k hk => .inl hk⟩
            have HXR := Lib.hid hxr
            have HFN := Lib.hid hfn
            have HRF := Lib.hid hRf
            clear k0 k1 k2 k3 hxr hfn hRf
            go_wp2_with fail
            have hWW : wo.alloc (.cells #[.string fn.name, .int .i64 fn.args, .int .i64 fn.regs, .slice Aq fn.blocks.length cq] 31) = W := hW.symm
            rw [hWW]
            clear hWW hW r0 r1 r2 r3 hQ
            go_loopw [9, 10] (fun bv k wr => ∃ m : Nat, m ≤ fn.blocks.length ∧ k = .int .i64 m ∧ Below (wo.heap.size + 1) W wr ∧ Hid (∃ S, OwnT tBlock 42 wr (wo.heap.size + 1) bv ((fn.blocks.take m).map (turnB p.funcs.length)) S ∧ ∀ k, S k → k < w.heap.size ∨ wo.heap.size + 1 ≤ k)) (fun _ k _ => fn.blocks.length - (RowKit.intOf k).toNat)
            case atStart => exact ⟨0, Nat.zero_le _, rfl, Below.refl _ _, hst2⟩
            case round =>
              obtain ⟨m, hm, rfl, hbe, hown⟩ := hrel
              obtain ⟨wp, rfl⟩ : ∃ wp : World, wp = wr := ⟨_, rfl⟩
              clear hst2
              have hf3 := (hbe.cell (p := ⟨wo.heap.size, 3, none⟩) (by show wo.heap.size < _; omega)).trans (box_cell hWf.out (j := 3) rfl)
              have hpx : Bx w cs 25 wp := Below.trans hWx.out (hbe.mono (by omega))
              have hps := hbe.size
              by_cases hlt2 : m < fn.blocks.length
              · obtain ⟨bl, hbk⟩ : ∃ bl, fn.blocks[m]? = some bl := ⟨_, List.getElem?_eq_getElem hlt2⟩
                obtain ⟨bb, bo, Ai, ci, rfl, hbb, hc0, hc1, hnm, hIR⟩ := block_at hBR.out hbk
                have hc0' := (hpx.far (a := ⟨bb, bo + m * 2, none⟩) hbb).trans hc0
                have hil := block_ins_le bl
                have hbb2 := func_block_le (List.mem_of_getElem? hbk)
                have hst3 : Hid (∃ iv, (wp.alloc (.cells [Value.string bl.name, .slice none 0 0].toArray 42)).heap[wp.heap.size]? = some (.cells [Value.string bl.name, iv].toArray 42 (0, 0)) ∧ OwnT tIns 39 (wp.alloc (.cells [Value.string bl.name, .slice none 0 0].toArray 42)) (wp.heap.size + 1) iv ((bl.ins.take 0).map (turnI p.funcs.length)) (fun k => k < w.heap.size)) :=
                  ⟨_, heap_alloc_new wp _, OwnT.nil (fun k hk => by simp; omega)⟩
                have HBK := Lib.hid hbk
                have HIR := Lib.hid hIR
                have HBE := Lib.hid hbe
                clear hc0 hbk hIR hbe
                go_wp2_with fail
                go_loopw [12] (fun i wr => ∃ y : Nat, y ≤ bl.ins.length ∧ i = .int .i64 y ∧ Below wp.heap.size wp wr ∧ Hid (∃ iv, wr.heap[wp.heap.size]? = some (.cells [Value.string bl.name, iv].toArray 42 (0, 0)) ∧ OwnT tIns 39 wr (wp.heap.size + 1) iv ((bl.ins.take y).map (turnI p.funcs.length)) (fun k => k < w.heap.size))) (fun i _ => bl.ins.length - (RowKit.intOf i).toNat)
                case atStart => exact ⟨0, Nat.zero_le _, rfl, (Below.refl _ _).alloc (Nat.le_refl _) _, hst3⟩
                case round =>
                  obtain ⟨y, hy, rfl, hbe3, hI⟩ := hrel
                  clear hst3
                  have hrx : Bx w cs 25 wr := hpx.call hbe3
                  have hg3 := (hbe3.cell (p := ⟨wo.heap.size, 3, none⟩) (by show wo.heap.size < _; omega)).trans hf3
                  have hc1' := (hrx.far (a := ⟨bb, bo + m * 2 + 1, none⟩) hbb).trans hc1
                  have hrs := hbe3.size
                  obtain ⟨iv, hbox, cells, hio, hir, _⟩ := hI.out
                  have hb1 := box_cell (j := 1) hbox rfl
                  have hfz := box_free (j := 1) hbox
                  have hblt := box_lt hbox
                  by_cases hlt3 : y < bl.ins.length
                  · obtain ⟨x, hxk⟩ : ∃ x, bl.ins[y]? = some x := ⟨_, List.getElem?_eq_getElem hlt3⟩
                    obtain ⟨ib, io, Aa, ca, rfl, hib, hat2⟩ := ins_at HIR.out hxk
                    have tr : ∀ {d : Nat} {v : Value}, w.cell? ⟨ib, d, none⟩ = some v → wr.cell? ⟨ib, d, none⟩ = some v := fun {d v} h => (hrx.far (a := ⟨ib, d, none⟩) hib).trans h
                    have e0 := tr hat2.c0
                    have e1 := tr hat2.c1
                    have e2 := tr hat2.c2
                    have e3 := tr hat2.c3
                    have e4 := tr hat2.c4
                    have e5 := tr hat2.c5
                    have e6 := tr hat2.c6
                    have e7 := tr hat2.c7
                    have e8 := tr hat2.c8
                    have HAT := Lib.hid hat2
                    have HXK := Lib.hid hxk
                    have HBOX := Lib.hid hbox
                    have HIO := Lib.hid hio
                    have HIRR := Lib.hid hir
                    have HB3 := Lib.hid hbe3
                    obtain ⟨iI, hiI, hj0, hj1, hj2⟩ := info_parts ins_info
                    clear tr hat2 hxk hbox hio hir hbe3 hI
                    by_cases h5 : x.op = 5
                    · by_cases h0 : 0 ≤ x.f
                      · by_cases hfn : x.f < p.funcs.length
                        · have d5 : (x.op == 5) = true := by simp [h5]
                          have d0 : decide (0 ≤ x.f) = true := by simp [h0]
                          have dn2 : decide (x.f < (p.funcs.length : Int)) = true := by simp [hfn]
                          have hf' : Hid ((p.funcs.length : Int) - 1 - x.f = (turnI p.funcs.length x).f) := by simp [Hid, turnI, isCall, h5, h0, hfn]
                          have hw' : wfI .i64 ((p.funcs.length : Int) - 1 - x.f) := by simp [wfI, Lit.wf, IntKind.min, IntKind.max, IntKind.signed, IntKind.bits]; omega
                          clear h5
                          have hml := map_take_len (turnI p.funcs.length) bl.ins y
                          go_wp2_with (at_builtin; refine list_more rfl (.tmp 102) (.tmp 104) _ rfl (wp.heap.size + 1) 39 iI _ 9 88 Try.underlying40 hiI hj0 hj1 hj2 rfl (by decide) rfl ((World.ownsRow.alloc (World.ownsRow.alloc HIO.out _) _)) rfl (src_two rfl) (by simp [Value.oneCell']) (by unfold maxLen; omega) (by omega) (by simp; omega) ?_)
                          intro v2 w2 ho2 hg2 hat3
                          obtain ⟨g2, c2, rfl, _, _⟩ := ho2.form (by omega)
                          have hstep := Lib.hid (turn_ins_step (w := w) (by omega) HB3.out HBOX.out HIO.out HIRR.out (((Below.refl _ _).alloc (Nat.le_refl _) _).alloc (by simp) _) (ins_turn HAT.out.raw ((hrx.alloc _).alloc _).below.block hf'.out hw') (by simp; omega) ho2 hg2 (by rcases hat3 with h | h; exact .inl h; exact .inr (by rw [h]; simp)))
                          have hq2 := (hg2.block wp.heap.size (by simp; omega) (fun e => by have := (World.ownsRow.lt HIO.out _ e.symm).1; omega)).trans (box_alloc (box_alloc HBOX.out _) _)
                          have hqc := box_cell (cs := [_, _]) (j := 1) hq2 rfl
                          have hqf := box_free (j := 1) hq2
                          have hnew : Hid (∃ iv, (w2.setCell ⟨wp.heap.size, 1, none⟩ (.slice (some ⟨g2, 0, none⟩) (y + 1) c2)).heap[wp.heap.size]? = some (.cells [Value.string bl.name, iv].toArray 42 (0, 0)) ∧ OwnT tIns 39 (w2.setCell ⟨wp.heap.size, 1, none⟩ (.slice (some ⟨g2, 0, none⟩) (y + 1) c2)) (wp.heap.size + 1) iv ((bl.ins.take (y + 1)).map (turnI p.funcs.length)) (fun k => k < w.heap.size)) := by
                            rw [map_take_succ _ HXK.out]
                            exact ⟨_, hstep.out.2.1, hstep.out.2.2⟩
                          have hbn := Lib.hid hstep.out.1
                          clear ho2 hg2 hat3 hq2 hstep e0 e1 e2 e3 e4 e5 e6 e7 e8 hb1 hfz hg3 hc1'
                          go_wp2_with fail
                          go_roundw
                          case rel => exact ⟨y + 1, by omega, by go_num, hbn.out, hnew⟩
                          case measure => simp [RowKit.intOf]; omega
                        · have d5 : (x.op == 5) = true := by simp [h5]
                          have d0 : decide (0 ≤ x.f) = true := by simp [h0]
                          have dn2 : decide (x.f < (p.funcs.length : Int)) = false := decide_eq_false hfn
                          have hf' : Hid (x.f = (turnI p.funcs.length x).f) := by simp [Hid, turnI, isCall, hfn]
                          have hw' : wfI .i64 x.f := HAT.out.raw.f
                          clear h5
                          have hml := map_take_len (turnI p.funcs.length) bl.ins y
                          go_wp2_with (at_builtin; refine list_more rfl (.tmp 102) (.tmp 104) _ rfl (wp.heap.size + 1) 39 iI _ 9 88 Try.underlying40 hiI hj0 hj1 hj2 rfl (by decide) rfl ((World.ownsRow.alloc (World.ownsRow.alloc HIO.out _) _)) rfl (src_two rfl) (by simp [Value.oneCell']) (by unfold maxLen; omega) (by omega) (by simp; omega) ?_)
                          intro v2 w2 ho2 hg2 hat3
                          obtain ⟨g2, c2, rfl, _, _⟩ := ho2.form (by omega)
                          have hstep := Lib.hid (turn_ins_step (w := w) (by omega) HB3.out HBOX.out HIO.out HIRR.out (((Below.refl _ _).alloc (Nat.le_refl _) _).alloc (by simp) _) (ins_turn HAT.out.raw ((hrx.alloc _).alloc _).below.block hf'.out hw') (by simp; omega) ho2 hg2 (by rcases hat3 with h | h; exact .inl h; exact .inr (by rw [h]; simp)))
                          have hq2 := (hg2.block wp.heap.size (by simp; omega) (fun e => by have := (World.ownsRow.lt HIO.out _ e.symm).1; omega)).trans (box_alloc (box_alloc HBOX.out _) _)
                          have hqc := box_cell (cs := [_, _]) (j := 1) hq2 rfl
                          have hqf := box_free (j := 1) hq2
                          have hnew : Hid (∃ iv, (w2.setCell ⟨wp.heap.size, 1, none⟩ (.slice (some ⟨g2, 0, none⟩) (y + 1) c2)).heap[wp.heap.size]? = some (.cells [Value.string bl.name, iv].toArray 42 (0, 0)) ∧ OwnT tIns 39 (w2.setCell ⟨wp.heap.size, 1, none⟩ (.slice (some ⟨g2, 0, none⟩) (y + 1) c2)) (wp.heap.size + 1) iv ((bl.ins.take (y + 1)).map (turnI p.funcs.length)) (fun k => k < w.heap.size)) := by
                            rw [map_take_succ _ HXK.out]
                            exact ⟨_, hstep.out.2.1, hstep.out.2.2⟩
                          have hbn := Lib.hid hstep.out.1
                          clear ho2 hg2 hat3 hq2 hstep e0 e1 e2 e3 e4 e5 e6 e7 e8 hb1 hfz hg3 hc1'
                          go_wp2_with fail
                          go_roundw
                          case rel => exact ⟨y + 1, by omega, by go_num, hbn.out, hnew⟩
                          case measure => simp [RowKit.intOf]; omega
                      · have d5 : (x.op == 5) = true := by simp [h5]
                        have d0 : decide (0 ≤ x.f) = false := decide_eq_false h0
                        have hf' : Hid (x.f = (turnI p.funcs.length x).f) := by simp [Hid, turnI, isCall, h0]
                        have hw' : wfI .i64 x.f := HAT.out.raw.f
                        clear h5
                        have hml := map_take_len (turnI p.funcs.length) bl.ins y
                        go_wp2_with (at_builtin; refine list_more rfl (.tmp 102) (.tmp 104) _ rfl (wp.heap.size + 1) 39 iI _ 9 88 Try.underlying40 hiI hj0 hj1 hj2 rfl (by decide) rfl ((World.ownsRow.alloc (World.ownsRow.alloc HIO.out _) _)) rfl (src_two rfl) (by simp [Value.oneCell']) (by unfold maxLen; omega) (by omega) (by simp; omega) ?_)
                        intro v2 w2 ho2 hg2 hat3
                        obtain ⟨g2, c2, rfl, _, _⟩ := ho2.form (by omega)
                        have hstep := Lib.hid (turn_ins_step (w := w) (by omega) HB3.out HBOX.out HIO.out HIRR.out (((Below.refl _ _).alloc (Nat.le_refl _) _).alloc (by simp) _) (ins_turn HAT.out.raw ((hrx.alloc _).alloc _).below.block hf'.out hw') (by simp; omega) ho2 hg2 (by rcases hat3 with h | h; exact .inl h; exact .inr (by rw [h]; simp)))
                        have hq2 := (hg2.block wp.heap.size (by simp; omega) (fun e => by have := (World.ownsRow.lt HIO.out _ e.symm).1; omega)).trans (box_alloc (box_alloc HBOX.out _) _)
                        have hqc := box_cell (cs := [_, _]) (j := 1) hq2 rfl
                        have hqf := box_free (j := 1) hq2
                        have hnew : Hid (∃ iv, (w2.setCell ⟨wp.heap.size, 1, none⟩ (.slice (some ⟨g2, 0, none⟩) (y + 1) c2)).heap[wp.heap.size]? = some (.cells [Value.string bl.name, iv].toArray 42 (0, 0)) ∧ OwnT tIns 39 (w2.setCell ⟨wp.heap.size, 1, none⟩ (.slice (some ⟨g2, 0, none⟩) (y + 1) c2)) (wp.heap.size + 1) iv ((bl.ins.take (y + 1)).map (turnI p.funcs.length)) (fun k => k < w.heap.size)) := by
                          rw [map_take_succ _ HXK.out]
                          exact ⟨_, hstep.out.2.1, hstep.out.2.2⟩
                        have hbn := Lib.hid hstep.out.1
                        clear ho2 hg2 hat3 hq2 hstep e0 e1 e2 e3 e4 e5 e6 e7 e8 hb1 hfz hg3 hc1'
                        go_wp2_with fail
                        go_roundw
                        case rel => exact ⟨y + 1, by omega, by go_num, hbn.out, hnew⟩
                        case measure => simp [RowKit.intOf]; omega
                    · have d5 : (x.op == 5) = false := by simp [h5]
                      have hf' : Hid (x.f = (turnI p.funcs.length x).f) := by simp [Hid, turnI, isCall, h5]
                      have hw' : wfI .i64 x.f := HAT.out.raw.f
                      clear h5
                      have hml := map_take_len (turnI p.funcs.length) bl.ins y
                      go_wp2_with (at_builtin; refine list_more rfl (.tmp 102) (.tmp 104) _ rfl (wp.heap.size + 1) 39 iI _ 9 88 Try.underlying40 hiI hj0 hj1 hj2 rfl (by decide) rfl ((World.ownsRow.alloc (World.ownsRow.alloc HIO.out _) _)) rfl (src_two rfl) (by simp [Value.oneCell']) (by unfold maxLen; omega) (by omega) (by simp; omega) ?_)
                      intro v2 w2 ho2 hg2 hat3
                      obtain ⟨g2, c2, rfl, _, _⟩ := ho2.form (by omega)
                      have hstep := Lib.hid (turn_ins_step (w := w) (by omega) HB3.out HBOX.out HIO.out HIRR.out (((Below.refl _ _).alloc (Nat.le_refl _) _).alloc (by simp) _) (ins_turn HAT.out.raw ((hrx.alloc _).alloc _).below.block hf'.out hw') (by simp; omega) ho2 hg2 (by rcases hat3 with h | h; exact .inl h; exact .inr (by rw [h]; simp)))
                      have hq2 := (hg2.block wp.heap.size (by simp; omega) (fun e => by have := (World.ownsRow.lt HIO.out _ e.symm).1; omega)).trans (box_alloc (box_alloc HBOX.out _) _)
                      have hqc := box_cell (cs := [_, _]) (j := 1) hq2 rfl
                      have hqf := box_free (j := 1) hq2
                      have hnew : Hid (∃ iv, (w2.setCell ⟨wp.heap.size, 1, none⟩ (.slice (some ⟨g2, 0, none⟩) (y + 1) c2)).heap[wp.heap.size]? = some (.cells [Value.string bl.name, iv].toArray 42 (0, 0)) ∧ OwnT tIns 39 (w2.setCell ⟨wp.heap.size, 1, none⟩ (.slice (some ⟨g2, 0, none⟩) (y + 1) c2)) (wp.heap.size + 1) iv ((bl.ins.take (y + 1)).map (turnI p.funcs.length)) (fun k => k < w.heap.size)) := by
                        rw [map_take_succ _ HXK.out]
                        exact ⟨_, hstep.out.2.1, hstep.out.2.2⟩
                      have hbn := Lib.hid hstep.out.1
                      clear ho2 hg2 hat3 hq2 hstep e0 e1 e2 e3 e4 e5 e6 e7 e8 hb1 hfz hg3 hc1'
                      go_wp2_with fail
                      go_roundw
                      case rel => exact ⟨y + 1, by omega, by go_num, hbn.out, hnew⟩
                      case measure => simp [RowKit.intOf]; omega
                  · obtain rfl : y = bl.ins.length := by omega
                    obtain ⟨iv2, hbox2, hIT⟩ := hI.out
                    have eiv : iv2 = iv := by rw [hbox] at hbox2; simpa using hbox2.symm
                    subst eiv
                    rw [List.take_length] at hIT
                    obtain ⟨Ai2, ci2, efm⟩ := hIT.form
                    rw [List.length_map] at efm
                    subst efm
                    obtain ⟨S2, ⟨cells2, hbo, hbr, hbf⟩, hbS⟩ := hown.out
                    obtain ⟨iB, hiB, hy0, hy1, hy2⟩ := info_parts block_info
                    have hb0 := box_cell (j := 0) hbox rfl
                    have hml := map_take_len (turnB p.funcs.length) fn.blocks m
                    have hoX : Hid ((wr.alloc (.cells #[.string bl.name, .slice Ai2 bl.ins.length ci2] 42)).ownsRow (wo.heap.size + 1) 42 2 u9 ((fn.blocks.take m).map (turnB p.funcs.length)).length cells2) :=
                      (ownsRow_keep hbo (fun k hk => hbe3.block k (World.ownsRow.lt hbo k hk).2)).alloc _
                    have HBO := Lib.hid hbo
                    have HBR := Lib.hid hbr
                    have HBF := Lib.hid hbf
                    have HBS := Lib.hid hbS
                    have HIT := Lib.hid hIT
                    have HB3 := Lib.hid hbe3
                    clear hbo hbr hbf hbS hIT hbe3 hbox2 hbox hio hir hI hown
                    go_wp2_with (at_builtin; refine list_more rfl (.tmp 107) (.tmp 109) _ rfl (wo.heap.size + 1) 42 iB _ 2 40 Try.underlying29 hiB hy0 hy1 hy2 rfl (by decide) rfl hoX.out rfl (src_one rfl) (by simp [Value.oneCell']) (by unfold maxLen; omega) (by omega) (by simp; omega) ?_)
                    intro v2 w2 ho2 hg2 hat3
                    obtain ⟨g2, c2, rfl, _, _⟩ := ho2.form (by omega)
                    have hstep := Lib.hid (turn_block_step (w := w) (by omega) (by omega) HB3.out HBO.out HBR.out HBF.out HBS.out HIT.out hnm ((Below.refl _ _).alloc (Nat.le_refl _) _) (by simp; omega) ho2 hg2 (by rcases hat3 with h | h; exact .inl h; exact .inr (by rw [h]; simp)))
                    have hnew : Hid (∃ S, OwnT tBlock 42 w2 (wo.heap.size + 1) (.slice (some ⟨g2, 0, none⟩) (m + 1) c2) ((fn.blocks.take (m + 1)).map (turnB p.funcs.length)) S ∧ ∀ k, S k → k < w.heap.size ∨ wo.heap.size + 1 ≤ k) := by
                      rw [map_take_succ _ HBK.out]
                      exact hstep.out.2.2
                    have hbn := Lib.hid (HBE.out.trans hstep.out.2.1)
                    clear ho2 hg2 hat3 hstep hoX hb0 hb1 hfz hg3 hc1'
                    go_wp2_with fail
                    go_roundw
                    case rel => exact ⟨m + 1, by omega, by go_num, hbn.out, hnew⟩
                    case measure => simp [RowKit.intOf]; omega
              · obtain rfl : m = fn.blocks.length := by omega
                obtain ⟨S2, hBT, hbS⟩ := hown.out
                rw [List.take_length] at hBT
                obtain ⟨Ab2, cb2, efm⟩ := hBT.form
                rw [List.length_map] at efm
                subst efm
                obtain ⟨fv, S, hbox, ⟨cells, hfo, hfr, hff⟩, hfS⟩ := hinv.out
                obtain ⟨iF, hiF, hz0, hz1, hz2⟩ := info_parts func_info
                have hbox2 := (hWb.out.block _ (box_lt hbox)).trans hbox
                have hBlt := box_lt hbox
                have hbox3 := (hbe.block _ (by omega)).trans hbox2
                have hfb := (hbe.block wo.heap.size (by omega)).trans hWf.out
                have hfc0 := box_cell (j := 0) hfb rfl
                have hfc1 := box_cell (j := 1) hfb rfl
                have hfc2 := box_cell (j := 2) hfb rfl
                have hffz := box_free (j := 3) hfb
                have hoc := box_cell (j := 2) hbox3 rfl
                have htl : Hid (((turnP p).funcs.take j).length = j) := by
                  have := turn_len p
                  show _ = _
                  rw [List.length_take]
                  omega
                have hml : ((turnP p).funcs.take j).length ≤ 40 := by have := htl.out; omega
                have hwp : Below wo.heap.size wo wp := hWb.out.trans (hbe.mono (by omega))
                rw [htl.out] at hfo
                have hoX : Hid (((wp.setCell ⟨wo.heap.size, 3, none⟩ (.slice Ab2 fn.blocks.length cb2)).alloc (.cells #[.string fn.name, .int .i64 fn.args, .int .i64 fn.regs, .slice Ab2 fn.blocks.length cb2] 31)).ownsRow (w1.heap.size + 1) 31 4 fv j cells) :=
                  (ownsRow_keep (ownsRow_keep hfo (fun k hk => hwp.block k (World.ownsRow.lt hfo k hk).2)) (fun k hk => Below.heap_setCell _ _ _ _ (by have := (World.ownsRow.lt hfo k hk).2; show k ≠ wo.heap.size; omega))).alloc _
                have hsrc : Hid (Src ((wp.setCell ⟨wo.heap.size, 3, none⟩ (.slice Ab2 fn.blocks.length cb2)).alloc (.cells #[.string fn.name, .int .i64 fn.args, .int .i64 fn.regs, .slice Ab2 fn.blocks.length cb2] 31)) 4 (some ⟨wp.heap.size, 0, none⟩) 1 [.string fn.name, .int .i64 fn.args, .int .i64 fn.regs, .slice Ab2 fn.blocks.length cb2]) := by
                  have h := src_one (w := wp.setCell ⟨wo.heap.size, 3, none⟩ (.slice Ab2 fn.blocks.length cb2)) (size := 4) (m := 1) (cs := #[.string fn.name, .int .i64 fn.args, .int .i64 fn.regs, .slice Ab2 fn.blocks.length cb2]) (t := 31) rfl
                  rw [show (wp.setCell ⟨wo.heap.size, 3, none⟩ (.slice Ab2 fn.blocks.length cb2)).heap.size = wp.heap.size from by simp [World.setCell]] at h
                  exact h
                have hYs : Hid ((wp.setCell ⟨wo.heap.size, 3, none⟩ (.slice Ab2 fn.blocks.length cb2)).heap.size = wp.heap.size) := by simp [World.setCell, Hid]
                have HWP := Lib.hid hwp
                have HBOX := Lib.hid hbox
                have HFO := Lib.hid hfo
                have HFR := Lib.hid hfr
                have HFF := Lib.hid hff
                have HFS := Lib.hid hfS
                have HBT := Lib.hid hBT
                have HBS := Lib.hid hbS
                have hfq : Hid ((wp.setCell ⟨wo.heap.size, 3, none⟩ (.slice Ab2 fn.blocks.length cb2)).heap[w1.heap.size]? = some (.cells [Value.int .i64 p.heap, .slice none 0 0, fv].toArray 25 (0, 0))) := box_far hbox3 (by show w1.heap.size ≠ wo.heap.size; omega)
                clear hwp hbox hfo hfr hff hfS hBT hbS hbox2 hbox3 hfb hbe hown hinv
                go_wp2_with (at_builtin; refine list_more rfl (.tmp 114) (.tmp 116) _ rfl (w1.heap.size + 1) 31 iF _ 4 56 Try.underlying23 hiF hz0 hz1 hz2 rfl (by decide) rfl hoX.out rfl hsrc.out (by simp [Value.oneCell']) (by unfold maxLen; omega) (by omega) (by simp [World.setCell]; omega) ?_)
                intro v2 w2 ho2 hg2 hat3
                obtain ⟨g2, c2, rfl, _, _⟩ := ho2.form (by omega)
                obtain ⟨_, _, _, hnm, hwa, hwr, _⟩ := tFunc_R.1 HRF.out
                have hjr : j = rev p.funcs.length r := by have := hzj.out; unfold rev; omega
                have hd : Hid ((turnP p).funcs[j]? = some ⟨fn.name, fn.args, fn.regs, fn.blocks.map (turnB p.funcs.length)⟩) := by
                  rw [hjr]
                  exact turn_at HFN.out
                have hstep := Lib.hid (turn_func_step (w := w) (by omega) hBlt HWP.out HBOX.out htl.out HFO.out HFR.out HFF.out HFS.out HBT.out HBS.out hnm hwa hwr hd.out ((Below.refl _ _).alloc (by rw [hYs.out]; omega) _) ho2 hg2 (by rcases hat3 with h | h; exact .inl h; exact .inr (by rw [h]; simp [World.setCell])))
                have hbq := hg2.block w1.heap.size (by simp [World.setCell]; omega) (fun e => by have := (World.ownsRow.lt HFO.out _ e.symm).1; omega)
                have hq2 := hbq.trans (box_alloc hfq.out _)
                have hqc := box_cell (cs := [_, _, _]) (j := 2) hq2 rfl
                have hqf := box_free (j := 2) hq2
                have hbn : Hid (Bx w cs 25 (w2.setCell ⟨w1.heap.size, 2, none⟩ (.slice (some ⟨g2, 0, none⟩) (j + 1) c2))) := Below.trans HXR.out (hstep.out.1.mono (by omega))
                have hin := Lib.hid hstep.out.2
                have hz2 : Hid ((r : Int) - 1 = (p.funcs.length : Int) - 1 - ((j + 1 : Nat) : Int)) := by have := hzj.out; show _ = _; omega
                clear ho2 hg2 hat3 hbq hq2 hstep hoX hsrc hYs hd hjr hfc0 hfc1 hfc2 hffz hoc hfq hnm hwa hwr
                go_wp2_with fail
                go_roundw
                case rel => exact ⟨j + 1, _, by omega, rfl, hz2, hbn.out, hin⟩
                case measure => simp [RowKit.intOf]
          · obtain rfl : j = p.funcs.length := by omega
            have hz1 : z < 0 := by have := hzj.out; omega
            obtain ⟨v, S, hbox, hown, hSb⟩ := hinv.out
            have htf : (turnP p).funcs.take p.funcs.length = (turnP p).funcs := List.take_of_length_le (by rw [turn_len]; omega)
            rw [htf] at hown
            obtain ⟨Av, cv, efm⟩ := hown.form
            rw [turn_len] at efm
            subst efm
            have hRo : Hid (tProg.R wo wo.heap.size [.int .i64 p.heap, .slice none 0 0, .slice Av p.funcs.length cv] (turnP p)) := by
              refine tProg_R.2 ⟨Av, cv, none, 0, by rw [turn_len]; rfl, (tProg_R.1 HR.out).elim fun _ h => h.elim fun _ h => h.elim fun _ h => h.elim fun _ h => h.2.1, Ty.slice_nil _ _ _, ?_⟩
              rw [turn_len]
              exact Ty.toR hown.read (fun k hk => by rcases hk with hk | hk; exact (hown.far k hk).1; exact (hown.lt k hk).2)
            have hRp := Lib.hid (hxr.R HR.out)
            have hxw := Lib.hid hxr
            have hsmo := Nat.le_trans (bulk_turnP p) hsm2
            have hrem : ∃ fi : Nat, at_ % (p.funcs.length : Int) = fi ∧ fi < p.funcs.length := by
              have h1 := Int.emod_nonneg at_ (show (p.funcs.length : Int) ≠ 0 by omega)
              have h2 := Int.emod_lt_of_pos at_ (show (0 : Int) < (p.funcs.length : Int) by omega)
              exact ⟨(at_ % (p.funcs.length : Int)).toNat, by omega, by omega⟩
            obtain ⟨fi, hfi, hfl⟩ := hrem
            have HFI := Lib.hid hfi
            obtain ⟨ha0, ha1⟩ := wfI_u8 hat
            have hBw := box_lt hbox
            have HBOX := Lib.hid hbox
            clear hfi hinv hown hSb hbox
            go_wp2_with fail
            rw [HFI.out]
            obtain ⟨g, hg⟩ : ∃ g : Nat, g = rev p.funcs.length fi := ⟨_, rfl⟩
            have hgl : g < p.funcs.length := by rw [hg]; exact rev_lt hfl
            have hgi : (p.funcs.length : Int) - 1 - (fi : Int) = (g : Int) := by rw [hg]; unfold rev; omega
            have T1 : Hid (TurnedL p.funcs.length (callsC p fi) (callsC (turnP p) g)) := by
              rw [calls_row hfl, calls_row (by rw [turn_len]; exact hgl), hg]
              exact calls_turn hfl
            have T2 : Hid (TurnedL p.funcs.length (reachAll p fi) (reachAll (turnP p) g)) := by
              rw [reach_row hfl, reach_row (by rw [turn_len]; exact hgl), hg]
              exact reach_turn hfl
            have L1 := callsC_len (p := p) (f := (fi : Int)) hsm2
            have L2 := reachAll_len (p := p) (f := (fi : Int)) hsm2
            have B1 : Hid (∀ x ∈ callsC (turnP p) g, 0 ≤ x ∧ x < p.funcs.length) := fun x hx => by
              rw [calls_row (by rw [turn_len]; exact hgl)] at hx
              obtain ⟨k, hk, rfl⟩ := List.mem_map.1 hx
              have := succ_lt _ _ k hk
              rw [turn_len] at this
              exact ⟨Int.natCast_nonneg _, Int.ofNat_lt.2 this⟩
            have B2 : Hid (∀ x ∈ reachAll (turnP p) g, 0 ≤ x ∧ x < p.funcs.length) := fun x hx => by
              rw [reach_row (by rw [turn_len]; exact hgl)] at hx
              obtain ⟨k, rfl, hk⟩ := reachC_lt hx
              rw [turn_len] at hk
              exact ⟨Int.natCast_nonneg _, Int.ofNat_lt.2 hk⟩
            have hde : (depthC p fi == depthC (turnP p) g) = true := by
              rw [beq_iff_eq, hg]
              exact (depth_turn hfl).symm
            have hnl : p.funcs.length ≤ 2097152 := by omega
            obtain ⟨fn, b, o, Aq, cq, rfl, hbl, hfn, hfs, k0, k1, k2, k3, hRf⟩ := func_fact HF.out (k := fi) hfl hsm2
            obtain ⟨_, _, _, _, e6, _, _, hF6⟩ := tProg_R.1 hRo.out
            have hF6' : tFunc.slice.R wo wo.heap.size [.slice Av p.funcs.length cv] (turnP p).funcs := by
              simp only [List.cons.injEq, Value.slice.injEq, and_true] at e6
              obtain ⟨_, _, ea, eb, ec⟩ := e6
              rw [ea, eb, ec]
              exact hF6
            obtain ⟨fm, bm, om, Am, cm, rfl, hbm, hfm, hfsm, m0, m1, m2, m3, hRm⟩ := func_fact hF6' (k := g) (by rw [turn_len]; exact hgl) hsmo
            have hfm' : fm = turnF p.funcs.length fn := by
              rw [hg, turn_at hfn] at hfm
              injection hfm with hfm
              exact hfm.symm
            subst hfm'
            have HLT := Lib.hid (leaf_turn p.funcs.length fn)
            have HRF := Lib.hid (hxw.out.below.block)
            have hRf2 := Lib.hid (hxw.out.R hRf)
            have HRM := Lib.hid hRm
            have p0 : ∀ w', Fr wo w' → w'.cell? ⟨w.heap.size, 0, none⟩ = some (.int .i64 p.heap) := fun w' h => q0 w' (hxw.out.fr h)
            have p1 : ∀ w', Fr wo w' → w'.cell? ⟨w.heap.size, 1, none⟩ = some (.slice A' p.threads.length c') := fun w' h => q1 w' (hxw.out.fr h)
            have p2 : ∀ w', Fr wo w' → w'.cell? ⟨w.heap.size, 2, none⟩ = some (.slice (some ⟨b, o, none⟩) p.funcs.length c) := fun w' h => q2 w' (hxw.out.fr h)
            have z0 : ∀ w', Fr wo w' → w'.cell? ⟨w1.heap.size, 0, none⟩ = some (.int .i64 p.heap) := fun w' h => h.cell hBw (box_cell HBOX.out rfl)
            have z1 : ∀ w', Fr wo w' → w'.cell? ⟨w1.heap.size, 1, none⟩ = some (.slice none 0 0) := fun w' h => h.cell hBw (box_cell HBOX.out rfl)
            have z2 : ∀ w', Fr wo w' → w'.cell? ⟨w1.heap.size, 2, none⟩ = some (.slice (some ⟨bm, om, none⟩) p.funcs.length cv) := fun w' h => h.cell hBw (box_cell HBOX.out rfl)
            have s0 : ∀ w', Fr wo w' → w'.cell? ⟨b, o + fi * 4, none⟩ = _ := fun w' h => ((hxw.out.fr h).far hbl).trans k0
            have s1 : ∀ w', Fr wo w' → w'.cell? ⟨b, o + fi * 4 + 1, none⟩ = _ := fun w' h => ((hxw.out.fr h).far hbl).trans k1
            have s2 : ∀ w', Fr wo w' → w'.cell? ⟨b, o + fi * 4 + 2, none⟩ = _ := fun w' h => ((hxw.out.fr h).far hbl).trans k2
            have s3 : ∀ w', Fr wo w' → w'.cell? ⟨b, o + fi * 4 + 3, none⟩ = _ := fun w' h => ((hxw.out.fr h).far hbl).trans k3
            have y0 : ∀ w', Fr wo w' → w'.cell? ⟨bm, om + g * 4, none⟩ = _ := fun w' h => h.cell hbm m0
            have y1 : ∀ w', Fr wo w' → w'.cell? ⟨bm, om + g * 4 + 1, none⟩ = _ := fun w' h => h.cell hbm m1
            have y2 : ∀ w', Fr wo w' → w'.cell? ⟨bm, om + g * 4 + 2, none⟩ = _ := fun w' h => h.cell hbm m2
            have y3 : ∀ w', Fr wo w' → w'.cell? ⟨bm, om + g * 4 + 3, none⟩ = _ := fun w' h => h.cell hbm m3
            have if0 : (0 : Int) ≤ (fi : Int) := by omega
            have if1 : (fi : Int) < (p.funcs.length : Int) := by omega
            have ig0 : (0 : Int) ≤ (g : Int) := by omega
            have ig1 : (g : Int) < (p.funcs.length : Int) := by omega
            have x0 : IntKind.i64.wrap ((p.funcs.length : Int) - 1) = (p.funcs.length : Int) - 1 := IntWalk.i64_in _ (by omega)
            have x1 : IntKind.i64.wrap ((p.funcs.length : Int) - 1 - (fi : Int)) = (g : Int) := by rw [hgi]; exact IntWalk.i64_in _ (by omega)
            clear hg hgi e6 hF6 hF6' hfm hfn k0 k1 k2 k3 m0 m1 m2 m3 hRf hRm q0 q1 q2 HRF hxr
            go_region_held3 (fun w' => Fr wo w')
              (first | assumption | exact Fr.drew _ | exact Below.drew (by assumption))
              (first
                | ((with_reducible refine (fr_calls (fi : Int) hRp.out hsm2 (by assumption)).mono ?_); rintro e w4 ⟨A4, c4, rfl, hf4, hg4, hb4⟩)
                | ((with_reducible refine (fr_calls (g : Int) hRo.out hsmo (by assumption)).mono ?_); rintro e w5 ⟨A5, c5, rfl, hf5, hg5, hb5⟩)
                | ((with_reducible refine (fr_reach (fi : Int) hRp.out hsm2 (by assumption)).mono ?_); rintro e w6 ⟨A6, c6, rfl, hf6, hg6, hb6⟩)
                | ((with_reducible refine (fr_reach (g : Int) hRo.out hsmo (by assumption)).mono ?_); rintro e w7 ⟨A7, c7, rfl, hf7, hg7, hb7⟩)
                | ((with_reducible refine (fr_depth (fi : Int) hRp.out hsm2 (by assumption)).mono ?_); rintro e w8 ⟨rfl, hf8⟩)
                | ((with_reducible refine (fr_depth (g : Int) hRo.out hsmo (by assumption)).mono ?_); rintro e w9 ⟨rfl, hf9⟩)
                | ((with_reducible refine (fr_leaf hRf2.out hfs (by assumption)).mono ?_); rintro e w10 ⟨rfl, hf10⟩)
                | ((with_reducible refine (fr_leaf HRM.out hfsm (by assumption)).mono ?_); rintro e w11 ⟨rfl, hf11⟩; rw [HLT.out])
                | ((with_reducible refine (fr_head (by assumption)).mono ?_); rintro e w12 ⟨rfl, hf12⟩)
                | ((with_reducible refine (fr_turned (by assumption) (by first | exact hg6 | exact Got.keep hg6 hb7) (by first | exact hg7 | exact Got.keep hg7 hb6) T2.out hnl L2 B2.out).mono ?_); rintro e w13 ⟨rfl, hf13⟩)
                | ((with_reducible refine (fr_turned (by assumption) (by first | exact hg4 | exact Got.keep hg4 hb5) (by first | exact hg5 | exact Got.keep hg5 hb4) T1.out hnl L1 B1.out).mono ?_); rintro e w14 ⟨rfl, hf14⟩))
            all_goals
              go_wp2_with fail
              go_ret
              exact ⟨rfl, hxw.out.below.trans (Below.mono (show Fr wo _ by assumption) hxw.out.below.size)⟩
      · have dn : decide (40 < p.funcs.length) = true := decide_eq_true (by omega)
        go_wp2_with fail
        refine (H13.out _ hx).mono ?_
        rintro e w2 ⟨rfl, hx2⟩
        go_wp2_with fail
        go_ret
        exact ⟨rfl, hx2.below⟩
  · go_wp2_with fail
    refine (H13.out _ hx).mono ?_
    rintro e w2 ⟨rfl, hx2⟩
    go_wp2_with fail
    go_ret
    exact ⟨rfl, hx2.below⟩
end Mu
