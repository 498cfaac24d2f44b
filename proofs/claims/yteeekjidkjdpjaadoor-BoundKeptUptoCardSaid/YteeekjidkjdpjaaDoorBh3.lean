/-
  Own texts laid together, part 3: MuLitR, MuSlice, MuStep, MuFull, MuCond, MuDrawY, MuFnN, MuBackward, MuBackK, ShelfM, MuSets, MuBack, MuCopy, MuSetR, MuRes2, MuLiveP, MuMapsR, MuRowsAt, MuBefore, MuPlaces, MuRef17A, MuRef17G, MuAllP, MuLiveC, MuNext15, MuRef17B, MuRef17C, MuRef17D, MuRef17E, MuRef17F, MuLiveQ, MuLiveR.
  Conditions: as each part says.
-/
import Derived.Test.YteeekjidkjdpjaaDoorBh2
import Derived.Deep.Upon
import Derived.Shelf.SlIterI.Nil
import Derived.Shelf.SortM.Plain
import Derived.Shelf.SortM.SortNone
import Derived.Shelf.SlMaps.Clone
import Derived.Shelf.SlMaps.Copy
import Derived.Ground.GgzProg
import Derived.Ground.SlgmProg
import Derived.Ground.SlmcProg
import Derived.Ground.SlmpProg
import Derived.Test.YteeekjidkjdpjaaDoorProg
import Derived.Maps.OwnSet
import Derived.WalkKit
import Derived.TacticsInMore
import Derived.Lib.SlMapMerge
import Derived.Carry
import Derived.Deep.OwnRows
import Derived.RangeFuncNested
section
/-
  Own memory at known addresses: boxes and rows are opened and closed; cells are loaded and stored; rows of values are made.
  Conditions: none; generic.
-/
namespace Mu
open Go Go.RowKit Go.ChangeShapes Go.WideShapes

/-- cells at a known place -/
def boxR (g : Nat) (cells : List AV) : Res := ⟨[], fun k => k = g, fun w S => ∃ cs e, w.heap[g]? = some (.cells (List.toArray cs) e (0, 0)) ∧ AV.relL w S [] ψ0 cells cs,
  fun h hk hb hs => let ⟨cs, e, h1, h2⟩ := h; ⟨cs, e, (hk g rfl).trans h1, AV.relL_ext (Ext.grow [] ψ0 hb hs) _ _ h2⟩⟩
/-- a row of the call's own as a known value -/
def rowR (v : Value) (e : TypeId) {α : Type} (T : Ty α) (l : List α) : Res := ⟨[], fun g => blkOf v = some g, fun w S => ∃ cells, w.ownsRow 0 e T.size v l.length cells ∧ 0 < T.size ∧ ∀ i d, l[i]? = some d → T.RS w S ((cells.drop (i * T.size)).take T.size) d,
  fun h hk hb hs => let ⟨cells, h1, h0, h2⟩ := h; ⟨cells, ownsRow_same h1 fun g hg => hk g hg, h0, fun i d hd => T.keepS (h2 i d hd) hb hs⟩⟩

section
variable {C : Ctx} {h : List ABlk} {S : Nat → Prop} {ψ : Nat → Value} {w : World}
/-- another description of a block -/
theorem HRel.desc {i : Nat} {b b' : ABlk} {v' : Value} (H : HRel C h S ψ w) (hi : h[i]? = some b) (hlive : ABlk.live (some b) = true) (hn : ∀ j c, j ≠ i → h[j]? = some c → nrB i c = true)
    (hB : BRel C.N w S (h.set i b') (ψset ψ i v') v' b') (hF : ∀ g, ftp (some b') v' g → ftp (some b) (ψ i) g) : HRel C (h.set i b') S (ψset ψ i v') w := by
  have hil := (List.getElem?_eq_some_iff.1 hi).1
  refine ⟨H.bel, H.nlt, H.lt, H.sub, H.new, fun j c hc => ?_, fun j k hjk hj hk g hgj hgk => ?_⟩
  · by_cases hji : j = i
    · subst hji
      rw [List.getElem?_set_self hil] at hc
      cases hc
      rw [ψset_self]
      exact hB
    · rw [List.getElem?_set_ne (Ne.symm hji)] at hc
      rw [ψset_ne hji]
      have hBj := H.blk j c hc
      cases c with
      | dead => trivial
      | box cells =>
        obtain ⟨g, cs, e, k1, k2, k3, k4, k5⟩ := hBj
        exact ⟨g, cs, e, k1, k2, k3, k4, AV.relL_up (fun k hk => ψset_ne hk) _ _ (hn j _ hji hc) k5⟩
      | row ver e T l => exact hBj
      | res R => exact hBj
  · have hold : ∀ k, ABlk.live (h.set i b')[k]? = true → ftp (h.set i b')[k]? (ψset ψ i v' k) g → ABlk.live h[k]? = true ∧ ftp h[k]? (ψ k) g := fun k hk hgk => by
      by_cases hki : k = i
      · subst hki
        rw [List.getElem?_set_self hil, ψset_self] at hgk
        rw [hi]
        exact ⟨hlive, hF g hgk⟩
      · rw [List.getElem?_set_ne (Ne.symm hki)] at hk hgk
        rw [ψset_ne hki] at hgk
        exact ⟨hk, hgk⟩
    obtain ⟨a1, a2⟩ := hold j hj hgj
    obtain ⟨b1, b2⟩ := hold k hk hgk
    exact H.dis j k hjk a1 b1 g a2 b2
end

/-! ### opening and closing -/
/-- a row's value becomes known -/
inductive Opn (i ver : Nat) (v : Value) : List AV → List AV → Prop
  | nil : Opn i ver v [] []
  | any {x : AV} {t t' : List AV} (h : Opn i ver v t t') : Opn i ver v (x :: t) (.any :: t')
  | keep {x : AV} {t t' : List AV} (hx : AV.nr i x = true) (h : Opn i ver v t t') : Opn i ver v (x :: t) (x :: t')
  | own {t t' : List AV} (h : Opn i ver v t t') : Opn i ver v (.own i ver :: t) (.lit v :: t')
/-- a box's address becomes known -/
inductive OpnB (i g : Nat) : List AV → List AV → Prop
  | nil : OpnB i g [] []
  | any {x : AV} {t t' : List AV} (h : OpnB i g t t') : OpnB i g (x :: t) (.any :: t')
  | keep {x : AV} {t t' : List AV} (hx : AV.nr i x = true) (h : OpnB i g t t') : OpnB i g (x :: t) (x :: t')
  | ptr {off : Nat} {t t' : List AV} (h : OpnB i g t t') : OpnB i g (.ptr i off :: t) (.lit (.pointer (some ⟨g, off, none⟩)) :: t')
/-- a known value becomes a row of the call's own again -/
inductive Cls (i ver : Nat) (v : Value) : List AV → List AV → Prop
  | nil : Cls i ver v [] []
  | any {x : AV} {t t' : List AV} (h : Cls i ver v t t') : Cls i ver v (x :: t) (.any :: t')
  | keep {x : AV} {t t' : List AV} (hx : AV.nr i x = true) (h : Cls i ver v t t') : Cls i ver v (x :: t) (x :: t')
  | own {t t' : List AV} (h : Cls i ver v t t') : Cls i ver v (.lit v :: t) (.own i ver :: t')
def noRef (i : Nat) (h : List ABlk) : Bool := h.all fun b => nrB i b
theorem noRef_at {i : Nat} {h : List ABlk} (hn : noRef i h = true) : ∀ (j : Nat) (c : ABlk), j ≠ i → h[j]? = some c → nrB i c = true := fun _j c _ hc => List.all_eq_true.1 hn c (List.mem_of_getElem? hc)
theorem ψset_id (φ : Nat → Value) (k : Nat) : ψset φ k (φ k) = φ := funext fun q => by unfold ψset; split <;> simp_all
section
variable {w : World} {S : Nat → Prop} {h : List ABlk} {ψ : Nat → Value} {i ver g : Nat} {v : Value} {b : ABlk}
theorem Opn.rel {t t' : List AV} (ho : Opn i ver v t t') (hv : ∀ u, AV.rel w S h ψ (.own i ver) u → u = v) : ∀ {cs : List Value}, AV.relL w S h ψ t cs → AV.relL w S (h.set i b) ψ t' cs := by
  induction ho with
  | nil => intro cs H; unfold AV.relL at H ⊢; exact H
  | any _ ih =>
    intro cs H
    unfold AV.relL at H ⊢
    obtain ⟨u, vs, e, _, h2⟩ := H
    exact ⟨u, vs, e, by unfold AV.rel; trivial, ih h2⟩
  | keep hx _ ih =>
    intro cs H
    unfold AV.relL at H ⊢
    obtain ⟨u, vs, e, h1, h2⟩ := H
    exact ⟨u, vs, e, AV.rel_up (fun _ _ => rfl) _ _ hx h1, ih h2⟩
  | own _ ih =>
    intro cs H
    unfold AV.relL at H ⊢
    obtain ⟨u, vs, e, h1, h2⟩ := H
    exact ⟨u, vs, e, by rw [hv u h1]; unfold AV.rel; rfl, ih h2⟩
theorem OpnB.rel {t t' : List AV} (ho : OpnB i g t t') (hv : ∀ off u, AV.rel w S h ψ (.ptr i off) u → u = .pointer (some ⟨g, off, none⟩)) : ∀ {cs : List Value}, AV.relL w S h ψ t cs → AV.relL w S (h.set i b) ψ t' cs := by
  induction ho with
  | nil => intro cs H; unfold AV.relL at H ⊢; exact H
  | any _ ih =>
    intro cs H
    unfold AV.relL at H ⊢
    obtain ⟨u, vs, e, _, h2⟩ := H
    exact ⟨u, vs, e, by unfold AV.rel; trivial, ih h2⟩
  | keep hx _ ih =>
    intro cs H
    unfold AV.relL at H ⊢
    obtain ⟨u, vs, e, h1, h2⟩ := H
    exact ⟨u, vs, e, AV.rel_up (fun _ _ => rfl) _ _ hx h1, ih h2⟩
  | ptr _ ih =>
    intro cs H
    unfold AV.relL at H ⊢
    obtain ⟨u, vs, e, h1, h2⟩ := H
    exact ⟨u, vs, e, by rw [hv _ u h1]; unfold AV.rel; rfl, ih h2⟩
theorem Cls.rel {t t' : List AV} (ho : Cls i ver v t t') (hil : i < h.length) (hb : ABlk.ver (some b) = some ver) : ∀ {cs : List Value}, AV.relL w S h ψ t cs → AV.relL w S (h.set i b) (ψset ψ i v) t' cs := by
  induction ho with
  | nil => intro cs H; unfold AV.relL at H ⊢; exact H
  | any _ ih =>
    intro cs H
    unfold AV.relL at H ⊢
    obtain ⟨u, vs, e, _, h2⟩ := H
    exact ⟨u, vs, e, by unfold AV.rel; trivial, ih h2⟩
  | keep hx _ ih =>
    intro cs H
    unfold AV.relL at H ⊢
    obtain ⟨u, vs, e, h1, h2⟩ := H
    exact ⟨u, vs, e, AV.rel_up (fun _ hk => ψset_ne hk) _ _ hx h1, ih h2⟩
  | own _ ih =>
    intro cs H
    unfold AV.relL at H ⊢
    obtain ⟨u, vs, e, h1, h2⟩ := H
    refine ⟨u, vs, e, ?_, ih h2⟩
    unfold AV.rel at h1 ⊢
    subst h1
    refine ⟨by simpa using hil, fun c hc => ?_⟩
    rw [List.getElem?_set_self hil, hb] at hc
    cases hc
    exact ⟨Nat.le_refl _, fun _ => by rw [ψset_self]⟩
end
section
variable {P : Program} {C : Ctx} {t : List AV} {h : List ABlk} {c : Code} {Q : Exit → St → Prop}
theorem Awp.open_box (i : Nat) {cells : List AV} (hi : h[i]? = some (.box cells)) (hc : AV.clL cells = true) (hn : noRef i h = true) (t' : Nat → List AV) (ht : ∀ g, OpnB i g t (t' g))
    (hK : ∀ g, Awp P C c Q ⟨t' g, h.set i (.res (boxR g cells))⟩) : Awp P C c Q ⟨t, h⟩ := fun a w ⟨hd, S, ψ, H, hl⟩ => by
  obtain ⟨g, cs, e, e1, hN, hS, hg, hcs⟩ := H.blk i _ hi
  have H' := H.desc (b' := .res (boxR g cells)) (v' := ψ i) hi rfl (noRef_at hn) ⟨fun k hk => by
    have hk : k = g := hk
    subst hk
    exact ⟨hN, hS, (Array.getElem?_eq_some_iff.1 hg).1⟩, ⟨cs, _, hg, AV.relL_cl _ _ hc hcs⟩⟩ fun k hk => by
    have hk : k = g := hk
    subst hk
    rw [e1]
    rfl
  rw [ψset_id] at H'
  refine hK g a w ⟨by rw [hd]; exact (mkD_set (b' := .res (boxR g cells)) hi rfl).symm, S, ψ, H', (ht g).rel (fun off u hu => ?_) hl⟩
  unfold AV.rel at hu
  obtain ⟨g', h1, rfl⟩ := hu.2 (by rw [hi]; rfl)
  rw [e1] at h1
  cases h1
  rfl
theorem Awp.open_row (i : Nat) {ver : Nat} {e : TypeId} {α : Type} {T : Ty α} {l : List α} (hi : h[i]? = some (.row ver e T l)) (hn : noRef i h = true) (t' : Value → List AV) (ht : ∀ v, Opn i ver v t (t' v))
    (hK : ∀ v, Awp P C c Q ⟨t' v, h.set i (.res (rowR v e T l))⟩) : Awp P C c Q ⟨t, h⟩ := fun a w ⟨hd, S, ψ, H, hl⟩ => by
  have hB := H.blk i _ hi
  have hlt := hB.lt rfl
  obtain ⟨cells, h1, h0, h2, h3⟩ := id hB
  have H' := H.desc (b' := .res (rowR (ψ i) e T l)) (v' := ψ i) hi rfl (noRef_at hn) ⟨fun k hk => by
    obtain ⟨a1, a2, a3⟩ := hlt k hk
    exact ⟨a1, a3, a2⟩, ⟨cells, h1, h0, h2⟩⟩ fun k hk => hk
  rw [ψset_id] at H'
  refine hK (ψ i) a w ⟨by rw [hd]; exact (mkD_set (b' := .res (rowR (ψ i) e T l)) hi rfl).symm, S, ψ, H', (ht (ψ i)).rel (fun u hu => ?_) hl⟩
  unfold AV.rel at hu
  exact (hu.2 _ (by rw [hi]; rfl)).2 rfl
theorem St.le_close (i : Nat) {ver : Nat} {v : Value} {e : TypeId} {α : Type} {T : Ty α} {l : List α} {t' : List AV} (hi : h[i]? = some (.res (rowR v e T l))) (hn : noRef i h = true) (ht : Cls i ver v t t') :
    St.le C ⟨t, h⟩ ⟨t', h.set i (.row ver e T l)⟩ := fun a w ⟨hd, S, ψ, H, hl⟩ => by
  have hB := H.blk i _ hi
  obtain ⟨cells, h1, h0, h2⟩ := hB.2
  have H' := H.desc (b' := .row ver e T l) (v' := v) hi rfl (noRef_at hn) ⟨cells, h1, h0, h2, fun g hg => by
    obtain ⟨a1, a2, _⟩ := hB.1 g (ownBlock_blkOf hg)
    exact ⟨a1, a2⟩⟩ fun k hk => hk
  exact ⟨by rw [hd]; exact (mkD_set (b' := .row ver e T l) hi rfl).symm, S, _, H', ht.rel (List.getElem?_eq_some_iff.1 hi).1 rfl hl⟩
end

/-! ### cells at known places -/
section
variable {P : Program} {C : Ctx} {t : List AV} {h : List ABlk} {o : Oper} {K : St → Prop}
theorem Quiet.ldL {ty : TypeId} {x : Operand} {n i g off : Nat} {cells : List AV} {r : AV} [AG P ty false n] (ho : o.op = .load ty x) (hx : evA t x = .lit (.pointer (some ⟨g, off, none⟩))) (hi : h[i]? = some (.res (boxR g cells))) (hr : cells[off]? = some r) (hc : AV.cl r = true) : Quiet P C t h o r :=
  Quiet.ld_res ho hx hi hc fun w S ⟨cs, e, h1, h2⟩ => by
    obtain ⟨u, h3, h4⟩ := relL_get h2 hr
    exact ⟨u, by simp [World.cell?, h1, h3], h4⟩
theorem Quiet.ldAL {ty : TypeId} {x : Operand} {n i g off : Nat} {cells : List AV} [AG P ty true n] (ho : o.op = .load ty x) (hx : evA t x = .lit (.pointer (some ⟨g, off, none⟩))) (hi : h[i]? = some (.res (boxR g cells))) (hc : AV.clL ((cells.drop off).take n) = true) (hn : ((cells.drop off).take n).length = n) : Quiet P C t h o (.agg ((cells.drop off).take n)) :=
  Quiet.loadA ho AG.eq hx (CellsOf.res (R := boxR g cells) (rs := (cells.drop off).take n) hi hc fun w S ⟨cs, e, h1, h2⟩ j r hj => by
    rw [List.getElem?_take] at hj
    split at hj
    · rw [List.getElem?_drop] at hj
      obtain ⟨u, h3, h4⟩ := relL_get h2 hj
      exact ⟨u, by simp [World.cell?, h1, h3], h4⟩
    · cases hj) (by rw [List.take_take, Nat.min_self]) hn
theorem Quiet.faL {st : TypeId} {x : Operand} {j n b off : Nat} [FO P st j n] (ho : o.op = .fieldAddr st x j) (hx : evA t x = .lit (.pointer (some ⟨b, off, none⟩))) : Quiet P C t h o (.lit (.pointer (some ⟨b, off + n, none⟩))) :=
  Quiet.fieldAddr ho FO.eq hx fun C S ψ w v H hv => by
    unfold AV.rel at hv ⊢
    exact ⟨b, off, hv, rfl⟩
theorem Quiet.ixl0 {ty : TypeId} {x y : Operand} {ik : IntKind} {k b len c : Nat} [ES P ty 1] (ho : o.op = .indexAddr ty x y) (hx : evA t x = .lit (.slice (some ⟨b, 0, none⟩) len c)) (hy : evA t y = .lit (.int ik (k : Int))) (hk : k < len) :
    Quiet P C t h o (.lit (.pointer (some ⟨b, k, none⟩))) := by
  have := Quiet.ixl (P := P) (C := C) (h := h) (n := 1) ho hx hy hk
  rwa [Nat.zero_add, Nat.mul_one] at this
theorem AOp.stL {ty : TypeId} {x y : Operand} {i g off n : Nat} {cells new : List AV} [SZ P ty n] (ho : o.op = .store ty x y) (hx : evA t x = .lit (.pointer (some ⟨g, off, none⟩))) (hi : h[i]? = some (.res (boxR g cells))) (hp : Parts h (evA t y) new) (hc : AV.clL new = true) (hs : n = new.length) (hle : off + new.length ≤ cells.length)
    (hK : K ⟨putA t o.dst (.lit undef), h.set i (.res (boxR g (cells.take off ++ new ++ cells.drop (off + new.length))))⟩) : AOp P C o ⟨t, h⟩ K := by
  refine AOp.turn (ι := Unit) (Rs := fun _ => boxR g (cells.take off ++ new ++ cells.drop (off + new.length))) (val := fun _ => undef) hi (fun _ => rfl) (fun S ψ w ρ H hR hlt hρ => ?_) fun _ => hK
  have hx' := hρ x (by rw [ho]; simp [Op.operands])
  have hy' := hρ y (by rw [ho]; simp [Op.operands])
  rw [hx] at hx'
  unfold AV.rel at hx'
  obtain ⟨cs, e, hg, hcs⟩ := hR
  obtain ⟨hn, h1⟩ := hp C S ψ w _ H hy'
  have hnl := relL_len hn
  have hcl := relL_len hcs
  have hr := run_storeAt (P := P) (ty := ty) (v := ρ y) (off := off) (w := w) (by rw [SZ.eq (P := P) (ty := ty) (n := n), hnl, hs]) hg (by rw [hnl, List.size_toArray, hcl]; exact hle) h1
  rw [hnl] at hr
  have hgr := grown_setRow w g (cs.take off ++ (ρ y).cells.toList ++ cs.drop (off + new.length)).toArray
  have hblk : ∀ k, S k → (w.setRow g (cs.take off ++ (ρ y).cells.toList ++ cs.drop (off + new.length)).toArray).heap[k]? = w.heap[k]? := fun k hk => setRow_other _ _ _ _ fun e => ((H.blk i _ hi).1 k (show k = g from e)).2.1 hk
  simp only [execOp, ho, hx', Sem.run_bind, hr, Result.andThen_ok, Sem.run_pure, tUpon]
  refine ⟨⟨hgr.os, hgr.tape, hgr.output, hgr.size, fun k hk hn => hgr.block k hk fun e => hn (by injection e)⟩, (), rfl, ⟨_, e, setRow_heap w g _ _ e _ hg, ?_⟩, fun k hk => ?_⟩
  · have hE : Ext w S [] ψ0 (w.setRow g (cs.take off ++ (ρ y).cells.toList ++ cs.drop (off + new.length)).toArray) S [] ψ0 := Ext.grow [] ψ0 hblk fun _ h => h
    exact AV.relL_ext hE _ _ (relL_append (relL_append (relL_take hcs off) (AV.relL_cl _ _ hc hn)) (relL_drop hcs _))
  · have hk : k = g := hk
    subst hk
    have h5 : k < w.heap.size := (Array.getElem?_eq_some_iff.1 hg).1
    exact ⟨.inl rfl, Nat.lt_of_lt_of_le h5 hgr.size⟩
theorem AOp.mkL {ty : TypeId} {x y : Operand} {k k' : IntKind} {n : Nat} {e : TypeId} {z : Value} {bytes : Nat} (ho : o.op = .makeSlice ty x y) (hz : zeroOne P ty = some (e, z, bytes))
    (hx : evA t x = .lit (.int k (n : Int))) (hy : evA t y = .lit (.int k' (n : Int))) (hb : bytes * n ≤ 281474976710656) (hn : n ≤ maxLen)
    (hK : ∀ g, K ⟨putA t o.dst (.lit (.slice (some ⟨g, 0, none⟩) n n)), h ++ [.res (boxR g (List.replicate n (.lit z)))]⟩) : AOp P C o ⟨t, h⟩ K := by
  refine AOp.make_res (ι := Nat) (Rs := fun g => boxR g (List.replicate n (.lit z))) (val := fun g => .slice (some ⟨g, 0, none⟩) n n) (fun _ => rfl) (fun S ψ w ρ H hρ => ?_) hK
  have hx' := hρ x (by rw [ho]; simp [Op.operands])
  have hy' := hρ y (by rw [ho]; simp [Op.operands])
  rw [hx] at hx'
  rw [hy] at hy'
  unfold AV.rel at hx' hy'
  unfold zeroOne at hz
  split at hz <;> try (cases hz; done)
  rename_i e' h1
  obtain ⟨i, hi, h2⟩ := Option.bind_eq_some_iff.1 hz
  obtain ⟨z', hz', h3⟩ := Option.bind_eq_some_iff.1 h2
  split at h3 <;> try (cases h3; done)
  rename_i h4
  cases h3
  have hzc := cells_one h4.2
  have hrun := run_make_row' (P := P) ty e z i.bytes h1 (by rw [hi]; simp [hz', h4.1]) hzc k k' n hb (by unfold maxLen at hn; omega) w
  rw [made_rep1] at hrun
  have hbl := (Below.refl w.heap.size w).alloc (Nat.le_refl _) (.cells (List.replicate n z).toArray e)
  have he : (execOp ρ o).run P w = .ok (.value (.slice (some ⟨w.heap.size, 0, none⟩) n n)) (w.alloc (.cells (List.replicate n z).toArray e)) := by simp [execOp, ho, hx', hy', hrun]
  rw [he]
  refine ⟨⟨hbl.os, hbl.tape, hbl.output, hbl.size, fun k hk _ => hbl.block k hk⟩, w.heap.size, rfl, ⟨List.replicate n z, e, heap_alloc_new w _, ?_⟩, fun k hk => ?_⟩
  · refine relL_of (by simp) fun j x v hx hv => ?_
    rw [List.eq_of_mem_replicate (List.mem_of_getElem? hx), List.eq_of_mem_replicate (List.mem_of_getElem? hv)]
    unfold AV.rel
    rfl
  · have hk : k = w.heap.size := hk
    subst hk
    exact ⟨.inr (Nat.le_refl _), by simp⟩
end
end Mu
end
section
/-
  Parts of rows, over abstract states.
  Conditions: none; generic.
-/
namespace Mu
open Go Go.RowKit Go.ChangeShapes Go.WideShapes

/-- a bound that is given, or not -/
def Bnd (d : Nat) : Option Value → Nat → Prop
  | none, n => n = d
  | some v, n => ∃ k, v = .int k (n : Int)
section
variable {P : Program} {C : Ctx} {t : List AV} {h : List ABlk} {o : Oper}
theorem run_sl {ty : TypeId} {sz len cap l m : Nat} {a : Option Addr} {lo hi : Option Value} {w : World} (hs : elemSz P ty = some sz) (hl : Bnd 0 lo l) (hh : Bnd len hi m) (h1 : l ≤ m) (h2 : m ≤ cap) :
    (Instr.sliceAt ty (.slice a len cap) lo hi none).run P w = .ok (.slice (if cap = l then a else a.map (·.add (l * sz))) (m - l) (cap - l)) w := by
  unfold elemSz at hs
  split at hs <;> try (cases hs; done)
  rename_i e hu
  cases hi' : P.info? e with
  | none => rw [hi'] at hs; cases hs
  | some i =>
    rw [hi'] at hs
    simp only [Option.map_some, Option.some.injEq] at hs
    have he : P.elem ty = e := by simp [Program.elem, hu]
    have hu' : P.underlying ty = some (.slice (P.elem ty)) := by rw [he]; exact hu
    have hz : (Go.sizeOf (P.elem ty)).run P w = .ok sz w := by rw [he]; simp [Go.sizeOf, typeInfo, hi', hs]
    rw [run_sliceAt_slice (h := hu')]
    cases lo with
    | none =>
      have hl : l = 0 := hl
      subst hl
      cases hi with
      | none =>
        have hh : m = len := hh
        subst hh
        rw [run_slice_all (ht := hu'), hz]
        simp [sliced]
      | some v =>
        obtain ⟨k, rfl⟩ := hh
        rw [run_slice_h (ht := hu') (h0 := by omega) (h2 := by omega), hz]
        simp [sliced]
    | some u =>
      obtain ⟨ku, rfl⟩ := hl
      cases hi with
      | none =>
        have hh : m = len := hh
        subst hh
        rw [run_slice_l (ht := hu') (h0 := by omega) (h1 := by omega), hz]
        simp [sliced]
      | some v =>
        obtain ⟨k, rfl⟩ := hh
        rw [run_slice_lh (ht := hu') (h0 := by omega) (h1 := by omega) (h2 := by omega), hz]
        simp [sliced]
theorem slice_part {α : Type} {T : Ty α} {w : World} {S : Nat → Prop} {a : Option Addr} {n c l m : Nat} {ds : List α} (h : T.slice.RS w S [.slice a n c] ds) (h1 : l ≤ m) (h2 : m ≤ ds.length) :
    T.slice.RS w S [.slice (if c = l then a else a.map (·.add (l * T.size))) (m - l) (c - l)] ((ds.take m).drop l) := by
  obtain ⟨A, c', e, hle, ⟨hc, hn⟩, hi⟩ := h
  simp only [List.cons.injEq, Value.slice.injEq, and_true] at e
  obtain ⟨rfl, rfl, rfl⟩ := e
  have hlen : ((ds.take m).drop l).length = m - l := by simp; omega
  refine ⟨_, c - l, by rw [hlen], by rw [hlen]; omega, ⟨by omega, fun e => ?_⟩, fun i d hd => ?_⟩
  · split at e
    · rename_i hcl
      omega
    · cases a with
      | none => have := hn rfl; omega
      | some x => simp at e
  · rw [List.getElem?_drop, List.getElem?_take] at hd
    split at hd
    · rename_i hlt
      obtain ⟨b, off, rfl, hat⟩ := hi _ _ hd
      have hne : ¬ c = l := by omega
      refine ⟨b, off + l * T.size, by rw [if_neg hne]; simp [add_plain], ?_⟩
      rw [show off + l * T.size + i * T.size = off + (l + i) * T.size by rw [Nat.add_mul]; omega]
      exact hat
    · cases hd
/-- a bound among the slots -/
def BndA (t : List AV) (d : Nat) : Option Operand → Nat → Prop
  | none, n => n = d
  | some x, n => ∃ k, evA t x = .lit (.int k (n : Int))
theorem BndA.val {d n : Nat} {x : Option Operand} (hb : BndA t d x n) {w : World} {S : Nat → Prop} {ψ : Nat → Value} {ρ : Operand → Value} (hρ : ∀ y, x = some y → AV.rel w S h ψ (evA t y) (ρ y)) : Bnd d (x.map ρ) n := by
  cases x with
  | none => exact hb
  | some y =>
    obtain ⟨k, hk⟩ := hb
    have := hρ y rfl
    rw [hk] at this
    unfold AV.rel at this
    exact ⟨k, this⟩
theorem Quiet.slc {ty : TypeId} {x : Operand} {lo hi : Option Operand} {n l m : Nat} {α : Type} {T : Ty α} {ds : List α} [ES P ty n] (ho : o.op = .slice ty x lo hi none) (hx : evA t x = .bs T ds) (hs : T.size = n) (hl : BndA t 0 lo l) (hm : BndA t ds.length hi m) (h1 : l ≤ m) (h2 : m ≤ ds.length) :
    Quiet P C t h o (.bs T ((ds.take m).drop l)) :=
  Quiet.of_run fun S ψ w ρ H hρ => by
    have hx' := hρ x (by rw [ho]; simp [Op.operands])
    have hlo := hl.val (h := h) (w := w) (S := S) (ψ := ψ) (ρ := ρ) fun y hy => hρ y (by rw [ho, hy]; simp [Op.operands])
    have hhi := hm.val (h := h) (w := w) (S := S) (ψ := ψ) (ρ := ρ) fun y hy => hρ y (by rw [ho, hy]; simp [Op.operands])
    rw [hx] at hx'
    unfold AV.rel at hx'
    obtain ⟨A, c, e⟩ := slice_form hx'
    have hx2 := hx'
    rw [e] at hx2
    have hle : m ≤ c := by
      obtain ⟨A', c', e', h3, _⟩ := hx2
      simp only [List.cons.injEq, Value.slice.injEq, and_true] at e'
      omega
    have hr := run_sl (P := P) (w := w) (a := A) (cap := c) (ES.eq (P := P) (ty := ty) (n := n)) hlo hhi h1 hle
    refine ⟨_, by simp [execOp, ho, e, hr]; rfl, ?_⟩
    unfold AV.rel
    rw [← hs]
    exact slice_part hx2 h1 h2
/-- the first ones of a row of the call's own -/
theorem AOp.cutRow {ty : TypeId} {x : Operand} {hi' : Option Operand} {i ver m n : Nat} {e : TypeId} {α : Type} {T : Ty α} {l : List α} {K : St → Prop} [ES P ty n] (ho : o.op = .slice ty x none hi' none) (hx : evA t x = .own i ver) (hi : h[i]? = some (.row ver e T l)) (hs : T.size = n)
    (hm : BndA t l.length hi' m) (h2 : m ≤ l.length) (hK : K ⟨putA t o.dst (.own i (ver + 1)), h.set i (.row (ver + 1) e T (l.take m))⟩) : AOp P C o ⟨t, h⟩ K := by
  rintro Q' a w ⟨hd, S, ψ, H, hl⟩
  refine ⟨fun c e => (by rw [ho] at e; cases e), ?_⟩
  have hx' := ev_rel hl x
  have hhi := hm.val (h := h) (w := w) (S := S) (ψ := ψ) (ρ := a.eval) fun y hy => ev_rel hl y
  rw [hx] at hx'
  unfold AV.rel at hx'
  have hv := (hx'.2 _ (by rw [hi]; rfl)).2 rfl
  obtain ⟨cells, hown, h0, hR, hNS⟩ := H.blk i _ hi
  obtain ⟨v', hrun, hown', hob, hbk⟩ : ∃ v', (Instr.sliceAt ty (ψ i) none (hi'.map a.eval) none).run P w = .ok v' w ∧ w.ownsRow 0 e T.size v' m (cells.take (m * T.size)) ∧ (∀ g, v'.ownBlock = some g → (ψ i).ownBlock = some g) ∧ (∀ g, blkOf v' = some g → blkOf (ψ i) = some g) := by
    obtain ⟨hcl, hcase⟩ := hown
    rcases hcase with ⟨e1, e2⟩ | ⟨g, cap, cur, e1, e2, e3, e4, e5, e6, e7⟩
    · have hm0 : m = 0 := by omega
      subst hm0
      have hr := run_sl (P := P) (w := w) (a := none) (len := 0) (cap := 0) (l := 0) (m := 0) (lo := none) (hi := hi'.map a.eval) (ES.eq (P := P) (ty := ty) (n := n)) rfl (by rw [e2] at hhi; exact hhi) (Nat.le_refl _) (Nat.le_refl _)
      refine ⟨.slice none 0 0, ?_, ⟨by simp, .inl ⟨rfl, rfl⟩⟩, fun g hg => by simp [Value.ownBlock] at hg, fun g hg => by simp [blkOf] at hg⟩
      rw [e1]
      simpa using hr
    · have hr := run_sl (P := P) (w := w) (a := some ⟨g, 0, none⟩) (len := l.length) (cap := cap) (l := 0) (m := m) (lo := none) (hi := hi'.map a.eval) (ES.eq (P := P) (ty := ty) (n := n)) rfl hhi (Nat.zero_le _) (by omega)
      refine ⟨.slice (some ⟨g, 0, none⟩) m cap, ?_, ⟨by rw [List.length_take, hcl]; exact Nat.min_eq_left (Nat.mul_le_mul_right _ h2), .inr ⟨g, cap, cur, rfl, e2, e3, by omega, e5, e6, ?_⟩⟩, fun g' hg => by rw [e1]; exact hg, fun g' hg => by rw [e1]; exact hg⟩
      · rw [e1, hr]
        simp [add_plain]
      · rw [← e7, List.take_take, Nat.min_eq_left (Nat.mul_le_mul_right _ h2)]
  have X : Ext w S h ψ w S (h.set i (.row (ver + 1) e T (l.take m))) (ψset ψ i v') := Ext.set (fun _ _ => rfl) hi (fun c' hc => by
    simp only [ABlk.ver, Option.some.injEq] at hc
    exact ⟨ver, rfl, by omega, fun e => by omega⟩) fun h => by simp [ABlk.isBox] at h
  have hB : BRel C.N w S (h.set i (.row (ver + 1) e T (l.take m))) (ψset ψ i v') v' (.row (ver + 1) e T (l.take m)) := by
    refine ⟨cells.take (m * T.size), by rw [List.length_take, Nat.min_eq_left h2]; exact hown', h0, fun j d hj => ?_, fun g hg => hNS g (hob g hg)⟩
    rw [List.getElem?_take] at hj
    split at hj
    · rename_i hjm
      have := hR j d hj
      have hle : (j + 1) * T.size ≤ m * T.size := Nat.mul_le_mul_right _ (by omega)
      rw [Nat.add_mul, Nat.one_mul] at hle
      rw [List.drop_take, List.take_take, Nat.min_eq_left (by omega)]
      exact this
    · cases hj
  unfold Oper.wp
  simp only [execOp, ho, hv, Option.map_none, hrun, Sem.run_bind, Result.andThen_ok, Sem.run_pure, Oper.upon]
  refine ⟨_, hK, st_set (s := ⟨t, h⟩) hi hd hl (H.set hi rfl ⟨rfl, rfl, rfl, Nat.le_refl _, fun _ _ _ => rfl⟩ X hB fun g hg => .inl (hbk g hg)) X ?_⟩
  unfold AV.rel
  refine ⟨by simp [(List.getElem?_eq_some_iff.1 hi).1], fun c' hc' => ?_⟩
  rw [List.getElem?_set_self (List.getElem?_eq_some_iff.1 hi).1] at hc'
  simp only [ABlk.ver, Option.some.injEq] at hc'
  exact ⟨by omega, fun _ => by rw [ψset_self]⟩
/-- an empty row with room -/
theorem AOp.mk0 {ty : TypeId} {x y : Operand} {k k' : IntKind} {n m : Nat} {e : TypeId} {bytes : Nat} {α : Type} {T : Ty α} {K : St → Prop} [RT P ty e m bytes] [TyOf P e α T] (ho : o.op = .makeSlice ty x y) (hs : T.size = m) (h0 : 0 < T.size)
    (hx : evA t x = .lit (.int k 0)) (hy : evA t y = .lit (.int k' (n : Int))) (hb : bytes * n ≤ 281474976710656) (hn : n ≤ maxLen) (hK : K ⟨putA t o.dst (.own h.length 0), h ++ [.row 0 e T []]⟩) : AOp P C o ⟨t, h⟩ K := by
  rintro Q' a w ⟨hd, S, ψ, H, hl⟩
  refine ⟨fun c e => (by rw [ho] at e; cases e), ?_⟩
  have hx' := ev_rel hl x
  have hy' := ev_rel hl y
  rw [hx] at hx'
  rw [hy] at hy'
  unfold AV.rel at hx' hy'
  obtain ⟨h1, ti, z, h2, h3, h4, h5, h6⟩ := rowTy_spec (RT.eq (P := P) (ty := ty) (e := e) (n := m) (bytes := bytes))
  have hb' : (ti.bytes : Int) * (n : Int) ≤ 281474976710656 := by
    rw [h5]
    have h : ((bytes * n : Nat) : Int) ≤ 281474976710656 := by omega
    rwa [Int.natCast_mul] at h
  have hrun := run_make (P := P) w ty e ti z h1 h2 h3 k k' 0 n (by omega) (by omega) hb' (by unfold maxLen at hn; omega)
  simp only [Int.toNat_natCast, Int.toNat_zero, h4] at hrun
  unfold Oper.wp
  refine AOp.newRow (s := ⟨t, h⟩) (T := T) (l := []) (e := e) (cells := []) (n := 0) (cap := n) (w' := w.alloc (.cells (madeCells z.cells (n * m)) e)) hd H hl ?_ ((Below.refl _ _).alloc (Nat.le_refl _) _) ?_ h0 ?_ hK
  · simp [execOp, ho, hx', hy', hrun]
  · refine ⟨by simp, .inr ⟨_, n, _, rfl, Nat.zero_le _, heap_alloc_new w _, Nat.zero_le _, hn, by rw [hs]; simp [madeCells], by simp⟩⟩
  · intro j d hj
    simp at hj
/-- memory that is nowhere -/
theorem St.le_res0 {t : List AV} {h : List ABlk} {R : Res} (hR : ∀ w S, R.R w S) (hF : ∀ g, ¬ R.F g) (hm : R.mrk = []) : St.le C ⟨t, h⟩ ⟨t, h ++ [.res R]⟩ := fun a w ⟨hd, S, ψ, H, hl⟩ => by
  have X : Ext w S h ψ w S (h ++ [.res R]) (ψset ψ h.length undef) := Ext.push _ _ fun _ _ => rfl
  have hH := H.push (b := .res R) (v := undef) (Below.refl _ _) (show BRel _ _ _ _ _ _ (.res R) from ⟨fun g hg => (hF g hg).elim, hR w S⟩) fun g hg => (hF g hg).elim
  refine ⟨?_, S, _, hH, AV.relL_ext X _ _ hl⟩
  show a.defers = mkD (h ++ [.res R])
  rw [mkD_push]
  show a.defers = R.mrk.map mark ++ mkD h
  rw [hm]
  exact hd
end
end Mu
end
section
/-
  Steps of a walk whose small goals close by themselves.
  Conditions: none; generic.
-/
namespace Mu
open Go Go.RowKit

section
variable {P : Program} {C : Ctx} {t t' t'' : List AV} {h h' h'' : List ABlk} {o : Oper} {r : AV} {ops : Array Oper} {rest : List Oper} {K : St → Prop}
theorem sQ (hg : gA ops t o = some true := by rfl) (hq : Quiet P C t h o r := by (first
    | exact Quiet.move rfl (by (conv => lhs; whnf); try rfl)
    | exact Quiet.assign rfl (by (conv => lhs; whnf); try rfl)
    | exact Quiet.fa_ptr rfl rfl rfl
    | exact Quiet.fa_bp rfl rfl
    | exact Quiet.fa_rp rfl rfl rfl
    | exact Quiet.faL rfl rfl
    | exact Quiet.load_ptr rfl rfl rfl rfl
    | exact Quiet.load_bp rfl rfl rfl
    | exact Quiet.load_rp rfl rfl rfl (by assumption) rfl
    | exact Quiet.loadA_ptr rfl rfl rfl rfl
    | exact Quiet.loadA_bp rfl rfl rfl
    | exact Quiet.ix rfl rfl rfl rfl (by assumption)
    | exact Quiet.ixi rfl rfl rfl rfl (by first | decide | omega) (by assumption)
    | exact Quiet.ixo rfl rfl rfl rfl rfl (by first | assumption | omega)
    | exact Quiet.ixoi rfl rfl rfl rfl rfl (by first | decide | omega) (by first | assumption | omega)
    | exact Quiet.ixl0 rfl rfl rfl (by first | assumption | omega)
    | exact Quiet.ln rfl rfl
    | exact Quiet.lno rfl rfl rfl
    | exact Quiet.lnl rfl rfl
    | exact Quiet.add64 rfl rfl rfl (by omega)
    | exact Quiet.sub64 rfl rfl rfl (by omega)
    | exact Quiet.binb rfl rfl rfl rfl (by assumption)
    | exact Quiet.bin rfl rfl rfl rfl
    | exact Quiet.bnot rfl rfl
    | exact Quiet.pick rfl rfl (by (conv => lhs; whnf); try rfl)
    | exact Quiet.extract rfl rfl rfl
    | exact Quiet.lt1 rfl rfl rfl (by rfl) (by decide) (by first | exact Fit.bool | exact Fit.bs | exact Fit.int (by assumption))
    | exact Quiet.max2 rfl rfl rfl
    | exact Quiet.min2 rfl rfl rfl
    | exact Quiet.ldL (i := 1) rfl rfl rfl (by first | rfl | assumption) rfl
    | exact Quiet.ldL (i := 2) rfl rfl rfl (by first | rfl | assumption) rfl
    | exact Quiet.ldL (i := 3) rfl rfl rfl (by first | rfl | assumption) rfl
    | exact Quiet.ldL (i := 4) rfl rfl rfl (by first | rfl | assumption) rfl
    | exact Quiet.ldL (i := 5) rfl rfl rfl (by first | rfl | assumption) rfl
    | exact Quiet.ldL (i := 6) rfl rfl rfl (by first | rfl | assumption) rfl
    | exact Quiet.ldL (i := 7) rfl rfl rfl (by first | rfl | assumption) rfl
    | exact Quiet.ldL (i := 8) rfl rfl rfl (by first | rfl | assumption) rfl
    | exact Quiet.ldAL (i := 1) rfl rfl rfl rfl rfl
    | exact Quiet.ldAL (i := 2) rfl rfl rfl rfl rfl
    | exact Quiet.ldAL (i := 3) rfl rfl rfl rfl rfl
    | exact Quiet.ldAL (i := 4) rfl rfl rfl rfl rfl
    | exact Quiet.ldAL (i := 5) rfl rfl rfl rfl rfl
    | exact Quiet.ldAL (i := 6) rfl rfl rfl rfl rfl
    | exact Quiet.ldAL (i := 7) rfl rfl rfl rfl rfl
    | exact Quiet.ldAL (i := 8) rfl rfl rfl rfl rfl)) (ht : putA t o.dst r = t' := by ((try simp only [putA, List.set_cons_zero, List.set_cons_succ]); exact rfl)) (hk : aSeq P C ops K rest ⟨t', h⟩) : aSeq P C ops K (o :: rest) ⟨t, h⟩ := by
  subst ht
  exact aSeq_q hg hq hk
theorem sSkip (hg : gA ops t o = some false := by rfl) (ht : putA t o.dst (.lit undef) = t' := by ((try simp only [putA, List.set_cons_zero, List.set_cons_succ]); exact rfl)) (hk : aSeq P C ops K rest ⟨t', h⟩) : aSeq P C ops K (o :: rest) ⟨t, h⟩ := by
  subst ht
  exact aSeq_skip hg hk
theorem sOwn (hg : gA ops t o = some true := by rfl) (hq : ∀ K' : St → Prop, K' ⟨t'', h''⟩ → AOp P C o ⟨t, h⟩ K' := by (intro K' hK; (first
    | exact AOp.box rfl Parts0.agg hK
    | exact AOp.al rfl hK
    | exact AOp.stBox rfl rfl rfl (Parts.aggB rfl) rfl (Nat.le_of_ble_eq_true rfl) hK
    | exact AOp.stBox (new := [_]) rfl rfl rfl (Parts.one (One.lit rfl)) rfl (Nat.le_of_ble_eq_true rfl) hK
    | exact AOp.app rfl rfl rfl rfl rfl (by first | assumption | (simp [maxLen]; done) | (simp [maxLen]; omega)) (by first | assumption | (simp; done) | (simp; omega)) hK
    | exact AOp.stRow rfl rfl rfl (by assumption) (by first | exact Fit.bool | exact Fit.bs | exact Fit.int (by assumption)) rfl hK))) (ht : t'' = t' := by ((try simp only [putA, List.set_cons_zero, List.set_cons_succ]); exact rfl)) (hh : h'' = h' := by ((try simp only [List.nil_append, List.cons_append, List.set_cons_zero, List.set_cons_succ, List.length_nil, List.length_cons, Nat.reduceAdd]); exact rfl)) (hk : aSeq P C ops K rest ⟨t', h'⟩) : aSeq P C ops K (o :: rest) ⟨t, h⟩ := by
  subst ht hh
  exact aSeq_o hg (hq _ hk)
theorem sNt (ht : t = t' := by ((try simp only [putA, List.set_cons_zero, List.set_cons_succ]); exact rfl)) (hh : h = h' := by ((try simp only [List.nil_append, List.cons_append, List.set_cons_zero, List.set_cons_succ, List.length_nil, List.length_cons, Nat.reduceAdd]); exact rfl)) (hk : aSeq P C ops K rest ⟨t', h'⟩) : aSeq P C ops K rest ⟨t, h⟩ := by
  subst ht hh
  exact hk
theorem qQ {K : List AV → Prop} (hg : gA ops t o = some true := by rfl) (hq : Quiet P C t h o r := by (first
    | exact Quiet.move rfl (by (conv => lhs; whnf); try rfl)
    | exact Quiet.assign rfl (by (conv => lhs; whnf); try rfl)
    | exact Quiet.fa_ptr rfl rfl rfl
    | exact Quiet.fa_bp rfl rfl
    | exact Quiet.fa_rp rfl rfl rfl
    | exact Quiet.faL rfl rfl
    | exact Quiet.load_ptr rfl rfl rfl rfl
    | exact Quiet.load_bp rfl rfl rfl
    | exact Quiet.load_rp rfl rfl rfl (by assumption) rfl
    | exact Quiet.loadA_ptr rfl rfl rfl rfl
    | exact Quiet.loadA_bp rfl rfl rfl
    | exact Quiet.ix rfl rfl rfl rfl (by assumption)
    | exact Quiet.ixi rfl rfl rfl rfl (by first | decide | omega) (by assumption)
    | exact Quiet.ixo rfl rfl rfl rfl rfl (by first | assumption | omega)
    | exact Quiet.ixoi rfl rfl rfl rfl rfl (by first | decide | omega) (by first | assumption | omega)
    | exact Quiet.ixl0 rfl rfl rfl (by first | assumption | omega)
    | exact Quiet.ln rfl rfl
    | exact Quiet.lno rfl rfl rfl
    | exact Quiet.lnl rfl rfl
    | exact Quiet.add64 rfl rfl rfl (by omega)
    | exact Quiet.sub64 rfl rfl rfl (by omega)
    | exact Quiet.binb rfl rfl rfl rfl (by assumption)
    | exact Quiet.bin rfl rfl rfl rfl
    | exact Quiet.bnot rfl rfl
    | exact Quiet.pick rfl rfl (by (conv => lhs; whnf); try rfl)
    | exact Quiet.extract rfl rfl rfl
    | exact Quiet.lt1 rfl rfl rfl (by rfl) (by decide) (by first | exact Fit.bool | exact Fit.bs | exact Fit.int (by assumption))
    | exact Quiet.max2 rfl rfl rfl
    | exact Quiet.min2 rfl rfl rfl
    | exact Quiet.ldL (i := 1) rfl rfl rfl (by first | rfl | assumption) rfl
    | exact Quiet.ldL (i := 2) rfl rfl rfl (by first | rfl | assumption) rfl
    | exact Quiet.ldL (i := 3) rfl rfl rfl (by first | rfl | assumption) rfl
    | exact Quiet.ldL (i := 4) rfl rfl rfl (by first | rfl | assumption) rfl
    | exact Quiet.ldL (i := 5) rfl rfl rfl (by first | rfl | assumption) rfl
    | exact Quiet.ldL (i := 6) rfl rfl rfl (by first | rfl | assumption) rfl
    | exact Quiet.ldL (i := 7) rfl rfl rfl (by first | rfl | assumption) rfl
    | exact Quiet.ldL (i := 8) rfl rfl rfl (by first | rfl | assumption) rfl
    | exact Quiet.ldAL (i := 1) rfl rfl rfl rfl rfl
    | exact Quiet.ldAL (i := 2) rfl rfl rfl rfl rfl
    | exact Quiet.ldAL (i := 3) rfl rfl rfl rfl rfl
    | exact Quiet.ldAL (i := 4) rfl rfl rfl rfl rfl
    | exact Quiet.ldAL (i := 5) rfl rfl rfl rfl rfl
    | exact Quiet.ldAL (i := 6) rfl rfl rfl rfl rfl
    | exact Quiet.ldAL (i := 7) rfl rfl rfl rfl rfl
    | exact Quiet.ldAL (i := 8) rfl rfl rfl rfl rfl)) (ht : putA t o.dst r = t' := by ((try simp only [putA, List.set_cons_zero, List.set_cons_succ]); exact rfl)) (hk : aQ P C ops h K rest t') : aQ P C ops h K (o :: rest) t := by
  subst ht
  exact aQ_q hg hq hk
theorem qSkip {K : List AV → Prop} (hg : gA ops t o = some false := by rfl) (ht : putA t o.dst (.lit undef) = t' := by ((try simp only [putA, List.set_cons_zero, List.set_cons_succ]); exact rfl)) (hk : aQ P C ops h K rest t') : aQ P C ops h K (o :: rest) t := by
  subst ht
  exact aQ_skip hg hk
theorem oQ {K : St → Prop} (hq : Quiet P C t h o r := by (first
    | exact Quiet.move rfl (by (conv => lhs; whnf); try rfl)
    | exact Quiet.assign rfl (by (conv => lhs; whnf); try rfl)
    | exact Quiet.fa_ptr rfl rfl rfl
    | exact Quiet.fa_bp rfl rfl
    | exact Quiet.fa_rp rfl rfl rfl
    | exact Quiet.faL rfl rfl
    | exact Quiet.load_ptr rfl rfl rfl rfl
    | exact Quiet.load_bp rfl rfl rfl
    | exact Quiet.load_rp rfl rfl rfl (by assumption) rfl
    | exact Quiet.loadA_ptr rfl rfl rfl rfl
    | exact Quiet.loadA_bp rfl rfl rfl
    | exact Quiet.ix rfl rfl rfl rfl (by assumption)
    | exact Quiet.ixi rfl rfl rfl rfl (by first | decide | omega) (by assumption)
    | exact Quiet.ixo rfl rfl rfl rfl rfl (by first | assumption | omega)
    | exact Quiet.ixoi rfl rfl rfl rfl rfl (by first | decide | omega) (by first | assumption | omega)
    | exact Quiet.ixl0 rfl rfl rfl (by first | assumption | omega)
    | exact Quiet.ln rfl rfl
    | exact Quiet.lno rfl rfl rfl
    | exact Quiet.lnl rfl rfl
    | exact Quiet.add64 rfl rfl rfl (by omega)
    | exact Quiet.sub64 rfl rfl rfl (by omega)
    | exact Quiet.binb rfl rfl rfl rfl (by assumption)
    | exact Quiet.bin rfl rfl rfl rfl
    | exact Quiet.bnot rfl rfl
    | exact Quiet.pick rfl rfl (by (conv => lhs; whnf); try rfl)
    | exact Quiet.extract rfl rfl rfl
    | exact Quiet.lt1 rfl rfl rfl (by rfl) (by decide) (by first | exact Fit.bool | exact Fit.bs | exact Fit.int (by assumption))
    | exact Quiet.max2 rfl rfl rfl
    | exact Quiet.min2 rfl rfl rfl
    | exact Quiet.ldL (i := 1) rfl rfl rfl (by first | rfl | assumption) rfl
    | exact Quiet.ldL (i := 2) rfl rfl rfl (by first | rfl | assumption) rfl
    | exact Quiet.ldL (i := 3) rfl rfl rfl (by first | rfl | assumption) rfl
    | exact Quiet.ldL (i := 4) rfl rfl rfl (by first | rfl | assumption) rfl
    | exact Quiet.ldL (i := 5) rfl rfl rfl (by first | rfl | assumption) rfl
    | exact Quiet.ldL (i := 6) rfl rfl rfl (by first | rfl | assumption) rfl
    | exact Quiet.ldL (i := 7) rfl rfl rfl (by first | rfl | assumption) rfl
    | exact Quiet.ldL (i := 8) rfl rfl rfl (by first | rfl | assumption) rfl
    | exact Quiet.ldAL (i := 1) rfl rfl rfl rfl rfl
    | exact Quiet.ldAL (i := 2) rfl rfl rfl rfl rfl
    | exact Quiet.ldAL (i := 3) rfl rfl rfl rfl rfl
    | exact Quiet.ldAL (i := 4) rfl rfl rfl rfl rfl
    | exact Quiet.ldAL (i := 5) rfl rfl rfl rfl rfl
    | exact Quiet.ldAL (i := 6) rfl rfl rfl rfl rfl
    | exact Quiet.ldAL (i := 7) rfl rfl rfl rfl rfl
    | exact Quiet.ldAL (i := 8) rfl rfl rfl rfl rfl)) (ht : putA t o.dst r = t' := by ((try simp only [putA, List.set_cons_zero, List.set_cons_succ]); exact rfl)) (hk : K ⟨t', h⟩) : AOp P C o ⟨t, h⟩ K := by
  subst ht
  exact AOp.q hq hk
theorem oOwn {K : St → Prop} (hq : ∀ K' : St → Prop, K' ⟨t'', h''⟩ → AOp P C o ⟨t, h⟩ K' := by (intro K' hK; (first
    | exact AOp.box rfl Parts0.agg hK
    | exact AOp.al rfl hK
    | exact AOp.stBox rfl rfl rfl (Parts.aggB rfl) rfl (Nat.le_of_ble_eq_true rfl) hK
    | exact AOp.stBox (new := [_]) rfl rfl rfl (Parts.one (One.lit rfl)) rfl (Nat.le_of_ble_eq_true rfl) hK
    | exact AOp.app rfl rfl rfl rfl rfl (by first | assumption | (simp [maxLen]; done) | (simp [maxLen]; omega)) (by first | assumption | (simp; done) | (simp; omega)) hK
    | exact AOp.stRow rfl rfl rfl (by assumption) (by first | exact Fit.bool | exact Fit.bs | exact Fit.int (by assumption)) rfl hK))) (ht : t'' = t' := by ((try simp only [putA, List.set_cons_zero, List.set_cons_succ]); exact rfl)) (hh : h'' = h' := by ((try simp only [List.nil_append, List.cons_append, List.set_cons_zero, List.set_cons_succ, List.length_nil, List.length_cons, Nat.reduceAdd]); exact rfl)) (hk : K ⟨t', h'⟩) : AOp P C o ⟨t, h⟩ K := by
  subst ht hh
  exact hq _ hk
theorem nT {c : Code} {Q : Exit → St → Prop} (ht : t = t' := by ((try simp only [putA, List.set_cons_zero, List.set_cons_succ]); exact rfl)) (hh : h = h' := by ((try simp only [List.nil_append, List.cons_append, List.set_cons_zero, List.set_cons_succ, List.length_nil, List.length_cons, Nat.reduceAdd]); exact rfl)) (hk : Awp P C c Q ⟨t', h'⟩) : Awp P C c Q ⟨t, h⟩ := by
  subst ht hh
  exact hk
theorem le_T (hb : bdH h = true := by rfl) (hf : Fgt h.length t t' := by ((try simp only [putA, List.set_cons_zero, List.set_cons_succ]); repeat (first | exact Fgt.nil | refine Fgt.keep rfl ?_ | refine Fgt.any ?_))) : St.le C ⟨t, h⟩ ⟨t', h⟩ := St.le_t hb hf
theorem le_C (hc : Cut h h') (hb : bdH h' = true := by rfl) (hf : Fgt h'.length t t' := by ((try simp only [putA, List.set_cons_zero, List.set_cons_succ]); repeat (first | exact Fgt.nil | refine Fgt.keep rfl ?_ | refine Fgt.any ?_))) (hm : mkD h' = mkD h := by rfl) : St.le C ⟨t, h⟩ ⟨t', h'⟩ := St.le_c hc hb hf hm
theorem drawD {id : Nat} {l l1 l2 : List Oper} {Q : Exit → St → Prop} (n : Nat) (hm : P.follows .mixedOrders = true := by kernel_rfl) (hB : regB l.toArray n = true := by kernel_rfl) (h1 : l.take n = l1 := by (simp only [List.take_succ_cons, List.take_zero, List.drop_succ_cons, List.drop_zero, List.take_nil, List.drop_nil]; exact rfl)) (h2 : l.drop n = l2 := by (simp only [List.take_succ_cons, List.take_zero, List.drop_succ_cons, List.drop_zero, List.take_nil, List.drop_nil]; exact rfl))
    (hh : aQ P C l.toArray h (fun t => aSeq P C l.toArray (Q .normal) l2 ⟨t, h⟩) l1 t) : Awp P C (.region id l.toArray true) Q ⟨t, h⟩ := by
  subst h1 h2
  exact Awp.draw n hm hB hh
theorem tStep {g : Nat} {listed : Array Bool} {s : St} (rs : List Nat) (hh : tAll P C ops K g listed s rs) (hr : Region.ready .any ops listed = rs := by kernel_rfl) (hne : rs ≠ [] := by simp) : tAny P C .any ops K (g + 1) listed s := tAny_step rs hr hne hh
theorem tDone {listed : Array Bool} {s : St} (hh : K s) (hr : Region.ready .any ops listed = [] := by kernel_rfl) : tAny P C .any ops K 0 listed s := tAny_done hr hh
theorem tC {i g : Nat} {listed : Array Bool} {s : St} {rs : List Nat} (h1 : AOp P C o s (tAny P C .any ops K g (listed.setIfInBounds i true))) (h2 : tAll P C ops K g listed s rs) (ho : ops[i]? = some o := by (simp only [List.getElem?_toArray, List.getElem?_cons_succ, List.getElem?_cons_zero]; exact rfl)) (hg : gA ops s.t o = some true := by rfl) : tAll P C ops K g listed s (i :: rs) := tAll_cons ho hg h1 h2
theorem tNt {g : Nat} {listed : Array Bool} (ht : t = t' := by ((try simp only [putA, List.set_cons_zero, List.set_cons_succ]); exact rfl)) (hh : h = h' := by ((try simp only [List.nil_append, List.cons_append, List.set_cons_zero, List.set_cons_succ, List.length_nil, List.length_cons, Nat.reduceAdd]); exact rfl)) (hk : tAny P C .any ops K g listed ⟨t', h'⟩) : tAny P C .any ops K g listed ⟨t, h⟩ := by
  subst ht hh
  exact hk
end
end Mu
end
section
/-
  Rows written out that have no room behind them: what is appended to them makes a new row.
  Conditions: none; generic.
-/
namespace Mu
open Go Go.RowKit Go.ChangeShapes Go.WideShapes

/-- a row that is only read, of its own block, with no room behind it -/
def Ty.full {α : Type} (e : TypeId) (T : Ty α) : Ty (List α) where
  size := 1
  bulk := fun _ => 1
  RS := fun w S cs ds => ∃ g cells, cs = [.slice (some ⟨g, 0, none⟩) ds.length ds.length] ∧ S g ∧ w.ownsRow 0 e T.size (.slice (some ⟨g, 0, none⟩) ds.length ds.length) ds.length cells ∧ ∀ i d, ds[i]? = some d → T.RS w S ((cells.drop (i * T.size)).take T.size) d
  len := by rintro _ _ _ _ ⟨g, cells, rfl, _⟩; rfl
  keepS := by
    rintro w w' S S' cs ds ⟨g, cells, rfl, h1, h2, h3⟩ hb hS
    refine ⟨g, cells, rfl, hS g h1, ownsRow_same h2 fun k hk => ?_, fun i d hd => T.keepS (h3 i d hd) hb hS⟩
    have : g = k := by simpa [blkOf] using hk
    subst this
    exact hb g h1
section
variable {P : Program} {C : Ctx} {t : List AV} {h : List ABlk} {o : Oper}
theorem Quiet.litF {ty e : TypeId} {bytes n m : Nat} {parts : Array (Nat × Operand)} {xs : List Operand} {α : Type} {T : Ty α} {ds : List α} {enc : α → List AV} [RT P ty e m bytes] [EncOf T enc] (ho : o.op = .buildSlice ty n parts) (hp : parts = numbered xs) (hn : n = xs.length)
    (hs : T.size = m) (hsz : n * T.size ≤ 16777216) (hf : Fits h T (xs.map (evA t)) ds) : Quiet P C t h o (.tv (Ty.full e T) ds) := by
  have h0 := EncOf.pos (T := T) (enc := enc)
  have hT : rowTy P ty = some (e, T.size, bytes) := by rw [hs]; exact RT.eq
  subst hp hn
  intro S ψ w ρ H hρ
  have hrel : AV.relL w S h ψ (xs.map (evA t)) (xs.map ρ) := relL_map fun x hx => hρ x (by
    rw [ho]
    simp only [Op.operands, numbered, List.map_map]
    refine List.mem_toArray.2 (List.mem_map.2 ?_)
    obtain ⟨j, hj⟩ := List.mem_iff_getElem?.1 hx
    exact ⟨(x, j), by rw [List.mem_zipIdx_iff_getElem?]; exact hj, rfl⟩)
  obtain ⟨k1, k2, k3, k4⟩ := fits_cells H hf hrel
  have hds : ds.length = xs.length := by rw [← k1]; simp
  rw [run_buildOp ho, run_lit hT (by rw [List.length_map]; exact hsz) k2]
  have hb : Below w.heap.size w (w.alloc (.cells ((xs.map ρ).flatMap fun v => v.cells.toList).toArray e)) := (Below.refl _ _).alloc (Nat.le_refl _) _
  refine ⟨hb, fun k => S k ∨ k = w.heap.size, fun k hk => .inl hk, fun k hk => hk.imp id fun e => by omega, fun k hk => ?_, ?_⟩
  · rcases hk with hk | hk
    · have := H.lt k hk; simp; omega
    · simp; omega
  · unfold AV.rel
    have hmx : xs.length ≤ maxLen := by
      have : xs.length * 1 ≤ xs.length * T.size := Nat.mul_le_mul_left _ h0
      unfold maxLen
      omega
    refine ⟨w.heap.size, (xs.map ρ).flatMap fun v => v.cells.toList, by rw [hds, List.length_map], .inr rfl, ?_, fun i d hd => T.keepS (k4 i d hd) (fun k hk => hb.block k (H.lt k hk)) fun _ h => .inl h⟩
    rw [hds]
    exact row_lit (heap_alloc_new w _) (Nat.zero_le _) (by rw [k3, hds]) hmx |> fun h => by simpa using h
theorem Quiet.appF {ty : TypeId} {x y : Operand} {e : TypeId} {bytes m : Nat} {α : Type} {T : Ty α} {l l2 : List α} {enc : α → List AV} [RT P ty e m bytes] [EncOf T enc] (ho : o.op = .call { callee := .builtin .append, args := #[x, y], argTypes := #[ty, ty] })
    (hx : evA t x = .tv (Ty.full e T) l) (hy : evA t y = .bs T l2) (hs : T.size = m) (hlen : l.length + l2.length ≤ maxLen) (hbytes : (l.length + l2.length) * bytes ≤ 140737488355328) : Quiet P C t h o (.bs T (l ++ l2)) := by
  have hT : rowTy P ty = some (e, T.size, bytes) := by rw [hs]; exact RT.eq
  have h1T := EncOf.one (T := T) (enc := enc)
  intro S ψ w ρ H hρ
  have hx' := hρ x (by simp [ho, Op.operands, Call.operands])
  have hy' := hρ y (by simp [ho, Op.operands, Call.operands])
  rw [hx] at hx'
  rw [hy] at hy'
  unfold AV.rel at hx' hy'
  obtain ⟨g, cells, e1, hg, hown, hR⟩ := hx'
  have e1 : ρ x = .slice (some ⟨g, 0, none⟩) l.length l.length := by simpa using e1
  obtain ⟨h1, ti, z, h2, h3, h4, h5, h6⟩ := rowTy_spec hT
  obtain ⟨A, c, hyv⟩ := slice_form hy'
  rw [hyv] at hy'
  obtain ⟨news, hnl, hsrc, hnR, hn1⟩ := slice_src hy' fun cs d hcs => h1T _ _ _ _ hcs
  have h0 := EncOf.pos (T := T) (enc := enc)
  obtain ⟨v', w', hrun, hown', hgr, hob⟩ := run_more (P := P) (ty := o.type) (c := c) h1 h2 h3 h4 h5 h6 h0 hown (hsrc w fun _ _ => rfl) hn1 hlen hbytes (Nat.zero_le _)
  have hB : Below w.heap.size w w' := by
    rcases Nat.eq_zero_or_pos l2.length with hz | hz
    · have hnews : news = [] := List.eq_nil_of_length_eq_zero (by rw [hnl, hz, Nat.zero_mul])
      subst hnews
      have hsr : Go.Src P T.size ty (.slice A 0 c) 0 [] w := by
        cases A with
        | none => exact Go.Src.ofNil w h1 c
        | some a => exact Go.Src.ofSlice w h1 a 0 c [] (by simp) (fun j u hu => by simp at hu) fun u hu => by cases hu
      have hr0 := run_append_nothing (P := P) w ty ty o.type e ti h1 h2 (some ⟨g, 0, none⟩) l.length l.length (Nat.le_refl _) (.slice A 0 c) (by rw [h4]; exact hsr)
      rw [hz, hr0] at hrun
      cases hrun
      exact Below.refl _ _
    · obtain ⟨a, rfl⟩ : ∃ a, A = some a := by
        have hp : 0 < news.length := by rw [hnl]; exact Nat.mul_pos hz h0
        obtain ⟨ad, e2, _⟩ := (hsrc w fun _ _ => rfl).cells 0 _ (List.getElem?_eq_getElem hp)
        exact ⟨ad, e2⟩
      have hcl : cells.length = l.length * T.size := hown.1
      have hr0 := run_append_grow (P := P) w ty o.type e ti z h1 h2 h3 ⟨g, 0, none⟩ l.length l.length cells (by rw [h4]; exact hcl) (fun j u hu => World.ownsRow.cells hown (g := g) rfl _ _ hu) a l2.length c news (by rw [h4]; exact hnl)
        (fun j u hu => by obtain ⟨ad, e2, hc⟩ := (hsrc w fun _ _ => rfl).cells j u hu; cases e2; exact hc) (by omega) (by unfold maxLen at hlen; omega) (by
          have := nextslicecap_le (need := l.length + l2.length) (old := l.length) (by omega)
          have h7 : Builtin.nextslicecap (l.length + l2.length) l.length * ti.bytes ≤ 2 * (l.length + l2.length) * ti.bytes := Nat.mul_le_mul_right _ this
          rw [Nat.mul_assoc, h5] at h7
          rw [h5]
          omega)
      rw [hr0] at hrun
      cases hrun
      exact ⟨rfl, rfl, rfl, by simp, fun k hk => heap_alloc_old w.drew _ hk⟩
  have hres : (execOp ρ o).run P w = .ok (.value v') w' := by
    simp [execOp, ho, resolve, invoke, builtin, e1, hyv, hrun]
  rw [hres]
  refine ⟨hB, fun k => S k ∨ v'.ownBlock = some k, fun k hk => .inl hk, fun k hk => ?_, fun k hk => ?_, ?_⟩
  · rcases hk with hk | hk
    · exact .inl hk
    · rcases hob with h8 | h8
      · rw [h8] at hk
        have : g = k := by simpa [Value.ownBlock] using hk
        subst this
        exact .inl hg
      · rw [h8] at hk
        cases hk
        exact .inr (Nat.le_refl _)
  · rcases hk with hk | hk
    · exact Nat.lt_of_lt_of_le (H.lt k hk) hB.size
    · exact (World.ownsRow.lt hown' k hk).2
  · unfold AV.rel
    have hkeep : ∀ k, S k → w'.heap[k]? = w.heap[k]? := fun k hk => hB.block k (H.lt k hk)
    refine own_slice (base := 0) (e := e) (cells := cells ++ news) (by rw [List.length_append]; exact hown') (fun j d hj => ?_) fun k hk => .inr hk
    by_cases hjl : j < l.length
    · rw [List.getElem?_append_left hjl] at hj
      rw [join_left hown.1 hjl]
      exact T.keepS (hR j d hj) hkeep fun _ h => .inl h
    · rw [List.getElem?_append_right (by omega)] at hj
      obtain ⟨q, rfl⟩ : ∃ q, j = l.length + q := ⟨j - l.length, by omega⟩
      rw [join_right hown.1]
      exact T.keepS (hnR q d (by simpa using hj)) hkeep fun _ h => .inl h
end
end Mu
end
section
/-
  Operations whose guards are not decided: what they yield is told case by case.
  Conditions: none; generic.
-/
namespace Mu
open Go Go.RowKit

section
variable {P : Program} {C : Ctx} {t t' : List AV} {h : List ABlk} {o : Oper} {r : AV} {ops : Array Oper} {rest : List Oper} {K : St → Prop}
theorem gA_c {j : Nat} {want q c : Bool} (ho : o.guard = some (j, want)) (hd : ((ops[j]?).bind (·.dst)).bind (t[·]?) = some (cond q (.lit (.bool c)) (.lit undef))) : gA ops t o = some (q && (c == want)) := by
  unfold gA
  rw [ho]
  simp only
  rw [hd]
  cases q <;> rfl
theorem aY_g {g : Bool} (hg : gA ops t o = some g) (hq : g = true → Quiet P C t h o r) : aYields P C ops h o (cond g r (.lit undef)) t := by
  cases g with
  | true => exact .inl ⟨hg, hq rfl⟩
  | false => exact .inr ⟨hg, rfl⟩
theorem sG {g : Bool} (hg : gA ops t o = some g := by first | rfl | exact gA_c rfl rfl) (hq : g = true → Quiet P C t h o r := by (intro hg; (try simp only [Bool.and_eq_true, beq_iff_eq] at hg); (try simp only [hg, cond_true, Bool.true_and, beq_self_eq_true]); (first
    | exact Quiet.pickOr rfl rfl rfl rfl
    | exact Quiet.pickAnd rfl rfl rfl rfl
    | exact Quiet.pickOr' rfl rfl rfl rfl
    | exact Quiet.pickAnd' rfl rfl rfl rfl
    | exact Quiet.move rfl (by (conv => lhs; whnf); try rfl)
    | exact Quiet.assign rfl (by (conv => lhs; whnf); try rfl)
    | exact Quiet.fa_ptr rfl rfl rfl
    | exact Quiet.fa_bp rfl rfl
    | exact Quiet.fa_rp rfl rfl rfl
    | exact Quiet.faL rfl rfl
    | exact Quiet.load_ptr rfl rfl rfl rfl
    | exact Quiet.load_bp rfl rfl rfl
    | exact Quiet.load_rp rfl rfl rfl (by assumption) rfl
    | exact Quiet.loadA_ptr rfl rfl rfl rfl
    | exact Quiet.loadA_bp rfl rfl rfl
    | exact Quiet.ix rfl rfl rfl rfl (by assumption)
    | exact Quiet.ixi rfl rfl rfl rfl (by first | decide | omega) (by assumption)
    | exact Quiet.ixo rfl rfl rfl rfl rfl (by first | assumption | omega)
    | exact Quiet.ixoi rfl rfl rfl rfl rfl (by first | decide | omega) (by first | assumption | omega)
    | exact Quiet.ixl0 rfl rfl rfl (by first | assumption | omega)
    | exact Quiet.ln rfl rfl
    | exact Quiet.lno rfl rfl rfl
    | exact Quiet.lnl rfl rfl
    | exact Quiet.add64 rfl rfl rfl (by omega)
    | exact Quiet.sub64 rfl rfl rfl (by omega)
    | exact Quiet.binb rfl rfl rfl rfl (by assumption)
    | exact Quiet.bin rfl rfl rfl rfl
    | exact Quiet.bnot rfl rfl
    | exact Quiet.pick rfl rfl (by (conv => lhs; whnf); try rfl)
    | exact Quiet.extract rfl rfl rfl
    | exact Quiet.lt1 rfl rfl rfl (by rfl) (by decide) (by first | exact Fit.bool | exact Fit.bs | exact Fit.int (by assumption))
    | exact Quiet.max2 rfl rfl rfl
    | exact Quiet.min2 rfl rfl rfl
    | exact Quiet.ldL (i := 1) rfl rfl rfl (by first | rfl | assumption) rfl
    | exact Quiet.ldL (i := 2) rfl rfl rfl (by first | rfl | assumption) rfl
    | exact Quiet.ldL (i := 3) rfl rfl rfl (by first | rfl | assumption) rfl
    | exact Quiet.ldL (i := 4) rfl rfl rfl (by first | rfl | assumption) rfl
    | exact Quiet.ldL (i := 5) rfl rfl rfl (by first | rfl | assumption) rfl
    | exact Quiet.ldL (i := 6) rfl rfl rfl (by first | rfl | assumption) rfl
    | exact Quiet.ldL (i := 7) rfl rfl rfl (by first | rfl | assumption) rfl
    | exact Quiet.ldL (i := 8) rfl rfl rfl (by first | rfl | assumption) rfl
    | exact Quiet.ldAL (i := 1) rfl rfl rfl rfl rfl
    | exact Quiet.ldAL (i := 2) rfl rfl rfl rfl rfl
    | exact Quiet.ldAL (i := 3) rfl rfl rfl rfl rfl
    | exact Quiet.ldAL (i := 4) rfl rfl rfl rfl rfl
    | exact Quiet.ldAL (i := 5) rfl rfl rfl rfl rfl
    | exact Quiet.ldAL (i := 6) rfl rfl rfl rfl rfl
    | exact Quiet.ldAL (i := 7) rfl rfl rfl rfl rfl
    | exact Quiet.ldAL (i := 8) rfl rfl rfl rfl rfl))) (ht : putA t o.dst (cond g r (.lit undef)) = t' := by ((try simp only [putA, List.set_cons_zero, List.set_cons_succ]); exact rfl)) (hk : aSeq P C ops K rest ⟨t', h⟩) : aSeq P C ops K (o :: rest) ⟨t, h⟩ := by
  subst ht
  cases g with
  | true => exact aSeq_q hg (hq rfl) hk
  | false => exact aSeq_skip hg hk
theorem qG {K : List AV → Prop} {g : Bool} (hg : gA ops t o = some g := by first | rfl | exact gA_c rfl rfl) (hq : g = true → Quiet P C t h o r := by (intro hg; (try simp only [Bool.and_eq_true, beq_iff_eq] at hg); (try simp only [hg, cond_true, Bool.true_and, beq_self_eq_true]); (first
    | exact Quiet.pickOr rfl rfl rfl rfl
    | exact Quiet.pickAnd rfl rfl rfl rfl
    | exact Quiet.pickOr' rfl rfl rfl rfl
    | exact Quiet.pickAnd' rfl rfl rfl rfl
    | exact Quiet.move rfl (by (conv => lhs; whnf); try rfl)
    | exact Quiet.assign rfl (by (conv => lhs; whnf); try rfl)
    | exact Quiet.fa_ptr rfl rfl rfl
    | exact Quiet.fa_bp rfl rfl
    | exact Quiet.fa_rp rfl rfl rfl
    | exact Quiet.faL rfl rfl
    | exact Quiet.load_ptr rfl rfl rfl rfl
    | exact Quiet.load_bp rfl rfl rfl
    | exact Quiet.load_rp rfl rfl rfl (by assumption) rfl
    | exact Quiet.loadA_ptr rfl rfl rfl rfl
    | exact Quiet.loadA_bp rfl rfl rfl
    | exact Quiet.ix rfl rfl rfl rfl (by assumption)
    | exact Quiet.ixi rfl rfl rfl rfl (by first | decide | omega) (by assumption)
    | exact Quiet.ixo rfl rfl rfl rfl rfl (by first | assumption | omega)
    | exact Quiet.ixoi rfl rfl rfl rfl rfl (by first | decide | omega) (by first | assumption | omega)
    | exact Quiet.ixl0 rfl rfl rfl (by first | assumption | omega)
    | exact Quiet.ln rfl rfl
    | exact Quiet.lno rfl rfl rfl
    | exact Quiet.lnl rfl rfl
    | exact Quiet.add64 rfl rfl rfl (by omega)
    | exact Quiet.sub64 rfl rfl rfl (by omega)
    | exact Quiet.binb rfl rfl rfl rfl (by assumption)
    | exact Quiet.bin rfl rfl rfl rfl
    | exact Quiet.bnot rfl rfl
    | exact Quiet.pick rfl rfl (by (conv => lhs; whnf); try rfl)
    | exact Quiet.extract rfl rfl rfl
    | exact Quiet.lt1 rfl rfl rfl (by rfl) (by decide) (by first | exact Fit.bool | exact Fit.bs | exact Fit.int (by assumption))
    | exact Quiet.max2 rfl rfl rfl
    | exact Quiet.min2 rfl rfl rfl
    | exact Quiet.ldL (i := 1) rfl rfl rfl (by first | rfl | assumption) rfl
    | exact Quiet.ldL (i := 2) rfl rfl rfl (by first | rfl | assumption) rfl
    | exact Quiet.ldL (i := 3) rfl rfl rfl (by first | rfl | assumption) rfl
    | exact Quiet.ldL (i := 4) rfl rfl rfl (by first | rfl | assumption) rfl
    | exact Quiet.ldL (i := 5) rfl rfl rfl (by first | rfl | assumption) rfl
    | exact Quiet.ldL (i := 6) rfl rfl rfl (by first | rfl | assumption) rfl
    | exact Quiet.ldL (i := 7) rfl rfl rfl (by first | rfl | assumption) rfl
    | exact Quiet.ldL (i := 8) rfl rfl rfl (by first | rfl | assumption) rfl
    | exact Quiet.ldAL (i := 1) rfl rfl rfl rfl rfl
    | exact Quiet.ldAL (i := 2) rfl rfl rfl rfl rfl
    | exact Quiet.ldAL (i := 3) rfl rfl rfl rfl rfl
    | exact Quiet.ldAL (i := 4) rfl rfl rfl rfl rfl
    | exact Quiet.ldAL (i := 5) rfl rfl rfl rfl rfl
    | exact Quiet.ldAL (i := 6) rfl rfl rfl rfl rfl
    | exact Quiet.ldAL (i := 7) rfl rfl rfl rfl rfl
    | exact Quiet.ldAL (i := 8) rfl rfl rfl rfl rfl))) (ht : putA t o.dst (cond g r (.lit undef)) = t' := by ((try simp only [putA, List.set_cons_zero, List.set_cons_succ]); exact rfl)) (hk : aQ P C ops h K rest t') : aQ P C ops h K (o :: rest) t := by
  subst ht
  exact ⟨_, aY_g hg hq, hk⟩
theorem Quiet.pickOr {c a b : Operand} {q e : Bool} (ho : o.op = .pick c a b) (hc : evA t c = .lit (.bool q)) (ha : evA t a = .lit (.bool true)) (hb : evA t b = cond (q == false) (.lit (.bool e)) (.lit undef)) : Quiet P C t h o (.lit (.bool (q || e))) := by
  refine Quiet.pick ho hc ?_
  cases q
  · exact hb
  · exact ha
theorem Quiet.pickAnd {c a b : Operand} {q e : Bool} (ho : o.op = .pick c a b) (hc : evA t c = .lit (.bool q)) (ha : evA t a = cond (q == true) (.lit (.bool e)) (.lit undef)) (hb : evA t b = .lit (.bool false)) : Quiet P C t h o (.lit (.bool (q && e))) := by
  refine Quiet.pick ho hc ?_
  cases q
  · exact hb
  · exact ha
theorem Quiet.pickOr' {c a b : Operand} {q e : Bool} (ho : o.op = .pick c a b) (hc : evA t c = .lit (.bool q)) (ha : evA t a = .lit (.bool true)) (hb : evA t b = .lit (.bool e)) : Quiet P C t h o (.lit (.bool (q || e))) := by
  refine Quiet.pick ho hc ?_
  cases q
  · exact hb
  · exact ha
theorem Quiet.pickAnd' {c a b : Operand} {q e : Bool} (ho : o.op = .pick c a b) (hc : evA t c = .lit (.bool q)) (ha : evA t a = .lit (.bool e)) (hb : evA t b = .lit (.bool false)) : Quiet P C t h o (.lit (.bool (q && e))) := by
  refine Quiet.pick ho hc ?_
  cases q
  · exact hb
  · exact ha
end
end Mu
end
section
/-
  A region that draws its order and holds a call of yield: quiet operations first, in any order, then a strict chain.
  Conditions: none; generic.
-/
namespace Mu
open Go Go.RowKit

section
variable {P : Program} {C : Ctx} {ops : Array Oper} {md : Region.Mode} {h : List ABlk}
theorem wpOpIn_of_aOp {i : Nat} {t : List AV} {a : Act} {w : World} {K : List AV → Prop} {K' : Act → World → Prop} {Q' : Exit → Act → World → Prop} (hlo : ¬ LetsOut Q') (H : St.rel C ⟨t, h⟩ a w) (hK : ∀ t a w, K t → St.rel C ⟨t, h⟩ a w → K' a w)
    (hh : aOp P C ops h i K t) : wpOpIn (fnc C.rd) 4 P ops Q' i K' a w := by
  unfold aOp at hh
  unfold wpOpIn
  split
  · rename_i ho; simp only [ho] at hh; exact hK _ _ _ hh H
  · rename_i o ho
    simp only [ho] at hh
    obtain ⟨r, hy, hk⟩ := hh
    obtain ⟨hd, S, ψ, hh', hl⟩ := id H
    rcases hy with ⟨hg, hq⟩ | ⟨hg, rfl⟩
    · have hw := gA_wanted hg hl
      rw [hw, if_pos rfl]
      exact fnc_oper (qUpon_noDefer (hq S ψ w a.eval hh' fun x _ => ev_rel hl x)) hlo (upon_of_q (s := ⟨t, h⟩) hd hh' hl (hq S ψ w a.eval hh' fun x _ => ev_rel hl x) fun a' w' h => hK _ _ _ hk h)
    · have hw := gA_wanted hg hl
      rw [hw, if_neg (by simp)]
      exact ⟨fun _ _ => fnc_fn _ _, hK _ _ _ hk (undef_rel H o.dst)⟩
theorem wpAnyIn_of_a {n g : Nat} {L : Array Bool → List AV → Prop} {Q' : Exit → Act → World → Prop} (hlo : ¬ LetsOut Q') (hL : ∀ listed t a w, L listed t → St.rel C ⟨t, h⟩ a w → wpAnyIn (fnc C.rd) 4 P md ops Q' g listed a w) :
    ∀ (f : Nat) (listed : Array Bool) (t : List AV) (a : Act) (w : World), aAny P C md ops h n L f listed t → St.rel C ⟨t, h⟩ a w → wpAnyIn (fnc C.rd) 4 P md ops Q' (f + g) listed a w
  | 0, listed, t, a, w, hh, H => by rw [Nat.zero_add]; exact hL _ _ _ _ hh H
  | f + 1, listed, t, a, w, hh, H => by
    rw [show f + 1 + g = (f + g) + 1 by omega]
    exact ⟨fun h0 => absurd h0 hh.1, fun i hi => wpOpIn_of_aOp hlo H (fun t' a' w' h' H' => wpAnyIn_of_a hlo hL f _ t' a' w' h' H') (hh.2 i hi).2⟩
theorem wpAnyIn_of_seq {F : Fence} {m : Nat} {Q' : Exit → Act → World → Prop} : ∀ (l : List Oper) (k : Nat) (listed : Array Bool) (a : Act) (w : World), (∀ j, l[j]? = ops[k + j]?) →
    Region.seqB md ops l.length k listed = true → wpListIn F m P ops Q' l a w → wpAnyIn F m P md ops Q' l.length listed a w
  | [], _, _, _, _, _, hB, h => ⟨by simpa [Region.seqB] using hB, h⟩
  | o :: l, k, listed, a, w, hl, hB, h => by
    have h0 : ops[k]? = some o := by simpa using (hl 0).symm
    simp only [List.length_cons, Region.seqB, Bool.and_eq_true, decide_eq_true_eq] at hB
    refine ⟨fun h1 => (by rw [hB.1] at h1; cases h1), fun i hi => ?_⟩
    rw [hB.1] at hi
    have hik : i = k := by simpa using hi
    subst hik
    have hw : wpOpIn F m P ops Q' i (wpListIn F m P ops Q' l) a w := by unfold wpOpIn; simp only [h0]; exact h
    exact wpOpIn_mono (fun a' w' h' => wpAnyIn_of_seq l (i + 1) _ a' w' (fun j => by have := hl (j + 1); simpa [Nat.add_assoc, Nat.add_comm 1 j] using this) hB.2 h') hw
theorem Awp.drawY {id : Nat} {l : List Oper} {Q : Exit → St → Prop} {s : St} (n : Nat) (hm : P.follows .mixedOrders = true) (hB : regB l.toArray n = true)
    (hh : aQ P C l.toArray s.h (fun t => aSeqY P C l.toArray (Q .normal) (l.drop n) ⟨t, s.h⟩) (l.take n) s.t) : Awp P C (.region id l.toArray true) Q s := fun a w H => by
  simp only [regB, Bool.and_eq_true, decide_eq_true_eq, Bool.or_eq_true, beq_iff_eq] at hB
  obtain ⟨⟨⟨⟨hsel, hnd⟩, hn⟩, hs⟩, hlex⟩ := hB
  have hn' : n ≤ l.length := by simpa using hn
  have htl : (l.take n).length = n := by simp; omega
  have hdl : (l.drop n).length = l.toArray.size - n := by simp
  have inv0 : HeadInv .any l.toArray n (Array.replicate l.toArray.size false) :=
    ⟨by simp, fun j oj _ hl => (by rw [getD_replicate_false] at hl; cases hl), fun t _ ht => getD_in (by simpa using ht) (getD_replicate_false _ _)⟩
  have htail : ∀ (listed : Array Bool) (i : Nat), HeadInv .any l.toArray n listed → i < n → listed.getD i true = false → ∀ t, n ≤ t → t ∉ Region.ready .any l.toArray listed := by
    intro listed i inv hi hun t ht
    rcases hs with hs | ⟨hs, hc⟩
    · intro hr
      obtain ⟨_, o, ho, _⟩ := mem_ready.1 hr
      have := (Array.getElem?_eq_some_iff.1 ho).1
      omega
    · by_cases hlt : n < l.toArray.size
      · exact tail_waits hs hc hlt inv _ i rfl hi hun t ht
      · intro hr
        obtain ⟨_, o, ho, _⟩ := mem_ready.1 hr
        have := (Array.getElem?_eq_some_iff.1 ho).1
        omega
  have HH := aAny_lex (md := .any) (g := l.toArray.size - n) htail (l.take n) 0 _ s.t (fun j hj => by
    have hj' : j < n := by rw [htl] at hj; exact hj
    simp [hj']) (by simpa using htl) inv0 (by rw [htl]; exact hlex) hh
  have hlo : ¬ LetsOut (fun e a' w' => e = Exit.normal ∧ ∃ s', Q e s' ∧ s'.rel C a' w') := fun ⟨_, _, h⟩ => by cases h.1
  refine wpIn_mono (wpIn_region_any (Q := fun e a' w' => e = .normal ∧ ∃ s', Q e s' ∧ s'.rel C a' w') hm ?_) fun _ _ _ h => h.2
  have H' : St.rel C ⟨s.t, s.h⟩ a { w with drawn := w.drawn + 1 } := by
    obtain ⟨hd, S, ψ, hh', hl⟩ := H
    have hb : Below w.heap.size w { w with drawn := w.drawn + 1 } := ⟨rfl, rfl, rfl, Nat.le_refl _, fun _ _ => rfl⟩
    exact ⟨hd, S, ψ, hh'.grow hb (fun _ h => h) (fun _ h => .inl h) hh'.lt, AV.relL_ext (show Ext w S s.h ψ { w with drawn := w.drawn + 1 } S s.h ψ from Ext.grow s.h ψ (fun k hk => rfl) fun _ h => h) _ _ hl⟩
  have := wpAnyIn_of_a (Q' := fun e a' w' => e = .normal ∧ ∃ s', Q e s' ∧ s'.rel C a' w') hlo (g := l.toArray.size - n) (fun listed t a' w' hL H' => by
    have := wpAnyIn_of_seq (md := .any) (l.drop n) n listed a' w' (fun j => by simp [List.getElem?_drop]) (by rw [hdl]; exact hL.1) (wpListIn_of_aSeqY rfl (Q' := fun e a' w' => e = .normal ∧ ∃ s', Q e s' ∧ s'.rel C a' w') hlo (fun s a w h H => ⟨rfl, s, h, H⟩) _ _ _ _ hL.2 H')
    rwa [hdl] at this) _ _ _ _ _ HH H'
  rw [htl, show n + (l.toArray.size - n) = l.toArray.size by omega] at this
  exact this
end
end Mu
end
section
/-
  A function that makes memory of the call's own and holds ranges over functions; contracts that read memory, from those over worlds.
  Conditions: none; generic.
-/
namespace Mu
open Go Go.RowKit

def RetsN {ι : Type} (t : Tmp) (Rs : ι → Res) (val : ι → Value) : Exit → St → Prop := fun e s => (e = .normal ∨ e = .ret) ∧ ∃ ds j p, s.h[0]? = some (.res (marksR ds)) ∧ mkD s.h = ds.map mark ∧ j ≠ 0 ∧ s.h[j]? = some (.res (Rs p)) ∧ evA s.t (.tmp t) = .lit (val p)
theorem FnNew.of_awpM {P : Program} {f : FuncId} {fn : Go.Func} {c : Code} {args : List AV} {ι : Type} {Rs : ι → Res} {val : ι → Value} {t : Tmp} {n : Nat} (hf : P.funcs[f]? = some fn) (hb : fn.body = some c) (hE : Enters P f = true) (hres : fn.results = #[.tmp t]) (hn : fn.ntmps = n)
    (hS : ∀ p w S S', (Rs p).R w S → (Rs p).R w S')
    (h : ∀ C : Ctx, C.std → C.rd = none → Awp P C c (RetsN t Rs val) ⟨args ++ List.replicate (n - args.length) (.lit undef), [.res (marksR [])]⟩) : FnNew P f args Rs val := by
  refine ⟨hE, fun w S vs hSl hr => (callsIn_wide (n := 4)).1 (callsIn_of_wp_marks hf hb trivial ?_)⟩
  rw [hn]
  have hst : St.rel ⟨w, S, fun k => k < w.heap.size, none⟩ ⟨args ++ List.replicate (n - args.length) (.lit undef), [.res (marksR [])]⟩ { tmps := vs.toArray ++ Array.replicate (n - vs.toArray.size) undef, defers := [] } w := by
    obtain ⟨hd, S1, ψ, H, hl⟩ := start_rel (n := n) hSl hr
    have X := Ext.push (w := w) (w' := w) (S := S1) (h := []) (ψ := ψ) (.res (marksR [])) undef fun _ _ => rfl
    exact ⟨rfl, S1, _, H.push (b := .res (marksR [])) (v := undef) (Below.refl _ _) (show BRel _ _ _ _ _ _ (.res (marksR [])) from ⟨fun g hg => (List.not_mem_nil hg).elim, show ([] : List Nat).Nodup ∧ ∀ d ∈ ([] : List Nat), w.heap[d]? = some (.deferred (some [])) from ⟨List.nodup_nil, fun d hd => (List.not_mem_nil hd).elim⟩⟩) (fun g hg => (List.not_mem_nil hg).elim), AV.relL_ext X _ _ hl⟩
  have hw := h ⟨w, S, fun k => k < w.heap.size, none⟩ (fun _ h => h) rfl _ w hst
  refine wpIn_mono hw ?_
  rintro e a' w' ⟨s, ⟨he, ds, j, p, h0, hm, hj0, hj, hx⟩, hd, S1, ψ, H, hl⟩
  have hv := ev_rel hl (.tmp t)
  rw [hm] at hd
  have key := leaves_h (P := P) (C := ⟨w, S, fun k => k < w.heap.size, none⟩) (fn := fn) (tmps := a'.tmps) (R := fun e w' => ∃ v, e = .returned v ∧ Turns w S (fun _ => False) Rs val v w') (n := 4) (x := evA s.t (.tmp t)) (v := a'.eval (.tmp t)) (fun W => results_tmp hres _ _ _) ds w' s.h S1 ψ (fun W S2 ψ2 h1 h2 => by
    rw [hx] at h2
    unfold AV.rel at h2
    have hB := h1.blk j (.res (Rs p)) (by rw [List.getElem?_set_ne (Ne.symm hj0)]; exact hj)
    refine ⟨_, rfl, ⟨h1.bel.os, h1.bel.tape, h1.bel.output, h1.bel.size, fun k hk _ => h1.bel.block k hk⟩, p, h2, hS p _ _ _ hB.2, fun k hk => ?_⟩
    obtain ⟨k1, k2, k3⟩ := hB.1 k hk
    exact ⟨.inr (Nat.le_of_not_lt k1), k3⟩) h0 H hv
  rcases he with rfl | rfl
  · show LeavesInM Fence.wide 4 P fn a'.tmps _ a'.defers .returning w'
    rw [hd]
    exact key
  · show LeavesInM Fence.wide 4 P fn a'.tmps _ a'.defers .returning w'
    rw [hd]
    exact key
/-- a row whose reading lies in memory that the call made, by a function that reads such memory -/
theorem FnR.of_fresh {P : Program} {f : FuncId} {Rr : Res} {args : List AV} {α : Type} {T : Ty α} {l : List α} (hE : Enters P f = true)
    (h : ∀ (w : World) (S : Nat → Prop) (vs : List Value), Rr.R w S → AV.relL w (fun k => k < w.heap.size) [] ψ0 args vs → Calls P f vs.toArray w fun e w' => ∃ v, e = .returned v ∧ T.slice.RS w' (fun k => w.heap.size ≤ k ∧ k < w'.heap.size) [v] l ∧ Below w.heap.size w w') : FnR P f Rr args (.bs T l) :=
  ⟨hE, fun w S vs hS _ hR hr => (h w S vs hR (AV.relL_ext (Ext.grow [] ψ0 (fun _ _ => rfl) hS) _ _ hr)).mono fun e w' ⟨v, he, ho, hb⟩ => by
    refine ⟨v, he, hb, fun k => S k ∨ (w.heap.size ≤ k ∧ k < w'.heap.size), fun _ h => .inl h, fun k hk => hk.imp id fun e => e.1, fun k hk => ?_, ?_⟩
    · rcases hk with hk | hk
      · exact Nat.lt_of_lt_of_le (hS k hk) hb.size
      · exact hk.2
    · unfold AV.rel
      exact T.slice.keepS ho (fun _ _ => rfl) fun k hk => .inr hk⟩
end Mu
end
section
/-
  slices.Backward over instructions: its contract.
  Conditions: at most 2^21 instructions, which lie where the rounds leave them as they are.
-/
namespace Mu
open Go Go.RowKit Go.Proofs Go.Shelf
attribute [local go_sem] Oper.semAt_some

/-- an instruction with its place, as it is handed over -/
abbrev BkE (W0 : World) (S : Nat → Prop) (ds : List Ins) := { x : Nat × List Value // ∃ d, ds[x.1]? = some d ∧ tIns.RS W0 S x.2 d }
def bkEnc {W0 : World} {S : Nat → Prop} {ds : List Ins} (x : BkE W0 S ds) : Array Value := #[.int .i64 ((x.1.1 : Nat) : Int), .agg x.1.2.toArray]
def bkIdx {W0 : World} {S : Nat → Prop} {ds : List Ins} (xs : List (BkE W0 S ds)) : List Nat := xs.map fun x => x.1.1
/-- how the iterator ends -/
def BPost {W0 : World} {S : Nat → Prop} {ds : List Ins} (J Jx : List (BkE W0 S ds) → World → Prop) (W' : World) : Prop := (∃ ys, bkIdx ys = (List.range ds.length).reverse ∧ J ys W') ∨ (∃ pre, True ∧ Jx pre W')
theorem rev_take {n j : Nat} (h : j < n) : (List.range n).reverse.take (n - (j + 1)) ++ [j] = (List.range n).reverse.take (n - j) := by
  have e : n - j = (n - (j + 1)) + 1 := by omega
  rw [e, List.take_add_one]
  congr 1
  rw [List.getElem?_reverse (by simp; omega)]
  simp
  rw [List.getElem?_range (by omega)]
  simp
  omega

set_option maxRecDepth 100000 in
set_option maxHeartbeats 4000000 in
theorem backward1_in (F : Fence) (n : Nat) (h105 : F.fn 96) (hro : F.round = none) (hn : 1 ≤ n) (l : Nat) (ds : List Ins) (A : Option Addr) (c Bb : Nat) (S : Nat → Prop) (W0 W : World) (J Jx : List (BkE W0 S ds) → World → Prop)
    (hW : KS S W0 W)
    (hY : ∀ pre x W, J pre W → pre.length < ds.length → YieldAt F (n - 1) Tryd.prog l (bkEnc x) W fun e W' =>
      (e = .returned (.bool true) ∧ J (pre ++ [x]) W' ∧ KS S W W') ∨ (e = .returned (.bool false) ∧ Jx (pre ++ [x]) W'))
    (hB : S Bb) (hB0 : W0.cell? ⟨Bb, 0, none⟩ = some (.slice A ds.length c)) (hR : tIns.slice.RS W0 S [.slice A ds.length c] ds) (hl : ds.length ≤ 2097152) (h0 : J [] W) :
    CallsIn F n Tryd.prog 96 #[.func (.yield l) #[] #[], .pointer (some ⟨Bb, 0, none⟩)] W fun e W' => (∃ v, e = .returned v) ∧ BPost J Jx W' := by
  have HR := Lib.hid hR
  have HY := Lib.hid hY
  have H0 := Lib.hid h0
  have x1 : IntKind.i64.wrap ((ds.length : Int) - 1) = (ds.length : Int) - 1 := IntWalk.i64_in _ (by omega)
  have hb0 := hW.cell hB hB0
  clear hR hY h0
  refine callsIn_of_wp Tryd.func96 rfl h105 ?_ hro
  simp only [Tryd.ntmps96, List.size_toArray, List.length_cons, List.length_nil, Nat.reduceAdd, Nat.reduceSub, Array.replicate_succ, Array.replicate_zero, List.push_toArray, List.append_toArray, List.nil_append, List.cons_append]
  gi_wp2
  gi_loopw [3] (fun i wr => ∃ m : Nat, m ≤ ds.length ∧ i = .int .i64 ((m : Int) - 1) ∧ (∃ pre, bkIdx pre = (List.range ds.length).reverse.take (ds.length - m) ∧ J pre wr) ∧ KS S W wr) (fun i _ => (RowKit.intOf i + 1).toNat)
  case atStart => exact ⟨ds.length, Nat.le_refl _, rfl, ⟨[], by simp [bkIdx], H0.out⟩, KS.refl⟩
  case round =>
    obtain ⟨m, hm, rfl, ⟨pre, hpre, hJ⟩, hK⟩ := hrel
    have HP := Lib.hid hpre
    clear hpre
    rcases m with _ | j
    · have d0 : decide ((0 : Int) ≤ ((0 : Nat) : Int) - 1) = false := decide_eq_false (by omega)
      gi_wp2
      go_end0
      exact ⟨⟨_, rfl⟩, .inl ⟨pre, by rw [HP.out]; exact List.take_of_length_le (by simp), hJ⟩⟩
    · have ej : ((j + 1 : Nat) : Int) - 1 = (j : Int) := by omega
      rw [ej]
      have d0 : decide ((0 : Int) ≤ (j : Int)) = true := decide_eq_true (by omega)
      have x2 : IntKind.i64.wrap ((j : Int) - 1) = (j : Int) - 1 := IntWalk.i64_in _ (by omega)
      obtain ⟨x, hxk⟩ : ∃ x, ds[j]? = some x := ⟨_, List.getElem?_eq_getElem (by omega)⟩
      obtain ⟨ib, io, Aa, ca, rfl, hib, hat⟩ := ins_at HR.out hxk
      have hK0 := hW.trans hK
      have e0 := hK0.cell (a := ⟨ib, _, none⟩) hib hat.c0
      have e1 := hK0.cell (a := ⟨ib, _, none⟩) hib hat.c1
      have e2 := hK0.cell (a := ⟨ib, _, none⟩) hib hat.c2
      have e3 := hK0.cell (a := ⟨ib, _, none⟩) hib hat.c3
      have e4 := hK0.cell (a := ⟨ib, _, none⟩) hib hat.c4
      have e5 := hK0.cell (a := ⟨ib, _, none⟩) hib hat.c5
      have e6 := hK0.cell (a := ⟨ib, _, none⟩) hib hat.c6
      have e7 := hK0.cell (a := ⟨ib, _, none⟩) hib hat.c7
      have e8 := hK0.cell (a := ⟨ib, _, none⟩) hib hat.c8
      have eb := hK0.cell hB hB0
      have hjl : (j : Int) < (ds.length : Int) := by omega
      have HX := Lib.hid (show ∃ d, ds[j]? = some d ∧ tIns.RS W0 S [.int .u8 x.op, .int .i64 x.d, .int .i64 x.a, .int .i64 x.b, .int .u32 x.n, .int .i64 x.f, .slice Aa x.args.length ca, .int .i64 x.l1, .int .i64 x.l2] d from ⟨x, hxk, tIns_R.2 ⟨Aa, ca, hat.raw⟩⟩)
      have hpl : pre.length < ds.length := by
        have := congrArg List.length HP.out
        simp [bkIdx] at this
        omega
      obtain ⟨fn, tmps, assign, body, hy, hR⟩ := HY.out pre ⟨(j, [.int .u8 x.op, .int .i64 x.d, .int .i64 x.a, .int .i64 x.b, .int .u32 x.n, .int .i64 x.f, .slice Aa x.args.length ca, .int .i64 x.l1, .int .i64 x.l2]), HX.out⟩ wr hJ hpl
      dsimp only [bkEnc] at hy
      clear hat hxk
      gi_wp2
      refine hR.mono ?_
      rintro e W3 (⟨rfl, hJ3, hk3⟩ | ⟨rfl, hJx3⟩)
      · gi_wp2
        go_roundw
        case rel =>
          refine ⟨j, by omega, rfl, ⟨_, ?_, hJ3⟩, hK.trans hk3⟩
          have h := HP.out
          unfold bkIdx at h ⊢
          rw [List.map_append, h]
          exact rev_take (by omega)
        case measure => simp [RowKit.intOf]
      · gi_wp2
        refine bodyPost_ret (results_none rfl _ _ _) rfl ?_
        exact ⟨⟨_, rfl⟩, .inr ⟨_, trivial, hJx3⟩⟩

/-- the iterator's contract -/
theorem backward_stops (F : Fence) (n : Nat) (h105 : F.fn 96) (hro : F.round = none) (hn : 1 ≤ n) (ds : List Ins) (A : Option Addr) (c Bb : Nat) (S : Nat → Prop) (W0 : World) (hS : ∀ k, S k → k < W0.heap.size)
    (hB : S Bb) (hB0 : W0.cell? ⟨Bb, 0, none⟩ = some (.slice A ds.length c)) (hR : tIns.slice.RS W0 S [.slice A ds.length c] ds) (hl : ds.length ≤ 2097152) :
    SeqStopsK F n Tryd.prog 96 #[.pointer (some ⟨Bb, 0, none⟩)] (fun x : BkE W0 S ds => bkEnc x) (KS S) (fun ys => bkIdx ys = (List.range ds.length).reverse) (fun _ => True) ds.length W0 := fun l J Jx W hW _ _ hY h0 =>
  backward1_in F n h105 hro hn l ds A c Bb S W0 W J Jx ⟨hW.size, fun k hk => hW.block k (hS k hk)⟩ hY hB hB0 hR hl h0

theorem backward_in (F : Fence) (n : Nat) (h78 : F.fn 85) (hro : F.round = none) (A : Option Addr) (m c : Nat) (w : World) :
    CallsIn F n Tryd.prog 85 #[.slice A m c] w fun e w' => e = .returned (.func (.func 96) #[] #[.pointer (some ⟨w.heap.size, 0, none⟩)]) ∧ w' = w.alloc (.cells #[.slice A m c] 45) := by
  refine callsIn_of_wp Tryd.func85 rfl h78 ?_ hro
  simp only [Tryd.ntmps85, List.size_toArray, List.length_cons, List.length_nil, Nat.reduceAdd, Nat.reduceSub, Array.replicate_succ, Array.replicate_zero, List.push_toArray, List.append_toArray, List.nil_append, List.cons_append]
  gi_wp2
  go_ret
  exact ⟨rfl, rfl⟩
end Mu
end
section
/-
  slices.Backward over instructions: its contract, its order told.
  Conditions: at most 2^21 instructions, which lie where the rounds leave them as they are.
-/
namespace Mu
open Go Go.RowKit Go.Proofs Go.Shelf
attribute [local go_sem] Oper.semAt_some

set_option maxRecDepth 100000 in
set_option maxHeartbeats 4000000 in
theorem backward1_k (F : Fence) (n : Nat) (h105 : F.fn 96) (hro : F.round = none) (hn : 1 ≤ n) (l : Nat) (ds : List Ins) (A : Option Addr) (c Bb : Nat) (S0 S : Nat → Prop) (hS0 : ∀ k, S0 k → S k) (W0 W : World) (J : Nat → World → Prop)
    (hW : KS S W0 W)
    (hY : ∀ (k j : Nat) (es : List Value) (d : Ins) (W : World), k + j + 1 = ds.length → ds[j]? = some d → tIns.RS W0 S0 es d → J k W → YieldAt F (n - 1) Tryd.prog l #[.int .i64 (j : Int), .agg es.toArray] W fun e W' => e = .returned (.bool true) ∧ J (k + 1) W' ∧ KS S W W')
    (hB : S Bb) (hB0 : W0.cell? ⟨Bb, 0, none⟩ = some (.slice A ds.length c)) (hR : tIns.slice.RS W0 S0 [.slice A ds.length c] ds) (hl : ds.length ≤ 2097152) (h0 : J 0 W) :
    CallsIn F n Tryd.prog 96 #[.func (.yield l) #[] #[], .pointer (some ⟨Bb, 0, none⟩)] W fun e W' => (∃ v, e = .returned v) ∧ J ds.length W' := by
  have HR := Lib.hid hR
  have HY := Lib.hid hY
  have H0 := Lib.hid h0
  have x1 : IntKind.i64.wrap ((ds.length : Int) - 1) = (ds.length : Int) - 1 := IntWalk.i64_in _ (by omega)
  have hb0 := hW.cell hB hB0
  clear hR hY h0
  refine callsIn_of_wp Tryd.func96 rfl h105 ?_ hro
  simp only [Tryd.ntmps96, List.size_toArray, List.length_cons, List.length_nil, Nat.reduceAdd, Nat.reduceSub, Array.replicate_succ, Array.replicate_zero, List.push_toArray, List.append_toArray, List.nil_append, List.cons_append]
  gi_wp2
  gi_loopw [3] (fun i wr => ∃ m : Nat, m ≤ ds.length ∧ i = .int .i64 ((m : Int) - 1) ∧ J (ds.length - m) wr ∧ KS S W wr) (fun i _ => (RowKit.intOf i + 1).toNat)
  case atStart => exact ⟨ds.length, Nat.le_refl _, rfl, by rw [Nat.sub_self]; exact H0.out, KS.refl⟩
  case round =>
    obtain ⟨m, hm, rfl, hJ, hK⟩ := hrel
    rcases m with _ | j
    · have d0 : decide ((0 : Int) ≤ ((0 : Nat) : Int) - 1) = false := decide_eq_false (by omega)
      gi_wp2
      go_end0
      exact ⟨⟨_, rfl⟩, hJ⟩
    · have ej : ((j + 1 : Nat) : Int) - 1 = (j : Int) := by omega
      rw [ej]
      have d0 : decide ((0 : Int) ≤ (j : Int)) = true := decide_eq_true (by omega)
      have x2 : IntKind.i64.wrap ((j : Int) - 1) = (j : Int) - 1 := IntWalk.i64_in _ (by omega)
      obtain ⟨x, hxk⟩ : ∃ x, ds[j]? = some x := ⟨_, List.getElem?_eq_getElem (by omega)⟩
      obtain ⟨ib, io, Aa, ca, rfl, hib, hat⟩ := ins_at HR.out hxk
      replace hib := hS0 _ hib
      have hK0 := hW.trans hK
      have e0 := hK0.cell (a := ⟨ib, _, none⟩) hib hat.c0
      have e1 := hK0.cell (a := ⟨ib, _, none⟩) hib hat.c1
      have e2 := hK0.cell (a := ⟨ib, _, none⟩) hib hat.c2
      have e3 := hK0.cell (a := ⟨ib, _, none⟩) hib hat.c3
      have e4 := hK0.cell (a := ⟨ib, _, none⟩) hib hat.c4
      have e5 := hK0.cell (a := ⟨ib, _, none⟩) hib hat.c5
      have e6 := hK0.cell (a := ⟨ib, _, none⟩) hib hat.c6
      have e7 := hK0.cell (a := ⟨ib, _, none⟩) hib hat.c7
      have e8 := hK0.cell (a := ⟨ib, _, none⟩) hib hat.c8
      have eb := hK0.cell hB hB0
      have hjl : (j : Int) < (ds.length : Int) := by omega
      obtain ⟨fn, tmps, assign, body, hy, hR⟩ := HY.out (ds.length - (j + 1)) j [.int .u8 x.op, .int .i64 x.d, .int .i64 x.a, .int .i64 x.b, .int .u32 x.n, .int .i64 x.f, .slice Aa x.args.length ca, .int .i64 x.l1, .int .i64 x.l2] x wr (by omega) hxk (tIns_R.2 ⟨Aa, ca, hat.raw⟩) hJ
      clear hat hxk
      gi_wp2
      refine hR.mono ?_
      rintro e W3 ⟨rfl, hJ3, hk3⟩
      gi_wp2
      go_roundw
      case rel =>
        refine ⟨j, by omega, rfl, ?_, hK.trans hk3⟩
        rw [show ds.length - (j + 1) + 1 = ds.length - j by omega] at hJ3
        exact hJ3
      case measure => simp [RowKit.intOf]

/-- the memory of such an iterator -/
def bkR (ds : List Ins) (p : Nat × Option Addr × Nat) : Res := ⟨[], fun g => g = p.1, fun w S => w.heap[p.1]? = some (.cells #[.slice p.2.1 ds.length p.2.2] 45 (0, 0)) ∧ tIns.slice.RS w S [.slice p.2.1 ds.length p.2.2] ds,
  fun h hk hb hs => ⟨(hk _ rfl).trans h.1, tIns.slice.keepS h.2 hb hs⟩⟩
def bkF (p : Nat × Option Addr × Nat) : Value := .func (.func 96) #[] #[.pointer (some ⟨p.1, 0, none⟩)]
theorem backward_new (ds : List Ins) : FnNew Tryd.prog 85 [.bs tIns ds] (bkR ds) bkF := by
  refine ⟨by kernel_rfl, fun w S vs hS hr => ?_⟩
  unfold AV.relL AV.rel AV.relL at hr
  obtain ⟨v, _, rfl, hv, rfl⟩ := hr
  obtain ⟨A, c, e, hx⟩ := id hv
  simp only [List.cons.injEq, and_true] at e
  subst e
  refine ((callsIn_wide (n := 4)).1 (backward_in Fence.wide 4 trivial rfl A ds.length c w)).mono ?_
  rintro e w' ⟨rfl, rfl⟩
  have hb : Below w.heap.size w (w.alloc (.cells #[.slice A ds.length c] 45)) := (Below.refl _ _).alloc (Nat.le_refl _) _
  exact ⟨_, rfl, ⟨hb.os, hb.tape, hb.output, hb.size, fun k hk _ => hb.block k hk⟩, (w.heap.size, A, c), rfl, ⟨heap_alloc_new w _, tIns.slice.keepS hv (fun k hk => hb.block k (hS k hk)) fun _ h => h⟩, fun k hk => by
    have hk : k = w.heap.size := hk
    subst hk
    exact ⟨.inr (Nat.le_refl _), by simp⟩⟩
/-- what the k-th round is given -/
def bkE (ds : List Ins) (k : Nat) : List AV := match ds[ds.length - 1 - k]? with
  | some d => [.lit (.int .i64 ((ds.length - 1 - k : Nat) : Int)), .agg (encIns d)]
  | none => [.any, .any]
theorem backward_iter (ds : List Ins) (hl : ds.length ≤ 2097152) (p : Nat × Option Addr × Nat) (w : World) (S : Nat → Prop) (_hS : ∀ k, S k → k < w.heap.size) (_hF : ∀ k, (bkR ds p).F k → k < w.heap.size) (hR : (bkR ds p).R w S) :
    IterK Tryd.prog 96 #[.pointer (some ⟨p.1, 0, none⟩)] (fun k => S k ∨ (bkR ds p).F k) w (fun k vs => AV.relL w S [] ψ0 (bkE ds k) vs) ds.length := fun l J W hW hY h0 => by
  refine backward1_k Fence.wide 3 trivial rfl (by decide) l ds p.2.1 p.2.2 p.1 S (fun k => S k ∨ (bkR ds p).F k) (fun _ h => .inl h) w W J hW ?_ (.inr rfl) (box_cell (cs := [_]) hR.1 rfl) hR.2 hl h0
  intro k j es d W1 hkj hd hes hJ
  refine hY k [.int .i64 (j : Int), .agg es.toArray] W1 (by omega) ?_ hJ
  have hj : ds.length - 1 - k = j := by omega
  show AV.relL w S [] ψ0 (bkE ds k) _
  unfold bkE
  rw [hj, hd]
  unfold AV.relL
  refine ⟨_, _, rfl, by unfold AV.rel; rfl, ?_⟩
  unfold AV.relL
  refine ⟨_, _, rfl, ?_, by unfold AV.relL; rfl⟩
  unfold AV.rel
  exact ⟨es, rfl, EncOf.ok (T := tIns) w S [] ψ0 es d hes⟩
theorem bkE_cl (ds : List Ins) (k : Nat) : AV.clL (bkE ds k) = true := by
  unfold bkE
  split <;> rfl
theorem bkE_len (ds : List Ins) (k : Nat) : (bkE ds k).length = 2 := by
  unfold bkE
  split <;> rfl
end Mu
end
section
/-
  DERIVED: THE SHELF's CONTRACTS AT THIS DUMP, IN PLAIN WORDS (tools/lay-plain.mjs out of 'TryShelfM.lean', which tools/lay-shelf.mjs wrote): THE SAME DECLARATIONS UNDER THE SAME NAMES: 'import', 'namespace', 'open', 'def', 'theorem' AND NOTHING ELSE: no command of the shelf's: FOR A HAND-IN. Each laying: the table of numbers ('.._ren') and one theorem, a field a fact of the dump's own or the kernel's comparison; each contract: ONE APPLICATION.
-/
namespace Go.Proofs
open Go.Shelf
def Tryd.keysM_ren : Go.Shelf.Ren := ⟨fun | 7 => 95 | 10 => 102 | n => n, fun | 23 => 105 | 26 => 3 | 3 => 3 | 28 => 67 | 0 => 0 | 27 => 66 | 33 => 32 | 4 => 4 | n => n, fun | n => n⟩
theorem Tryd.keysM : Go.Proofs.SlLaysZI.n7 Tryd.prog Tryd.keysM_ren := {
  mixed := by kernel_rfl
  f7 := ⟨Tryd.f95.name, by decide, Tryd.func95.trans (congrArg some (by kernel_rfl))⟩
  f10 := ⟨Tryd.f102.name, by decide, Tryd.func102.trans (congrArg some (by kernel_rfl))⟩
  t0 := Tryd.underlying0
  a0 := Tryd.isAgg0
  z0 := Tryd.sizeOf0
  v0 := Tryd.zeroValue0
  t4 := Tryd.underlying4
  a4 := Tryd.isAgg4
  z4 := Tryd.sizeOf4
  v4 := Tryd.zeroValue4
  t23 := Tryd.underlying105
  a23 := Tryd.isAgg105
  z23 := Tryd.sizeOf105
  v23 := Tryd.zeroValue105
  t26 := Tryd.underlying3
  a26 := Tryd.isAgg3
  z26 := Tryd.sizeOf3
  v26 := Tryd.zeroValue3
  t27 := Tryd.underlying66
  a27 := Tryd.isAgg66
  z27 := Tryd.sizeOf66
  v27 := Tryd.zeroValue66
  t28 := Tryd.underlying67
  a28 := Tryd.isAgg67
  z28 := Tryd.sizeOf67
  v28 := Tryd.zeroValue67
  t33 := Tryd.underlying32
  a33 := Tryd.isAgg32
  z33 := Tryd.sizeOf32
  v33 := Tryd.zeroValue32 }
def Tryd.sortedM_ren : Go.Shelf.Ren := ⟨fun | 6 => 26 | 8 => 42 | 9 => 23 | 11 => 69 | 13 => 39 | 12 => 38 | 23 => 65 | 24 => 66 | 14 => 56 | 15 => 57 | 16 => 58 | 17 => 59 | 18 => 60 | 19 => 61 | 20 => 62 | 21 => 63 | 22 => 64 | 25 => 77 | 26 => 78 | 27 => 79 | 28 => 80 | 29 => 81 | 30 => 82 | 31 => 93 | n => n, fun | 26 => 3 | 28 => 67 | 24 => 27 | 0 => 0 | 3 => 3 | 37 => 79 | 48 => 48 | 50 => 103 | 4 => 4 | 40 => 95 | 39 => 94 | 45 => 57 | 5 => 5 | 9 => 9 | 51 => 114 | 55 => 118 | 57 => 133 | 58 => 134 | 33 => 32 | n => n, fun | n => n⟩
theorem Tryd.sortedM : Go.Proofs.SlLaysZI.n6 Tryd.prog Tryd.sortedM_ren := {
  mixed := by kernel_rfl
  f6 := ⟨Tryd.f26.name, by decide, Tryd.func26.trans (congrArg some (by kernel_rfl))⟩
  f8 := ⟨Tryd.f42.name, by decide, Tryd.func42.trans (congrArg some (by kernel_rfl))⟩
  f11 := ⟨Tryd.f69.name, by decide, Tryd.func69.trans (congrArg some (by kernel_rfl))⟩
  t0 := Tryd.underlying0
  a0 := Tryd.isAgg0
  z0 := Tryd.sizeOf0
  v0 := Tryd.zeroValue0
  t24 := Tryd.underlying27
  a24 := Tryd.isAgg27
  z24 := Tryd.sizeOf27
  v24 := Tryd.zeroValue27
  t26 := Tryd.underlying3
  a26 := Tryd.isAgg3
  z26 := Tryd.sizeOf3
  v26 := Tryd.zeroValue3
  t28 := Tryd.underlying67
  a28 := Tryd.isAgg67
  z28 := Tryd.sizeOf67
  v28 := Tryd.zeroValue67
  i26 := by kernel_rfl }
def Tryd.sortM_ren : Go.Shelf.Ren := ⟨fun | 5 => 23 | 8 => 39 | 7 => 38 | 19 => 65 | 20 => 66 | 10 => 56 | 11 => 57 | 12 => 58 | 13 => 59 | 14 => 60 | 15 => 61 | 16 => 62 | 17 => 63 | 18 => 64 | 30 => 77 | 31 => 78 | 32 => 79 | 33 => 80 | 34 => 81 | 35 => 82 | 40 => 93 | n => n, fun | 23 => 27 | 25 => 3 | 3 => 3 | 32 => 79 | 22 => 27 | 0 => 0 | 44 => 48 | 46 => 103 | 4 => 4 | 36 => 95 | 35 => 94 | 41 => 57 | 5 => 5 | 9 => 9 | 53 => 114 | 57 => 118 | 63 => 133 | 64 => 134 | n => n, fun | n => n⟩
theorem Tryd.sortM : Go.Proofs.SlLaysM.n5 Tryd.prog Tryd.sortM_ren := {
  mixed := by kernel_rfl
  f5 := ⟨Tryd.f23.name, by decide, Tryd.func23.trans (congrArg some (by kernel_rfl))⟩
  f7 := ⟨Tryd.f38.name, by decide, Tryd.func38.trans (congrArg some (by kernel_rfl))⟩
  f8 := Tryd.func39.trans (congrArg some (by kernel_rfl))
  f10 := ⟨Tryd.f56.name, by decide, Tryd.func56.trans (congrArg some (by kernel_rfl))⟩
  f11 := ⟨Tryd.f57.name, by decide, Tryd.func57.trans (congrArg some (by kernel_rfl))⟩
  f12 := ⟨Tryd.f58.name, by decide, Tryd.func58.trans (congrArg some (by kernel_rfl))⟩
  f13 := ⟨Tryd.f59.name, by decide, Tryd.func59.trans (congrArg some (by kernel_rfl))⟩
  f14 := ⟨Tryd.f60.name, by decide, Tryd.func60.trans (congrArg some (by kernel_rfl))⟩
  f15 := ⟨Tryd.f61.name, by decide, Tryd.func61.trans (congrArg some (by kernel_rfl))⟩
  f16 := ⟨Tryd.f62.name, by decide, Tryd.func62.trans (congrArg some (by kernel_rfl))⟩
  f17 := ⟨Tryd.f63.name, by decide, Tryd.func63.trans (congrArg some (by kernel_rfl))⟩
  f18 := ⟨Tryd.f64.name, by decide, Tryd.func64.trans (congrArg some (by kernel_rfl))⟩
  f19 := Tryd.func65.trans (congrArg some (by kernel_rfl))
  f20 := Tryd.func66.trans (congrArg some (by kernel_rfl))
  f30 := ⟨Tryd.f77.name, by decide, Tryd.func77.trans (congrArg some (by kernel_rfl))⟩
  f31 := Tryd.func78.trans (congrArg some (by kernel_rfl))
  f32 := Tryd.func79.trans (congrArg some (by kernel_rfl))
  f33 := ⟨Tryd.f80.name, by decide, Tryd.func80.trans (congrArg some (by kernel_rfl))⟩
  f34 := ⟨Tryd.f81.name, by decide, Tryd.func81.trans (congrArg some (by kernel_rfl))⟩
  f35 := ⟨Tryd.f82.name, by decide, Tryd.func82.trans (congrArg some (by kernel_rfl))⟩
  f40 := ⟨Tryd.f93.name, by decide, Tryd.func93.trans (congrArg some (by kernel_rfl))⟩
  t0 := Tryd.underlying0
  a0 := Tryd.isAgg0
  z0 := Tryd.sizeOf0
  v0 := Tryd.zeroValue0
  t3 := Tryd.underlying3
  a3 := Tryd.isAgg3
  z3 := Tryd.sizeOf3
  v3 := Tryd.zeroValue3
  t4 := Tryd.underlying4
  a4 := Tryd.isAgg4
  z4 := Tryd.sizeOf4
  v4 := Tryd.zeroValue4
  t5 := Tryd.underlying5
  a5 := Tryd.isAgg5
  z5 := Tryd.sizeOf5
  v5 := Tryd.zeroValue5
  t9 := Tryd.underlying9
  a9 := Tryd.isAgg9
  z9 := Tryd.sizeOf9
  v9 := Tryd.zeroValue9
  t22 := Tryd.underlying27
  a22 := Tryd.isAgg27
  z22 := Tryd.sizeOf27
  v22 := Tryd.zeroValue27
  t23 := Tryd.underlying27
  a23 := Tryd.isAgg27
  z23 := Tryd.sizeOf27
  v23 := Tryd.zeroValue27
  t25 := Tryd.underlying3
  a25 := Tryd.isAgg3
  z25 := Tryd.sizeOf3
  v25 := Tryd.zeroValue3
  t32 := Tryd.underlying79
  a32 := Tryd.isAgg79
  z32 := Tryd.sizeOf79
  v32 := Tryd.zeroValue79
  t35 := Tryd.underlying94
  a35 := Tryd.isAgg94
  z35 := Tryd.sizeOf94
  v35 := Tryd.zeroValue94
  t36 := Tryd.underlying95
  a36 := Tryd.isAgg95
  z36 := Tryd.sizeOf95
  v36 := Tryd.zeroValue95
  t41 := Tryd.underlying57
  a41 := Tryd.isAgg57
  z41 := Tryd.sizeOf57
  v41 := Tryd.zeroValue57
  t44 := Tryd.underlying48
  a44 := Tryd.isAgg48
  z44 := Tryd.sizeOf48
  v44 := Tryd.zeroValue48
  t46 := Tryd.underlying103
  a46 := Tryd.isAgg103
  z46 := Tryd.sizeOf103
  v46 := Tryd.zeroValue103
  t53 := Tryd.underlying114
  a53 := Tryd.isAgg114
  z53 := Tryd.sizeOf114
  v53 := Tryd.zeroValue114
  t57 := Tryd.underlying118
  a57 := Tryd.isAgg118
  z57 := Tryd.sizeOf118
  v57 := Tryd.zeroValue118
  t63 := Tryd.underlying133
  a63 := Tryd.isAgg133
  z63 := Tryd.sizeOf133
  v63 := Tryd.zeroValue133
  t64 := Tryd.underlying134
  a64 := Tryd.isAgg134
  z64 := Tryd.sizeOf134
  v64 := Tryd.zeroValue134 }
def Tryd.cloneM_ren : Go.Shelf.Ren := ⟨fun | 5 => 83 | 7 => 94 | n => n, fun | 23 => 105 | 25 => 3 | 3 => 3 | 4 => 4 | 20 => 20 | n => n, fun | n => n⟩
theorem Tryd.cloneM : Go.Proofs.SlLaysW.n5 Tryd.prog Tryd.cloneM_ren := {
  mixed := by kernel_rfl
  f5 := ⟨Tryd.f83.name, by decide, Tryd.func83.trans (congrArg some (by kernel_rfl))⟩
  f7 := Tryd.func94.trans (congrArg some (by kernel_rfl))
  t4 := Tryd.underlying4
  a4 := Tryd.isAgg4
  z4 := Tryd.sizeOf4
  v4 := Tryd.zeroValue4
  t20 := Tryd.underlying20
  a20 := Tryd.isAgg20
  z20 := Tryd.sizeOf20
  v20 := Tryd.zeroValue20
  t23 := Tryd.underlying105
  a23 := Tryd.isAgg105
  z23 := Tryd.sizeOf105
  v23 := Tryd.zeroValue105 }
def Tryd.copyM_ren : Go.Shelf.Ren := ⟨fun | 5 => 88 | n => n, fun | 23 => 105 | 24 => 105 | 26 => 3 | 27 => 3 | 0 => 0 | 4 => 4 | n => n, fun | n => n⟩
theorem Tryd.copyM : Go.Proofs.SlLaysX.n5 Tryd.prog Tryd.copyM_ren := {
  mixed := by kernel_rfl
  f5 := ⟨Tryd.f88.name, by decide, Tryd.func88.trans (congrArg some (by kernel_rfl))⟩
  t0 := Tryd.underlying0
  a0 := Tryd.isAgg0
  z0 := Tryd.sizeOf0
  v0 := Tryd.zeroValue0
  t4 := Tryd.underlying4
  a4 := Tryd.isAgg4
  z4 := Tryd.sizeOf4
  v4 := Tryd.zeroValue4
  t23 := Tryd.underlying105
  a23 := Tryd.isAgg105
  z23 := Tryd.sizeOf105
  v23 := Tryd.zeroValue105
  t24 := Tryd.underlying105
  a24 := Tryd.isAgg105
  z24 := Tryd.sizeOf105
  v24 := Tryd.zeroValue105
  a26 := Tryd.isAgg3
  z26 := Tryd.sizeOf3
  a27 := Tryd.isAgg3
  z27 := Tryd.sizeOf3 }
end Go.Proofs
end
section
/-
  Sets of registers as maps of the call's own: what a map holds, key by key; its keys, sorted.
  Conditions: none.
-/
namespace Mu
open Go Go.RowKit Go.Proofs Go.Maps Go.Sort Go.Shelf

def wf64 (x : Int) : Prop := (Lit.int .i64 x).wf = true
/-- a map of the call's own, as a set of its keys -/
def SetM (w : World) (b : Nat) (S : Int → Bool) : Prop := ∃ (D : DataW Unit), w.ownsMap Tryd.prog 3 (plainElem Tryd.prog 3) b (Maps.size D) D ∧ ∀ x, wf64 x → has D (.int .i64 x) = S x

theorem keyI : Keyed Tryd.prog 3 := int_keyed Tryd.underlying3
theorem own_exact {w : World} {b n : Nat} {D : DataW Unit} (h : w.ownsMap Tryd.prog 3 (plainElem Tryd.prog 3) b n D) : w.ownsMap Tryd.prog 3 (plainElem Tryd.prog 3) b (Maps.size D) D := by
  obtain ⟨es, clock, h1, h2, h3, rfl⟩ := h
  refine ⟨es, clock, h1, h2, ?_, rfl⟩
  rw [size_eq, length_read]
  exact Nat.le_refl _
theorem SetM.lt {w : World} {b : Nat} {S : Int → Bool} (h : SetM w b S) : b < w.heap.size := by
  obtain ⟨D, h1, _⟩ := h
  exact h1.lt
theorem SetM.keep {w w' : World} {b : Nat} {S : Int → Bool} (h : SetM w b S) (hk : w'.heap[b]? = w.heap[b]?) : SetM w' b S := by
  obtain ⟨D, ⟨es, clock, h1, h2⟩, h3⟩ := h
  exact ⟨D, ⟨es, clock, hk.trans h1, h2⟩, h3⟩
theorem SetM.congr {w : World} {b : Nat} {S T : Int → Bool} (h : SetM w b S) (e : ∀ x, wf64 x → S x = T x) : SetM w b T := by
  obtain ⟨D, h1, h2⟩ := h
  exact ⟨D, h1, fun x hx => (h2 x hx).trans (e x hx)⟩

/-- strictly rising -/
def Asc (l : List Int) : Prop := l.Pairwise (· < ·)
theorem Asc.nodup {l : List Int} (h : Asc l) : l.Nodup := h.imp (fun {a b} hab => by omega)
theorem Asc.filter {l : List Int} (h : Asc l) (S : Int → Bool) : Asc (l.filter S) := List.Pairwise.filter _ h
theorem asc_ext {l m : List Int} (hl : Asc l) (hm : Asc m) (h : ∀ x, x ∈ l ↔ x ∈ m) : l = m := by
  have hp : l.Perm m := (List.perm_ext_iff_of_nodup hl.nodup hm.nodup).2 h
  exact List.Perm.eq_of_pairwise (le := fun a b => a < b) (fun a b _ _ h1 h2 => by omega) hl hm hp
theorem asc_sort {l : List Int} (h : l.Nodup) : Asc (l.mergeSort fun x y => decide (x ≤ y)) := by
  have tr : ∀ a b c : Int, leI a b = true → leI b c = true → leI a c = true := fun a b c h1 h2 => by simp only [leI, decide_eq_true_eq] at *; exact Int.le_trans h1 h2
  have to : ∀ a b : Int, (leI a b || leI b a) = true := fun a b => by simp only [leI, Bool.or_eq_true, decide_eq_true_eq]; exact Int.le_total a b
  have h1 := List.pairwise_mergeSort tr to l
  have h2 : (l.mergeSort leI).Nodup := (List.mergeSort_perm l leI).nodup_iff.2 h
  refine (List.Pairwise.and h1 h2).imp fun {a b} hab => ?_
  obtain ⟨h3, h4⟩ := hab
  simp only [leI, decide_eq_true_eq] at h3
  omega

/-- the keys of a set, listed -/
theorem keys_of {w : World} {b : Nat} {D : DataW Unit} {n : Nat} (h : w.ownsMap Tryd.prog 3 (plainElem Tryd.prog 3) b n D) : (intKeys D).Nodup ∧ (∀ x, x ∈ intKeys D ↔ wf64 x ∧ has D (.int .i64 x) = true) ∧ (intKeys D).length = Maps.size D := by
  obtain ⟨es, rfl, hpw, _⟩ := h.entries keyI
  obtain ⟨es', hD', hko⟩ := h.keysOf
  obtain rfl : es = es' := by simpa using hD'
  have hk : ∀ p ∈ es, ∃ x, p.1 = .int .i64 x ∧ wf64 x := fun p hp => by
    obtain ⟨v, hv⟩ := hko p hp
    obtain ⟨x, _, hx, hw⟩ := Maps.keyOf_i64 Tryd.underlying3 hv
    exact ⟨x, hx, hw⟩
  refine ⟨?_, fun x => ?_, by simp [intKeys, size_eq]⟩
  · show (es.map fun p => Go.intOf p.1).Nodup
    refine List.pairwise_map.2 (hpw.imp_of_mem fun {p q} hp' hq' hne e => hne ?_)
    obtain ⟨a, ha, _⟩ := hk p hp'
    obtain ⟨b, hb, _⟩ := hk q hq'
    rw [ha, hb] at e ⊢
    exact congrArg _ e
  · rw [has_eq, List.any_eq_true]
    show x ∈ es.map (fun p => Go.intOf p.1) ↔ _
    rw [List.mem_map]
    constructor
    · rintro ⟨p, hp', rfl⟩
      obtain ⟨a, ha, hw⟩ := hk p hp'
      rw [ha]
      exact ⟨hw, p, hp', by rw [ha]; simp [Lit.sameKey, Go.intOf]⟩
    · rintro ⟨_, p, hp', hs⟩
      obtain ⟨a, ha, _⟩ := hk p hp'
      rw [ha] at hs
      exact ⟨p, hp', by rw [ha]; simpa [Lit.sameKey, Go.intOf] using hs⟩
theorem size_of {w : World} {b : Nat} {D : DataW Unit} {n : Nat} {S : Int → Bool} {R : List Int} (h : w.ownsMap Tryd.prog 3 (plainElem Tryd.prog 3) b n D) (hS : ∀ x, wf64 x → has D (.int .i64 x) = S x) (hR : Asc R) (hw : ∀ x ∈ R, wf64 x)
    (hin : ∀ x, wf64 x → S x = true → x ∈ R) : (intKeys D).Perm (R.filter S) ∧ Maps.size D = (R.filter S).length := by
  obtain ⟨h1, h2, h3⟩ := keys_of h
  have hp : (intKeys D).Perm (R.filter S) := (List.perm_ext_iff_of_nodup h1 (hR.filter S).nodup).2 fun x => by
    rw [h2, List.mem_filter]
    constructor
    · rintro ⟨hx, hh⟩
      rw [hS x hx] at hh
      exact ⟨hin x hx hh, hh⟩
    · rintro ⟨hx, hs⟩
      exact ⟨hw x hx, by rw [hS x (hw x hx)]; exact hs⟩
  exact ⟨hp, by rw [← h3]; exact hp.length_eq⟩

theorem sortsM (m : Nat) : AnyZI.SortsIn Tryd.prog Tryd.sortedM_ren Fence.wide m :=
  ⟨fun blk off cap ss W hH hblk hsz => callsIn_wide.2 (AnyM.slices_Sort_int Tryd.sortM blk off cap ss W hH hblk hsz),
   fun p cap W => callsIn_wide.2 (AnyM.slices_Sort_int_none Tryd.sortM p cap W)⟩

set_option maxRecDepth 100000 in
set_option maxHeartbeats 1000000 in
theorem set_list {b : Nat} {S : Int → Bool} {R : List Int} (w : World) (h : SetM w b S) (hR : Asc R) (hw : ∀ x ∈ R, wf64 x) (hin : ∀ x, wf64 x → S x = true → x ∈ R) (hl : R.length ≤ 2147483648) :
    Calls Tryd.prog 84 #[.map (some b)] w fun e w' => ∃ v, e = .returned v ∧ OwnI w' w.heap.size v (R.filter S) ∧ Below w.heap.size w w' := by
  obtain ⟨D, hown, hS⟩ := h
  obtain ⟨hperm, hsz⟩ := size_of hown hS hR hw hin
  have hfl := List.length_filter_le S R
  have hmax : Maps.size D ≤ maxLen := by rw [hsz]; unfold maxLen; omega
  have hbytes : Maps.size D * 8 ≤ 140737488355328 := by rw [hsz]; omega
  refine (callsIn_wide (n := 6)).1 ?_
  have hbl := hown.lt
  have hseq : SeqGives Fence.wide 2 Tryd.prog 102 #[.pointer (some ⟨w.heap.size, 0, none⟩)] encZ (fun ss => ss.Perm (intKeys D)) (Maps.size D) (w.alloc (.cells #[.map (some b)] 105)) :=
    AnyZI.keys_gives (ρ := Tryd.keysM_ren) { Tryd.keysM with } Fence.wide _ trivial rfl (by omega) w.heap.size b (Maps.size D) D _ (by simp) (by simp) (by
      obtain ⟨es, clock, hb, Ft, hs, hD⟩ := hown
      exact ⟨es, clock, (Below.heap_alloc _ _ b hbl).trans hb, Ft, hs, hD⟩)
  have cK : ∀ mb W, CallsIn Fence.wide 5 Tryd.prog 95 #[.map mb] W fun e w' => e = .returned (.func (.func 102) #[] #[.pointer (some ⟨W.heap.size, 0, none⟩)]) ∧ w' = W.alloc (.cells #[.map mb] 105) := fun mb W => AnyZI.keys_in Tryd.keysM Fence.wide 5 trivial rfl mb W
  have cS := AnyZI.sorted_in Tryd.sortedM Fence.wide 5 trivial trivial trivial trivial rfl (by omega) (sortsM _) (enters_of Tryd.func23 (by kernel_rfl) rfl) 102 #[.pointer (some ⟨w.heap.size, 0, none⟩)] trivial (enters_of Tryd.func102 (by kernel_rfl) rfl) _ _ hmax hbytes _ hseq
  change CallsIn _ _ Tryd.prog 26 _ _ _ at cS
  have hfK : Fence.wide.fn 95 := trivial
  have hfS : Fence.wide.fn 26 := trivial
  have HP := Lib.hid hperm
  clear hS hsz hperm hin hw
  refine callsIn_of_wp Tryd.func84 rfl trivial ?_ rfl
  simp only [Tryd.ntmps84, List.size_toArray, List.length_cons, List.length_nil, Nat.reduceAdd, Nat.reduceSub, Array.replicate_succ, Array.replicate_zero, List.push_toArray, List.append_toArray, List.nil_append, List.cons_append]
  gi_wp2_with (first
    | (gi_at_call 95; refine (cK _ _).mono ?_; rintro e w' ⟨rfl, rfl⟩)
    | (gi_at_call 26; refine cS.mono ?_; rintro e w' ⟨v, ss, rfl, hS, hrow, hnil, hb⟩))
  go_ret
  have hp2 : ss.Perm (R.filter S) := hS.trans HP.out
  have he : (ss.mergeSort fun x y => decide (x ≤ y)) = R.filter S :=
    asc_ext (asc_sort (hp2.nodup_iff.2 (hR.filter S).nodup)) (hR.filter S) (fun x => ((List.mergeSort_perm ss _).mem_iff).trans hp2.mem_iff)
  refine ⟨v, rfl, ?_, ((Below.refl _ w).alloc (Nat.le_refl _) _).trans (hb.mono (by simp))⟩
  have hrow2 : w'.ownsRow w.heap.size 3 1 v ss.length ((ss.mergeSort (fun x y => decide (x ≤ y))).map encZ) := ownsRow_base_a hrow (by simp)
  rw [he] at hrow2
  exact .of hrow2 hp2.length_eq rfl
end Mu
end
section
/-
  live's set.back, walked: what is live ahead of an instruction, in the map itself.
  Conditions: an instruction's arguments are at most 2^21; the sets lie in a row of at most 2^31 registers.
-/
namespace Mu
open Go Go.RowKit Go.Proofs Go.Maps

theorem grown_of_below {w w1 : World} {r : Option Nat} (h : Below w.heap.size w w1) : w.grownBy w1 r := ⟨h.os, h.tape, h.output, h.size, fun k hk _ => h.block k hk⟩
theorem below_of_grown {w w1 : World} {b B : Nat} (h : w.grownBy w1 (some b)) (hB : B ≤ w.heap.size) (hb : B ≤ b) : Below B w w1 := ⟨h.os, h.tape, h.output, h.size, fun k hk => h.block k (by omega) (by simp; omega)⟩

/-! ### readings do not lie in maps -/
def Avoids {α : Type} (T : Ty α) : Prop := ∀ (w : World) (S : Nat → Prop) (cs : List Value) (d : α) (b : Nat) (es : Array MapEntry) (c : Nat), T.RS w S cs d → w.heap[b]? = some (.map es c) → T.RS w (fun k => S k ∧ k ≠ b) cs d
theorem avoids_int (k : IntKind) : Avoids (Ty.int k) := fun _ _ _ _ _ _ _ h _ => h
theorem avoids_bool : Avoids Ty.bool := fun _ _ _ _ _ _ _ h _ => h
theorem avoids_str : Avoids Ty.str := fun _ _ _ _ _ _ _ h _ => h
theorem avoids_none : Avoids Ty.none_ := fun _ _ _ _ _ _ _ h _ => h
theorem avoids_cons {α β : Type} {T : Ty α} {U : Ty β} (h1 : Avoids T) (h2 : Avoids U) : Avoids (T.cons U) := by
  rintro w S cs d b es c ⟨c1, c2, rfl, k1, k2⟩ hm
  exact ⟨c1, c2, rfl, h1 w S c1 d.1 b es c k1 hm, h2 w S c2 d.2 b es c k2 hm⟩
theorem avoids_via {α β : Type} {U : Ty β} {f : β → α} {g : α → β} (h : Avoids U) : Avoids (U.via f g) := by
  rintro w S cs d b es c ⟨k1, k2⟩ hm
  exact ⟨h w S cs (g d) b es c k1 hm, k2⟩
theorem avoids_slice {α : Type} {T : Ty α} (h : Avoids T) (hp : 0 < T.size) : Avoids T.slice := by
  rintro w S cs ds b es c ⟨A, cp, rfl, hl, hc, hi⟩ hm
  refine ⟨A, cp, rfl, hl, hc, fun i d hd => ?_⟩
  obtain ⟨b', o, rfl, hS, cs, hR, hC⟩ := hi i d hd
  refine ⟨b', o, rfl, ⟨hS, fun e => ?_⟩, cs, h w S cs d b es c hR hm, hC⟩
  subst e
  have hlen := T.len hR
  have h0 := hC 0 _ (List.getElem?_eq_getElem (by omega))
  simp [World.cell?, hm] at h0
theorem avoids_tIns : Avoids tIns :=
  avoids_via (avoids_cons (avoids_int _) (avoids_cons (avoids_int _) (avoids_cons (avoids_int _) (avoids_cons (avoids_int _) (avoids_cons (avoids_int _) (avoids_cons (avoids_int _) (avoids_cons (avoids_slice (avoids_int _) (by decide)) (avoids_cons (avoids_int _) (avoids_cons (avoids_int _) avoids_none)))))))))
theorem avoids_tBlock : Avoids tBlock := avoids_via (avoids_cons avoids_str (avoids_cons (avoids_slice avoids_tIns (by decide)) avoids_none))
theorem avoids_tFunc : Avoids tFunc := avoids_via (avoids_cons avoids_str (avoids_cons (avoids_int _) (avoids_cons (avoids_int _) (avoids_cons (avoids_slice avoids_tBlock (by decide)) avoids_none))))
theorem R_turned {α : Type} {T : Ty α} (h : Avoids T) {w w' : World} {B b c : Nat} {cs : List Value} {d : α} {es : Array MapEntry} (hR : T.R w B cs d) (hB : B ≤ w.heap.size) (hm : w.heap[b]? = some (.map es c)) (hg : w.grownBy w' (some b)) : T.R w' w'.heap.size cs d :=
  T.keepS (h w _ cs d b es c hR hm) (fun k hk => hg.block k (by have := hk.1; omega) (by simp; exact hk.2)) (fun k hk => by have := hk.1; have := hg.size; omega)
theorem SetM.mapAt {w : World} {b : Nat} {S : Int → Bool} (h : SetM w b S) : ∃ es c, w.heap[b]? = some (.map es c) := by
  obtain ⟨D, ⟨es, c, h1, _⟩, _⟩ := h
  exact ⟨es, c, h1⟩

/-- w' is what calls, and turns of the map at b, made of w0, in which cs were boxed -/
def Bm (w0 : World) (cs : List Value) (T : TypeId) (b : Nat) (w' : World) : Prop := (w0.alloc (.cells cs.toArray T)).grownBy w' (some b)
section
variable {w0 w' w'' : World} {cs : List Value} {T : TypeId} {b : Nat}
theorem Bm.refl : Bm w0 cs T b (w0.alloc (.cells cs.toArray T)) := World.grownBy.refl _ _
theorem Bm.cell (h : Bm w0 cs T b w') (hb : b < w0.heap.size) {j : Nat} {v : Value} (hv : cs[j]? = some v) : w'.cell? ⟨w0.heap.size, j, none⟩ = some v := by
  have h1 := h.block w0.heap.size (by simp) (by simp; omega)
  exact box_cell (h1.trans (heap_alloc_new w0 _)) hv
theorem Bm.lt (h : Bm w0 cs T b w') : w0.heap.size < w'.heap.size := by have := h.size; simp at this; omega
theorem Bm.grown (h : Bm w0 cs T b w') : w0.grownBy w' (some b) := grown_trans (World.grownBy_alloc _ _ _) h
theorem Bm.call (h : Bm w0 cs T b w') (hb : Below w'.heap.size w' w'') : Bm w0 cs T b w'' := grown_trans h (grown_of_below hb)
theorem Bm.turn (h : Bm w0 cs T b w') (hg : w'.grownBy w'' (some b)) : Bm w0 cs T b w'' := grown_trans h hg
theorem Bm.R {α : Type} {U : Ty α} {us : List Value} {d : α} {es : Array MapEntry} {c : Nat} (h : Bm w0 cs T b w') (ha : Avoids U) (hm : w0.heap[b]? = some (.map es c)) (hR : U.R w0 w0.heap.size us d) : U.R w' w'.heap.size us d :=
  R_turned ha hR (Nat.le_refl _) hm h.grown
end

/-- the sets lie in a row of registers -/
structure InR (R : List Int) (S : Int → Bool) : Prop where
  mem : ∀ x, wf64 x → S x = true → x ∈ R
structure RegsR (R : List Int) : Prop where
  asc : Asc R
  wf : ∀ x ∈ R, wf64 x
  len : R.length ≤ 2147483648
theorem keyL {r : Int} (hw : wf64 r) : keyOf Tryd.prog 3 (.int .i64 r) = some (.int .i64 r) := Maps.keyOf_int_mk Tryd.underlying3 hw
theorem one_wf : (Lit.int .i64 1).wf = true := by decide
theorem setM_size {w : World} {b : Nat} {S : Int → Bool} {R : List Int} {D : DataW Unit} {n : Nat} (hown : w.ownsMap Tryd.prog 3 (plainElem Tryd.prog 3) b n D) (hS : ∀ x, wf64 x → has D (.int .i64 x) = S x) (hR : RegsR R) (hi : InR R S) : Maps.size D = (R.filter S).length ∧ Maps.size D ≤ 2147483648 := by
  have h := (size_of hown hS hR.asc hR.wf hi.mem).2
  have h2 := List.length_filter_le S R
  have := hR.len
  exact ⟨h, by omega⟩

def addS (S : Int → Bool) (r : Int) : Int → Bool := fun x => S x || x == r
def delS (S : Int → Bool) (r : Int) : Int → Bool := fun x => S x && x != r
def addL (S : Int → Bool) (l : List Int) : Int → Bool := fun x => S x || l.contains x
theorem addL_nil (S : Int → Bool) : addL S [] = S := by funext x; simp [addL]
theorem addL_snoc (S : Int → Bool) (l : List Int) (r : Int) : addL S (l ++ [r]) = addS (addL S l) r := by
  funext x
  simp only [addL, addS, List.contains_eq_mem, List.mem_append, List.mem_singleton, Bool.decide_or, Bool.or_assoc]
  congr 2
theorem SetM.put {w w1 : World} {b n : Nat} {S : Int → Bool} {D : DataW Unit} {d : DataW Unit} {r : Int} (hown : w.ownsMap Tryd.prog 3 (plainElem Tryd.prog 3) b n D) (hS : ∀ x, wf64 x → has D (.int .i64 x) = S x)
    (h1 : w1.ownsMap Tryd.prog 3 (plainElem Tryd.prog 3) b (n + 1) (D.put (.int .i64 r) d)) : SetM w1 b (addS S r) := by
  refine ⟨_, own_exact h1, fun x hx => ?_⟩
  by_cases e : x = r
  · subst e
    rw [has_put_same hown.isMap (by trivial)]
    simp [addS]
  · rw [has_put_other (by simpa using e), hS x hx]
    simp [addS, e]
theorem SetM.del {w1 : World} {b n : Nat} {S : Int → Bool} {D : DataW Unit} {r : Int} (hS : ∀ x, wf64 x → has D (.int .i64 x) = S x)
    (h1 : w1.ownsMap Tryd.prog 3 (plainElem Tryd.prog 3) b n (D.del (.int .i64 r))) : SetM w1 b (delS S r) := by
  refine ⟨_, own_exact h1, fun x hx => ?_⟩
  by_cases e : x = r
  · subst e
    rw [has_del_same]
    simp [delS]
  · rw [has_del_other (by simpa using e), hS x hx]
    simp [delS, e]

/-- what is live ahead of an instruction, by what is live behind it -/
def backS (x : Ins) (S : Int → Bool) : Int → Bool := addL (if writesB x then delS S x.d else S) (readsC x)
theorem InR.del {R : List Int} {S : Int → Bool} (h : InR R S) (r : Int) : InR R (delS S r) := ⟨fun x hx hs => h.mem x hx (by simp only [delS, Bool.and_eq_true] at hs; exact hs.1)⟩
theorem InR.addL {R : List Int} {S : Int → Bool} {l : List Int} (h : InR R S) (hl : ∀ r ∈ l, r ∈ R) : InR R (addL S l) := ⟨fun x hx hs => by
  simp only [Mu.addL, Bool.or_eq_true, List.contains_iff_mem] at hs
  rcases hs with hs | hs
  · exact h.mem x hx hs
  · exact hl x hs⟩
theorem InR.take {R : List Int} {S : Int → Bool} {l : List Int} (h : InR R S) (hl : ∀ r ∈ l, r ∈ R) (k : Nat) : InR R (Mu.addL S (l.take k)) := h.addL fun r hr => hl r (List.mem_of_mem_take hr)
theorem InR.back {R : List Int} {S : Int → Bool} {x : Ins} (h : InR R S) (hl : ∀ r ∈ readsC x, r ∈ R) : InR R (backS x S) := by
  unfold backS
  split
  · exact (h.del _).addL hl
  · exact h.addL hl
theorem readsC_len {x : Ins} (h : x.args.length ≤ 2097152) : (readsC x).length ≤ 2097154 := by
  unfold readsC
  simp only [List.length_append]
  have a1 : (if (hasS x.op).contains 97 then [x.a] else []).length ≤ 1 := by split <;> simp
  have a2 : (if (hasS x.op).contains 98 then [x.b] else []).length ≤ 1 := by split <;> simp
  have a3 : (if (hasS x.op).contains 120 then x.args else []).length ≤ x.args.length := by split <;> simp
  omega

set_option maxRecDepth 100000 in
set_option maxHeartbeats 2000000 in
theorem back_loop (x : Ins) (b : Nat) (S : Int → Bool) (R : List Int) (w : World) (cs : List Value) (hRI : tIns.R w w.heap.size cs x) (hl : x.args.length ≤ 2097152) (hs : SetM w b S) (hR : RegsR R) (hi : InR R S) (hx : ∀ r ∈ readsC x, r ∈ R) :
    Calls Tryd.prog 86 #[.map (some b), .agg cs.toArray] w fun e w' => e = .returned (.tuple #[]) ∧ SetM w' b (backS x S) ∧ w.grownBy w' (some b) := by
  have hRI2 := hRI
  obtain ⟨A, c, hI⟩ := tIns_R.1 hRI
  have hb := hs.lt
  obtain ⟨rfl, hop, hd, _, _, _, _, _, _, _⟩ := hI
  have hrl := readsC_len hl
  obtain ⟨cs, hcs⟩ : ∃ cs : List Value, cs = [.int .u8 x.op, .int .i64 x.d, .int .i64 x.a, .int .i64 x.b, .int .u32 x.n, .int .i64 x.f, .slice A x.args.length c, .int .i64 x.l1, .int .i64 x.l2] := ⟨_, rfl⟩
  have q0 : ∀ w', Bm w cs 50 b w' → w'.cell? ⟨w.heap.size, 0, none⟩ = some (.int .u8 x.op) := fun w' h => h.cell hb (by rw [hcs]; rfl)
  have q1 : ∀ w', Bm w cs 50 b w' → w'.cell? ⟨w.heap.size, 1, none⟩ = some (.int .i64 x.d) := fun w' h => h.cell hb (by rw [hcs]; rfl)
  have q2 : ∀ w', Bm w cs 50 b w' → w'.cell? ⟨w.heap.size, 2, none⟩ = some (.int .i64 x.a) := fun w' h => h.cell hb (by rw [hcs]; rfl)
  have q3 : ∀ w', Bm w cs 50 b w' → w'.cell? ⟨w.heap.size, 3, none⟩ = some (.int .i64 x.b) := fun w' h => h.cell hb (by rw [hcs]; rfl)
  have q4 : ∀ w', Bm w cs 50 b w' → w'.cell? ⟨w.heap.size, 4, none⟩ = some (.int .u32 x.n) := fun w' h => h.cell hb (by rw [hcs]; rfl)
  have q5 : ∀ w', Bm w cs 50 b w' → w'.cell? ⟨w.heap.size, 5, none⟩ = some (.int .i64 x.f) := fun w' h => h.cell hb (by rw [hcs]; rfl)
  have q6 : ∀ w', Bm w cs 50 b w' → w'.cell? ⟨w.heap.size, 6, none⟩ = some (.slice A x.args.length c) := fun w' h => h.cell hb (by rw [hcs]; rfl)
  have q7 : ∀ w', Bm w cs 50 b w' → w'.cell? ⟨w.heap.size, 7, none⟩ = some (.int .i64 x.l1) := fun w' h => h.cell hb (by rw [hcs]; rfl)
  have q8 : ∀ w', Bm w cs 50 b w' → w'.cell? ⟨w.heap.size, 8, none⟩ = some (.int .i64 x.l2) := fun w' h => h.cell hb (by rw [hcs]; rfl)
  have hstart : Hid (Bm w cs 50 b (w.alloc (.cells #[.int .u8 x.op, .int .i64 x.d, .int .i64 x.a, .int .i64 x.b, .int .u32 x.n, .int .i64 x.f, .slice A x.args.length c, .int .i64 x.l1, .int .i64 x.l2] 50))) := by
    have h := Bm.refl (w0 := w) (cs := cs) (T := 50) (b := b)
    rw [hcs] at h
    rw [hcs]
    exact h
  have HRI := Lib.hid hRI2
  have HX := Lib.hid hx
  have HS := Lib.hid hs
  clear hcs hRI hRI2 hx hs
  have hst := hstart.out
  go_enter Tryd.func86, Tryd.ntmps86
  obtain ⟨mes, mc, hmap⟩ := HS.out.mapAt
  have HM := Lib.hid hmap
  clear hmap
  go_wp2_with fail
  refine (shape_writes x _ _ (hst.R avoids_tIns HM.out HRI.out)).mono ?_
  rintro e w1 ⟨rfl, hb1⟩
  have hx1 : Bm w cs 50 b w1 := hst.call hb1
  have hs1 : Hid (SetM w1 b S) := HS.out.keep ((hb1.block b (by simp; omega)).trans (Below.heap_alloc _ _ _ hb))
  have hlt1 := hx1.lt
  clear hb1 hst hstart HS
  have hg1 : Hid (w.grownBy w1 (some b)) := hx1.grown
  have hi1 := hi
  rcases hq : writesB x with _ | _
  · have HQ := Lib.hid hq
    rw [writesV_no HQ.out]
    clear hq
    go_wp2_with fail
    refine (shape_reads x _ _ (hx1.R avoids_tIns HM.out HRI.out) hl).mono ?_
    rintro e w4 ⟨v4, rfl, ho4, hb4⟩
    have hx4 : Bm w cs 50 b w4 := hx1.call hb4
    have hs4 : Hid (SetM w4 b S) := hs1.out.keep (hb4.block b (by have := hx1.lt; omega))
    have hg4 : Hid (w.grownBy w4 (some b)) := grown_trans hg1.out (grown_of_below hb4)
    obtain ⟨A4, c4, rfl⟩ := own_form ho4
    have HO4 := Lib.hid ho4
    have hlow4 : ∀ g, (Value.slice A4 (readsC x).length c4).ownBlock = some g → b < g := fun g hg => by have := (ho4.lt g hg).1; have := hx1.lt; omega
    have HLOW := Lib.hid hlow4
    have hlt4 := hx4.lt
    clear ho4 hb4 hlow4
    go_wp2_with fail
    go_loopw [19] (fun i wr => ∃ k : Nat, k ≤ (readsC x).length ∧ i = .int .i64 k ∧ Hid (SetM wr b (addL S ((readsC x).take k))) ∧ Hid (w.grownBy wr (some b)) ∧ Hid (OwnI wr w1.heap.size (.slice A4 (readsC x).length c4) (readsC x))) (fun i _ => (readsC x).length - (RowKit.intOf i).toNat)
    case atStart => exact ⟨0, Nat.zero_le _, rfl, by rw [List.take_zero, addL_nil]; exact hs4, hg4, HO4⟩
    case round =>
      obtain ⟨k, hk, rfl, hsr, hgr, hor⟩ := hrel
      clear hs4 hg4 HO4
      by_cases hlt : k < (readsC x).length
      · obtain ⟨z, hz⟩ : ∃ z, (readsC x)[k]? = some z := ⟨_, List.getElem?_eq_getElem hlt⟩
        have hzR := HX.out z (List.mem_of_getElem? hz)
        have hzw := hR.wf z hzR
        obtain ⟨g, cap, e, _⟩ := own_form' hor.out (by omega)
        cases e
        have hcz := own_cell hor.out hz
        obtain ⟨D, hown, hD⟩ := hsr.out
        have hsz := setM_size hown hD hR (hi1.take HX.out k)
        have hm : Maps.size D < maxLen := by have := hsz.2; unfold maxLen; omega
        have HD := Lib.hid hD
        have HZ := Lib.hid hz
        have HK := Lib.hid (keyL hzw)
        clear hsz hD hz hsr
        go_wp2_with (at_mapUpdate; refine wpList_mapUpdate_own _ rfl _ _ _ 105 rfl 3 3 keyI Tryd.underlying105 _ b _ D rfl hown hm _ _ (.int .i64 z) rfl rfl HK.out _ [] (plainElem_int Tryd.underlying3 one_wf) ?_; intro w5 hown5 hgrow5)
        have hs5 : Hid (SetM w5 b (addL S ((readsC x).take (k + 1)))) := by
          rw [List.take_add_one, HZ.out, Option.toList_some, addL_snoc]
          exact SetM.put hown HD.out hown5
        have hg5 : Hid (w.grownBy w5 (some b)) := grown_trans hgr.out hgrow5
        have ho5 : Hid (OwnI w5 w1.heap.size (.slice (some ⟨g, 0, none⟩) (readsC x).length c4) (readsC x)) := ownsRow_keep hor.out (fun q hq => hgrow5.block q (World.ownsRow.lt hor.out q hq).2 (by have := HLOW.out q hq; simp; omega))
        clear hown5 hgrow5 hgr hor hown hcz
        go_wp2_with fail
        go_roundw
        case rel => exact ⟨k + 1, by omega, by go_num, hs5, hg5, ho5⟩
        case measure => simp [RowKit.intOf]; omega
      · obtain rfl : k = (readsC x).length := by omega
        have hfin : Hid (SetM wr b (backS x S)) := by
          have h := hsr.out
          rw [List.take_length] at h
          unfold backS
          rw [HQ.out, if_neg (by simp)]
          exact h
        go_wp2_with fail
        go_end0
        exact ⟨rfl, hfin.out, hgr.out⟩
  · have HQ := Lib.hid hq
    rw [writesV_yes HQ.out]
    clear hq
    have HKD := Lib.hid (keyL (r := x.d) hd)
    obtain ⟨D0, hown0, hD0⟩ := hs1.out
    have HD0 := Lib.hid hD0
    clear hD0
    have hi2 := hi.del x.d
    go_wp2_with (at_delete; refine wpList_delete_own _ rfl _ _ 105 3 rfl 3 keyI Tryd.underlying105 _ b _ D0 rfl hown0 _ _ rfl HKD.out ?_)
    intro w2 hown2 hturn2
    have hs2 : Hid (SetM w2 b (delS S x.d)) := SetM.del HD0.out hown2
    have hg2 : Hid (w.grownBy w2 (some b)) := grown_trans hg1.out hturn2.grown
    have hx2 : Bm w cs 50 b w2 := hx1.turn hturn2.grown
    have hlt2 := hx2.lt
    clear hown2 hturn2 hown0 hs1 hg1
    go_wp2_with fail
    refine (shape_reads x _ _ (hx2.R avoids_tIns HM.out HRI.out) hl).mono ?_
    rintro e w4 ⟨v4, rfl, ho4, hb4⟩
    have hx4 : Bm w cs 50 b w4 := hx2.call hb4
    have hs4 : Hid (SetM w4 b (delS S x.d)) := hs2.out.keep (hb4.block b (by have := hx2.lt; omega))
    have hg4 : Hid (w.grownBy w4 (some b)) := grown_trans hg2.out (grown_of_below hb4)
    obtain ⟨A4, c4, rfl⟩ := own_form ho4
    have HO4 := Lib.hid ho4
    have hlow4 : ∀ g, (Value.slice A4 (readsC x).length c4).ownBlock = some g → b < g := fun g hg => by have := (ho4.lt g hg).1; have := hx2.lt; omega
    have HLOW := Lib.hid hlow4
    have hlt4 := hx4.lt
    clear ho4 hb4 hlow4
    go_wp2_with fail
    go_loopw [19] (fun i wr => ∃ k : Nat, k ≤ (readsC x).length ∧ i = .int .i64 k ∧ Hid (SetM wr b (addL (delS S x.d) ((readsC x).take k))) ∧ Hid (w.grownBy wr (some b)) ∧ Hid (OwnI wr w2.heap.size (.slice A4 (readsC x).length c4) (readsC x))) (fun i _ => (readsC x).length - (RowKit.intOf i).toNat)
    case atStart => exact ⟨0, Nat.zero_le _, rfl, by rw [List.take_zero, addL_nil]; exact hs4, hg4, HO4⟩
    case round =>
      obtain ⟨k, hk, rfl, hsr, hgr, hor⟩ := hrel
      clear hs4 hg4 HO4
      by_cases hlt : k < (readsC x).length
      · obtain ⟨z, hz⟩ : ∃ z, (readsC x)[k]? = some z := ⟨_, List.getElem?_eq_getElem hlt⟩
        have hzR := HX.out z (List.mem_of_getElem? hz)
        have hzw := hR.wf z hzR
        obtain ⟨g, cap, e, _⟩ := own_form' hor.out (by omega)
        cases e
        have hcz := own_cell hor.out hz
        obtain ⟨D, hown, hD⟩ := hsr.out
        have hsz := setM_size hown hD hR (hi2.take HX.out k)
        have hm : Maps.size D < maxLen := by have := hsz.2; unfold maxLen; omega
        have HD := Lib.hid hD
        have HZ := Lib.hid hz
        have HK := Lib.hid (keyL hzw)
        clear hsz hD hz hsr
        go_wp2_with (at_mapUpdate; refine wpList_mapUpdate_own _ rfl _ _ _ 105 rfl 3 3 keyI Tryd.underlying105 _ b _ D rfl hown hm _ _ (.int .i64 z) rfl rfl HK.out _ [] (plainElem_int Tryd.underlying3 one_wf) ?_; intro w5 hown5 hgrow5)
        have hs5 : Hid (SetM w5 b (addL (delS S x.d) ((readsC x).take (k + 1)))) := by
          rw [List.take_add_one, HZ.out, Option.toList_some, addL_snoc]
          exact SetM.put hown HD.out hown5
        have hg5 : Hid (w.grownBy w5 (some b)) := grown_trans hgr.out hgrow5
        have ho5 : Hid (OwnI w5 w2.heap.size (.slice (some ⟨g, 0, none⟩) (readsC x).length c4) (readsC x)) := ownsRow_keep hor.out (fun q hq => hgrow5.block q (World.ownsRow.lt hor.out q hq).2 (by have := HLOW.out q hq; simp; omega))
        clear hown5 hgrow5 hgr hor hown hcz
        go_wp2_with fail
        go_roundw
        case rel => exact ⟨k + 1, by omega, by go_num, hs5, hg5, ho5⟩
        case measure => simp [RowKit.intOf]; omega
      · obtain rfl : k = (readsC x).length := by omega
        have hfin : Hid (SetM wr b (backS x S)) := by
          have h := hsr.out
          rw [List.take_length] at h
          unfold backS
          rw [HQ.out, if_pos rfl]
          exact h
        go_wp2_with fail
        go_end0
        exact ⟨rfl, hfin.out, hgr.out⟩
end Mu
end
section
/-
  A set that is cloned; a set into which another one is copied.
  Conditions: none beyond the sizes.
-/
namespace Mu
open Go Go.RowKit Go.Proofs Go.Shelf Go.Maps

theorem clone_set {b : Nat} {S : Int → Bool} (w : World) (h : SetM w b S) :
    Calls Tryd.prog 83 #[.map (some b)] w fun e w' => e = .returned (.map (some w.heap.size)) ∧ SetM w' w.heap.size S ∧ ∃ es c, w' = w.alloc (.map es c) := by
  obtain ⟨D, hown, hS⟩ := h
  have hlt := hown.lt
  obtain ⟨es, clock, hb, Ft, hs, hD⟩ := hown
  refine (AnyW.maps_Clone Tryd.cloneM b es clock w hb).mono fun e w' ⟨he, hw⟩ => ?_
  subst hw
  exact ⟨he, ⟨D, ⟨es, clock, (MapKept.heap_alloc w _).1, Ft, hs, hD⟩, hS⟩, es, clock, rfl⟩

theorem has_merge {w : World} {bd bs nd ns : Nat} {Dd Ds : DataW Unit} (hd : w.ownsMap Tryd.prog 3 (plainElem Tryd.prog 3) bd nd Dd) (hs : w.ownsMap Tryd.prog 3 (plainElem Tryd.prog 3) bs ns Ds) (k : Lit) :
    has (Lib.mergeD Dd Ds) k = (has Dd k || has Ds k) := by
  obtain ⟨ed, rfl, _, _⟩ := hd.entries keyI
  obtain ⟨es, rfl, _, _⟩ := hs.entries keyI
  obtain ⟨es', hD', hko⟩ := hs.keysOf
  obtain rfl : es = es' := by simpa using hD'
  have hk : ∀ p ∈ es, WideAt.IsKeyLit p.1 := fun p hp => by
    obtain ⟨v, hv⟩ := hko p hp
    obtain ⟨x, _, hx, hw⟩ := Maps.keyOf_i64 Tryd.underlying3 hv
    rw [hx]
    exact trivial
  exact has_foldPut k es _ ⟨_, rfl⟩ hk

theorem copy_set {bd bs : Nat} {S T : Int → Bool} {R : List Int} (w : World) (hd : SetM w bd S) (hs : SetM w bs T) (hne : bd ≠ bs) (hR : RegsR R) (hi : InR R S) (hj : InR R T) :
    Calls Tryd.prog 88 #[.map (some bd), .map (some bs)] w fun e w' => e = .returned (.tuple #[]) ∧ SetM w' bd (fun x => S x || T x) ∧ SetM w' bs T ∧ w.grownBy w' (some bd) := by
  obtain ⟨Dd, hod, hS⟩ := hd
  obtain ⟨Ds, hos, hT⟩ := hs
  have h1 := setM_size hod hS hR hi
  have h2 := setM_size hos hT hR hj
  refine (AnyX.maps_Copy Tryd.copyM keyI (plainElem Tryd.prog 3) bd bs _ _ Dd Ds w hod hos hne ?_).mono ?_
  · have := h1.2; have := h2.2; unfold maxLen; omega
  · rintro e w' ⟨rfl, g1, g2, g3⟩
    refine ⟨rfl, ⟨_, own_exact g1, fun x hx => ?_⟩, ⟨Ds, g2, hT⟩, g3⟩
    rw [has_merge hod hos, hS x hx, hT x hx]
end Mu
end
section
/-
  live's sets as memory of the call's own: back, list, Clone, Copy as contracts over abstract states.
  Conditions: the sizes that the elder contracts ask.
-/
namespace Mu
open Go Go.RowKit Go.Proofs Go.Maps

def mapR (S : Int → Bool) (m : Nat) : Res := ⟨[], fun g => g = m, fun w _ => SetM w m S, fun h hk _ _ => h.keep (hk m rfl)⟩
theorem rel_lit1 {w : World} {S : Nat → Prop} {h : List ABlk} {ψ : Nat → Value} {u : Value} {l : List AV} {vs : List Value} (H : AV.relL w S h ψ (.lit u :: l) vs) : ∃ us, vs = u :: us ∧ AV.relL w S h ψ l us := by
  unfold AV.relL AV.rel at H
  obtain ⟨v, us, e, rfl, h2⟩ := H
  exact ⟨us, e, h2⟩
theorem back_turn (x : Ins) (S : Int → Bool) (R : List Int) (m : Nat) (ho : okIns x) (hl : x.args.length ≤ 2097152) (hR : RegsR R) (hi : InR R S) (hx : ∀ r ∈ readsC x, r ∈ R) :
    FnTurn Tryd.prog 86 (mapR S m) [.lit (.map (some m)), .agg (encIns x)] (fun _ : Unit => mapR (backS x S) m) (fun _ => .tuple #[]) := by
  refine ⟨by kernel_rfl, fun w T vs hT hF hs hr => ?_⟩
  obtain ⟨us, rfl, h1⟩ := rel_lit1 hr
  obtain ⟨v, rfl, h2⟩ := arg1 h1
  unfold AV.rel at h2
  obtain ⟨cs, rfl, hcs⟩ := h2
  refine (back_loop x m S R w cs (tIns.keepS (put_ins ho hcs) (fun _ _ => rfl) fun k hk => (hT k hk).1) hl hs hR hi hx).mono ?_
  rintro e w' ⟨rfl, h1, h2⟩
  exact ⟨_, rfl, ⟨h2.os, h2.tape, h2.output, h2.size, fun k hk hn => h2.block k hk fun e => hn (by injection e)⟩, (), rfl, h1, fun k hk => by
    have hk : k = m := hk
    subst hk
    exact ⟨.inl rfl, h1.lt⟩⟩
theorem clone_new (Rr : Res) (S : Int → Bool) (m : Nat) (hRS : ∀ w T, Rr.R w T → SetM w m S) :
    FnRNew Tryd.prog 83 Rr [.lit (.map (some m))] (mapR S) (fun p => .map (some p)) := by
  refine ⟨by kernel_rfl, fun w T vs hT hF hs hr => ?_⟩
  obtain ⟨us, rfl, h0⟩ := rel_lit1 hr
  unfold AV.relL at h0
  subst h0
  refine (clone_set w (hRS w T hs)).mono ?_
  rintro e w' ⟨rfl, h1, es, c, rfl⟩
  have hb : Below w.heap.size w (w.alloc (.map es c)) := (Below.refl _ _).alloc (Nat.le_refl _) _
  exact ⟨_, rfl, ⟨hb.os, hb.tape, hb.output, hb.size, fun k hk _ => hb.block k hk⟩, w.heap.size, rfl, h1, fun k hk => by
    have hk : k = w.heap.size := hk
    subst hk
    exact ⟨.inr (Nat.le_refl _), h1.lt⟩⟩
theorem list_reads (Rr : Res) (S : Int → Bool) (R : List Int) (m : Nat) (hR : RegsR R) (hi : InR R S) (hRS : ∀ w T, Rr.R w T → SetM w m S) :
    FnR Tryd.prog 84 Rr [.lit (.map (some m))] (.bs tInt (R.filter S)) := by
  refine ⟨by kernel_rfl, fun w T vs hT hF hs hr => ?_⟩
  obtain ⟨us, rfl, h0⟩ := rel_lit1 hr
  unfold AV.relL at h0
  subst h0
  refine (set_list w (hRS w T hs) hR.asc hR.wf hi.mem hR.len).mono ?_
  rintro e w' ⟨v, rfl, h1, h2⟩
  refine ⟨v, rfl, h2, fun k => T k ∨ v.ownBlock = some k, fun _ h => .inl h, fun k hk => ?_, fun k hk => ?_, ?_⟩
  · rcases hk with hk | hk
    · exact .inl hk
    · exact .inr (h1.lt k hk).1
  · rcases hk with hk | hk
    · exact Nat.lt_of_lt_of_le (hT k hk) h2.size
    · exact (h1.lt k hk).2
  · unfold AV.rel
    exact tInt.slice.keepS (own_intsS h1 fun x hx => hR.wf x (List.mem_filter.1 hx).1) (fun _ _ => rfl) fun k hk => .inr hk
end Mu
end
section
/-
  A call that turns one memory of the call's own and reads another one.
  Conditions: none; generic.
-/
namespace Mu
open Go Go.RowKit Go.Proofs Go.Maps

section
variable {P : Program} {C : Ctx} {t : List AV} {h : List ABlk} {o : Oper} {ι : Type} {Rs : ι → Res} {val : ι → Value}
def FnTurn2 (P : Program) (f : FuncId) (R R2 : Res) (args : List AV) (Rs : ι → Res) (val : ι → Value) : Prop :=
  Enters P f = true ∧ ∀ (w : World) (S : Nat → Prop) (vs : List Value), (∀ k, S k → k < w.heap.size ∧ ¬ R.F k) → (∀ g, R.F g → g < w.heap.size) → R.R w S → R2.R w S → (∀ g, R.F g → ¬ R2.F g) → AV.relL w S [] ψ0 args vs →
    Calls P f vs.toArray w fun e w' => ∃ v, e = .returned v ∧ Turns w S R.F Rs val v w'
theorem AOp.callTurn2 {i j : Nat} {R R2 : Res} {f : FuncId} {args : Array Operand} {tys : Array TypeId} {xs : List AV} {K : St → Prop} (hij : i ≠ j) (hi : h[i]? = some (.res R)) (hj : h[j]? = some (.res R2))
    (ho : o.op = .call { callee := .value (.func f), args := args, argTypes := tys }) (hF : FnTurn2 P f R R2 xs Rs val) (hm : ∀ p, (Rs p).mrk = R.mrk) (hx : args.toList.map (evA t) = xs) (hc : AV.clL xs = true)
    (hK : ∀ p, K ⟨putA t o.dst (.lit (val p)), h.set i (.res (Rs p))⟩) : AOp P C o ⟨t, h⟩ K := by
  refine AOp.turn hi hm (fun S ψ w ρ H hR hlt hρ => ?_) hK
  have h1 : ρ (.func f) = .func (.func f) #[] #[] := by
    have := hρ (.func f) (by rw [ho]; exact Array.mem_append.2 (.inl (by simp)))
    simpa [evA, AV.rel] using this
  rw [run_call ho hF.1 ρ w h1]
  refine ⟨rfl, ?_⟩
  have h2 : AV.relL w S h ψ xs (args.toList.map ρ) := by
    rw [← hx]
    exact relL_map fun x hx' => hρ x (by rw [ho]; exact Array.mem_append.2 (.inr (Array.mem_toList_iff.1 hx')))
  rw [show (args.map ρ) = (args.toList.map ρ).toArray from (by rw [← Array.toList_map])]
  exact hF.2 w S (args.toList.map ρ) (fun k hk => ⟨H.lt k hk, fun hf => ((H.blk i _ hi).1 k hf).2.1 hk⟩) hlt hR (H.blk j _ hj).2 (fun g k1 k2 => H.dis i j hij (by rw [hi]; rfl) (by rw [hj]; rfl) g (by rw [hi]; exact k1) (by rw [hj]; exact k2)) (AV.relL_cl _ _ hc h2)
end
end Mu
end
section
/-
  What is live: plain. The least answer, and the list of what waits.
  Conditions: none.
-/
namespace Mu
open Go

/-- is a register read ahead of any write? -/
def rdB (r : Int) : List Ins → Bool
  | [] => false
  | x :: ds => (readsC x).contains r || (!(writesB x && x.d == r) && rdB r ds)
/-- is a register not written? -/
def thru (r : Int) : List Ins → Bool
  | [] => true
  | x :: ds => !(writesB x && x.d == r) && thru r ds
def inS (ds : List Ins) (S : Int → Bool) : Int → Bool := ds.foldr backS S
theorem backS_eq (x : Ins) (S : Int → Bool) (r : Int) : backS x S r = ((readsC x).contains r || (!(writesB x && x.d == r) && S r)) := by
  unfold backS addL delS
  cases hw : writesB x
  · simp [Bool.or_comm]
  · have e : (r == x.d) = (x.d == r) := by
      by_cases h : r = x.d
      · subst h; simp
      · rw [beq_eq_false_iff_ne.2 h, beq_eq_false_iff_ne.2 (Ne.symm h)]
    simp [bne, e, Bool.or_comm, Bool.and_comm]
theorem inS_eq (ds : List Ins) (S : Int → Bool) (r : Int) : inS ds S r = (rdB r ds || (thru r ds && S r)) := by
  induction ds with
  | nil => simp [inS, rdB, thru]
  | cons x ds ih =>
    have h : inS (x :: ds) S r = backS x (inS ds S) r := rfl
    rw [h, backS_eq, ih, rdB, thru]
    cases (readsC x).contains r <;> cases (writesB x && x.d == r) <;> simp
theorem inS_mono {ds : List Ins} {S T : Int → Bool} (h : ∀ r, S r = true → T r = true) : ∀ r, inS ds S r = true → inS ds T r = true := fun r hr => by
  rw [inS_eq] at hr ⊢
  simp only [Bool.or_eq_true, Bool.and_eq_true] at hr ⊢
  rcases hr with hr | ⟨h1, h2⟩
  · exact .inl hr
  · exact .inr ⟨h1, h r h2⟩

def insOf (f : Func) (b : Nat) : List Ins := match f.blocks[b]? with | some bl => bl.ins | none => []
def Edge (f : Func) (k b : Nat) : Prop := ∃ x ∈ nextS f (k : Int), x.1 = b
/-- what is live behind blocks -/
inductive LOut (f : Func) : Nat → Int → Prop
  | read {k b : Nat} {r : Int} (he : Edge f k b) (h : rdB r (insOf f b) = true) : LOut f k r
  | pass {k b : Nat} {r : Int} (he : Edge f k b) (h : thru r (insOf f b) = true) (hl : LOut f b r) : LOut f k r
theorem LOut.of_in {f : Func} {k b : Nat} {r : Int} {S : Int → Bool} (he : Edge f k b) (hS : S r = true → LOut f b r) (h : inS (insOf f b) S r = true) : LOut f k r := by
  rw [inS_eq] at h
  simp only [Bool.or_eq_true, Bool.and_eq_true] at h
  rcases h with h | ⟨h1, h2⟩
  · exact .read he h
  · exact .pass he h1 (hS h2)

def Sub (R : List Int) (S : Int → Bool) : Prop := ∀ x, S x = true → x ∈ R
theorem Sub.inR {R : List Int} {S : Int → Bool} (h : Sub R S) : InR R S := ⟨fun x _ hs => h x hs⟩
theorem Sub.back {R : List Int} {S : Int → Bool} {x : Ins} (h : Sub R S) (hx : ∀ r ∈ readsC x, r ∈ R) : Sub R (backS x S) := fun r hr => by
  rw [backS_eq] at hr
  simp only [Bool.or_eq_true, Bool.and_eq_true, List.contains_iff_mem] at hr
  rcases hr with hr | ⟨_, hr⟩
  · exact hx r hr
  · exact h r hr
theorem Sub.inS {R : List Int} {S : Int → Bool} {ds : List Ins} (h : Sub R S) (hx : ∀ x ∈ ds, ∀ r ∈ readsC x, r ∈ R) : Sub R (Mu.inS ds S) := by
  induction ds with
  | nil => exact h
  | cons x ds ih => exact (ih fun y hy => hx y (by simp [hy])).back (hx x (by simp))

def uni (S N : Int → Bool) : Int → Bool := fun x => S x || N x
theorem count_le {R : List Int} {S N : Int → Bool} : (R.filter S).length ≤ (R.filter (uni S N)).length := by
  induction R with
  | nil => simp
  | cons x l ih =>
    have e : (uni S N) x = (S x || N x) := rfl
    simp only [List.filter_cons, e]
    cases hS : S x <;> cases hN : N x <;> simp <;> omega
theorem count_same {R : List Int} {S N : Int → Bool} (h : (R.filter (uni S N)).length ≤ (R.filter S).length) : ∀ x ∈ R, N x = true → S x = true := by
  induction R with
  | nil => simp
  | cons y l ih =>
    have hc : (l.filter S).length ≤ (l.filter (uni S N)).length := count_le
    have e : (uni S N) y = (S y || N y) := rfl
    simp only [List.filter_cons, e] at h
    intro x hx hn
    cases hS : S y
    · cases hN : N y
      · simp only [hS, hN, Bool.or_false, Bool.false_eq_true, if_false] at h
        rcases List.mem_cons.1 hx with rfl | hx
        · rw [hN] at hn; cases hn
        · exact ih h x hx hn
      · simp only [hS, hN, Bool.or_true, Bool.false_eq_true, if_true, if_false, List.length_cons] at h
        omega
    · simp only [hS, Bool.true_or, if_true, List.length_cons] at h
      rcases List.mem_cons.1 hx with rfl | hx
      · exact hS
      · exact ih (by omega) x hx hn
theorem uni_same {R : List Int} {S N : Int → Bool} (hN : Sub R N) (h : (R.filter (uni S N)).length ≤ (R.filter S).length) : uni S N = S := by
  funext x
  unfold uni
  cases hS : S x
  · cases hn : N x
    · rfl
    · have := count_same h x (hN x hn) hn
      rw [hS] at this
      cases this
  · rfl
end Mu
end
section
/-
  Sets at known places: made, counted, cloned, merged; places and Before as contracts over abstract states.
  Conditions: the sizes that the elder contracts ask.
-/
namespace Mu
open Go Go.RowKit Go.Proofs Go.Maps

/-- sets at known places -/
def mapsR (ms : List Nat) (Ss : List (Int → Bool)) : Res := ⟨[], fun g => g ∈ ms, fun w _ => ms.length = Ss.length ∧ ms.Nodup ∧ ∀ (i m : Nat) (S : Int → Bool), ms[i]? = some m → Ss[i]? = some S → SetM w m S,
  fun h hk _ _ => ⟨h.1, h.2.1, fun i m S hm hS => (h.2.2 i m S hm hS).keep (hk m (List.mem_of_getElem? hm))⟩⟩
theorem empty_set (w : World) : SetM (w.alloc (.map #[] 0)) w.heap.size (fun _ => false) :=
  ⟨.map [], own_exact (World.ownsMap_made w Tryd.prog 3 (plainElem Tryd.prog 3)), fun x _ => by simp [has_eq]⟩
theorem mapsR_set {ms : List Nat} {Ss : List (Int → Bool)} {k m : Nat} {S : Int → Bool} (hm : ms[k]? = some m) (hS : Ss[k]? = some S) : ∀ w T, (mapsR ms Ss).R w T → SetM w m S := fun _ _ h => h.2.2 k m S hm hS

section
variable {C : Ctx} {t : List AV} {h : List ABlk} {o : Oper} {K : St → Prop}
theorem AOp.mkMap {ty : TypeId} (ho : o.op = .makeMap ty none) (hK : ∀ m, K ⟨putA t o.dst (.lit (.map (some m))), h ++ [.res (mapR (fun _ => false) m)]⟩) : AOp Tryd.prog C o ⟨t, h⟩ K := by
  refine AOp.make_res (ι := Nat) (Rs := mapR fun _ => false) (val := fun m => .map (some m)) (fun _ => rfl) (fun S ψ w ρ H hρ => ?_) hK
  have he : (execOp ρ o).run Tryd.prog w = .ok (.value (.map (some w.heap.size))) (w.alloc (.map #[] 0)) := by simp [execOp, ho, run_makeMap]
  rw [he]
  have hbl := (Below.refl w.heap.size w).alloc (Nat.le_refl _) (.map #[] 0)
  refine ⟨⟨hbl.os, hbl.tape, hbl.output, hbl.size, fun k hk _ => hbl.block k hk⟩, w.heap.size, rfl, empty_set w, fun k hk => ?_⟩
  have hk : k = w.heap.size := hk
  subst hk
  exact ⟨.inr (Nat.le_refl _), by simp⟩
/-- one set more -/
theorem St.le_maps {i j m : Nat} {ms : List Nat} {Ss : List (Int → Bool)} {S : Int → Bool} (hij : i ≠ j) (hi : h[i]? = some (.res (mapsR ms Ss))) (hj : h[j]? = some (.res (mapR S m))) :
    St.le C ⟨t, h⟩ ⟨t, (h.set j .dead).set i (.res (mapsR (ms ++ [m]) (Ss ++ [S])))⟩ :=
  St.le_merge hij hi hj rfl rfl rfl (fun g hg => by
    have hg : g ∈ ms ++ [m] := hg
    rcases List.mem_append.1 hg with h1 | h1
    · exact .inl h1
    · exact .inr (show g = m by simpa using h1)) fun w T h1 h2 hd => by
      obtain ⟨k1, k2, k3⟩ := h1
      refine ⟨by simp [k1], ?_, fun i m' S' hm hS => ?_⟩
      · rw [List.nodup_append]
        refine ⟨k2, by simp, fun a ha b hb e => ?_⟩
        have hb : b = m := by simpa using hb
        subst hb
        subst e
        exact hd a ha rfl
      · by_cases hi : i < ms.length
        · rw [List.getElem?_append_left hi] at hm
          rw [List.getElem?_append_left (by omega)] at hS
          exact k3 i m' S' hm hS
        · rw [List.getElem?_append_right (by omega)] at hm hS
          have e0 : i - ms.length = 0 := by
            have := (List.getElem?_eq_some_iff.1 hm).1
            simp at this
            omega
          rw [e0] at hm
          rw [← k1, e0] at hS
          cases hm
          cases hS
          exact h2
theorem Quiet.lenM {ty : TypeId} {x : Operand} {i m : Nat} {R : Res} {S : Int → Bool} {L : List Int} (ho : o.op = .call { callee := .builtin .len, args := #[x], argTypes := #[ty] }) (hty : Tryd.prog.underlying ty = some (.map 3 3)) (hx : evA t x = .lit (.map (some m))) (hi : h[i]? = some (.res R)) (hRS : ∀ w T, R.R w T → SetM w m S)
    (hR : RegsR L) (hin : InR L S) : Quiet Tryd.prog C t h o (.lit (.int .i64 (((L.filter S).length : Nat) : Int))) :=
  Quiet.of_run fun T ψ w ρ H hρ => by
    have h1 := hρ x (by simp [ho, Op.operands, Call.operands])
    rw [hx] at h1
    unfold AV.rel at h1
    obtain ⟨D, hown, hS⟩ := hRS w T (H.blk i _ hi).2
    have hsz := (setM_size hown hS hR hin).1
    have hl := hown.len (e := 3) hty o.type
    rw [hsz] at hl
    refine ⟨_, by simp [execOp, ho, resolve, invoke, builtin, h1, hl]; rfl, ?_⟩
    unfold AV.rel
    rfl
end
theorem clone_maps {ms : List Nat} {Ss : List (Int → Bool)} {k m : Nat} {S : Int → Bool} (hm : ms[k]? = some m) (hS : Ss[k]? = some S) :
    FnRNew Tryd.prog 83 (mapsR ms Ss) [.lit (.map (some m))] (mapR S) (fun p => .map (some p)) := clone_new _ S m (mapsR_set hm hS)
theorem copy_turn2 {ms : List Nat} {Ss : List (Int → Bool)} {k m mn : Nat} {S N : Int → Bool} {L : List Int} (hm : ms[k]? = some m) (hS : Ss[k]? = some S) (hR : RegsR L) (hi : InR L S) (hj : InR L N) :
    FnTurn2 Tryd.prog 88 (mapsR ms Ss) (mapR N mn) [.lit (.map (some m)), .lit (.map (some mn))] (fun _ : Unit => mapsR ms (Ss.set k (uni S N))) (fun _ => .tuple #[]) := by
  refine ⟨by kernel_rfl, fun w T vs hT hF hs hs2 hd hr => ?_⟩
  obtain ⟨us, rfl, h1⟩ := rel_lit1 hr
  obtain ⟨us, rfl, h2⟩ := rel_lit1 h1
  unfold AV.relL at h2
  subst h2
  have hmem := List.mem_of_getElem? hm
  have hkl : k < ms.length := (List.getElem?_eq_some_iff.1 hm).1
  refine (copy_set w (mapsR_set hm hS w T hs) hs2 (fun e => hd m hmem e) hR hi hj).mono ?_
  rintro e w' ⟨rfl, h1, h2, h3⟩
  refine ⟨_, rfl, ⟨h3.os, h3.tape, h3.output, h3.size, fun q hq hn => h3.block q hq fun e => hn (by cases e; exact hmem)⟩, (), rfl, ⟨by simp [hs.1], hs.2.1, fun i m' S' hm' hS' => ?_⟩, fun q hq => ?_⟩
  · by_cases hik : i = k
    · subst hik
      rw [hm] at hm'
      cases hm'
      rw [List.getElem?_set_self (by rw [← hs.1]; exact hkl)] at hS'
      cases hS'
      exact h1
    · rw [List.getElem?_set_ne (Ne.symm hik)] at hS'
      have hne : m' ≠ m := fun e => hik (by
        subst e
        exact (List.getElem?_inj (List.getElem?_eq_some_iff.1 hm').1 hs.2.1).1 (hm'.trans hm.symm))
      have hk := hs.2.2 i m' S' hm' hS'
      exact hk.keep (h3.block m' hk.lt fun e => hne (by cases e; rfl))
  · have := hF q hq
    exact ⟨.inl hq, Nat.lt_of_lt_of_le this h3.size⟩
end Mu
end
section
/-
  A row of rows of numbers whose rows grow one by one.
  Conditions: none.
-/
namespace Mu
open Go Go.RowKit Go.Proofs

/-- the blocks of S are no row's -/
structure RowsAt (W : World) (base : Nat) (S : Nat → Prop) (O : Nat) (vs : List Value) (ls : List (List Int)) : Prop where
  box : W.heap[O]? = some (.cells vs.toArray 27 (0, 0))
  len : vs.length = ls.length
  own : ∀ (i : Nat) (v : Value) (l : List Int), vs[i]? = some v → ls[i]? = some l → OwnI W base v l
  far : ∀ (i : Nat) (v : Value) (g : Nat), vs[i]? = some v → v.ownBlock = some g → ¬ S g ∧ g ≠ O
  sep : ∀ (i j : Nat) (v u : Value) (g : Nat), i ≠ j → vs[i]? = some v → vs[j]? = some u → v.ownBlock = some g → u.ownBlock ≠ some g
  out : ¬ S O ∧ base ≤ O

section
variable {W W' : World} {base : Nat} {S S' : Nat → Prop} {O : Nat} {vs : List Value} {ls : List (List Int)}
theorem RowsAt.get (h : RowsAt W base S O vs ls) {i : Nat} {v : Value} (hv : vs[i]? = some v) : ∃ l, ls[i]? = some l ∧ OwnI W base v l := by
  have hi : i < ls.length := by rw [← h.len]; exact (List.getElem?_eq_some_iff.1 hv).1
  exact ⟨_, List.getElem?_eq_getElem hi, h.own i v _ hv (List.getElem?_eq_getElem hi)⟩
theorem RowsAt.lt (h : RowsAt W base S O vs ls) {i : Nat} {v : Value} {g : Nat} (hv : vs[i]? = some v) (hg : v.ownBlock = some g) : base ≤ g ∧ g < W.heap.size := by
  obtain ⟨l, _, ho⟩ := h.get hv
  exact ho.lt g hg
theorem RowsAt.keep (h : RowsAt W base S O vs ls) (hk : ∀ k, (k = O ∨ ∃ (i : Nat) (v : Value), vs[i]? = some v ∧ v.ownBlock = some k) → W'.heap[k]? = W.heap[k]?) : RowsAt W' base S O vs ls :=
  ⟨(hk O (.inl rfl)).trans h.box, h.len, fun i v l hv hl => ownsRow_keep (h.own i v l hv hl) (fun k e => hk k (.inr ⟨i, v, hv, e⟩)), h.far, h.sep, h.out⟩
theorem RowsAt.below (h : RowsAt W base S O vs ls) (hb : Below W.heap.size W W') : RowsAt W' base S O vs ls := by
  refine h.keep fun k hk => hb.block k ?_
  rcases hk with rfl | ⟨i, v, hv, hg⟩
  · exact box_lt h.box
  · exact (h.lt hv hg).2
theorem RowsAt.avoid (h : RowsAt W base S O vs ls) (hS : ∀ k, S' k → S k ∨ W.heap.size ≤ k) : RowsAt W base S' O vs ls := by
  refine ⟨h.box, h.len, h.own, fun i v g hv hg => ⟨fun hs => ?_, (h.far i v g hv hg).2⟩, h.sep, fun hs => ?_, h.out.2⟩
  · rcases hS g hs with hs | hs
    · exact (h.far i v g hv hg).1 hs
    · have := (h.lt hv hg).2; omega
  · rcases hS O hs with hs | hs
    · exact h.out.1 hs
    · have := box_lt h.box; omega
/-- a world that turned in what is no cells -/
theorem RowsAt.grown (h : RowsAt W base S O vs ls) {row : Option Nat} (hg : W.grownBy W' row) (hr : ∀ r, row = some r → ∃ o : Obj, W.heap[r]? = some o ∧ o.isCells = false) : RowsAt W' base S O vs ls := by
  refine h.keep fun k hk => ?_
  have hc : ∃ o : Obj, W.heap[k]? = some o ∧ o.isCells = true := by
    rcases hk with rfl | ⟨i, v, hv, hgk⟩
    · exact ⟨_, h.box, rfl⟩
    · obtain ⟨l, _, ho⟩ := h.get hv
      rcases ho.2 with ⟨rfl, _⟩ | ⟨g, cap, cur, rfl, _, hgb, _⟩
      · simp [Value.ownBlock] at hgk
      · obtain rfl : g = k := by simpa [Value.ownBlock] using hgk
        exact ⟨_, hgb, rfl⟩
  obtain ⟨o, ho, hoc⟩ := hc
  refine hg.block k (box_lt ho) fun e => ?_
  obtain ⟨o', ho', hoc'⟩ := hr k e.symm
  rw [ho] at ho'
  cases ho'
  rw [hoc] at hoc'
  cases hoc'
theorem RowsAt.cell (h : RowsAt W base S O vs ls) {k : Nat} {v : Value} (hv : vs[k]? = some v) : W.cell? ⟨O, k, none⟩ = some v := box_cell h.box hv

/-- a row grows by one -/
theorem RowsAt.step (h : RowsAt W base S O vs ls) (hS : ∀ k, S k → k < W.heap.size) {k : Nat} {v v' : Value} {l : List Int} {x : Int} {w1 : World} {tmp : Obj} {n : Nat} (hv : vs[k]? = some v) (hl : ls[k]? = some l)
    (hown' : w1.ownsRow base 3 1 v' n (l.map (Value.int .i64) ++ [Value.int .i64 x])) (hn : n = l.length + 1) (hg : (W.alloc tmp).grownBy w1 v.ownBlock) (hat : v'.ownBlock = v.ownBlock ∨ v'.ownBlock = some (W.alloc tmp).heap.size) :
    RowsAt (w1.setCell ⟨O, k, none⟩ v') base S O (vs.set k v') (ls.set k (l ++ [x])) ∧ KS S W (w1.setCell ⟨O, k, none⟩ v') ∧ KeepsOthers W (w1.setCell ⟨O, k, none⟩ v') ∧ w1.heap[O]? = W.heap[O]? ∧ KS S W w1 := by
  have hs := hg.size
  have hs2 : (W.alloc tmp).heap.size = W.heap.size + 1 := by simp
  have hOl := box_lt h.box
  have hold : ∀ q, q < W.heap.size → v.ownBlock ≠ some q → w1.heap[q]? = W.heap[q]? := fun q hq hne => (hg.block q (by omega) (fun e => hne e.symm)).trans (Below.heap_alloc _ _ _ hq)
  have hO : w1.heap[O]? = W.heap[O]? := hold O hOl fun e => (h.far k v O hv e).2 rfl
  have hx : OwnI w1 base v' (l ++ [x]) := .of hown' (by simp [hn]) (by simp)
  have hk : k < vs.length := (List.getElem?_eq_some_iff.1 hv).1
  have hv'f : ∀ g, v'.ownBlock = some g → (v.ownBlock = some g) ∨ g = W.heap.size + 1 := fun g e => by
    rcases hat with ha | ha
    · exact .inl (ha ▸ e)
    · rw [ha, hs2] at e; injection e with e; exact .inr e.symm
  have hne' : ∀ g, v'.ownBlock = some g → ¬ S g ∧ g ≠ O := fun g e => by
    rcases hv'f g e with e | e
    · exact h.far k v g hv e
    · exact ⟨fun hs' => (by have := hS g hs'; omega), by omega⟩
  have hget : ∀ (i : Nat) (u : Value), (vs.set k v')[i]? = some u → (i = k ∧ u = v') ∨ (i ≠ k ∧ vs[i]? = some u) := fun i u hu => by
    by_cases hik : i = k
    · subst hik
      rw [List.getElem?_set_self hk] at hu
      cases hu
      exact .inl ⟨rfl, rfl⟩
    · rw [List.getElem?_set_ne (Ne.symm hik)] at hu
      exact .inr ⟨hik, hu⟩
  have hks1 : KS S W w1 := ⟨by omega, fun q hq => hold q (hS q hq) fun e => (h.far k v q hv e).1 hq⟩
  refine ⟨⟨?_, by simp [h.len], ?_, ?_, ?_, h.out⟩, ?_, ?_, hO, hks1⟩
  · rw [box_set (hO.trans h.box)]
  · intro i u l' hu hl'
    rcases hget i u hu with ⟨rfl, rfl⟩ | ⟨hik, hu'⟩
    · rw [List.getElem?_set_self (by rw [← h.len]; exact hk)] at hl'
      cases hl'
      exact ownsRow_keep hx fun q e => Below.heap_setCell _ _ _ _ (by show q ≠ O; exact (hne' q e).2)
    · rw [List.getElem?_set_ne (Ne.symm hik)] at hl'
      have ho := h.own i u l' hu' hl'
      refine ownsRow_keep ho fun q e => (Below.heap_setCell _ _ _ _ (by show q ≠ O; exact (h.far i u q hu' e).2)).trans (hold q (h.lt hu' e).2 (h.sep i k u v q hik hu' hv e))
  · intro i u g hu e
    rcases hget i u hu with ⟨rfl, rfl⟩ | ⟨_, hu'⟩
    · exact hne' g e
    · exact h.far i u g hu' e
  · intro i j u t g hij hu ht e
    rcases hget i u hu with ⟨rfl, rfl⟩ | ⟨hik, hu'⟩
    · rcases hget j t ht with ⟨rfl, _⟩ | ⟨hjk, ht'⟩
      · exact absurd rfl hij
      · rcases hv'f g e with e' | e'
        · exact h.sep i j v t g hij hv ht' e'
        · intro et
          have := (h.lt ht' et).2
          omega
    · rcases hget j t ht with ⟨rfl, rfl⟩ | ⟨hjk, ht'⟩
      · intro et
        rcases hv'f g et with e' | e'
        · exact h.sep i j u v g hij hu' hv e e'
        · have := (h.lt hu' e).2
          omega
      · exact h.sep i j u t g hij hu' ht' e
  · exact ⟨by simp [World.setCell]; omega, fun q hq => (Below.heap_setCell _ _ _ _ (by show q ≠ O; exact fun e => h.out.1 (e ▸ hq))).trans (hks1.block q hq)⟩
  · refine ((KeepsOthers.alloc W tmp).trans (KeepsOthers.of_grownBy hg fun j o ej hj => ?_)).trans (KeepsOthers.setCell _ _ _)
    rcases ((h.own k v l hv hl).alloc tmp).2 with ⟨rfl, _⟩ | ⟨g, cap, cur, rfl, _, hgb, _⟩
    · simp [Value.ownBlock] at ej
    · obtain rfl : g = j := by simpa [Value.ownBlock] using ej
      rw [hgb] at hj; cases hj; rfl
theorem RowsAt.step_below (h : RowsAt W base S O vs ls) {k : Nat} {v v' : Value} {w1 : World} {tmp : Obj} (hv : vs[k]? = some v) (hbase : base ≤ W.heap.size) (hg : (W.alloc tmp).grownBy w1 v.ownBlock) : Below base W (w1.setCell ⟨O, k, none⟩ v') :=
  (((Below.refl base W).alloc hbase tmp).grown hg (by simp; omega) fun _ ej => (h.lt hv ej).1).setCell (p := ⟨O, k, none⟩) h.out.2 v'
end
/-- a row is laid anew -/
theorem RowsAt.put {W W1 : World} {base : Nat} {S : Nat → Prop} {O : Nat} {vs : List Value} {ls : List (List Int)} (h : RowsAt W base S O vs ls) (hS : ∀ k, S k → k < W.heap.size) (hb : Below W.heap.size W W1) (hbase : base ≤ W.heap.size) {k : Nat} (hk : k < vs.length) {v : Value} {l : List Int}
    (hown : OwnI W1 W.heap.size v l) :
    RowsAt (W1.setCell ⟨O, k, none⟩ v) base S O (vs.set k v) (ls.set k l) ∧ KS S W (W1.setCell ⟨O, k, none⟩ v) ∧ Below base W (W1.setCell ⟨O, k, none⟩ v) ∧ W1.heap[O]? = W.heap[O]? := by
  have hOl := box_lt h.box
  have hO : W1.heap[O]? = W.heap[O]? := hb.block O hOl
  have hs := hb.size
  have hget : ∀ (i : Nat) (u : Value), (vs.set k v)[i]? = some u → (i = k ∧ u = v) ∨ (i ≠ k ∧ vs[i]? = some u) := fun i u hu => by
    by_cases hik : i = k
    · subst hik
      rw [List.getElem?_set_self hk] at hu
      cases hu
      exact .inl ⟨rfl, rfl⟩
    · rw [List.getElem?_set_ne (Ne.symm hik)] at hu
      exact .inr ⟨hik, hu⟩
  have hnew : ∀ g, v.ownBlock = some g → W.heap.size ≤ g := fun g e => (hown.lt g e).1
  refine ⟨⟨?_, by simp [h.len], ?_, ?_, ?_, h.out⟩, ?_, ?_, hO⟩
  · rw [box_set (hO.trans h.box)]
  · intro i u l' hu hl'
    rcases hget i u hu with ⟨rfl, rfl⟩ | ⟨hik, hu'⟩
    · rw [List.getElem?_set_self (by rw [← h.len]; exact hk)] at hl'
      cases hl'
      exact ownsRow_keep (hown.base hbase) fun q e => Below.heap_setCell _ _ _ _ (by show q ≠ O; have := hnew q e; omega)
    · rw [List.getElem?_set_ne (Ne.symm hik)] at hl'
      exact ownsRow_keep (h.own i u l' hu' hl') fun q e => (Below.heap_setCell _ _ _ _ (by show q ≠ O; exact (h.far i u q hu' e).2)).trans (hb.block q (h.lt hu' e).2)
  · intro i u g hu e
    rcases hget i u hu with ⟨rfl, rfl⟩ | ⟨_, hu'⟩
    · have := hnew g e
      exact ⟨fun hs' => (by have := hS g hs'; omega), by omega⟩
    · exact h.far i u g hu' e
  · intro i j u t g hij hu ht e et
    rcases hget i u hu with ⟨rfl, rfl⟩ | ⟨hik, hu'⟩
    · rcases hget j t ht with ⟨rfl, _⟩ | ⟨hjk, ht'⟩
      · exact absurd rfl hij
      · have := hnew g e
        have := (h.lt ht' et).2
        omega
    · rcases hget j t ht with ⟨rfl, rfl⟩ | ⟨hjk, ht'⟩
      · have := hnew g et
        have := (h.lt hu' e).2
        omega
      · exact h.sep i j u t g hij hu' ht' e et
  · exact ⟨by simpa [World.setCell] using hs, fun q hq => (Below.heap_setCell _ _ _ _ (by show q ≠ O; exact fun e => h.out.1 (e ▸ hq))).trans (hb.block q (hS q hq))⟩
  · exact (hb.mono hbase).setCell (p := ⟨O, k, none⟩) h.out.2 v

/-- the beginning: rows of nothing -/
theorem RowsAt.start {W : World} {base n O : Nat} {S : Nat → Prop} (h : W.heap[O]? = some (.cells (List.replicate n (Value.slice none 0 0)).toArray 27 (0, 0))) (hS : ¬ S O) (hb : base ≤ O) :
    RowsAt W base S O (List.replicate n (.slice none 0 0)) (List.replicate n []) := by
  refine ⟨h, by simp, fun i v l hv hl => ?_, fun i v g hv hg => ?_, fun i j v u g _ hv _ hg => ?_, hS, hb⟩
  · obtain rfl := List.eq_of_mem_replicate (List.mem_of_getElem? hv)
    obtain rfl := List.eq_of_mem_replicate (List.mem_of_getElem? hl)
    exact OwnI.nil W base
  all_goals
    obtain rfl := List.eq_of_mem_replicate (List.mem_of_getElem? hv)
    simp [Value.ownBlock] at hg
end Mu
end
section
/-
  flow.Before, walked.
  Conditions: at most 2^21 blocks and instructions.
-/
namespace Mu
open Go Go.RowKit Go.Proofs Go.Shelf
attribute [local go_sem] Oper.semAt_some

def addB {f : Func} (b : Nat) (ls : List (List Int)) (x : Blk f) : List (List Int) := ls.set x.1 (ls.getD x.1 [] ++ [(b : Int)])
def addsB {f : Func} (b : Nat) (pre : List (Blk f)) (ls : List (List Int)) : List (List Int) := pre.foldl (addB b) ls
/-- from where one goes to blocks, by the first b of them -/
def befN (f : Func) : Nat → List (List Int)
  | 0 => List.replicate f.blocks.length []
  | b + 1 => addsB b (nextS f b) (befN f b)
theorem addsB_snoc {f : Func} (b : Nat) (pre : List (Blk f)) (x : Blk f) (ls : List (List Int)) : addsB b (pre ++ [x]) ls = addB b (addsB b pre ls) x := by simp [addsB]
theorem addsB_length {f : Func} (b : Nat) (pre : List (Blk f)) (ls : List (List Int)) : (addsB b pre ls).length = ls.length := by
  induction pre generalizing ls with
  | nil => rfl
  | cons x l ih =>
    show (addsB b l (addB b ls x)).length = _
    rw [ih]
    simp [addB]
theorem befN_length (f : Func) (b : Nat) : (befN f b).length = f.blocks.length := by
  induction b with
  | zero => simp [befN]
  | succ b ih => rw [befN, addsB_length, ih]
theorem addB_le {f : Func} {b : Nat} {ls : List (List Int)} {x : Blk f} {n : Nat} (h : ∀ l ∈ ls, l.length ≤ n) : ∀ l ∈ addB b ls x, l.length ≤ n + 1 := fun l hl => by
  rcases List.mem_or_eq_of_mem_set hl with hl | rfl
  · have := h l hl; omega
  · rw [List.length_append]
    have : (ls.getD x.1 []).length ≤ n := by
      rw [List.getD_eq_getElem?_getD]
      cases hx : ls[x.1]? with
      | none => simp
      | some l => exact h l (List.mem_of_getElem? hx)
    simp; exact this
theorem addsB_le {f : Func} {b : Nat} {n : Nat} : ∀ (pre : List (Blk f)) {ls : List (List Int)} (_ : ∀ l ∈ ls, l.length ≤ n), ∀ l ∈ addsB b pre ls, l.length ≤ n + pre.length
  | [], ls, h => by simpa [addsB] using h
  | x :: pre, ls, h => fun l hl => by
    have := addsB_le (n := n + 1) pre (addB_le (x := x) (b := b) h) l hl
    simp; omega
theorem befN_le (f : Func) (b : Nat) : ∀ l ∈ befN f b, l.length ≤ 2 * b := by
  induction b with
  | zero => intro l hl; obtain rfl := List.eq_of_mem_replicate hl; simp
  | succ b ih =>
    intro l hl
    have := addsB_le (nextS f b) ih l hl
    have := nextS_len f b
    omega

theorem made_rep (z : Value) (n : Nat) : madeCells #[z] n = (List.replicate n z).toArray := by
  apply Array.ext
  · simp [madeCells]
  · intro i h1 h2
    simp [madeCells, Nat.mod_one]

set_option maxRecDepth 100000 in
set_option maxHeartbeats 4000000 in
theorem before_any (f : Func) (cs : List Value) (w : World) (hR : tFunc.R w w.heap.size cs f) (hl : f.blocks.length ≤ 2097152) (hi : ∀ b ∈ f.blocks, b.ins.length ≤ 2097152) :
    Calls Tryd.prog 87 #[.agg cs.toArray] w fun e W' => ∃ (O : Nat) (vs : List Value), e = .returned (.slice (some ⟨O, 0, none⟩) f.blocks.length f.blocks.length) ∧ RowsAt W' w.heap.size (fun _ => False) O vs (befN f f.blocks.length) ∧ Below w.heap.size w W' := by
  refine (callsIn_wide (n := 6)).1 ?_
  obtain ⟨i0, hiI, hz0, hz1, hz2⟩ := info_parts int_info
  obtain ⟨A, c, rfl, -, -, -, -⟩ := tFunc_R.1 hR
  have HR := Lib.hid hR
  have HI := Lib.hid hi
  clear hR hi
  have hmk := run_make_row' (P := Tryd.prog) 81 27 (.slice none 0 0) 24 Tryd.underlying81 slc_info rfl .i64 .i64 f.blocks.length (by omega) (by omega)
  rw [made_rep] at hmk
  refine callsIn_of_wp_marks Tryd.func87 rfl trivial ?_ rfl
  simp only [Tryd.ntmps87, List.size_toArray, List.length_cons, List.length_nil, Nat.reduceAdd, Nat.reduceSub, Array.replicate_succ, Array.replicate_zero, List.push_toArray, List.append_toArray, List.nil_append, List.cons_append]
  obtain ⟨W1, hW1⟩ : ∃ W1 : World, W1 = ((w.alloc (.cells #[.string f.name, .int .i64 f.args, .int .i64 f.regs, .slice A f.blocks.length c] 24)).alloc (.cells (List.replicate f.blocks.length (Value.slice none 0 0)).toArray 27)).alloc (.cells #[.slice (some ⟨w.heap.size + 1, 0, none⟩) f.blocks.length f.blocks.length] 81) := ⟨_, rfl⟩
  gi_wp2
  refine wpIn_loop (fun a W => ∃ (b : Nat) (ds : List Nat) (vs : List Value) (u4 u5 u14 u15 u16 u17 u18 u19 u20 u21 u22 u23 u24 u25 u26 u27 u28 u29 u30 : Value), b ≤ f.blocks.length ∧ a = { tmps := #[.agg #[.string f.name, .int .i64 f.args, .int .i64 f.regs, .slice A f.blocks.length c], .pointer (some ⟨w.heap.size, 0, none⟩), .slice none 0 0, .pointer (some ⟨w.heap.size + 1 + 1, 0, none⟩), u4, u5, .pointer (some ⟨w.heap.size, 3, none⟩), .slice A f.blocks.length c, .int .i64 f.blocks.length, .slice (some ⟨w.heap.size + 1, 0, none⟩) f.blocks.length f.blocks.length, .pointer (some ⟨w.heap.size, 3, none⟩), .slice A f.blocks.length c, .int .i64 f.blocks.length, .int .i64 b, u14, u15, u16, u17, u18, u19, u20, u21, u22, u23, u24, u25, u26, u27, u28, u29, u30, undef], defers := ds.map mark } ∧ RowsAt W w.heap.size (fun k => k ≤ w.heap.size ∨ k = w.heap.size + 2) (w.heap.size + 1) vs (befN f b) ∧
    KS (fun k => k ≤ w.heap.size ∨ k = w.heap.size + 2) W1 W ∧ Below w.heap.size w W ∧ ds.Nodup ∧ ∀ D ∈ ds, w.heap.size ≤ D ∧ W.heap[D]? = some (.deferred (some []))) (fun a _ => f.blocks.length - (RowKit.intOf (a.tmps.getD 13 undef)).toNat) ?start ?round
  case start =>
    refine ⟨0, [], List.replicate f.blocks.length (.slice none 0 0), _, _, _, _, _, _, _, _, _, _, _, _, _, _, _, _, _, _, _, Nat.zero_le _, rfl, ?_, ?_, ?_, List.nodup_nil, by simp⟩
    · refine RowsAt.start ?_ (by omega) (by omega)
      refine box_alloc ?_ _
      have h := heap_alloc_new (w.alloc (.cells #[.string f.name, .int .i64 f.args, .int .i64 f.regs, .slice A f.blocks.length c] 24)) (.cells (List.replicate f.blocks.length (Value.slice none 0 0)).toArray 27)
      rwa [World.size_alloc] at h
    · rw [hW1]; exact KS.refl
    · exact (((Below.refl _ _).alloc (Nat.le_refl _) _).alloc (by simp) _).alloc (by simp; omega) _
  case round =>
    rintro a W ⟨b, ds, vs, u4, u5, u14, u15, u16, u17, u18, u19, u20, u21, u22, u23, u24, u25, u26, u27, u28, u29, u30, hb, rfl, hR, hK, hB, hN, hD⟩
    have hW1s : W1.heap.size = w.heap.size + 1 + 1 + 1 := by rw [hW1]; simp
    have hc3 : W.cell? ⟨w.heap.size + 1 + 1, 0, none⟩ = some (.slice (some ⟨w.heap.size + 1, 0, none⟩) f.blocks.length f.blocks.length) := by
      refine hK.cell (.inr rfl) ?_
      rw [hW1]
      have h := heap_alloc_new ((w.alloc (.cells #[.string f.name, .int .i64 f.args, .int .i64 f.regs, .slice A f.blocks.length c] 24)).alloc (.cells (List.replicate f.blocks.length (Value.slice none 0 0)).toArray 27)) (.cells #[.slice (some ⟨w.heap.size + 1, 0, none⟩) f.blocks.length f.blocks.length] 81)
      rw [World.size_alloc, World.size_alloc] at h
      exact box_cell (cs := [_]) h rfl
    have hfB : W.heap[w.heap.size]? = some (.cells [.string f.name, .int .i64 f.args, .int .i64 f.regs, .slice A f.blocks.length c].toArray 24 (0, 0)) := by
      rw [hK.block _ (.inl (Nat.le_refl _)), hW1]
      exact box_alloc (box_alloc (heap_alloc_new w _) _) _
    have hWs : w.heap.size + 1 + 1 + 1 ≤ W.heap.size := by have := hK.size; omega
    clear hW1
    by_cases hbn : b = f.blocks.length
    · subst hbn
      have d0 : decide ((f.blocks.length : Int) < (f.blocks.length : Int)) = false := decide_eq_false (by omega)
      gi_wp2
      refine leaves_marks (fun X => RowsAt X w.heap.size (fun _ => False) (w.heap.size + 1) vs (befN f f.blocks.length) ∧ Below w.heap.size w X) w.heap.size ?_ (fun _ => results_tmp rfl _ _ _) (fun X h => ⟨_, vs, rfl, h⟩) ds W hN hD ⟨hR.avoid (fun _ h => h.elim), hB⟩
      intro X D hX hDX hDo
      exact ⟨hX.1.grown (grownBy_putObj' X D _) (fun r e => by cases e; exact ⟨_, hDo, rfl⟩), hX.2.trans (belowK_b (w := w) (Nat.le_refl _) X D _ _ hDX hDo rfl rfl)⟩
    · have hbl : b < f.blocks.length := by omega
      have d0 : decide ((b : Int) < (f.blocks.length : Int)) = true := decide_eq_true (by omega)
      have cG : ∀ W', CallsIn Fence.wide 5 Tryd.prog 97 #[.agg #[.string f.name, .int .i64 f.args, .int .i64 f.regs, .slice A f.blocks.length c], .int .i64 b] W' fun e w'' => e = .returned (.func (.func 103) #[] #[.pointer (some ⟨W'.heap.size + 1, 0, none⟩), .pointer (some ⟨W'.heap.size, 0, none⟩)]) ∧
        w'' = (W'.alloc (.cells #[.string f.name, .int .i64 f.args, .int .i64 f.regs, .slice A f.blocks.length c] 24)).alloc (.cells #[.int .i64 b] 3) := fun W' => goes_in Fence.wide 5 trivial rfl [.string f.name, .int .i64 f.args, .int .i64 f.regs, .slice A f.blocks.length c] b W' rfl
      have hfB2 := box_alloc hfB (.cells #[.int .i64 b] 3)
      have f0 := box_cell (j := 0) hfB2 rfl
      have f1 := box_cell (j := 1) hfB2 rfl
      have f2 := box_cell (j := 2) hfB2 rfl
      have f3 := box_cell (j := 3) hfB2 rfl
      gi_wp2_with fail
      refine ⟨trivial, (cG _).mono ?_⟩
      rintro e w' ⟨rfl, rfl⟩
      have hSo : ∀ k, ((k ≤ w.heap.size ∨ k = w.heap.size + 2 ∨ k = W.heap.size) ∨ k = W.heap.size + 1 ∨ k = W.heap.size + 1 + 1) → k < W.heap.size + 1 + 1 + 1 := fun k hk => by omega
      have hBW : Below W.heap.size W (((W.alloc (.cells #[.int .i64 b] 3)).alloc (.cells #[.string f.name, .int .i64 f.args, .int .i64 f.regs, .slice A f.blocks.length c] 24)).alloc (.cells #[.int .i64 b] 3)) := (((Below.refl _ _).alloc (Nat.le_refl _) _).alloc (by simp) _).alloc (by simp; omega) _
      have hG2 := goes_at (W := W.alloc (.cells #[.int .i64 b] 3)) (S := fun k => k ≤ w.heap.size ∨ k = w.heap.size + 2 ∨ k = W.heap.size) (bi := b)
        (tFunc.keepS HR.out (fun k hk => by rw [Below.heap_alloc _ _ _ (by omega), hB.block k hk]) (fun k hk => by omega)) (fun k hk => by simp; omega) hl HI.out
      have hLs : ((((W.alloc (.cells #[.int .i64 b] 3)).alloc (.cells #[.string f.name, .int .i64 f.args, .int .i64 f.regs, .slice A f.blocks.length c] 24)).alloc (.cells #[.int .i64 b] 3))).heap.size = W.heap.size + 1 + 1 + 1 := by simp
      have hb4 : (((W.alloc (.cells #[.int .i64 b] 3)).alloc (.cells #[.string f.name, .int .i64 f.args, .int .i64 f.regs, .slice A f.blocks.length c] 24)).alloc (.cells #[.int .i64 b] 3)).cell? ⟨W.heap.size, 0, none⟩ = some (.int .i64 b) :=
        box_cell (cs := [_]) (box_alloc (box_alloc (heap_alloc_new W _) _) _) rfl
      rw [World.size_alloc] at hG2
      dsimp only [List.toArray] at hG2
      gi_wp2
      obtain ⟨Wl, hWl⟩ : ∃ Wl : World, Wl = (((W.alloc (.cells #[.int .i64 b] 3)).alloc (.cells #[.string f.name, .int .i64 f.args, .int .i64 f.regs, .slice A f.blocks.length c] 24)).alloc (.cells #[.int .i64 b] 3)) := ⟨_, rfl⟩
      rw [← hWl] at hBW hG2 hLs hb4 ⊢
      rw [← hLs] at hSo
      clear hWl
      have hRl := (hR.avoid (S' := fun k => (k ≤ w.heap.size ∨ k = w.heap.size + 2 ∨ k = W.heap.size) ∨ k = W.heap.size + 1 ∨ k = W.heap.size + 1 + 1) (fun k hk => by omega)).below hBW
      refine wpIn_rangeFunc_ownG rfl (by decide) (gf := 103) (lb := #[.pointer (some ⟨W.heap.size + 1 + 1, 0, none⟩), .pointer (some ⟨W.heap.size + 1, 0, none⟩)]) rfl trivial (enters_of Tryd.func103 (by kernel_rfl) rfl)
        (goes_stops Fence.wide 5 trivial rfl (by decide) f b (W.heap.size + 1) (W.heap.size + 1 + 1) (fun k => (k ≤ w.heap.size ∨ k = w.heap.size + 2 ∨ k = W.heap.size) ∨ k = W.heap.size + 1 ∨ k = W.heap.size + 1 + 1) _ hSo hG2) ksK_t (ksK_b hSo) (Below.refl _ _) (fun _ => rfl)
        (fun (pre : List (Blk f)) W' => (∃ vs, RowsAt W' w.heap.size (fun k => (k ≤ w.heap.size ∨ k = w.heap.size + 2 ∨ k = W.heap.size) ∨ k = W.heap.size + 1 ∨ k = W.heap.size + 1 + 1) (w.heap.size + 1) vs (addsB b pre (befN f b)) ∧
          KS (fun k => (k ≤ w.heap.size ∨ k = w.heap.size + 2 ∨ k = W.heap.size) ∨ k = W.heap.size + 1 ∨ k = W.heap.size + 1 + 1) Wl W' ∧ KeepsOthers Wl W') ∧ Below w.heap.size Wl W')
        (fun _ _ _ => False)
        (OwnFrom.and ?_ (ownFrom_below (by omega) (by omega)))
        (fun _ _ _ _ _ hs _ _ => hs)
        ⟨⟨vs, hRl, KS.refl, KeepsOthers.refl _⟩, Below.refl _ _⟩
        (fun x => { tmps := #[.agg #[.string f.name, .int .i64 f.args, .int .i64 f.regs, .slice A f.blocks.length c], .pointer (some ⟨w.heap.size, 0, none⟩), .slice none 0 0, .pointer (some ⟨w.heap.size + 1 + 1, 0, none⟩), .pointer (some ⟨W.heap.size, 0, none⟩), .int .i64 (blkI x), .pointer (some ⟨w.heap.size, 3, none⟩), .slice A f.blocks.length c, .int .i64 f.blocks.length, .slice (some ⟨w.heap.size + 1, 0, none⟩) f.blocks.length f.blocks.length, .pointer (some ⟨w.heap.size, 3, none⟩), .slice A f.blocks.length c, .int .i64 f.blocks.length, .int .i64 b, .bool true, .int .i64 b, .agg #[.string f.name, .int .i64 f.args, .int .i64 f.regs, .slice A f.blocks.length c], .int .i64 b, .func (.func 103) #[] #[.pointer (some ⟨W.heap.size + 1 + 1, 0, none⟩), .pointer (some ⟨W.heap.size + 1, 0, none⟩)], .int .i64 (blkI x), u20, u21, u22, u23, u24, u25, u26, u27, u28, u29, u30, undef], defers := [] }) ?assign ?body ?done ?stop
      case assign =>
        intro l x W K hK
        gi_wp2
        exact hK
      case body =>
        rintro l pre x W' ⟨⟨vs', hR', hK', hO'⟩, hB'⟩ hlt
        have hxl : x.1 < vs'.length := by rw [hR'.len, addsB_length, befN_length]; exact x.2
        obtain ⟨v, hv⟩ : ∃ v, vs'[x.1]? = some v := ⟨_, List.getElem?_eq_getElem hxl⟩
        obtain ⟨lk, hlk, hown⟩ := hR'.get hv
        have hlen : lk.length ≤ 2 * b + pre.length := addsB_le pre (befN_le f b) lk (List.mem_of_getElem? hlk)
        have hgd : (addsB b pre (befN f b)).getD x.1 [] = lk := by rw [List.getD_eq_getElem?_getD, hlk]; rfl
        have k0 : (0 : Int) ≤ blkI x := by unfold blkI; omega
        have k1 : blkI x < (f.blocks.length : Int) := by unfold blkI; have := x.2; omega
        have k2 : (blkI x).toNat = x.1 := by unfold blkI; omega
        have c3 := hK'.cell (a := ⟨w.heap.size + 1 + 1, 0, none⟩) (.inl (.inr (.inl rfl))) ((World.cell?_of_block (hBW.block (w.heap.size + 1 + 1) (by omega))).trans hc3)
        have c4 := hK'.cell (a := ⟨W.heap.size, 0, none⟩) (.inl (.inr (.inr rfl))) hb4
        have cv := hR'.cell hv
        gi_wp2
        have hO1 : w.heap.size + 1 < W'.heap.size := box_lt hR'.box
        have hSl : ∀ k, ((k ≤ w.heap.size ∨ k = w.heap.size + 2 ∨ k = W.heap.size) ∨ k = W.heap.size + 1 ∨ k = W.heap.size + 1 + 1) → k < W'.heap.size := fun k hk => by have := hSo k hk; have := hK'.size; omega
        have hRd : RowsAt W'.drew w.heap.size (fun k => (k ≤ w.heap.size ∨ k = w.heap.size + 2 ∨ k = W.heap.size) ∨ k = W.heap.size + 1 ∨ k = W.heap.size + 1 + 1) (w.heap.size + 1) vs' (addsB b pre (befN f b)) := hR'.keep fun _ _ => rfl
        have hKa : KS (fun k => (k ≤ w.heap.size ∨ k = w.heap.size + 2 ∨ k = W.heap.size) ∨ k = W.heap.size + 1 ∨ k = W.heap.size + 1 + 1) W' (W'.alloc (.cells #[.int .i64 b] 3)) := ⟨by simp, fun k hk => Below.heap_alloc _ _ _ (hSl k hk)⟩
        have c3a := hKa.cell (a := ⟨w.heap.size + 1 + 1, 0, none⟩) (.inl (.inr (.inl rfl))) c3
        have c4a := hKa.cell (a := ⟨W.heap.size, 0, none⟩) (.inl (.inr (.inr rfl))) c4
        have cva := box_cell (box_alloc hR'.box (.cells #[.int .i64 b] 3)) hv
        refine wpIn_region_round (S := fun X => X.cell? ⟨w.heap.size + 1 + 1, 0, none⟩ = some (.slice (some ⟨w.heap.size + 1, 0, none⟩) f.blocks.length f.blocks.length) ∧ X.cell? ⟨W.heap.size, 0, none⟩ = some (.int .i64 b)) (by kernel_rfl) (by kernel_rfl) (fun _ _ h => h) ⟨c3, c4⟩ (fun hH => ?_)
        refine wpAnyH_take (i := 0) (v := .slice (some ⟨w.heap.size + 1, 0, none⟩) f.blocks.length f.blocks.length) rfl (by kernel_rfl) (by kernel_rfl) (by kernel_rfl) (fun _ _ _ h => h) (Or.inl ⟨by rfl, ?_⟩) (by assumption) ?_
        · rintro X ⟨h1, h3⟩
          go_simp
        simp only [Act.put, List.setIfInBounds_toArray]
        refine wpAnyH_take (i := 1) (v := .int .i64 (blkI x)) rfl (by kernel_rfl) (by kernel_rfl) (by kernel_rfl) (fun _ _ _ h => h) (Or.inl ⟨by rfl, ?_⟩) (by assumption) ?_
        · rintro X ⟨h1, h3⟩
          go_simp
        simp only [Act.put]
        refine wpAnyH_take (i := 2) (v := .slice (some ⟨w.heap.size + 1, 0, none⟩) f.blocks.length f.blocks.length) rfl (by kernel_rfl) (by kernel_rfl) (by kernel_rfl) (fun _ _ _ h => h) (Or.inl ⟨by rfl, ?_⟩) (by assumption) ?_
        · rintro X ⟨h1, h3⟩
          go_simp
        simp only [Act.put]
        refine wpAnyH_take (i := 3) (v := .int .i64 (blkI x)) rfl (by kernel_rfl) (by kernel_rfl) (by kernel_rfl) (fun _ _ _ h => h) (Or.inl ⟨by rfl, ?_⟩) (by assumption) ?_
        · rintro X ⟨h1, h3⟩
          go_simp
        simp only [Act.put]
        refine wpAnyH_take (i := 4) (v := .pointer (some ⟨w.heap.size + 1, x.1, none⟩)) rfl (by kernel_rfl) (by kernel_rfl) (by kernel_rfl) (fun _ _ _ h => h) (Or.inl ⟨by rfl, ?_⟩) (by assumption) ?_
        · rintro X ⟨h1, h3⟩
          go_simp
        simp only [Act.put]
        refine wpAnyH_take (i := 6) (v := .int .i64 b) rfl (by kernel_rfl) (by kernel_rfl) (by kernel_rfl) (fun _ _ _ h => h) (Or.inl ⟨by rfl, ?_⟩) (by assumption) ?_
        · rintro X ⟨h1, h3⟩
          go_simp
        simp only [Act.put]
        refine wpAnyH_ready (rs := [5, 7]) (by kernel_rfl) (by simp) ?_
        refine AllReadyH.cons rfl (fun K hK => ?_) (AllReadyH.cons rfl (fun K hK => ?_) AllReadyH.nil)
        · go_simp
          refine hK.out _ _ ⟨c3, c4⟩ (fun hHeld => ?_)
          clear hK K
          refine wpAnyH_ready (rs := [7]) (by kernel_rfl) (by simp) ?_
          refine AllReadyH.cons rfl (fun K hK => ?_) AllReadyH.nil
          go_simp
          refine hK.out _ _ ⟨c3a, c4a⟩ (fun hHeld => ?_)
          clear hK K
          refine wpAnyH_ready (rs := [8]) (by kernel_rfl) (by simp) ?_
          refine AllReadyH.cons rfl (fun K hK => ?_) AllReadyH.nil
          refine step_more rfl _ _ 27 rfl w.heap.size 3 i0 (.int .i64 0) 1 8 Tryd.underlying27 hiI hz0 hz1 hz2 rfl (by decide) (v := v) (n := lk.length) (xs := lk.map (Value.int .i64)) rfl (hown.alloc (.cells #[.int .i64 b] 3)) (A := some ⟨W'.heap.size, 0, none⟩) (m := 1) (c := 1) (news := [.int .i64 b]) rfl (src_one (w := W'.drew) (size := 1) (m := 1) (cs := #[.int .i64 b]) rfl) (by simp [Value.oneCell']) (by unfold maxLen; omega) (by omega) (by show w.heap.size ≤ (W'.alloc _).heap.size; simp; omega) ?_
          intro v' w1 hown2 hgrow hat
          obtain ⟨g', cap', rfl⟩ := ownsRow_succ hown2
          obtain ⟨r1, r2, r3, r4, r5⟩ := hRd.step hSl hv hlk hown2 rfl hgrow hat
          have r6 := hRd.step_below (v' := Value.slice (some ⟨g', 0, none⟩) (lk.length + 1) cap') hv (by show w.heap.size ≤ W'.heap.size; omega) hgrow
          simp only [Act.put, List.setIfInBounds_toArray]
          have c3b := r5.cell (a := ⟨w.heap.size + 1 + 1, 0, none⟩) (.inl (.inr (.inl rfl))) c3
          have c4b := r5.cell (a := ⟨W.heap.size, 0, none⟩) (.inl (.inr (.inr rfl))) c4
          refine hK.out _ _ ⟨c3b, c4b⟩ (fun hHeld => ?_)
          clear hK K
          have hb1 := r4.trans hRd.box
          have hfr : w1.frozen? ⟨w.heap.size + 1, x.1, none⟩ = false := box_free hb1
          have hcv1 := box_cell hb1 hv
          refine wpAnyH_take (i := 9) (v := .pointer (some ⟨w.heap.size + 1, x.1, none⟩)) rfl (by kernel_rfl) (by kernel_rfl) (by kernel_rfl) (fun _ _ _ h => h) (Or.inl ⟨by rfl, ?_⟩) (by assumption) ?_
          · rintro X ⟨h1, h3⟩
            go_simp
          simp only [Act.put]
          refine wpAnyH_ready (rs := [10]) (by kernel_rfl) (by simp) ?_
          refine AllReadyH.cons rfl (fun K hK => ?_) AllReadyH.nil
          go_simp
          refine hK.out _ _ ⟨r2.cell (W := W'.drew) (a := ⟨w.heap.size + 1 + 1, 0, none⟩) (.inl (.inr (.inl rfl))) c3, r2.cell (W := W'.drew) (a := ⟨W.heap.size, 0, none⟩) (.inl (.inr (.inr rfl))) c4⟩ (fun hHeld => ?_)
          clear hK K
          refine wpAnyH_done (by kernel_rfl) ?_ _
          refine ⟨⟨r3.size, fun k o _ hk ho => r3.same k o hk ho⟩, ⟨r2.size, r2.block⟩, ⟨⟨vs'.set x.1 (.slice (some ⟨g', 0, none⟩) (lk.length + 1) cap'), ?_, hK'.trans ⟨r2.size, r2.block⟩, hO'.trans ⟨r3.size, r3.same⟩⟩, hB'.trans ⟨r6.os, r6.tape, r6.output, r6.size, r6.block⟩⟩⟩
          rw [addsB_snoc]
          unfold addB
          rw [hgd]
          exact r1
        · go_simp
          refine hK.out _ _ ⟨c3a, c4a⟩ (fun hHeld => ?_)
          clear hK K
          refine wpAnyH_ready (rs := [5]) (by kernel_rfl) (by simp) ?_
          refine AllReadyH.cons rfl (fun K hK => ?_) AllReadyH.nil
          go_simp
          refine hK.out _ _ ⟨c3a, c4a⟩ (fun hHeld => ?_)
          clear hK K
          refine wpAnyH_ready (rs := [8]) (by kernel_rfl) (by simp) ?_
          refine AllReadyH.cons rfl (fun K hK => ?_) AllReadyH.nil
          refine step_more rfl _ _ 27 rfl w.heap.size 3 i0 (.int .i64 0) 1 8 Tryd.underlying27 hiI hz0 hz1 hz2 rfl (by decide) (v := v) (n := lk.length) (xs := lk.map (Value.int .i64)) rfl (hown.alloc (.cells #[.int .i64 b] 3)) (A := some ⟨W'.heap.size, 0, none⟩) (m := 1) (c := 1) (news := [.int .i64 b]) rfl (src_one (w := W'.drew) (size := 1) (m := 1) (cs := #[.int .i64 b]) rfl) (by simp [Value.oneCell']) (by unfold maxLen; omega) (by omega) (by show w.heap.size ≤ (W'.alloc _).heap.size; simp; omega) ?_
          intro v' w1 hown2 hgrow hat
          obtain ⟨g', cap', rfl⟩ := ownsRow_succ hown2
          obtain ⟨r1, r2, r3, r4, r5⟩ := hRd.step hSl hv hlk hown2 rfl hgrow hat
          have r6 := hRd.step_below (v' := Value.slice (some ⟨g', 0, none⟩) (lk.length + 1) cap') hv (by show w.heap.size ≤ W'.heap.size; omega) hgrow
          simp only [Act.put, List.setIfInBounds_toArray]
          have c3b := r5.cell (a := ⟨w.heap.size + 1 + 1, 0, none⟩) (.inl (.inr (.inl rfl))) c3
          have c4b := r5.cell (a := ⟨W.heap.size, 0, none⟩) (.inl (.inr (.inr rfl))) c4
          refine hK.out _ _ ⟨c3b, c4b⟩ (fun hHeld => ?_)
          clear hK K
          have hb1 := r4.trans hRd.box
          have hfr : w1.frozen? ⟨w.heap.size + 1, x.1, none⟩ = false := box_free hb1
          have hcv1 := box_cell hb1 hv
          refine wpAnyH_take (i := 9) (v := .pointer (some ⟨w.heap.size + 1, x.1, none⟩)) rfl (by kernel_rfl) (by kernel_rfl) (by kernel_rfl) (fun _ _ _ h => h) (Or.inl ⟨by rfl, ?_⟩) (by assumption) ?_
          · rintro X ⟨h1, h3⟩
            go_simp
          simp only [Act.put]
          refine wpAnyH_ready (rs := [10]) (by kernel_rfl) (by simp) ?_
          refine AllReadyH.cons rfl (fun K hK => ?_) AllReadyH.nil
          go_simp
          refine hK.out _ _ ⟨r2.cell (W := W'.drew) (a := ⟨w.heap.size + 1 + 1, 0, none⟩) (.inl (.inr (.inl rfl))) c3, r2.cell (W := W'.drew) (a := ⟨W.heap.size, 0, none⟩) (.inl (.inr (.inr rfl))) c4⟩ (fun hHeld => ?_)
          clear hK K
          refine wpAnyH_done (by kernel_rfl) ?_ _
          refine ⟨⟨r3.size, fun k o _ hk ho => r3.same k o hk ho⟩, ⟨r2.size, r2.block⟩, ⟨⟨vs'.set x.1 (.slice (some ⟨g', 0, none⟩) (lk.length + 1) cap'), ?_, hK'.trans ⟨r2.size, r2.block⟩, hO'.trans ⟨r3.size, r3.same⟩⟩, hB'.trans ⟨r6.os, r6.tape, r6.output, r6.size, r6.block⟩⟩⟩
          rw [addsB_snoc]
          unfold addB
          rw [hgd]
          exact r1
      case done =>
        rintro D ys W' hDl rfl ⟨⟨vs', hR', hK', hO'⟩, hB'⟩ hDo
        have x1 : IntKind.i64.wrap ((b : Int) + 1) = ((b + 1 : Nat) : Int) := by rw [IntWalk.i64_in _ (by omega)]; rfl
        gi_wp2
        have hlt' : ∀ D' ∈ ds, D' < W.heap.size := fun D' h' => box_lt (hD D' h').2
        refine ⟨⟨b + 1, D :: ds, vs', _, _, _, _, _, _, _, _, _, _, _, _, _, _, _, _, _, _, _, by omega, rfl, hR'.avoid (fun k hk => .inl (.inl (by omega))), hK.trans ⟨?_, fun k hk => ?_⟩, hB.trans ((hBW.mono (by omega)).trans hB'), ?_, ?_⟩, ?_⟩
        · have := hBW.size; have := hK'.size; omega
        · exact (hK'.block k (.inl (by omega))).trans (hBW.block k (by omega))
        · exact List.nodup_cons.2 ⟨fun h' => by have := hlt' D h'; omega, hN⟩
        · intro D' h'
          rcases List.mem_cons.1 h' with rfl | h'
          · exact ⟨by omega, hDo⟩
          · exact ⟨(hD D' h').1, hO'.same _ _ ((hBW.block D' (hlt' D' h')).trans (hD D' h').2) rfl⟩
        · simp [RowKit.intOf]
          omega
      case stop =>
        rintro D c pre W _ _ h _
        exact h.elim
      intro s X Y row hs hg hr
      obtain ⟨vs', h1, h2, h3⟩ := hs
      refine ⟨vs', h1.grown hg (fun r e => (hr r e).2), ⟨Nat.le_trans h2.size hg.size, fun k hk => (hg.block k ?_ ?_).trans (h2.block k hk)⟩, ⟨Nat.le_trans h3.size hg.size, fun k o hk ho => (hg.block k ?_ ?_).trans (h3.same k o hk ho)⟩⟩
      · have := hSo k hk; have := h2.size; omega
      · intro e; have := (hr k e.symm).1; have := hSo k hk; omega
      · have := box_lt (h3.same k o hk ho); omega
      · intro e; have := (hr k e.symm).1; have := box_lt hk; omega
end Mu
end
section
/-
  live.places, walked.
  Conditions: at most 2^21 instructions and arguments; all that is read lies in a row.
-/
namespace Mu
open Go Go.RowKit Go.Proofs Go.Shelf
attribute [local go_sem] Oper.semAt_some

def stepB (ds : List Ins) (S : Int → Bool) (i : Nat) : Int → Bool := match ds[i]? with | some d => backS d S | none => S
def stepP (R : List Int) (ds : List Ins) (p : (Int → Bool) × List (List Int)) (i : Nat) : (Int → Bool) × List (List Int) := (stepB ds p.1 i, p.2.set i (R.filter (stepB ds p.1 i)))
def placesN (R : List Int) (ds : List Ins) (S : Int → Bool) (is : List Nat) : (Int → Bool) × List (List Int) := is.foldl (stepP R ds) (S, (List.replicate (ds.length + 1) []).set ds.length (R.filter S))
theorem placesN_snoc (R : List Int) (ds : List Ins) (S : Int → Bool) (is : List Nat) (i : Nat) : placesN R ds S (is ++ [i]) = stepP R ds (placesN R ds S is) i := by simp [placesN]
theorem placesN_bk (R : List Int) (ds : List Ins) (S : Int → Bool) {W0 : World} {T : Nat → Prop} (pre : List (BkE W0 T ds)) (x : BkE W0 T ds) : placesN R ds S (bkIdx (pre ++ [x])) = stepP R ds (placesN R ds S (bkIdx pre)) x.1.1 := by
  rw [show bkIdx (pre ++ [x]) = bkIdx pre ++ [x.1.1] from by simp [bkIdx], placesN_snoc]
theorem placesN_length (R : List Int) (ds : List Ins) (S : Int → Bool) (is : List Nat) : (placesN R ds S is).2.length = ds.length + 1 := by
  unfold placesN
  have key : ∀ (is : List Nat) (p : (Int → Bool) × List (List Int)), (is.foldl (stepP R ds) p).2.length = p.2.length := by
    intro is
    induction is with
    | nil => intro p; rfl
    | cons i l ih => intro p; rw [List.foldl_cons, ih]; simp [stepP]
  rw [key]
  simp
theorem placesN_in {R : List Int} {ds : List Ins} {S : Int → Bool} (hx : ∀ x ∈ ds, ∀ r ∈ readsC x, r ∈ R) (hin : InR R S) (is : List Nat) : InR R (placesN R ds S is).1 := by
  unfold placesN
  have key : ∀ (is : List Nat) (p : (Int → Bool) × List (List Int)), InR R p.1 → InR R (is.foldl (stepP R ds) p).1 := by
    intro is
    induction is with
    | nil => intro p h; exact h
    | cons i l ih =>
      intro p h
      rw [List.foldl_cons]
      refine ih _ ?_
      unfold stepP stepB
      cases hd : ds[i]? with
      | none => exact h
      | some d => exact h.back (hx d (List.mem_of_getElem? hd))
  exact key is _ hin
/-- what is live at each place of a block -/
def placesL (R : List Int) (ds : List Ins) (S : Int → Bool) : List (List Int) := (placesN R ds S (List.range ds.length).reverse).2

set_option maxRecDepth 100000 in
set_option maxHeartbeats 4000000 in
theorem places_any (b : Block) (cs : List Value) (mb : Nat) (S : Int → Bool) (R : List Int) (w : World) (hR : tBlock.R w w.heap.size cs b) (hl : b.ins.length ≤ 2097152) (hi : ∀ x ∈ b.ins, x.args.length ≤ 2097152) (hs : SetM w mb S) (hRR : RegsR R) (hin : InR R S)
    (hx : ∀ x ∈ b.ins, ∀ r ∈ readsC x, r ∈ R) :
    Calls Tryd.prog 67 #[.agg cs.toArray, .map (some mb)] w fun e W' => ∃ (O : Nat) (vs : List Value), e = .returned (.slice (some ⟨O, 0, none⟩) (b.ins.length + 1) (b.ins.length + 1)) ∧ RowsAt W' w.heap.size (fun _ => False) O vs (placesL R b.ins S) ∧ Below w.heap.size w W' := by
  refine (callsIn_wide (n := 6)).1 ?_
  obtain ⟨A, c, rfl, -, -⟩ := tBlock_R.1 hR
  have HR := Lib.hid hR
  have HI := Lib.hid hi
  have HX := Lib.hid hx
  clear hR hi hx
  have hmb := hs.lt
  have hmk : ∀ W : World, (Instr.makeSlice 81 (.int .i64 ((b.ins.length : Int) + 1)) (.int .i64 ((b.ins.length : Int) + 1))).run Tryd.prog W = .ok (.slice (some ⟨W.heap.size, 0, none⟩) (b.ins.length + 1) (b.ins.length + 1)) (W.alloc (.cells (List.replicate (b.ins.length + 1) (Value.slice none 0 0)).toArray 27)) := by
    intro W
    have h := run_make_row' (P := Tryd.prog) 81 27 (.slice none 0 0) 24 Tryd.underlying81 slc_info rfl .i64 .i64 (b.ins.length + 1) (by omega) (by omega) W
    rw [made_rep] at h
    exact h
  have x1 : IntKind.i64.wrap ((b.ins.length : Int) + 1) = (b.ins.length : Int) + 1 := IntWalk.i64_in _ (by omega)
  have cC : ∀ W' : World, SetM W' mb S → Calls Tryd.prog 83 #[.map (some mb)] W' fun e w' => e = .returned (.map (some W'.heap.size)) ∧ SetM w' W'.heap.size S ∧ ∃ es c, w' = W'.alloc (.map es c) := fun W' h => clone_set W' h
  refine callsIn_of_wp_marks Tryd.func67 rfl trivial ?_ rfl
  simp only [Tryd.ntmps67, List.size_toArray, List.length_cons, List.length_nil, Nat.reduceAdd, Nat.reduceSub, Array.replicate_succ, Array.replicate_zero, List.push_toArray, List.append_toArray, List.nil_append, List.cons_append]
  gi_wp2_with fail
  refine ⟨trivial, callsIn_wide.2 ((cC _ ?_).mono ?_)⟩
  · refine hs.keep ?_
    rw [Below.heap_alloc _ _ _ (by simp; omega), Below.heap_alloc _ _ _ (by simp; omega), Below.heap_alloc _ _ _ hmb]
  rintro e w' ⟨rfl, hs1, es, ec, rfl⟩
  gi_wp2_with fail
  simp only [World.size_alloc] at hs1 ⊢
  obtain ⟨W2, hW2⟩ : ∃ W2 : World, W2 = ((((w.alloc (.cells #[.string b.name, .slice A b.ins.length c] 47)).alloc (.cells (Array.replicate (b.ins.length + 1) (Value.slice none 0 0)) 27)).alloc (.cells #[.slice (some ⟨w.heap.size + 1, 0, none⟩) (b.ins.length + 1) (b.ins.length + 1)] 81)).alloc (.map es ec)).alloc (.cells #[.map (some (w.heap.size + 1 + 1 + 1))] 105) := ⟨_, rfl⟩
  have hWs : W2.heap.size = w.heap.size + 1 + 1 + 1 + 1 + 1 := by rw [hW2]; simp
  have hM := (show SetM W2 (w.heap.size + 1 + 1 + 1) S from hs1.keep (by rw [hW2]; exact Below.heap_alloc _ _ _ (by simp)))
  have hBw : Below w.heap.size w W2 := by
    rw [hW2]
    exact (((((Below.refl _ w).alloc (Nat.le_refl _) _).alloc (by simp) _).alloc (by simp; omega) _).alloc (by simp; omega) _).alloc (by simp; omega) _
  have hbB : W2.heap[w.heap.size]? = some (.cells [.string b.name, .slice A b.ins.length c].toArray 47 (0, 0)) := by
    rw [hW2]; exact box_alloc (box_alloc (box_alloc (box_alloc (heap_alloc_new w _) _) _) _) _
  have hOB : W2.heap[w.heap.size + 1]? = some (.cells (List.replicate (b.ins.length + 1) (Value.slice none 0 0)).toArray 27 (0, 0)) := by
    rw [hW2]
    refine box_alloc (box_alloc (box_alloc ?_ _) _) _
    have h := heap_alloc_new (w.alloc (.cells #[.string b.name, .slice A b.ins.length c] 47)) (.cells (Array.replicate (b.ins.length + 1) (Value.slice none 0 0)) 27)
    rw [World.size_alloc] at h
    rw [h]
    simp
  have c5 : W2.cell? ⟨w.heap.size + 1 + 1, 0, none⟩ = some (.slice (some ⟨w.heap.size + 1, 0, none⟩) (b.ins.length + 1) (b.ins.length + 1)) := by
    rw [hW2]
    have h := heap_alloc_new ((w.alloc (.cells #[.string b.name, .slice A b.ins.length c] 47)).alloc (.cells (Array.replicate (b.ins.length + 1) (Value.slice none 0 0)) 27)) (.cells #[.slice (some ⟨w.heap.size + 1, 0, none⟩) (b.ins.length + 1) (b.ins.length + 1)] 81)
    rw [World.size_alloc, World.size_alloc] at h
    exact box_cell (cs := [_]) (box_alloc (box_alloc h _) _) rfl
  have c6 : W2.cell? ⟨w.heap.size + 1 + 1 + 1 + 1, 0, none⟩ = some (.map (some (w.heap.size + 1 + 1 + 1))) := by
    have h := heap_alloc_new ((((w.alloc (.cells #[.string b.name, .slice A b.ins.length c] 47)).alloc (.cells (Array.replicate (b.ins.length + 1) (Value.slice none 0 0)) 27)).alloc (.cells #[.slice (some ⟨w.heap.size + 1, 0, none⟩) (b.ins.length + 1) (b.ins.length + 1)] 81)).alloc (.map es ec)) (.cells #[.map (some (w.heap.size + 1 + 1 + 1))] 105)
    rw [← hW2] at h
    simp only [World.size_alloc] at h
    exact box_cell (cs := [_]) h rfl
  rw [← hW2]
  clear hW2 hs1 cC hmk hs
  have q5 : ∀ w', KS (fun k => k = w.heap.size ∨ k = w.heap.size + 2 ∨ k = w.heap.size + 4) W2 w' → w'.cell? ⟨w.heap.size + 1 + 1, 0, none⟩ = some (.slice (some ⟨w.heap.size + 1, 0, none⟩) (b.ins.length + 1) (b.ins.length + 1)) := fun w' h => h.cell (.inr (.inl rfl)) c5
  have q6 : ∀ w', KS (fun k => k = w.heap.size ∨ k = w.heap.size + 2 ∨ k = w.heap.size + 4) W2 w' → w'.cell? ⟨w.heap.size + 1 + 1 + 1 + 1, 0, none⟩ = some (.map (some (w.heap.size + 1 + 1 + 1))) := fun w' h => h.cell (.inr (.inr rfl)) c6
  have qb : ∀ w', KS (fun k => k = w.heap.size ∨ k = w.heap.size + 2 ∨ k = w.heap.size + 4) W2 w' → w'.cell? ⟨w.heap.size, 1, none⟩ = some (.slice A b.ins.length c) := fun w' h => h.cell (.inl rfl) (box_cell (j := 1) hbB rfl)
  have hdr : KS (fun k => k = w.heap.size ∨ k = w.heap.size + 2 ∨ k = w.heap.size + 4) W2 W2.drew := ⟨Nat.le_refl _, fun _ _ => rfl⟩
  have hset : ∀ X v, KS (fun k => k = w.heap.size ∨ k = w.heap.size + 2 ∨ k = w.heap.size + 4) W2 X → KS (fun k => k = w.heap.size ∨ k = w.heap.size + 2 ∨ k = w.heap.size + 4) W2 (X.setCell ⟨w.heap.size + 1, b.ins.length, none⟩ v) := fun X v h =>
    ⟨by have := h.size; simpa [World.setCell] using this, fun k hk => (Below.heap_setCell _ _ _ _ (by show k ≠ w.heap.size + 1; omega)).trans (h.block k hk)⟩
  have hcall : ∀ X Y, KS (fun k => k = w.heap.size ∨ k = w.heap.size + 2 ∨ k = w.heap.size + 4) W2 X → Below X.heap.size X Y → KS (fun k => k = w.heap.size ∨ k = w.heap.size + 2 ∨ k = w.heap.size + 4) W2 Y := fun X Y h hb =>
    ⟨Nat.le_trans h.size hb.size, fun k hk => (hb.block k (by have := h.size; omega)).trans (h.block k hk)⟩
  have hM0 : SetM W2.drew (w.heap.size + 1 + 1 + 1) S := hM.keep rfl
  have i1 : (0 : Int) ≤ (b.ins.length : Int) := by omega
  have i2 : (b.ins.length : Int) < ((b.ins.length + 1 : Nat) : Int) := by omega
  have i3 : (b.ins.length : Int) < (b.ins.length : Int) + 1 := by omega
  have hfr : ∀ w3 : World, Below W2.drew.heap.size W2.drew w3 → w3.frozen? ⟨w.heap.size + 1, b.ins.length, none⟩ = false := fun w3 h => box_free ((h.block _ (by show w.heap.size + 1 < W2.heap.size; omega)).trans hOB)
  have hcw : ∀ w3 : World, Below W2.drew.heap.size W2.drew w3 → w3.cell? ⟨w.heap.size + 1, b.ins.length, none⟩ = some (.slice none 0 0) := fun w3 h => box_cell ((h.block _ (by show w.heap.size + 1 < W2.heap.size; omega)).trans hOB) (by simp)
  refine wpIn_wide.2 ?_
  go_region_held3 (fun w' => KS (fun k => k = w.heap.size ∨ k = w.heap.size + 2 ∨ k = w.heap.size + 4) W2 w')
    (first | assumption | exact hset _ _ (by assumption))
    (first | ((with_reducible refine (set_list W2.drew hM0 hRR.asc hRR.wf hin.mem hRR.len).mono ?_); rintro e w3 ⟨v0, rfl, ho0, hb0⟩; have hk3 := hcall _ _ hdr hb0; have hf3 := hfr _ hb0; have hc3 := hcw _ hb0; obtain ⟨A0, c0, rfl⟩ := own_form ho0))
  obtain ⟨rr, rk, rb, rO⟩ := (RowsAt.start (W := W2.drew) (S := fun k => k ≤ w.heap.size ∨ k = w.heap.size + 2 ∨ k = w.heap.size + 4) (base := w.heap.size) (O := w.heap.size + 1) (n := b.ins.length + 1) hOB (by omega) (by omega)).put (fun k hk => by show k < W2.heap.size; omega) hb0 (by show w.heap.size ≤ W2.heap.size; omega) (k := b.ins.length) (by simp) ho0
  have hM3 : SetM (w3.setCell ⟨w.heap.size + 1, b.ins.length, none⟩ (.slice A0 (List.filter S R).length c0)) (w.heap.size + 1 + 1 + 1) S := by
    refine hM.keep ((Below.heap_setCell _ _ _ _ (by show w.heap.size + 1 + 1 + 1 ≠ w.heap.size + 1; omega)).trans (hb0.block _ (by show w.heap.size + 1 + 1 + 1 < W2.heap.size; omega)))
  have hK3 := hset _ (.slice A0 (List.filter S R).length c0) hk3
  have hb3 : Below w.heap.size w (w3.setCell ⟨w.heap.size + 1, b.ins.length, none⟩ (.slice A0 (List.filter S R).length c0)) := hBw.trans ⟨rb.os, rb.tape, rb.output, rb.size, rb.block⟩
  have hrk : KS (fun k => k ≤ w.heap.size ∨ k = w.heap.size + 2 ∨ k = w.heap.size + 4) W2 (w3.setCell ⟨w.heap.size + 1, b.ins.length, none⟩ (.slice A0 (List.filter S R).length c0)) := ⟨rk.size, rk.block⟩
  obtain ⟨W3, hW3⟩ : ∃ W3 : World, W3 = w3.setCell ⟨w.heap.size + 1, b.ins.length, none⟩ (.slice A0 (List.filter S R).length c0) := ⟨_, rfl⟩
  rw [← hW3] at rr hM3 hK3 hb3 hrk ⊢
  have hcb := qb _ hK3
  have hW3s := hrk.size
  clear hW3 hset hcall hfr hcw ho0 hM0 rk rb
  gi_wp2_with fail
  refine ⟨trivial, (backward_in Fence.wide 5 trivial rfl A b.ins.length c W3).mono ?_⟩
  rintro e w' ⟨rfl, rfl⟩
  gi_wp2_with fail
  have hSl : ∀ k, ((k ≤ w.heap.size ∨ k = w.heap.size + 2 ∨ k = w.heap.size + 4) ∨ k = W3.heap.size) → k < W3.heap.size + 1 := fun k hk => by omega
  have hRl := (rr.avoid (S' := fun k => (k ≤ w.heap.size ∨ k = w.heap.size + 2 ∨ k = w.heap.size + 4) ∨ k = W3.heap.size) (fun k hk => by omega)).below ((Below.refl W3.heap.size W3).alloc (Nat.le_refl _) (.cells #[.slice A b.ins.length c] 45))
  have hMl : SetM (W3.alloc (.cells #[.slice A b.ins.length c] 45)) (w.heap.size + 1 + 1 + 1) S := hM3.keep (Below.heap_alloc _ _ _ (by omega))
  have hBl : Below w.heap.size w (W3.alloc (.cells #[.slice A b.ins.length c] 45)) := hb3.alloc (by omega) _
  have hLs : (W3.alloc (.cells #[.slice A b.ins.length c] 45)).heap.size = W3.heap.size + 1 := by simp
  have hcB : (W3.alloc (.cells #[.slice A b.ins.length c] 45)).cell? ⟨W3.heap.size, 0, none⟩ = some (.slice A b.ins.length c) := box_cell (cs := [_]) (heap_alloc_new W3 _) rfl
  have hKl : KS (fun k => k = w.heap.size ∨ k = w.heap.size + 2 ∨ k = w.heap.size + 4) W2 (W3.alloc (.cells #[.slice A b.ins.length c] 45)) := hK3.alloc (fun k hk => by omega) _
  obtain ⟨Wl, hWl⟩ : ∃ Wl : World, Wl = W3.alloc (.cells #[.slice A b.ins.length c] 45) := ⟨_, rfl⟩
  rw [← hWl] at hRl hMl hBl hLs hcB hKl ⊢
  rw [← hLs] at hSl
  clear hWl
  obtain ⟨A', c', eA, -, hIR⟩ := tBlock_R.1 HR.out
  obtain ⟨rfl, rfl⟩ : A = A' ∧ c = c' := by simp only [List.cons.injEq, Value.slice.injEq] at eA; exact ⟨eA.2.1.1, eA.2.1.2.2⟩
  have hIl : tIns.slice.RS Wl (fun k => (k ≤ w.heap.size ∨ k = w.heap.size + 2 ∨ k = w.heap.size + 4) ∨ k = W3.heap.size) [.slice A b.ins.length c] b.ins := tIns.slice.keepS hIR (fun k hk => hBl.block k hk) (fun k hk => .inl (.inl (Nat.le_of_lt hk)))
  refine wpIn_rangeFunc_ownH rfl (by decide) (gf := 96) (lb := #[.pointer (some ⟨W3.heap.size, 0, none⟩)]) rfl trivial (enters_of Tryd.func96 (by kernel_rfl) rfl)
    (backward_stops Fence.wide 5 trivial rfl (by decide) b.ins A c W3.heap.size (fun k => (k ≤ w.heap.size ∨ k = w.heap.size + 2 ∨ k = w.heap.size + 4) ∨ k = W3.heap.size) Wl hSl (.inr rfl) hcB hIl hl) ksK_t (ksK_b hSl) (Below.refl _ _) (fun _ => rfl)
    (fun pre W' => (∃ vs, RowsAt W' w.heap.size (fun k => (k ≤ w.heap.size ∨ k = w.heap.size + 2 ∨ k = w.heap.size + 4) ∨ k = W3.heap.size) (w.heap.size + 1) vs (placesN R b.ins S (bkIdx pre)).2 ∧ SetM W' (w.heap.size + 1 + 1 + 1) (placesN R b.ins S (bkIdx pre)).1 ∧ KS (fun k => (k ≤ w.heap.size ∨ k = w.heap.size + 2 ∨ k = w.heap.size + 4) ∨ k = W3.heap.size) Wl W') ∧ Below w.heap.size Wl W')
    (fun _ _ _ => False)
    (OwnFrom.and ?own (ownFrom_below (by omega) (by omega)))
    (fun _ _ _ _ _ hs _ _ => hs)
    ⟨⟨_, hRl, hMl, KS.refl⟩, Below.refl _ _⟩
    (fun x a' W' => ∃ B8, a' = { tmps := #[.agg #[.string b.name, .slice A b.ins.length c], .map (some mb), .pointer (some ⟨w.heap.size, 0, none⟩), undef, .slice none 0 0, .pointer (some ⟨w.heap.size + 1 + 1, 0, none⟩), .pointer (some ⟨w.heap.size + 1 + 1 + 1 + 1, 0, none⟩), .int .i64 ((x.1.1 : Nat) : Int), .pointer (some ⟨B8, 0, none⟩), .pointer (some ⟨w.heap.size, 1, none⟩), .slice A b.ins.length c, .int .i64 b.ins.length, .int .i64 ((b.ins.length : Int) + 1), .slice (some ⟨w.heap.size + 1, 0, none⟩) (b.ins.length + 1) (b.ins.length + 1), .map (some mb), .map (some (w.heap.size + 1 + 1 + 1)), .slice (some ⟨w.heap.size + 1, 0, none⟩) (b.ins.length + 1) (b.ins.length + 1), .pointer (some ⟨w.heap.size, 1, none⟩), .slice A b.ins.length c, .int .i64 b.ins.length, .map (some (w.heap.size + 1 + 1 + 1)), .slice A0 (List.filter S R).length c0, .pointer (some ⟨w.heap.size + 1, b.ins.length, none⟩), .pointer (some ⟨w.heap.size, 1, none⟩), .slice A b.ins.length c, .func (.func 96) #[] #[.pointer (some ⟨W3.heap.size, 0, none⟩)], .int .i64 ((x.1.1 : Nat) : Int), .agg x.1.2.toArray, undef, undef, undef, undef, undef, undef, undef, undef, undef], defers := [] } ∧ W'.heap[B8]? = some (.cells x.1.2.toArray 50 (0, 0))) ?ax ?assign ?body ?done ?stop
  case own =>
    intro s X Y row hs hg hr
    obtain ⟨vs', h1, h2, h3⟩ := hs
    refine ⟨vs', h1.grown hg (fun r e => (hr r e).2), h2.keep (hg.block _ h2.lt fun e => by have := (hr _ e.symm).1; omega), ⟨Nat.le_trans h3.size hg.size, fun k hk => (hg.block k ?_ ?_).trans (h3.block k hk)⟩⟩
    · have := hSl k hk; have := h3.size; omega
    · intro e; have := (hr k e.symm).1; have := hSl k hk; omega
  case ax =>
    rintro x a' _ X Y row ⟨B8, ha, hB8⟩ hg hr
    refine ⟨B8, ha, (hg.block _ (box_lt hB8) fun e => ?_).trans hB8⟩
    obtain ⟨o, ho, hoc⟩ := (hr _ e.symm).2
    rw [hB8] at ho
    cases ho
    cases hoc
  case assign =>
    rintro l pre ⟨⟨j, es⟩, d, hjd, hdR⟩ W K ⟨⟨vs', h1, h2, h3⟩, h4⟩ hK
    obtain ⟨Aa, ca, hI⟩ := tIns_R.1 hdR
    have e := hI.cs
    dsimp only at e
    subst e
    dsimp only [bkEnc]
    gi_wp2
    refine hK _ _ ⟨by simp, fun k o _ hk _ => (Below.heap_alloc _ _ _ (box_lt hk)).trans hk⟩ ⟨by simp, fun k hk => Below.heap_alloc _ _ _ (by have := hSl k hk; have := h3.size; omega)⟩ ⟨⟨vs', h1.below ((Below.refl _ _).alloc (Nat.le_refl _) _), h2.keep (Below.heap_alloc _ _ _ h2.lt), h3.alloc (fun k hk => by have := hSl k hk; have := h3.size; omega) _⟩, h4.alloc (by have := h4.size; omega) _⟩ ⟨W.heap.size, rfl, heap_alloc_new W _⟩
  case body =>
    rintro l pre ⟨⟨j, es⟩, d, hjd, hdR⟩ a' W' _ _ ⟨⟨vs', h1, h2, h3⟩, h4⟩ ⟨B8, rfl, hB8⟩ hlt
    obtain ⟨Aa, ca, hI⟩ := tIns_R.1 hdR
    have e := hI.cs
    dsimp only at e
    subst e
    dsimp only at hjd hB8 ⊢
    have hjl : j < b.ins.length := (List.getElem?_eq_some_iff.1 hjd).1
    have hdm := List.mem_of_getElem? hjd
    have hda := HI.out d hdm
    have hdx := HX.out d hdm
    have e0 := box_cell (j := 0) hB8 rfl
    have e1 := box_cell (j := 1) hB8 rfl
    have e2 := box_cell (j := 2) hB8 rfl
    have e3 := box_cell (j := 3) hB8 rfl
    have e4 := box_cell (j := 4) hB8 rfl
    have e5 := box_cell (j := 5) hB8 rfl
    have e6 := box_cell (j := 6) hB8 rfl
    have e7 := box_cell (j := 7) hB8 rfl
    have e8 := box_cell (j := 8) hB8 rfl
    have c6' := h3.cell (a := ⟨w.heap.size + 1 + 1 + 1 + 1, 0, none⟩) (.inl (.inr (.inr rfl))) (q6 _ hKl)
    have hst : InR R (placesN R b.ins S (bkIdx pre)).1 := placesN_in HX.out hin _
    gi_wp2_with fail
    refine ⟨trivial, callsIn_of ((back_loop d (w.heap.size + 1 + 1 + 1) _ R W' _ (tIns.keepS hdR (fun k hk => h3.block k hk) (fun k hk => by have := hSl k hk; have := h3.size; omega)) hda h2 hRR hst hdx).mono ?_)⟩
    rintro e W4 ⟨rfl, hm4, hg4⟩
    obtain ⟨mes, mec, hmap⟩ := h2.mapAt
    have k3 : KS (fun k => (k ≤ w.heap.size ∨ k = w.heap.size + 2 ∨ k = w.heap.size + 4) ∨ k = W3.heap.size) W' W4 := ⟨hg4.size, fun k hk => hg4.block k (by have := hSl k hk; have := h3.size; omega) (fun e => by injection e; omega)⟩
    have r4 := h1.grown hg4 (fun r e => by injection e with e; subst e; exact ⟨_, hmap, rfl⟩)
    have hf4 : KeepsFrom Wl.heap.size W' W4 := KeepsFrom.of_grownBy hg4 (fun j e => by injection e; omega)
    have hb4 : Below w.heap.size W' W4 := below_of_grown hg4 (by have := h4.size; omega) (by omega)
    have h34 := h3.trans k3
    have c54 := h34.cell (a := ⟨w.heap.size + 1 + 1, 0, none⟩) (.inl (.inr (.inl rfl))) (q5 _ hKl)
    have c64 := h34.cell (a := ⟨w.heap.size + 1 + 1 + 1 + 1, 0, none⟩) (.inl (.inr (.inr rfl))) (q6 _ hKl)
    gi_wp2_with fail
    have j0 : (0 : Int) ≤ (j : Int) := by omega
    have j1 : (j : Int) < (b.ins.length : Int) + 1 := by omega
    have hst4 : InR R (backS d (placesN R b.ins S (bkIdx pre)).1) := hst.back hdx
    refine wpIn_region_round (S := fun X => X.cell? ⟨w.heap.size + 1 + 1, 0, none⟩ = some (.slice (some ⟨w.heap.size + 1, 0, none⟩) (b.ins.length + 1) (b.ins.length + 1)) ∧ X.cell? ⟨w.heap.size + 1 + 1 + 1 + 1, 0, none⟩ = some (.map (some (w.heap.size + 1 + 1 + 1)))) (by kernel_rfl) (by kernel_rfl) (fun _ _ h => h) ⟨c54, c64⟩ (fun hH => ?_)
    refine wpAnyH_take (i := 0) (v := .slice (some ⟨w.heap.size + 1, 0, none⟩) (b.ins.length + 1) (b.ins.length + 1)) rfl (by kernel_rfl) (by kernel_rfl) (by kernel_rfl) (fun _ _ _ h => h) (Or.inl ⟨by rfl, ?_⟩) (by assumption) ?_
    · rintro X ⟨h1, h2⟩
      go_simp
    simp only [Act.put, List.setIfInBounds_toArray]
    refine wpAnyH_take (i := 1) (v := .int .i64 (j : Int)) rfl (by kernel_rfl) (by kernel_rfl) (by kernel_rfl) (fun _ _ _ h => h) (Or.inl ⟨by rfl, ?_⟩) (by assumption) ?_
    · rintro X ⟨h1, h2⟩
      go_simp
    simp only [Act.put]
    refine wpAnyH_take (i := 2) (v := .map (some (w.heap.size + 1 + 1 + 1))) rfl (by kernel_rfl) (by kernel_rfl) (by kernel_rfl) (fun _ _ _ h => h) (Or.inl ⟨by rfl, ?_⟩) (by assumption) ?_
    · rintro X ⟨h1, h2⟩
      go_simp
    simp only [Act.put]
    refine wpAnyH_ready (rs := [3]) (by kernel_rfl) (by simp) ?_
    refine AllReadyH.cons rfl (fun K hK => ?_) AllReadyH.nil
    go_simp
    refine (set_list W4.drew (hm4.keep rfl) hRR.asc hRR.wf hst4.mem hRR.len).mono ?_
    rintro e w5 ⟨v5, rfl, ho5, hb5⟩
    obtain ⟨A5, c5, rfl⟩ := own_form ho5
    have hW4s : Wl.heap.size ≤ W4.heap.size := h34.size
    have r4d : RowsAt W4.drew w.heap.size (fun k => (k ≤ w.heap.size ∨ k = w.heap.size + 2 ∨ k = w.heap.size + 4) ∨ k = W3.heap.size) (w.heap.size + 1) vs' (placesN R b.ins S (bkIdx pre)).2 := r4.keep fun _ _ => rfl
    have hvl : j < vs'.length := by
      have := r4.len
      rw [this, placesN_length]
      omega
    obtain ⟨r5, k5, b5, hO5⟩ := r4d.put (fun k hk => by show k < W4.heap.size; have := hSl k hk; omega) hb5 (by show w.heap.size ≤ W4.heap.size; omega) hvl ho5
    have k45 : KS (fun k => (k ≤ w.heap.size ∨ k = w.heap.size + 2 ∨ k = w.heap.size + 4) ∨ k = W3.heap.size) W4 w5 := ⟨hb5.size, fun k hk => hb5.block k (by show k < W4.heap.size; have := hSl k hk; omega)⟩
    have c55 := k45.cell (a := ⟨w.heap.size + 1 + 1, 0, none⟩) (.inl (.inr (.inl rfl))) c54
    have c65 := k45.cell (a := ⟨w.heap.size + 1 + 1 + 1 + 1, 0, none⟩) (.inl (.inr (.inr rfl))) c64
    have hbx := hO5.trans r4d.box
    have hf5 : w5.frozen? ⟨w.heap.size + 1, j, none⟩ = false := box_free hbx
    obtain ⟨vj, hvj⟩ : ∃ v, vs'[j]? = some v := ⟨_, List.getElem?_eq_getElem hvl⟩
    have hcj := box_cell hbx hvj
    refine hK.out _ _ ⟨c55, c65⟩ (fun hHeld => ?_)
    clear hK K
    refine wpAnyH_take (i := 4) (v := .pointer (some ⟨w.heap.size + 1, j, none⟩)) rfl (by kernel_rfl) (by kernel_rfl) (by kernel_rfl) (fun _ _ _ h => h) (Or.inl ⟨by rfl, ?_⟩) (by assumption) ?_
    · rintro X ⟨h1, h2⟩
      go_simp
    simp only [Act.put, List.setIfInBounds_toArray]
    refine wpAnyH_ready (rs := [5]) (by kernel_rfl) (by simp) ?_
    refine AllReadyH.cons rfl (fun K hK => ?_) AllReadyH.nil
    go_simp
    have k4f : KS (fun k => (k ≤ w.heap.size ∨ k = w.heap.size + 2 ∨ k = w.heap.size + 4) ∨ k = W3.heap.size) W4 (w5.setCell ⟨w.heap.size + 1, j, none⟩ (.slice A5 (List.filter (backS d (placesN R b.ins S (bkIdx pre)).fst) R).length c5)) := ⟨k5.size, k5.block⟩
    refine hK.out _ _ ⟨k4f.cell (a := ⟨w.heap.size + 1 + 1, 0, none⟩) (.inl (.inr (.inl rfl))) c54, k4f.cell (a := ⟨w.heap.size + 1 + 1 + 1 + 1, 0, none⟩) (.inl (.inr (.inr rfl))) c64⟩ (fun hHeld => ?_)
    clear hK K
    refine wpAnyH_done (by kernel_rfl) ?_ _
    have hstep : stepB b.ins (placesN R b.ins S (bkIdx pre)).1 j = backS d (placesN R b.ins S (bkIdx pre)).1 := by unfold stepB; rw [hjd]
    refine ⟨⟨Nat.le_trans hf4.size k5.size, fun k o hB hk ho => ?_⟩, k3.trans k4f, ⟨⟨vs'.set j (.slice A5 (List.filter (backS d (placesN R b.ins S (bkIdx pre)).fst) R).length c5), ?_, ?_, h34.trans k4f⟩, h4.trans (hb4.trans ⟨b5.os, b5.tape, b5.output, b5.size, b5.block⟩)⟩⟩
    · have hk4 := hf4.same k o hB hk ho
      exact (Below.heap_setCell _ _ _ _ (by show k ≠ w.heap.size + 1; omega)).trans ((hb5.block k (box_lt hk4)).trans hk4)
    · rw [placesN_bk]
      unfold stepP
      dsimp only
      rw [hstep]
      exact r5
    · rw [placesN_bk]
      unfold stepP
      dsimp only
      rw [hstep]
      exact hm4.keep ((Below.heap_setCell _ _ _ _ (by show w.heap.size + 1 + 1 + 1 ≠ w.heap.size + 1; omega)).trans (hb5.block _ hm4.lt))
  case done =>
    rintro D ys W' hDl hys ⟨⟨vs', h1, h2, h3⟩, h4⟩ hDo
    have c5' := h3.cell (a := ⟨w.heap.size + 1 + 1, 0, none⟩) (.inl (.inr (.inl rfl))) (q5 _ hKl)
    gi_wp2
    refine ⟨by simp, .inl ⟨_, _, rfl, run_takeDeferred hDo, ?_⟩⟩
    refine ⟨_, results_tmp rfl _ _ _, ?_⟩
    refine ⟨w.heap.size + 1, rfl, ⟨vs', ?_⟩, hBl.trans (h4.trans (belowK_b (w := w) (Nat.le_refl _) W' D _ _ (by omega) hDo rfl rfl))⟩
    unfold placesL
    rw [← hys]
    exact (h1.grown (grownBy_putObj' W' D _) (fun r e => by cases e; exact ⟨_, hDo, rfl⟩)).avoid (fun _ h => h.elim)
  case stop =>
    rintro D c pre W _ _ h _
    exact h.elim
end Mu
end
section
/-
  muntinref17: reads, behind, walked.
  Conditions: at most 2^21 of everything.
-/
namespace Mu
open Go Go.RowKit Go.Proofs

/-- read ahead of any write; written -/
def readsP (r : Int) : List Ins → Bool × Bool
  | [] => (false, false)
  | x :: ds => if (readsC x).contains r then (true, false) else if writesB x && x.d == r then (false, true) else readsP r ds
theorem readsP_cons (r : Int) (x : Ins) (ds : List Ins) : readsP r (x :: ds) = if (readsC x).contains r then (true, false) else if writesB x && x.d == r then (false, true) else readsP r ds := rfl
theorem readsP_rd (r : Int) (ds : List Ins) : (readsP r ds).1 = rdB r ds ∧ ((readsP r ds).1 = false → (!(readsP r ds).2) = thru r ds) := by
  induction ds with
  | nil => simp [readsP, rdB, thru]
  | cons x ds ih =>
    unfold readsP rdB thru
    cases h1 : (readsC x).contains r
    · cases h2 : (writesB x && x.d == r)
      · simpa using ih
      · simp
    · simp
theorem readsP_in (r : Int) (ds : List Ins) (S : Int → Bool) : ((readsP r ds).1 || (!(readsP r ds).2 && S r)) = inS ds S r := by
  rw [inS_eq]
  obtain ⟨h1, h2⟩ := readsP_rd r ds
  rw [← h1]
  cases h : (readsP r ds).1
  · rw [← h2 h]
  · simp
structure smallI (x : Ins) : Prop where
  args : x.args.length + 8 ≤ 2097152
structure smallB (b : Block) : Prop where
  ins : b.ins.length ≤ 2097152
  all : ∀ x ∈ b.ins, x.args.length + 8 ≤ 2097152
structure smallF (f : Func) : Prop where
  blocks : f.blocks.length ≤ 2097152
  all : ∀ b ∈ f.blocks, smallB b

theorem readsC_len2 (x : Ins) : (readsC x).length ≤ x.args.length + 2 := by
  unfold readsC
  simp only [List.length_append]
  split <;> split <;> split <;> simp <;> omega

end Mu
end
section
/-
  muntinref17.Great, muntinref15.Same, walked.
  Conditions: at most 2^21 of everything.
-/
namespace Mu
open Go Go.RowKit Go.Proofs

def sumA (l : List Ins) (m : Nat) : Nat := ((l.take m).map fun x => x.args.length).sum
def sumB (f : Func) (b : Nat) : Nat := ((f.blocks.take b).map fun bl => bl.ins.length + sumA bl.ins 200).sum
def great17 (f : Func) : Bool := decide (40 < f.blocks.length) || decide (250 < sumB f 60)
theorem sumA_succ {l : List Ins} {m : Nat} {x : Ins} (hx : l[m]? = some x) : sumA l (m + 1) = sumA l m + x.args.length := by
  unfold sumA
  rw [List.take_add_one, hx, List.map_append, List.sum_append]
  simp
theorem sumB_succ {f : Func} {b : Nat} {x : Block} (hx : f.blocks[b]? = some x) : sumB f (b + 1) = sumB f b + (x.ins.length + sumA x.ins 200) := by
  unfold sumB
  rw [List.take_add_one, hx, List.map_append, List.sum_append]
  simp
theorem sumA_le {l : List Ins} (h : ∀ x ∈ l, x.args.length ≤ 2097152) (m : Nat) : sumA l m ≤ m * 2097152 := by
  induction m with
  | zero => simp [sumA]
  | succ m ih =>
    cases hx : l[m]? with
    | none =>
      have : sumA l (m + 1) = sumA l m := by unfold sumA; rw [List.take_add_one, hx]; simp
      omega
    | some x =>
      rw [sumA_succ hx]
      have := h x (List.mem_of_getElem? hx)
      omega
theorem sumB_le {f : Func} (hs : smallF f) (b : Nat) : sumB f b ≤ b * 421527552 := by
  induction b with
  | zero => simp [sumB]
  | succ b ih =>
    cases hx : f.blocks[b]? with
    | none =>
      have : sumB f (b + 1) = sumB f b := by unfold sumB; rw [List.take_add_one, hx]; simp
      omega
    | some x =>
      rw [sumB_succ hx]
      have h1 := hs.all x (List.mem_of_getElem? hx)
      have h2 := h1.ins
      have h3 := sumA_le (l := x.ins) (fun y hy => by have := h1.all y hy; omega) 200
      omega
theorem sumA_end {l : List Ins} {i : Nat} (hi : i ≤ l.length) (h : ¬ (i < l.length ∧ i < 200)) (h2 : i ≤ 200) : sumA l i = sumA l 200 := by
  by_cases hl : i < l.length
  · have : i = 200 := by omega
    rw [this]
  · have : i = l.length := by omega
    unfold sumA
    rw [List.take_of_length_le (by omega), List.take_of_length_le (by omega)]
theorem sumB_end {f : Func} {b : Nat} (hi : b ≤ f.blocks.length) (h : ¬ (b < f.blocks.length ∧ b < 60)) (h2 : b ≤ 60) : sumB f b = sumB f 60 := by
  by_cases hl : b < f.blocks.length
  · have : b = 60 := by omega
    rw [this]
  · have : b = f.blocks.length := by omega
    unfold sumB
    rw [List.take_of_length_le (by omega), List.take_of_length_le (by omega)]
theorem two_tests {p q : Bool} (h : ¬ (p = true ∧ q = true)) : p = false ∨ (p = true ∧ q = false) := by cases p <;> cases q <;> simp at h ⊢

set_option maxRecDepth 100000 in
set_option maxHeartbeats 4000000 in
theorem great17_fn (f : Func) (hs : smallF f) : Fn Tryd.prog 15 [.agg (encFunc f)] (.lit (.bool (great17 f))) := by
  have hbl := hs.blocks
  refine Fn.of_awp Tryd.func15 rfl (by kernel_rfl) rfl Tryd.ntmps15 fun C hC => ?_
  simp only [List.length_cons, List.length_nil, Nat.reduceAdd, Nat.reduceSub, List.replicate_succ, List.replicate_zero, List.cons_append, List.nil_append]
  refine Awp.seq fun K1 h1 => ?_
  (refine Awp.region ?_; (repeat (first | refine sQ (hk := ?_) | refine sSkip (hk := ?_) | refine sOwn (hk := ?_))); refine aSeq_nil ?_)
  refine h1 _ ?_
  refine nT (hk := ?_)
  refine Awp.seq fun K2 h2 => ?_
  (refine Awp.region ?_; (repeat (first | refine sQ (hk := ?_) | refine sSkip (hk := ?_) | refine sOwn (hk := ?_))); refine aSeq_nil ?_)
  refine h2 _ ?_
  refine nT (hk := ?_)
  refine Awp.seq fun K3 h3 => ?_
  refine Awp.seq fun K4 h4 => ?_
  (refine Awp.region ?_; (repeat (first | refine sQ (hk := ?_) | refine sSkip (hk := ?_) | refine sOwn (hk := ?_))); refine aSeq_nil ?_)
  refine h4 _ ?_
  refine nT (hk := ?_)
  refine Awp.block ?_
  refine Awp.loopF (fun b : Nat => ⟨[.any, .ptr 0 0, .any, .lit (.int .i64 (sumB f b : Int)), .lit (.int .i64 (b : Int)), .any, .any, .any, .any, .any, .any, .any, .any, .any, .any, .any, .any, .any, .any, .any, .any, .any, .any, .any, .any, .any, .any, .any, .any, .any, .any, .any, .any, .any, .any, .any, .any, .any, .any, .any, .any, .any, .any, .any, .any, .any, .any, .any, .any, .any, .any, .any, .any, .any, .any, .any, .any, .any, .any, .any, .any, .any], [.box (encFunc f)]⟩) (fun b => b ≤ f.blocks.length ∧ b ≤ 60) (fun b => f.blocks.length - b) 0 ⟨Nat.zero_le _, Nat.zero_le _⟩ (le_T) ?_
  rintro b ⟨hb, hb60⟩
  have hsb := sumB_le hs b
  refine Awp.seq fun K5 h5 => ?_
  by_cases hgo : b < f.blocks.length ∧ b < 60
  · have hd1 : decide ((b : Int) < (f.blocks.length : Int)) = true := by simpa using hgo.1
    have hd2 : decide ((b : Int) < 60) = true := by simp; omega
    obtain ⟨bl, hbk⟩ : ∃ bl, f.blocks[b]? = some bl := ⟨_, List.getElem?_eq_getElem hgo.1⟩
    have hbs := hs.all bl (List.mem_of_getElem? hbk)
    have hbi := hbs.ins
    have hsuc := sumB_succ hbk
    refine Awp.seq fun K6 h6 => ?_
    (refine Awp.region ?_; (repeat (first | refine sQ (hk := ?_) | refine sSkip (hk := ?_) | refine sOwn (hk := ?_))); refine aSeq_nil ?_)
    refine h6 _ ?_
    refine nT (hk := ?_)
    refine Awp.cond rfl (fun hb7 => ?_) (fun hb => by cases hb)
    refine Awp.skip ?_
    refine h5 _ ?_
    refine nT (hk := ?_)
    refine Awp.seq fun K8 h8 => ?_
    refine Awp.block ?_
    refine Awp.seq fun K9 h9 => ?_
    (refine Awp.region ?_; (repeat (first | refine sQ (hk := ?_) | refine sSkip (hk := ?_) | refine sOwn (hk := ?_))); refine aSeq_nil ?_)
    refine h9 _ ?_
    refine nT (hk := ?_)
    refine Awp.seq fun K10 h10 => ?_
    (refine Awp.region ?_; (repeat (first | refine sQ (hk := ?_) | refine sSkip (hk := ?_) | refine sOwn (hk := ?_))); refine aSeq_nil ?_)
    refine h10 _ ?_
    refine nT (hk := ?_)
    refine Awp.block ?_
    refine Awp.loopF (fun i : Nat => ⟨[.any, .ptr 0 0, .any, .lit (.int .i64 ((sumB f b + bl.ins.length + sumA bl.ins i : Nat) : Int)), .lit (.int .i64 (b : Int)), .lit (.int .i64 (i : Int)), .any, .any, .any, .any, .any, .any, .any, .any, .any, .any, .any, .any, .any, .any, .any, .any, .any, .any, .any, .any, .any, .any, .any, .any, .any, .any, .any, .any, .any, .any, .any, .any, .any, .any, .any, .any, .any, .any, .any, .any, .any, .any, .any, .any, .any, .any, .any, .any, .any, .any, .any, .any, .any, .any, .any, .any], [.box (encFunc f)]⟩) (fun i => i ≤ bl.ins.length ∧ i ≤ 200) (fun i => bl.ins.length - i) 0 ⟨Nat.zero_le _, Nat.zero_le _⟩ (le_T) ?_
    rintro i ⟨hi, hi200⟩
    have hsa := sumA_le (l := bl.ins) (fun y hy => by have := hbs.all y hy; omega) i
    refine Awp.seq fun K11 h11 => ?_
    by_cases hgi : i < bl.ins.length ∧ i < 200
    · have hd3 : decide ((i : Int) < (bl.ins.length : Int)) = true := by simpa using hgi.1
      have hd4 : decide ((i : Int) < 200) = true := by simp; omega
      obtain ⟨x, hx⟩ : ∃ x, bl.ins[i]? = some x := ⟨_, List.getElem?_eq_getElem hgi.1⟩
      have hxa := hbs.all x (List.mem_of_getElem? hx)
      have hsx := sumA_succ hx
      refine Awp.seq fun K12 h12 => ?_
      (refine Awp.region ?_; (repeat (first | refine sQ (hk := ?_) | refine sSkip (hk := ?_) | refine sOwn (hk := ?_))); refine aSeq_nil ?_)
      refine h12 _ ?_
      refine nT (hk := ?_)
      refine Awp.cond rfl (fun hb13 => ?_) (fun hb => by cases hb)
      refine Awp.skip ?_
      refine h11 _ ?_
      refine nT (hk := ?_)
      refine Awp.seq fun K14 h14 => ?_
      refine Awp.block ?_
      (refine Awp.region ?_; (repeat (first | refine sQ (hk := ?_) | refine sSkip (hk := ?_) | refine sOwn (hk := ?_))); refine aSeq_nil ?_)
      refine h14 _ ?_
      refine nT (hk := ?_)
      (refine Awp.region ?_; (repeat (first | refine sQ (hk := ?_) | refine sSkip (hk := ?_) | refine sOwn (hk := ?_))); refine aSeq_nil ?_)
      refine athen_n ⟨i + 1, ⟨by omega, by omega⟩, by omega, ?_⟩
      rw [hsx, ← Nat.add_assoc]
      exact le_T
    · have htt : decide ((i : Int) < (bl.ins.length : Int)) = false ∨ (decide ((i : Int) < (bl.ins.length : Int)) = true ∧ decide ((i : Int) < 200) = false) := two_tests fun h => hgi ⟨by simpa using h.1, by have := of_decide_eq_true h.2; omega⟩
      refine Awp.seq fun K12 h12 => ?_
      have hse := sumA_end hi hgi hi200
      have hfin : ∀ s' : St, St.le C s' ⟨[.any, .ptr 0 0, .any, .lit (.int .i64 ((sumB f b + bl.ins.length + sumA bl.ins 200 : Nat) : Int)), .lit (.int .i64 (b : Int)), .any, .any, .any, .any, .any, .any, .any, .any, .any, .any, .any, .any, .any, .any, .any, .any, .any, .any, .any, .any, .any, .any, .any, .any, .any, .any, .any, .any, .any, .any, .any, .any, .any, .lit (.bool false), .any, .any, .any, .any, .any, .any, .any, .any, .any, .any, .any, .any, .any, .any, .any, .any, .any, .any, .any, .any, .any, .any, .any], [.box (encFunc f)]⟩ → K12 s' := fun s' hle => by
        refine h12 _ (Awp.via _ hle ?_)
        refine Awp.cond rfl (fun hb => by cases hb) (fun hb => ?_)
        refine Awp.exit ?_
        refine h8 _ ?_
        refine nT (hk := ?_)
        (refine Awp.region ?_; (repeat (first | refine sQ (hk := ?_) | refine sSkip (hk := ?_) | refine sOwn (hk := ?_))); refine aSeq_nil ?_)
        refine athen_n ⟨b + 1, ⟨by omega, by omega⟩, by omega, ?_⟩
        rw [hsuc, ← Nat.add_assoc]
        exact le_T
      rw [← hse] at hfin
      rcases htt with q1 | ⟨q1, q2⟩
      all_goals
        (refine Awp.region ?_; (repeat (first | refine sQ (hk := ?_) | refine sSkip (hk := ?_) | refine sOwn (hk := ?_))); refine aSeq_nil ?_)
        refine athen_n (hfin _ ?_)
        exact le_T
  · have htt : decide ((b : Int) < (f.blocks.length : Int)) = false ∨ (decide ((b : Int) < (f.blocks.length : Int)) = true ∧ decide ((b : Int) < 60) = false) := two_tests fun h => hgo ⟨by simpa using h.1, by have := of_decide_eq_true h.2; omega⟩
    refine Awp.seq fun K6 h6 => ?_
    have hse := sumB_end hb hgo hb60
    have hfin : ∀ s' : St, St.le C s' ⟨[.any, .ptr 0 0, .any, .lit (.int .i64 (sumB f 60 : Int)), .any, .any, .any, .any, .any, .any, .any, .any, .any, .any, .lit (.bool false), .any, .any, .any, .any, .any, .any, .any, .any, .any, .any, .any, .any, .any, .any, .any, .any, .any, .any, .any, .any, .any, .any, .any, .any, .any, .any, .any, .any, .any, .any, .any, .any, .any, .any, .any, .any, .any, .any, .any, .any, .any, .any, .any, .any, .any, .any, .any], [.box (encFunc f)]⟩ → K6 s' := fun s' hle => by
      refine h6 _ (Awp.via _ hle ?_)
      refine Awp.cond rfl (fun hb => by cases hb) (fun hb => ?_)
      refine Awp.exit ?_
      refine h3 _ ?_
      refine nT (hk := ?_)
      refine Awp.seq fun K20 h20 => ?_
      have hg1 : decide ((f.blocks.length : Int) > 40) = decide (40 < f.blocks.length) := by rw [decide_eq_decide]; omega
      have hg2 : decide ((sumB f 60 : Int) > 250) = decide (250 < sumB f 60) := by rw [decide_eq_decide]; omega
      rcases hq1 : decide (40 < f.blocks.length) with _ | _
      · rw [hq1] at hg1
        (refine Awp.region ?_; (repeat (first | refine sQ (hk := ?_) | refine sSkip (hk := ?_) | refine sOwn (hk := ?_))); refine aSeq_nil ?_)
        refine h20 _ ?_
        refine nT (hk := ?_)
        refine Awp.ret ?_
        have : great17 f = decide (250 < sumB f 60) := by unfold great17; rw [hq1]; rfl
        rw [this]
        exact ⟨.inr rfl, Fin.cl rfl⟩
      · rw [hq1] at hg1
        (refine Awp.region ?_; (repeat (first | refine sQ (hk := ?_) | refine sSkip (hk := ?_) | refine sOwn (hk := ?_))); refine aSeq_nil ?_)
        refine h20 _ ?_
        refine nT (hk := ?_)
        refine Awp.ret ?_
        have : great17 f = true := by unfold great17; rw [hq1]; rfl
        rw [this]
        exact ⟨.inr rfl, Fin.cl rfl⟩
    rw [← hse] at hfin
    rcases htt with q1 | ⟨q1, q2⟩
    all_goals
      (refine Awp.region ?_; (repeat (first | refine sQ (hk := ?_) | refine sSkip (hk := ?_) | refine sOwn (hk := ?_))); refine aSeq_nil ?_)
      refine athen_n (hfin _ ?_)
      exact le_T

theorem same_rows {xs ys : List (List Int)} {i k : Nat} {a b : List Int} {x y : Int} (ha : xs[i]? = some a) (hb : ys[i]? = some b) (hx : a[k]? = some x) (hy : b[k]? = some y) (h : x ≠ y) : xs ≠ ys := fun e => by
  subst e
  rw [ha] at hb
  cases hb
  rw [hx] at hy
  cases hy
  exact h rfl
end Mu
end
section
/-
  What is live, by the list of what waits: plain.
  Conditions: none.
-/
namespace Mu
open Go

/-- from where one goes to a block -/
def befL (f : Func) (b : Nat) : List Int := (befN f f.blocks.length).getD b []
theorem addsB_mem {f : Func} (m b : Nat) (hb : b < f.blocks.length) : ∀ (pre : List (Blk f)) (ls : List (List Int)), ls.length = f.blocks.length → ∀ x, x ∈ (addsB m pre ls).getD b [] ↔ x ∈ ls.getD b [] ∨ (x = (m : Int) ∧ ∃ y ∈ pre, y.1 = b)
  | [], ls, _, x => by simp [addsB]
  | y :: pre, ls, hl, x => by
    show x ∈ (addsB m pre (addB m ls y)).getD b [] ↔ _
    rw [addsB_mem m b hb pre (addB m ls y) (by simp [addB, hl]) x]
    have key : x ∈ (addB m ls y).getD b [] ↔ x ∈ ls.getD b [] ∨ (x = (m : Int) ∧ y.1 = b) := by
      unfold addB
      by_cases hy : y.1 = b
      · rw [← hy, List.getD_eq_getElem?_getD, List.getElem?_set_self (by rw [hl]; exact y.2)]
        simp
      · rw [List.getD_eq_getElem?_getD, List.getElem?_set_ne hy, ← List.getD_eq_getElem?_getD]
        simp [hy]
    rw [key]
    constructor
    · rintro ((h | h) | ⟨h1, z, h2, h3⟩)
      · exact .inl h
      · exact .inr ⟨h.1, y, by simp, h.2⟩
      · exact .inr ⟨h1, z, by simp [h2], h3⟩
    · rintro (h | ⟨h1, z, h2, h3⟩)
      · exact .inl (.inl h)
      · rcases List.mem_cons.1 h2 with rfl | h2
        · exact .inl (.inr ⟨h1, h3⟩)
        · exact .inr ⟨h1, z, h2, h3⟩
theorem befN_mem {f : Func} (b : Nat) (hb : b < f.blocks.length) : ∀ (m : Nat) (x : Int), x ∈ (befN f m).getD b [] ↔ ∃ k : Nat, k < m ∧ Edge f k b ∧ x = (k : Int)
  | 0, x => by
    rw [befN, List.getD_eq_getElem?_getD, List.getElem?_replicate]
    split <;> simp
  | m + 1, x => by
    rw [befN, addsB_mem m b hb _ _ (befN_length f m), befN_mem b hb m]
    constructor
    · rintro (⟨k, h1, h2, h3⟩ | ⟨h1, y, h2, h3⟩)
      · exact ⟨k, by omega, h2, h3⟩
      · exact ⟨m, by omega, ⟨y, h2, h3⟩, h1⟩
    · rintro ⟨k, h1, h2, h3⟩
      by_cases hk : k = m
      · subst hk
        obtain ⟨y, h4, h5⟩ := h2
        exact .inr ⟨h3, y, h4, h5⟩
      · exact .inl ⟨k, by omega, h2, h3⟩
theorem edge_src {f : Func} {k b : Nat} (h : Edge f k b) : k < f.blocks.length ∧ b < f.blocks.length := by
  obtain ⟨y, h1, rfl⟩ := h
  refine ⟨?_, y.2⟩
  unfold nextS at h1
  rw [if_pos (by omega)] at h1
  simp only [Int.toNat_natCast] at h1
  cases hk : f.blocks[k]? with
  | none => rw [hk] at h1; cases h1
  | some bl => exact (List.getElem?_eq_some_iff.1 hk).1
theorem befL_mem {f : Func} {b : Nat} (hb : b < f.blocks.length) (x : Int) : x ∈ befL f b ↔ ∃ k : Nat, Edge f k b ∧ x = (k : Int) := by
  unfold befL
  rw [befN_mem b hb]
  constructor
  · rintro ⟨k, _, h2, h3⟩
    exact ⟨k, h2, h3⟩
  · rintro ⟨k, h2, h3⟩
    exact ⟨k, (edge_src h2).1, h2, h3⟩

def at_ (Ss : List (Int → Bool)) (k : Nat) : Int → Bool := Ss.getD k fun _ => false
theorem at_set {Ss : List (Int → Bool)} {k j : Nat} {S : Int → Bool} (hk : k < Ss.length) : at_ (Ss.set k S) j = if j = k then S else at_ Ss j := by
  unfold at_
  by_cases hj : j = k
  · subst hj
    rw [if_pos rfl, List.getD_eq_getElem?_getD, List.getElem?_set_self hk]
    rfl
  · rw [if_neg hj, List.getD_eq_getElem?_getD, List.getElem?_set_ne (Ne.symm hj), ← List.getD_eq_getElem?_getD]
/-- how much is lacking -/
def lackS (L : List Int) (Ss : List (Int → Bool)) : Nat := (Ss.map fun S => L.length - (L.filter S).length).sum
theorem lack_set {L : List Int} : ∀ {Ss : List (Int → Bool)} {k : Nat} {S N : Int → Bool}, Ss[k]? = some S → (L.filter S).length < (L.filter N).length → lackS L (Ss.set k N) < lackS L Ss
  | [], k, S, N, h, _ => by simp at h
  | T :: Ss, 0, S, N, h, hlt => by
    have h : T = S := by simpa using h
    subst h
    have := List.length_filter_le N L
    simp only [lackS, List.set_cons_zero, List.map_cons, List.sum_cons]
    omega
  | T :: Ss, k + 1, S, N, h, hlt => by
    have := lack_set (L := L) (Ss := Ss) (k := k) (by simpa using h) hlt
    simp only [lackS, List.set_cons_succ, List.map_cons, List.sum_cons] at this ⊢
    omega
theorem lack_le (L : List Int) (Ss : List (Int → Bool)) : lackS L Ss ≤ Ss.length * L.length := by
  induction Ss with
  | nil => simp [lackS]
  | cons S Ss ih =>
    simp only [lackS, List.map_cons, List.sum_cons, List.length_cons] at ih ⊢
    rw [Nat.add_mul, Nat.one_mul]
    omega

/-- what holds between two rounds -/
structure AllI (f : Func) (L : List Int) (wait : List Nat) (Ss : List (Int → Bool)) : Prop where
  len : Ss.length = f.blocks.length
  lt : ∀ b ∈ wait, b < f.blocks.length
  sound : ∀ k r, at_ Ss k r = true → LOut f k r
  sub : ∀ k, Sub L (at_ Ss k)
  closed : ∀ k b, Edge f k b → b ∉ wait → ∀ r, inS (insOf f b) (at_ Ss b) r = true → at_ Ss k r = true
/-- .. while those before a block are looked at -/
structure AllJ (f : Func) (L : List Int) (b : Nat) (wait0 : List Nat) (Ss0 : List (Int → Bool)) (pre : List Int) (wait : List Nat) (Ss : List (Int → Bool)) : Prop where
  len : Ss.length = f.blocks.length
  lt : ∀ b ∈ wait, b < f.blocks.length
  sound : ∀ k r, at_ Ss k r = true → LOut f k r
  sub : ∀ k, Sub L (at_ Ss k)
  mono : ∀ k r, at_ Ss0 k r = true → at_ Ss k r = true
  kept : ∀ k, k ∉ wait → at_ Ss k = at_ Ss0 k ∧ k ∉ wait0
  done : ∀ k : Nat, (k : Int) ∈ pre → ∀ r, inS (insOf f b) (at_ Ss0 b) r = true → at_ Ss k r = true
  less : 2 * lackS L Ss + wait.length ≤ 2 * lackS L Ss0 + wait0.length
theorem AllI.start {f : Func} {L : List Int} {wait : List Nat} (hw : ∀ b, b ∈ wait ↔ b < f.blocks.length) : AllI f L wait (List.replicate f.blocks.length fun _ => false) := by
  have h0 : ∀ k, at_ (List.replicate f.blocks.length fun _ => false) k = fun _ => false := fun k => by
    unfold at_
    rw [List.getD_eq_getElem?_getD, List.getElem?_replicate]
    split <;> rfl
  refine ⟨by simp, fun b hb => (hw b).1 hb, fun k r hr => (by rw [h0] at hr; cases hr), fun k x hx => (by rw [h0] at hx; cases hx), fun k b he hb => ?_⟩
  exact absurd ((hw b).2 (edge_src he).2) hb
theorem AllI.split {f : Func} {L : List Int} {b : Nat} {wait0 : List Nat} {Ss : List (Int → Bool)} (h : AllI f L (wait0 ++ [b]) Ss) : AllJ f L b wait0 Ss [] wait0 Ss :=
  ⟨h.len, fun c hc => h.lt c (by simp [hc]), h.sound, h.sub, fun _ _ h => h, fun k hk => ⟨rfl, hk⟩, fun k hk => by simp at hk, Nat.le_refl _⟩
theorem AllJ.done_all {f : Func} {L : List Int} {b : Nat} {wait0 wait : List Nat} {Ss0 Ss : List (Int → Bool)} (h0 : AllI f L (wait0 ++ [b]) Ss0) (h : AllJ f L b wait0 Ss0 (befL f b) wait Ss) : AllI f L wait Ss := by
  refine ⟨h.len, h.lt, h.sound, h.sub, fun k c he hc r hr => ?_⟩
  obtain ⟨k1, k2⟩ := h.kept c hc
  rw [k1] at hr
  by_cases hcb : c = b
  · subst hcb
    exact h.done k ((befL_mem (edge_src he).2 _).2 ⟨k, he, rfl⟩) r hr
  · exact h.mono k r (h0.closed k c he (by simp [k2, hcb]) r hr)
/-- one of them is looked at -/
theorem AllJ.step {f : Func} {L : List Int} {b k : Nat} {wait0 wait : List Nat} {Ss0 Ss : List (Int → Bool)} {pre : List Int} {S : Int → Bool} (h0 : AllI f L (wait0 ++ [b]) Ss0) (h : AllJ f L b wait0 Ss0 pre wait Ss) (he : Edge f k b) (hS : Ss[k]? = some S)
    (hL : ∀ x ∈ insOf f b, ∀ r ∈ readsC x, r ∈ L) :
    let N := inS (insOf f b) (at_ Ss0 b)
    AllJ f L b wait0 Ss0 (pre ++ [(k : Int)]) (if (L.filter S).length < (L.filter (uni S N)).length then wait ++ [k] else wait) (Ss.set k (uni S N)) := by
  intro N
  have hkl : k < Ss.length := (List.getElem?_eq_some_iff.1 hS).1
  have hat : at_ Ss k = S := by unfold at_; rw [List.getD_eq_getElem?_getD, hS]; rfl
  have hN : Sub L N := (h0.sub b).inS hL
  have hNl : ∀ r, N r = true → LOut f k r := fun r hr => LOut.of_in he (fun h => h0.sound b r h) hr
  have hu : ∀ j r, at_ (Ss.set k (uni S N)) j r = true ↔ at_ Ss j r = true ∨ (j = k ∧ N r = true) := fun j r => by
    rw [at_set hkl]
    by_cases hj : j = k
    · subst hj
      rw [if_pos rfl, hat]
      simp [uni]
    · rw [if_neg hj]
      simp [hj]
  have hlen : (Ss.set k (uni S N)).length = f.blocks.length := by simp [h.len]
  refine ⟨hlen, fun c hc => ?_, fun j r hr => ?_, fun j r hr => ?_, fun j r hr => (hu j r).2 (.inl (h.mono j r hr)), fun j hj => ?_, fun j hj r hr => ?_, ?_⟩
  · split at hc
    · rcases List.mem_append.1 hc with h1 | h1
      · exact h.lt c h1
      · have : c = k := by simpa using h1
        subst this
        exact (edge_src he).1
    · exact h.lt c hc
  · rcases (hu j r).1 hr with h1 | ⟨rfl, h1⟩
    · exact h.sound j r h1
    · exact hNl r h1
  · rcases (hu j r).1 hr with h1 | ⟨rfl, h1⟩
    · exact h.sub j r h1
    · exact hN r h1
  · split at hj
    · rename_i hlt
      have hj' : j ∉ wait ∧ j ≠ k := by simpa using hj
      rw [at_set hkl, if_neg hj'.2]
      exact h.kept j hj'.1
    · rename_i hlt
      have e : uni S N = S := uni_same hN (by omega)
      rw [e, at_set hkl]
      split
      · rename_i hjk
        subst hjk
        rw [← hat]
        exact h.kept j hj
      · exact h.kept j hj
  · rw [List.mem_append] at hj
    rcases hj with hj | hj
    · exact (hu j r).2 (.inl (h.done j hj r hr))
    · have : j = k := by
        have : (j : Int) = (k : Int) := by simpa using hj
        omega
      exact (hu j r).2 (.inr ⟨this, hr⟩)
  · have h1 := h.less
    split
    · rename_i hlt
      have := lack_set (L := L) hS hlt
      simp only [List.length_append, List.length_singleton]
      omega
    · rename_i hlt
      have e : uni S N = S := uni_same hN (by omega)
      rw [e]
      have : Ss.set k S = Ss := by
        apply List.ext_getElem?
        intro j
        by_cases hj : k = j
        · subst hj
          rw [List.getElem?_set_self hkl, hS]
        · rw [List.getElem?_set_ne hj]
      rw [this]
      exact h1
/-- what is live behind a block, as a set -/
noncomputable def outS (f : Func) (k : Nat) : Int → Bool := fun r => @decide (LOut f k r) (Classical.propDecidable _)
theorem outS_iff {f : Func} {k : Nat} {r : Int} : outS f k r = true ↔ LOut f k r := by simp [outS]
theorem AllI.end_ {f : Func} {L : List Int} {Ss : List (Int → Bool)} (h : AllI f L [] Ss) : Ss = (List.range f.blocks.length).map (outS f) := by
  have key : ∀ k r, LOut f k r → at_ Ss k r = true := fun k r hl => by
    induction hl with
    | read he h1 => exact h.closed _ _ he (by simp) _ (by rw [inS_eq, h1]; rfl)
    | pass he h1 _ ih => exact h.closed _ _ he (by simp) _ (by rw [inS_eq, h1, ih]; simp)
  apply List.ext_getElem?
  intro k
  by_cases hk : k < f.blocks.length
  · rw [List.getElem?_map, List.getElem?_range hk, List.getElem?_eq_getElem (by rw [h.len]; exact hk)]
    congr 1
    funext r
    have e : at_ Ss k = Ss[k]'(by rw [h.len]; exact hk) := by unfold at_; rw [List.getD_eq_getElem?_getD, List.getElem?_eq_getElem (by rw [h.len]; exact hk)]; rfl
    rw [← e]
    cases ho : outS f k r
    · cases ha : at_ Ss k r
      · rfl
      · have := outS_iff.2 (h.sound k r ha)
        rw [ho] at this
        cases this
    · exact key k r (outS_iff.1 ho)
  · rw [List.getElem?_eq_none (by rw [h.len]; omega), List.getElem?_eq_none (by simp; omega)]
theorem rdB_in {L : List Int} {r : Int} : ∀ {ds : List Ins}, (∀ x ∈ ds, ∀ r ∈ readsC x, r ∈ L) → rdB r ds = true → r ∈ L
  | [], _, h => by simp [rdB] at h
  | x :: ds, hm, h => by
    simp only [rdB, Bool.or_eq_true, Bool.and_eq_true, List.contains_iff_mem] at h
    rcases h with h | ⟨_, h⟩
    · exact hm x (by simp) r h
    · exact rdB_in (fun y hy => hm y (by simp [hy])) h
theorem insOf_in {f : Func} {L : List Int} (hL : ∀ b ∈ f.blocks, ∀ x ∈ b.ins, ∀ r ∈ readsC x, r ∈ L) (b : Nat) : ∀ x ∈ insOf f b, ∀ r ∈ readsC x, r ∈ L := fun x hx => by
  unfold insOf at hx
  split at hx
  · rename_i bl hbl
    exact hL bl (List.mem_of_getElem? hbl) x hx
  · cases hx
theorem outS_sub {f : Func} {L : List Int} (hL : ∀ b ∈ f.blocks, ∀ x ∈ b.ins, ∀ r ∈ readsC x, r ∈ L) (k : Nat) : Sub L (outS f k) := fun r hr => by
  have key : ∀ k r, LOut f k r → r ∈ L := fun k r hl => by
    induction hl with
    | read he h1 => exact rdB_in (insOf_in hL _) h1
    | pass he h1 hl ih => exact ih
  exact key k r (outS_iff.1 hr)
end Mu
end
section
/-
  flow.Before, live.places as contracts over abstract states; a row of sets.
  Conditions: at most 2^21 of everything.
-/
namespace Mu
open Go Go.RowKit Go.Proofs Go.Maps

theorem nat_wf {k : Nat} (h : k ≤ 9223372036854775807) : wfI .i64 (k : Int) := by
  simp [wfI, Lit.wf, IntKind.min, IntKind.max, IntKind.signed, IntKind.bits]
  omega
theorem rows_fresh {W : World} {base O c : Nat} {vs : List Value} {ls : List (List Int)} (h : RowsAt W base (fun _ => False) O vs ls) (hw : ∀ l ∈ ls, okInts l) (hc : ls.length ≤ c ∧ c ≤ maxLen) :
    tInt.slice.slice.RS W (fun k => base ≤ k ∧ k < W.heap.size) [.slice (some ⟨O, 0, none⟩) ls.length c] ls := by
  have hO : O < W.heap.size := (Array.getElem?_eq_some_iff.1 h.box).1
  refine ⟨_, c, rfl, hc.1, ⟨hc.2, fun e => by cases e⟩, fun i l hl => ⟨O, 0, rfl, ⟨h.out.2, hO⟩, ?_⟩⟩
  have hil : i < vs.length := by rw [h.len]; exact (List.getElem?_eq_some_iff.1 hl).1
  obtain ⟨v, hv⟩ : ∃ v, vs[i]? = some v := ⟨_, List.getElem?_eq_getElem hil⟩
  have ho := h.own i v l hv hl
  refine ⟨[v], tInt.slice.keepS (own_intsS ho fun x hx => hw l (List.mem_of_getElem? hl) x hx) (fun _ _ => rfl) fun k hk => h.lt hv hk, fun j u hu => ?_⟩
  cases j with
  | zero =>
    cases hu
    have := h.cell hv
    show W.cell? ⟨O, 0 + i * 1 + 0, none⟩ = some v
    rw [Nat.mul_one, Nat.zero_add, Nat.add_zero]
    exact this
  | succ j => cases hu
theorem befN_ok (f : Func) (hl : f.blocks.length ≤ 2097152) : ∀ l ∈ befN f f.blocks.length, okInts l := fun l hm x hx => by
  obtain ⟨b, hb⟩ := List.mem_iff_getElem?.1 hm
  have hbl : b < f.blocks.length := by have := (List.getElem?_eq_some_iff.1 hb).1; rwa [befN_length] at this
  have hx' : x ∈ (befN f f.blocks.length).getD b [] := by rw [List.getD_eq_getElem?_getD, hb]; exact hx
  obtain ⟨k, h1, _, rfl⟩ := (befN_mem b hbl _ _).1 hx'
  exact nat_wf (by omega)
theorem before_fn (f : Func) (ho : okFunc f) (hs : smallF f) : Fn Tryd.prog 87 [.agg (encFunc f)] (.bs tInt.slice (befN f f.blocks.length)) :=
  Fn.of_fresh (by kernel_rfl) fun w vs hr => by
    obtain ⟨v, rfl, h1⟩ := arg1 hr
    unfold AV.rel at h1
    obtain ⟨cs, rfl, hcs⟩ := h1
    refine (before_any f cs w (put_func ho hcs) hs.blocks fun b hb => (hs.all b hb).ins).mono ?_
    rintro e W' ⟨O, vs', rfl, hR, hB⟩
    have hl : (befN f f.blocks.length).length = f.blocks.length := befN_length f _
    have := rows_fresh (c := f.blocks.length) hR (befN_ok f hs.blocks) ⟨by rw [hl]; exact Nat.le_refl _, by have := hs.blocks; unfold maxLen; omega⟩
    rw [hl] at this
    exact ⟨_, rfl, this, hB⟩
theorem placesL_ok {R : List Int} (hR : okInts R) (ds : List Ins) (S : Int → Bool) : ∀ l ∈ placesL R ds S, okInts l := by
  have hf : ∀ T : Int → Bool, okInts (R.filter T) := fun T x hx => hR x (List.mem_filter.1 hx).1
  have key : ∀ (is : List Nat) (p : (Int → Bool) × List (List Int)), (∀ l ∈ p.2, okInts l) → ∀ l ∈ (is.foldl (stepP R ds) p).2, okInts l := by
    intro is
    induction is with
    | nil => intro p h; exact h
    | cons i is ih =>
      intro p h
      rw [List.foldl_cons]
      refine ih _ fun l hl => ?_
      rcases List.mem_or_eq_of_mem_set hl with h1 | h1
      · exact h l h1
      · rw [h1]; exact hf _
  unfold placesL placesN
  refine key _ _ fun l hl => ?_
  rcases List.mem_or_eq_of_mem_set hl with h1 | h1
  · rw [List.eq_of_mem_replicate h1]
    intro x hx
    cases hx
  · rw [h1]; exact hf _
theorem placesL_len (R : List Int) (ds : List Ins) (S : Int → Bool) : (placesL R ds S).length = ds.length + 1 := placesN_length R ds S _
/-- a set that is only read -/
def tSet : Ty (Int → Bool) where
  size := 1
  bulk := fun _ => 1
  RS := fun w S cs d => ∃ m, cs = [.map (some m)] ∧ S m ∧ SetM w m d
  len := by rintro _ _ _ _ ⟨m, rfl, _⟩; rfl
  keepS := by
    rintro w w' S S' cs d ⟨m, rfl, h1, h2⟩ hb hS
    exact ⟨m, rfl, hS m h1, h2.keep (hb m h1)⟩
theorem enc_set : Enc tSet fun d => [.tv tSet d] := by
  intro w S h ψ cs d H
  obtain ⟨m, rfl, _⟩ := id H
  unfold AV.relL
  refine ⟨_, _, rfl, ?_, ?_⟩
  · unfold AV.rel
    exact H
  · unfold AV.relL
    rfl
instance : EncOf tSet fun d => [.tv tSet d] := ⟨enc_set, by
  rintro w S cs d ⟨m, rfl, _⟩ u hu
  simp only [List.mem_singleton] at hu
  subst hu
  rfl, by decide⟩
theorem places_fn (b : Block) (S : Int → Bool) (R : List Int) (ho : okBlock b) (hs : smallB b) (hRR : RegsR R) (hsub : Sub R S) (hx : ∀ x ∈ b.ins, ∀ r ∈ readsC x, r ∈ R) :
    Fn Tryd.prog 67 [.agg (encBlock b), .tv tSet S] (.bs tInt.slice (placesL R b.ins S)) :=
  Fn.of_fresh (by kernel_rfl) fun w vs hr => by
    unfold AV.relL at hr
    obtain ⟨v, vs', rfl, h1, h2⟩ := hr
    obtain ⟨u, rfl, h3⟩ := arg1 h2
    unfold AV.rel at h1 h3
    obtain ⟨cs, rfl, hcs⟩ := h1
    obtain ⟨m, e, _, hS⟩ := h3
    obtain rfl : u = .map (some m) := by simpa using e
    refine (places_any b cs m S R w (put_block ho.name hcs) hs.ins (fun x hx => by have := hs.all x hx; omega) hS hRR hsub.inR hx).mono ?_
    rintro e W' ⟨O, vs', rfl, hRo, hB⟩
    have hl := placesL_len R b.ins S
    have := rows_fresh (c := b.ins.length + 1) hRo (placesL_ok hRR.wf b.ins S) ⟨by rw [hl]; exact Nat.le_refl _, by have := hs.ins; unfold maxLen; omega⟩
    rw [hl] at this
    exact ⟨_, rfl, this, hB⟩
theorem list_fn (S : Int → Bool) (R : List Int) (hRR : RegsR R) (hsub : Sub R S) : Fn Tryd.prog 84 [.tv tSet S] (.bs tInt (R.filter S)) :=
  Fn.of_fresh (by kernel_rfl) fun w vs hr => by
    obtain ⟨u, rfl, h3⟩ := arg1 hr
    unfold AV.rel at h3
    obtain ⟨m, e, _, hS⟩ := h3
    obtain rfl : u = .map (some m) := by simpa using e
    refine (set_list w hS hRR.asc hRR.wf hsub.inR.mem hRR.len).mono ?_
    rintro e w' ⟨v, rfl, h1, h2⟩
    exact ⟨v, rfl, tInt.slice.keepS (own_intsS h1 fun x hx => hRR.wf x (List.mem_filter.1 hx).1) (fun _ _ => rfl) fun k hk => h1.lt k hk, h2⟩
/-- a row of sets -/
def setsA (p : Nat × List Nat) (Ss : List (Int → Bool)) : Res := ⟨[], fun g => g = p.1 ∨ g ∈ p.2, fun w _ => (∃ e, w.heap[p.1]? = some (.cells (p.2.map fun m => Value.map (some m)).toArray e (0, 0))) ∧ p.2.length = Ss.length ∧ p.2.Nodup ∧ ∀ (i m : Nat) (S : Int → Bool), p.2[i]? = some m → Ss[i]? = some S → SetM w m S,
  fun h hk _ _ => ⟨let ⟨e, h1⟩ := h.1; ⟨e, (hk p.1 (.inl rfl)).trans h1⟩, h.2.1, h.2.2.1, fun i m S hm hS => (h.2.2.2 i m S hm hS).keep (hk m (.inr (List.mem_of_getElem? hm)))⟩⟩
def cellM (m : Nat) : AV := .lit (.map (some m))
theorem relL_cellM {w : World} {S : Nat → Prop} : ∀ {ms : List Nat} {cs : List Value}, AV.relL w S [] ψ0 (ms.map cellM) cs → cs = ms.map fun m => Value.map (some m)
  | [], cs, h => by unfold AV.relL at h; exact h
  | m :: ms, cs, h => by
    simp only [List.map_cons] at h
    unfold AV.relL at h
    obtain ⟨v, vs, rfl, h1, h2⟩ := h
    unfold cellM AV.rel at h1
    rw [h1, relL_cellM h2]
    rfl
section
variable {C : Ctx} {t : List AV} {h : List ABlk} {o : Oper}
theorem St.le_setsA {i j O : Nat} {ms : List Nat} {Ss : List (Int → Bool)} (hij : i ≠ j) (hi : h[i]? = some (.res (boxR O (ms.map cellM)))) (hj : h[j]? = some (.res (mapsR ms Ss))) : St.le C ⟨t, h⟩ ⟨t, (h.set j .dead).set i (.res (setsA (O, ms) Ss))⟩ :=
  St.le_merge hij hi hj rfl rfl rfl (fun g hg => hg) fun w S ⟨cs, e, h1, h2⟩ h3 _ => by
    rw [relL_cellM h2] at h1
    exact ⟨⟨e, h1⟩, h3⟩
theorem Fin.sets {i n : Nat} {p : Nat × List Nat} {Ss : List (Int → Bool)} (hi : h[i]? = some (.res (setsA p Ss))) (hn : Ss.length = n) (hb : n ≤ maxLen) (hm : mkD h = [] := by rfl) : Fin h (.lit (.slice (some ⟨p.1, 0, none⟩) n n)) (.bs tSet Ss) := ⟨hm, fun C S ψ w v hC H hv => by
  unfold AV.rel at hv
  subst hv
  obtain ⟨hF, ⟨e, hO⟩, hl, hnd, hS⟩ := H.blk i _ hi
  refine ⟨fun k => S k ∨ (setsA p Ss).F k, fun _ h => .inl h, fun k hk => ?_, fun k hk => ?_, ?_⟩
  · rcases hk with hk | hk
    · exact .inl hk
    · exact .inr (Nat.le_of_not_lt fun hlt => (hF k hk).1 (hC k hlt))
  · rcases hk with hk | hk
    · exact H.lt k hk
    · exact (hF k hk).2.2
  · unfold AV.rel
    subst hn
    refine ⟨_, _, rfl, Nat.le_refl _, ⟨hb, fun e => by cases e⟩, fun j d hd => ⟨p.1, 0, rfl, .inr (.inl rfl), ?_⟩⟩
    have hj : j < p.2.length := by rw [hl]; exact (List.getElem?_eq_some_iff.1 hd).1
    obtain ⟨m, hm⟩ : ∃ m, p.2[j]? = some m := ⟨_, List.getElem?_eq_getElem hj⟩
    refine ⟨[.map (some m)], ⟨m, rfl, .inr (.inr (List.mem_of_getElem? hm)), hS j m d hm hd⟩, fun q u hu => ?_⟩
    cases q with
    | zero =>
      cases hu
      show w.cell? ⟨p.1, 0 + j * 1 + 0, none⟩ = _
      rw [Nat.mul_one, Nat.zero_add, Nat.add_zero]
      exact box_cell hO (by rw [List.getElem?_map, hm]; rfl)
    | succ q => cases hu⟩
theorem Quiet.ldS {ty : TypeId} {x : Operand} {n i k m : Nat} {p : Nat × List Nat} {Ss : List (Int → Bool)} [AG Tryd.prog ty false n] (ho : o.op = .load ty x) (hx : evA t x = .lit (.pointer (some ⟨p.1, k, none⟩))) (hi : h[i]? = some (.res (setsA p Ss))) (hm : p.2[k]? = some m) : Quiet Tryd.prog C t h o (.lit (.map (some m))) :=
  Quiet.ld_res ho hx hi rfl fun w S hR => by
    obtain ⟨e, h1⟩ := hR.1
    refine ⟨_, box_cell h1 (by rw [List.getElem?_map, hm]; rfl), ?_⟩
    unfold AV.rel
    rfl
end
end Mu
end
section
/-
  muntinref15.Next, walked.
  Conditions: at most 2^21 of everything.
-/
namespace Mu
open Go Go.RowKit Go.Proofs

theorem nextL_out {f : Func} {b : Int} (h : ¬ (0 ≤ b ∧ b < f.blocks.length)) : nextL f b = [] := by
  unfold nextL nextS
  split
  · rw [List.getElem?_eq_none (by omega)]
    rfl
  · rfl
theorem nextL_at {f : Func} {k : Nat} {bl : Block} (h : f.blocks[k]? = some bl) : nextL f (k : Int) = (nextB f bl).map blkI := by
  unfold nextL nextS
  rw [if_pos (by omega)]
  simp [h]
theorem nextB_nil {f : Func} {bl : Block} (h : bl.ins = []) : (nextB f bl).map blkI = [] := by
  unfold nextB
  rw [h]
  rfl
def inB (f : Func) (k : Int) : Bool := decide (k ≥ 0) && decide (k < (f.blocks.length : Int))
def way1 (f : Func) (x : Ins) : Bool := ((x.op == 8) || (x.op == 9)) && inB f x.l1
def way2 (f : Func) (x : Ins) : Bool := (x.op == 9) && (x.l2 != x.l1) && inB f x.l2
theorem filtB_map (f : Func) (l : List Int) : (filtB f l).map blkI = l.filter (inB f) := by
  unfold filtB
  induction l with
  | nil => rfl
  | cons k l ih =>
    by_cases h : 0 ≤ k ∧ k < f.blocks.length
    · obtain ⟨m, rfl⟩ := Int.eq_ofNat_of_zero_le h.1
      have hm : m < f.blocks.length := by omega
      rw [List.filterMap_cons, toBlk_yes hm, List.map_cons, ih, List.filter_cons_of_pos (by simp [inB]; omega)]
      rfl
    · rw [List.filterMap_cons, toBlk_no h, ih, List.filter_cons_of_neg (by simp [inB]; omega)]
theorem nextB_last {f : Func} {bl : Block} {x : Ins} (h : bl.ins.getLast? = some x) : (nextB f bl).map blkI = (if way1 f x then [x.l1] else []) ++ if way2 f x then [x.l2] else [] := by
  unfold nextB
  rw [h]
  simp only
  rw [filtB_map]
  unfold rawWays way1 way2
  have hneg : inB f (-1) = false := by simp [inB]
  by_cases h9 : x.op = 9
  · rw [if_pos h9]
    by_cases he : x.l2 = x.l1
    · rw [if_pos he]
      cases h1 : inB f x.l1 <;> simp [h9, he, h1, hneg]
    · rw [if_neg he]
      cases h1 : inB f x.l1 <;> cases h2 : inB f x.l2 <;> simp [h9, he, h1, h2]
  · rw [if_neg h9]
    by_cases h8 : x.op = 8
    · rw [if_pos h8]
      cases h1 : inB f x.l1 <;> simp [h8, h1, hneg]
    · rw [if_neg h8]
      simp [h8, h9]

end Mu
end
section
/-
  muntinref17: behind, Ins, walked.
  Conditions: at most 2^21 of everything.
-/
namespace Mu
open Go Go.RowKit Go.Proofs

def behindB (f : Func) (ins : List Bool) (b : Int) : Bool := (nextL f b).any fun k => ins.getD k.toNat false
theorem nextL_in {f : Func} {b x : Int} (h : x ∈ nextL f b) : 0 ≤ x ∧ x.toNat < f.blocks.length := by
  unfold nextL at h
  obtain ⟨y, _, rfl⟩ := List.mem_map.1 h
  have := y.2
  simp [blkI]
  exact this
theorem any_take {l : List Int} {p : Int → Bool} {k : Nat} {x : Int} (hx : l[k]? = some x) (hn : (l.take k).any p = false) (hp : p x = false) : (l.take (k + 1)).any p = false := by
  rw [List.take_add_one, hx, List.any_append, hn]
  simp [hp]

def goB (f : Func) (r : Int) (out : List Bool) (b : Nat) : Bool := (readsP r (insOf f b)).1 || (!(readsP r (insOf f b)).2 && behindB f out b)
def stepI (f : Func) (r : Int) (out : List Bool) (b : Nat) : List Bool := if goB f r out b then out.set b true else out
def foldI (f : Func) (r : Int) (out : List Bool) (m : Nat) : List Bool := (List.range m).foldl (stepI f r) out
def roundsI (f : Func) (r : Int) : Nat → List Bool
  | 0 => List.replicate f.blocks.length false
  | m + 1 => foldI f r (roundsI f r m) f.blocks.length
def insI (f : Func) (r : Int) : List Bool := roundsI f r (f.blocks.length + 1)
theorem foldI_succ (f : Func) (r : Int) (out : List Bool) (m : Nat) : foldI f r out (m + 1) = stepI f r (foldI f r out m) m := by unfold foldI; rw [List.range_succ, List.foldl_append]; rfl
theorem stepI_len (f : Func) (r : Int) (out : List Bool) (b : Nat) : (stepI f r out b).length = out.length := by unfold stepI; split <;> simp
theorem foldI_len (f : Func) (r : Int) (out : List Bool) (m : Nat) : (foldI f r out m).length = out.length := by
  induction m with
  | zero => rfl
  | succ m ih => rw [foldI_succ, stepI_len, ih]
theorem roundsI_len (f : Func) (r : Int) (m : Nat) : (roundsI f r m).length = f.blocks.length := by
  induction m with
  | zero => simp [roundsI]
  | succ m ih => unfold roundsI; rw [foldI_len, ih]

end Mu
end
section
/-
  muntinref17: sorted, Regs, walked.
  Conditions: at most 2^21 of everything.
-/
namespace Mu
open Go Go.RowKit Go.Proofs

def swapL (l : List Int) (q : Nat) : List Int := (l.set q (l.getD (q + 1) 0)).set (q + 1) (l.getD q 0)
def siftL : Nat → List Int → List Int
  | 0, l => l
  | q + 1, l => if l.getD q 0 > l.getD (q + 1) 0 then siftL q (swapL l q) else l
def sortedL (l : List Int) : List Int := siftL (l.length - 1) l
theorem swapL_len (l : List Int) (q : Nat) : (swapL l q).length = l.length := by simp [swapL]
theorem siftL_len : ∀ (k : Nat) (l : List Int), (siftL k l).length = l.length
  | 0, l => rfl
  | q + 1, l => by
    unfold siftL
    split
    · rw [siftL_len q, swapL_len]
    · rfl
theorem swapL_ok {l : List Int} (h : okInts l) {q : Nat} (hq : q + 1 < l.length) : okInts (swapL l q) := by
  intro x hx
  unfold swapL at hx
  have hq' : q < l.length := by omega
  have h1 : l.getD q 0 ∈ l := by rw [List.getD_eq_getElem?_getD, List.getElem?_eq_getElem hq']; exact List.getElem_mem _
  have h2 : l.getD (q + 1) 0 ∈ l := by rw [List.getD_eq_getElem?_getD, List.getElem?_eq_getElem hq]; exact List.getElem_mem _
  rcases List.mem_or_eq_of_mem_set hx with h3 | h3
  · rcases List.mem_or_eq_of_mem_set h3 with h4 | h4
    · exact h x h4
    · rw [h4]; exact h _ h2
  · rw [h3]; exact h _ h1

end Mu
end
section
/-
  muntinref17.Regs, walked.
  Conditions: at most 2^21 of everything.
-/
namespace Mu
open Go Go.RowKit Go.Proofs

def allReads (f : Func) : List Int := f.blocks.flatMap fun b => b.ins.flatMap readsC
def insR (out : List Int) (x : Int) : List Int := if out.contains x then out else sortedL (out ++ [x])
def regsOf (l : List Int) : List Int := l.foldl insR []
def regsL (f : Func) : List Int := regsOf (allReads f)
theorem regsOf_snoc (l : List Int) (x : Int) : regsOf (l ++ [x]) = insR (regsOf l) x := by simp [regsOf]
theorem sortedL_len (l : List Int) : (sortedL l).length = l.length := siftL_len _ _
theorem siftL_ok : ∀ (k : Nat) (l : List Int), k < l.length → okInts l → okInts (siftL k l)
  | 0, l, _, h => h
  | q + 1, l, hq, h => by
    unfold siftL
    split
    · exact siftL_ok q _ (by rw [swapL_len]; omega) (swapL_ok h hq)
    · exact h
theorem insR_len (out : List Int) (x : Int) : (insR out x).length ≤ out.length + 1 := by
  unfold insR
  split
  · omega
  · rw [sortedL_len]; simp
theorem insR_ok {out : List Int} {x : Int} (h : okInts out) (hx : wfI .i64 x) : okInts (insR out x) := by
  unfold insR
  split
  · exact h
  · unfold sortedL
    refine siftL_ok _ _ (by simp) fun y hy => ?_
    rcases List.mem_append.1 hy with h1 | h1
    · exact h y h1
    · simp at h1; rw [h1]; exact hx
theorem regsOf_rev (l : List Int) : (regsOf l).length ≤ l.length ∧ (okInts l → okInts (regsOf l)) := by
  have key : ∀ (l out : List Int), (l.foldl insR out).length ≤ out.length + l.length ∧ (okInts l → okInts out → okInts (l.foldl insR out)) := by
    intro l
    induction l with
    | nil => intro out; exact ⟨by simp, fun _ h => h⟩
    | cons x l ih =>
      intro out
      obtain ⟨h1, h2⟩ := ih (insR out x)
      have := insR_len out x
      refine ⟨by simp only [List.foldl_cons, List.length_cons]; omega, fun hl ho => h2 (fun y hy => hl y (by simp [hy])) (insR_ok ho (hl x (by simp)))⟩
  obtain ⟨h1, h2⟩ := key l []
  unfold regsOf
  exact ⟨by simpa using h1, fun h => h2 h fun y hy => by cases hy⟩
theorem flat_ok {l : List Ins} (h : ∀ x ∈ l, okIns x) : okInts (l.flatMap readsC) := fun r hr => by
  obtain ⟨x, hx, h1⟩ := List.mem_flatMap.1 hr
  exact readsC_ok (h x hx) r h1
theorem allReads_ok {f : Func} (h : okFunc f) : okInts (allReads f) := fun r hr => by
  obtain ⟨b, hb, h1⟩ := List.mem_flatMap.1 hr
  exact flat_ok (h.blocks b hb).ins r h1
theorem flat_take_len {α : Type} (g : α → List Int) (l : List α) (k : Nat) : ((l.take k).flatMap g).length ≤ (l.flatMap g).length := by
  have : l.flatMap g = (l.take k).flatMap g ++ (l.drop k).flatMap g := by rw [← List.flatMap_append, List.take_append_drop]
  rw [this, List.length_append]
  omega
theorem flat_take_succ {α : Type} (g : α → List Int) {l : List α} {k : Nat} {x : α} (hx : l[k]? = some x) : (l.take (k + 1)).flatMap g = (l.take k).flatMap g ++ g x := by
  rw [List.take_add_one, hx, List.flatMap_append]
  simp

end Mu
end
section
/-
  muntinref17: Place, All, walked.
  Conditions: at most 2^21 of everything.
-/
namespace Mu
open Go Go.RowKit Go.Proofs

def liveAt (f : Func) (b i : Nat) (r : Int) : Bool := (readsP r ((insOf f b).drop i)).1 || (!(readsP r ((insOf f b).drop i)).2 && behindB f (insI f r) b)
def placeL (f : Func) (regs : List Int) (b i : Nat) : List Int := regs.filter (liveAt f b i)
def blockL (f : Func) (b : Nat) : List (List Int) := (List.range ((insOf f b).length + 1)).map (placeL f (regsL f) b)
def allL (f : Func) : List (List (List Int)) := (List.range f.blocks.length).map (blockL f)
theorem filter_take_succ {p : Int → Bool} {l : List Int} {k : Nat} {x : Int} (hx : l[k]? = some x) : (l.take (k + 1)).filter p = (l.take k).filter p ++ if p x then [x] else [] := by
  rw [List.take_add_one, hx, List.filter_append]
  cases h : p x <;> simp [h]
theorem insI_len (f : Func) (r : Int) : (insI f r).length = f.blocks.length := roundsI_len f r _

end Mu
end
section
/-
  muntinref17.All, walked.
  Conditions: at most 2^21 of everything.
-/
namespace Mu
open Go Go.RowKit Go.Proofs

theorem map_take_succ {α β : Type} (g : α → β) {l : List α} {k : Nat} {x : α} (hx : l[k]? = some x) : (l.take (k + 1)).map g = (l.take k).map g ++ [g x] := by
  rw [List.take_add_one, hx, List.map_append]
  simp
theorem range_map_succ {β : Type} (g : Nat → β) (k : Nat) : (List.range (k + 1)).map g = (List.range k).map g ++ [g k] := by rw [List.range_succ, List.map_append]; rfl

end Mu
end
section
/-
  The document's answer on what is live, plain: it is the least one; its registers rise.
  Conditions: none.
-/
namespace Mu
open Go

/-- live at a block's beginning -/
def LIn (f : Func) (b : Nat) (r : Int) : Prop := rdB r (insOf f b) = true ∨ (thru r (insOf f b) = true ∧ LOut f b r)
theorem lout_iff {f : Func} {k : Nat} {r : Int} : LOut f k r ↔ ∃ b, Edge f k b ∧ LIn f b r := by
  constructor
  · intro h
    cases h with
    | read he h => exact ⟨_, he, .inl h⟩
    | pass he h hl => exact ⟨_, he, .inr ⟨h, hl⟩⟩
  · rintro ⟨b, he, h | ⟨h, hl⟩⟩
    · exact .read he h
    · exact .pass he h hl
theorem behind_iff {f : Func} {out : List Bool} {k : Nat} : behindB f out (k : Int) = true ↔ ∃ b, Edge f k b ∧ out.getD b false = true := by
  unfold behindB nextL Edge
  rw [List.any_eq_true]
  constructor
  · rintro ⟨x, hx, h⟩
    obtain ⟨y, hy, rfl⟩ := List.mem_map.1 hx
    exact ⟨y.1, ⟨y, hy, rfl⟩, by simpa [blkI] using h⟩
  · rintro ⟨b, ⟨y, hy, rfl⟩, h⟩
    exact ⟨blkI y, List.mem_map.2 ⟨y, hy, rfl⟩, by simpa [blkI] using h⟩
theorem go_eq (f : Func) (r : Int) (out : List Bool) (b : Nat) : goB f r out b = (rdB r (insOf f b) || (thru r (insOf f b) && behindB f out b)) := by
  have h := readsP_in r (insOf f b) (fun _ => behindB f out b)
  rw [inS_eq] at h
  exact h
theorem edge_lt {f : Func} {k b : Nat} (h : Edge f k b) : b < f.blocks.length := by
  obtain ⟨x, _, rfl⟩ := h
  exact x.2

/-! ### nothing but what is live -/
def SoundO (f : Func) (r : Int) (out : List Bool) : Prop := ∀ b, out.getD b false = true → LIn f b r
theorem sound_behind {f : Func} {r : Int} {out : List Bool} (h : SoundO f r out) {k : Nat} (hb : behindB f out (k : Int) = true) : LOut f k r := by
  obtain ⟨b, he, ho⟩ := behind_iff.1 hb
  exact lout_iff.2 ⟨b, he, h b ho⟩
theorem sound_step {f : Func} {r : Int} {out : List Bool} (h : SoundO f r out) (b : Nat) : SoundO f r (stepI f r out b) := by
  unfold stepI
  split
  · rename_i hg
    intro c hc
    by_cases hbc : b = c
    · subst hbc
      rw [go_eq] at hg
      simp only [Bool.or_eq_true, Bool.and_eq_true] at hg
      rcases hg with hg | ⟨h1, h2⟩
      · exact .inl hg
      · exact .inr ⟨h1, sound_behind h h2⟩
    · rw [List.getD_eq_getElem?_getD, List.getElem?_set_ne hbc, ← List.getD_eq_getElem?_getD] at hc
      exact h c hc
  · exact h
theorem sound_fold {f : Func} {r : Int} {out : List Bool} (h : SoundO f r out) (m : Nat) : SoundO f r (foldI f r out m) := by
  induction m with
  | zero => exact h
  | succ m ih => rw [foldI_succ]; exact sound_step ih m
theorem sound_rounds (f : Func) (r : Int) (m : Nat) : SoundO f r (roundsI f r m) := by
  induction m with
  | zero =>
    intro b hb
    unfold roundsI at hb
    rw [List.getD_eq_getElem?_getD, List.getElem?_replicate] at hb
    split at hb <;> simp at hb
  | succ m ih => exact sound_fold ih _

/-! ### all that is live -/
theorem step_keeps {f : Func} {r : Int} {out : List Bool} {b c : Nat} (h : out.getD c false = true) : (stepI f r out b).getD c false = true := by
  unfold stepI
  split
  · by_cases hbc : b = c
    · subst hbc
      have hl : b < out.length := by
        rcases Nat.lt_or_ge b out.length with h1 | h1
        · exact h1
        · rw [List.getD_eq_getElem?_getD, List.getElem?_eq_none h1] at h; simp at h
      rw [List.getD_eq_getElem?_getD, List.getElem?_set_self hl]
      rfl
    · rw [List.getD_eq_getElem?_getD, List.getElem?_set_ne hbc, ← List.getD_eq_getElem?_getD]
      exact h
  · exact h
theorem step_count (f : Func) (r : Int) (out : List Bool) (b : Nat) : out.count true ≤ (stepI f r out b).count true ∧ (stepI f r out b ≠ out → out.count true < (stepI f r out b).count true) := by
  unfold stepI
  split
  · by_cases hb : b < out.length
    · have hs : out.set b true = out.take b ++ true :: out.drop (b + 1) := List.set_eq_take_append_cons_drop .. |>.trans (by rw [if_pos hb])
      have ho : out = out.take b ++ out[b] :: out.drop (b + 1) := by rw [← List.drop_eq_getElem_cons hb, List.take_append_drop]
      have h1 : (out.set b true).count true = (out.take b).count true + 1 + (out.drop (b + 1)).count true := by rw [hs, List.count_append, List.count_cons_self]; omega
      cases hv : out[b] with
      | true =>
        have h2 : out.count true = (out.take b).count true + 1 + (out.drop (b + 1)).count true := by
          conv => lhs; rw [ho, hv]
          rw [List.count_append, List.count_cons_self]; omega
        refine ⟨by omega, fun hne => absurd ?_ hne⟩
        rw [hs]
        conv => rhs; rw [ho, hv]
      | false =>
        have h2 : out.count true = (out.take b).count true + (out.drop (b + 1)).count true := by
          conv => lhs; rw [ho, hv]
          rw [List.count_append, List.count_cons_of_ne (by simp)]
        exact ⟨by omega, fun _ => by omega⟩
    · rw [List.set_eq_of_length_le (by omega)]
      exact ⟨Nat.le_refl _, fun h => absurd rfl h⟩
  · exact ⟨Nat.le_refl _, fun h => absurd rfl h⟩
theorem fold_count (f : Func) (r : Int) (out : List Bool) (m : Nat) : out.count true ≤ (foldI f r out m).count true ∧ (foldI f r out m ≠ out → out.count true < (foldI f r out m).count true) := by
  induction m with
  | zero => exact ⟨Nat.le_refl _, fun h => absurd rfl h⟩
  | succ m ih =>
    rw [foldI_succ]
    obtain ⟨h1, h2⟩ := step_count f r (foldI f r out m) m
    refine ⟨by omega, fun hne => ?_⟩
    by_cases he : foldI f r out m = out
    · rw [he] at h1 h2 hne ⊢
      exact h2 hne
    · have := ih.2 he
      omega
theorem fold_fixed {f : Func} {r : Int} {out : List Bool} {n : Nat} (h : foldI f r out n = out) : ∀ m, m ≤ n → foldI f r out m = out := by
  intro m hm
  by_cases he : foldI f r out m = out
  · exact he
  · exfalso
    have h1 := (fold_count f r out m).2 he
    have key : ∀ k, (foldI f r out m).count true ≤ (foldI f r out (m + k)).count true := by
      intro k
      induction k with
      | zero => exact Nat.le_refl _
      | succ k ih => rw [← Nat.add_assoc, foldI_succ]; exact Nat.le_trans ih (step_count f r _ _).1
    have h2 := key (n - m)
    rw [show m + (n - m) = n by omega, h] at h2
    omega
theorem fixed_go {f : Func} {r : Int} {out : List Bool} (hl : out.length = f.blocks.length) (h : foldI f r out f.blocks.length = out) {b : Nat} (hb : b < f.blocks.length) (hg : goB f r out b = true) : out.getD b false = true := by
  have h1 := fold_fixed h (b + 1) (by omega)
  rw [foldI_succ, fold_fixed h b (by omega), stepI, if_pos hg] at h1
  rw [← h1, List.getD_eq_getElem?_getD, List.getElem?_set_self (by omega)]
  rfl
theorem fixed_all {f : Func} {r : Int} {out : List Bool} (hl : out.length = f.blocks.length) (h : foldI f r out f.blocks.length = out) {k : Nat} (hlo : LOut f k r) : behindB f out (k : Int) = true := by
  induction hlo with
  | read he h1 => exact behind_iff.2 ⟨_, he, fixed_go hl h (edge_lt he) (by rw [go_eq, h1]; rfl)⟩
  | pass he h1 _ ih => exact behind_iff.2 ⟨_, he, fixed_go hl h (edge_lt he) (by rw [go_eq, h1, ih h]; simp)⟩
theorem rounds_fixed (f : Func) (r : Int) : foldI f r (insI f r) f.blocks.length = insI f r := by
  have key : ∀ m, (∃ j, j < m ∧ roundsI f r (j + 1) = roundsI f r j) ∨ m ≤ (roundsI f r m).count true := by
    intro m
    induction m with
    | zero => exact .inr (Nat.zero_le _)
    | succ m ih =>
      rcases ih with ⟨j, hj, he⟩ | h
      · exact .inl ⟨j, by omega, he⟩
      · by_cases he : roundsI f r (m + 1) = roundsI f r m
        · exact .inl ⟨m, by omega, he⟩
        · have := (fold_count f r (roundsI f r m) f.blocks.length).2 he
          exact .inr (Nat.lt_of_le_of_lt h this)
  rcases key (f.blocks.length + 1) with ⟨j, hj, he⟩ | h
  · have hst : ∀ k, roundsI f r (j + k) = roundsI f r j := by
      intro k
      induction k with
      | zero => rfl
      | succ k ih =>
        show foldI f r (roundsI f r (j + k)) f.blocks.length = _
        rw [ih]
        exact he
    have h1 : insI f r = roundsI f r j := by
      unfold insI
      rw [show f.blocks.length + 1 = j + (f.blocks.length + 1 - j) by omega]
      exact hst _
    rw [h1]
    exact he
  · have := List.count_le_length (a := true) (l := roundsI f r (f.blocks.length + 1))
    rw [roundsI_len] at this
    omega
theorem behind_live (f : Func) (r : Int) (k : Nat) : behindB f (insI f r) (k : Int) = true ↔ LOut f k r :=
  ⟨fun h => sound_behind (sound_rounds f r _) h, fun h => fixed_all (insI_len f r) (rounds_fixed f r) h⟩
/-- what is live at a place, by the least answer -/
theorem liveAt_eq (f : Func) (S : Int → Bool) (b i : Nat) (hS : ∀ r, S r = true ↔ LOut f b r) (r : Int) : liveAt f b i r = inS ((insOf f b).drop i) S r := by
  unfold liveAt
  have e : behindB f (insI f r) (b : Int) = S r := by
    cases h1 : behindB f (insI f r) (b : Int) <;> cases h2 : S r
    · rfl
    · have := (behind_live f r b).2 ((hS r).1 h2); rw [h1] at this; cases this
    · have := (hS r).2 ((behind_live f r b).1 h1); rw [h2] at this; cases this
    · rfl
  rw [e]
  exact readsP_in r _ S
end Mu
end
section
/-
  The registers that are read, plain: they rise, each once.
  Conditions: none.
-/
namespace Mu
open Go

/-- put in from behind; the row lies the other way round -/
def insRev (x : Int) : List Int → List Int
  | [] => [x]
  | a :: l => if a > x then a :: insRev x l else x :: a :: l
theorem getD_at {A B : List Int} {x : Int} {q : Nat} (h : A.length = q) : (A ++ x :: B).getD q 0 = x := by
  rw [List.getD_eq_getElem?_getD, List.getElem?_append_right (by omega)]
  simp [h]
theorem swapL_at {A B : List Int} {a x : Int} {q : Nat} (h : A.length = q) : swapL (A ++ a :: x :: B) q = A ++ x :: a :: B := by
  unfold swapL
  have h1 : (A ++ a :: x :: B).getD q 0 = a := getD_at h
  have h2 : (A ++ a :: x :: B).getD (q + 1) 0 = x := by
    rw [show A ++ a :: x :: B = (A ++ [a]) ++ x :: B by simp]
    exact getD_at (by simp [h])
  rw [h1, h2]
  subst h
  simp []
theorem sift_at (x : Int) : ∀ (R B : List Int), siftL R.length (R.reverse ++ x :: B) = (insRev x R).reverse ++ B
  | [], B => by simp [siftL, insRev]
  | a :: R, B => by
    have hl : R.reverse.length = R.length := List.length_reverse
    have e : (a :: R).reverse ++ x :: B = R.reverse ++ a :: x :: B := by simp
    rw [e, List.length_cons, siftL]
    have h1 : (R.reverse ++ a :: x :: B).getD R.length 0 = a := getD_at hl
    have h2 : (R.reverse ++ a :: x :: B).getD (R.length + 1) 0 = x := by
      rw [show R.reverse ++ a :: x :: B = (R.reverse ++ [a]) ++ x :: B by simp]
      exact getD_at (by simp)
    rw [h1, h2, swapL_at hl]
    unfold insRev
    by_cases hax : a > x
    · rw [if_pos hax, if_pos hax, sift_at x R (a :: B)]
      simp
    · rw [if_neg hax, if_neg hax]
      simp
theorem sortedL_snoc (l : List Int) (x : Int) : sortedL (l ++ [x]) = (insRev x l.reverse).reverse := by
  have h := sift_at x l.reverse []
  rw [List.reverse_reverse, List.length_reverse, List.append_nil] at h
  unfold sortedL
  simpa using h
theorem insRev_mem {x y : Int} : ∀ {l : List Int}, y ∈ insRev x l ↔ y = x ∨ y ∈ l
  | [] => by simp [insRev]
  | a :: l => by
    unfold insRev
    split
    · rw [List.mem_cons, insRev_mem (l := l), List.mem_cons]
      constructor
      · rintro (h | h | h) <;> simp [h]
      · rintro (h | h | h) <;> simp [h]
    · rw [List.mem_cons]
theorem insRev_desc {x : Int} : ∀ {l : List Int}, l.Pairwise (fun a b => b < a) → x ∉ l → (insRev x l).Pairwise fun a b => b < a
  | [], _, _ => by simp [insRev]
  | a :: l, h, hx => by
    rw [List.pairwise_cons] at h
    simp only [List.mem_cons, not_or] at hx
    unfold insRev
    split
    · rename_i hax
      refine List.pairwise_cons.2 ⟨fun y hy => ?_, insRev_desc h.2 hx.2⟩
      rcases insRev_mem.1 hy with rfl | hy
      · exact hax
      · exact h.1 y hy
    · rename_i hax
      refine List.pairwise_cons.2 ⟨fun y hy => ?_, List.pairwise_cons.2 h⟩
      rcases List.mem_cons.1 hy with rfl | hy
      · omega
      · have := h.1 y hy
        omega
theorem insR_asc {l : List Int} {x : Int} (h : Asc l) : Asc (insR l x) ∧ ∀ y, y ∈ insR l x ↔ y = x ∨ y ∈ l := by
  unfold insR
  split
  · rename_i hc
    have hm : x ∈ l := by simpa using hc
    refine ⟨h, fun y => ⟨fun hy => .inr hy, ?_⟩⟩
    rintro (rfl | hy)
    · exact hm
    · exact hy
  · rename_i hc
    have hm : x ∉ l := by simpa using hc
    rw [sortedL_snoc]
    refine ⟨?_, fun y => by rw [List.mem_reverse, insRev_mem, List.mem_reverse]⟩
    unfold Asc at *
    rw [List.pairwise_reverse]
    exact insRev_desc (by rw [List.pairwise_reverse]; exact h) (by rw [List.mem_reverse]; exact hm)
theorem regsOf_asc (l : List Int) : Asc (regsOf l) ∧ ∀ y, y ∈ regsOf l ↔ y ∈ l := by
  have key : ∀ (l out : List Int), Asc out → Asc (l.foldl insR out) ∧ ∀ y, y ∈ l.foldl insR out ↔ y ∈ out ∨ y ∈ l := by
    intro l
    induction l with
    | nil => intro out h; exact ⟨h, fun y => by simp⟩
    | cons x l ih =>
      intro out h
      obtain ⟨h1, h2⟩ := insR_asc (x := x) h
      obtain ⟨h3, h4⟩ := ih _ h1
      refine ⟨h3, fun y => ?_⟩
      rw [List.foldl_cons, h4 y, h2 y, List.mem_cons]
      constructor
      · rintro ((h | h) | h) <;> simp [h]
      · rintro (h | h | h) <;> simp [h]
  obtain ⟨h1, h2⟩ := key l [] List.Pairwise.nil
  exact ⟨h1, fun y => by unfold regsOf; rw [h2 y]; simp⟩
theorem regsL_asc (f : Func) : Asc (regsL f) := (regsOf_asc _).1
theorem regsL_mem {f : Func} {r : Int} : r ∈ regsL f ↔ ∃ b ∈ f.blocks, ∃ x ∈ b.ins, r ∈ readsC x := by
  unfold regsL
  rw [(regsOf_asc _).2 r]
  unfold allReads
  simp only [List.mem_flatMap]
end Mu
end
