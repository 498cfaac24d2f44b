/-
  The data of package api as plain Lean data, and how cells stand for it.
  Conditions: none; the types' numbers are this translation's.
-/
import Derived.Test.YteeekjidkjdpjaaMuTy
import Derived.Test.YteeekjidkjdpjaaRows
namespace Mu
open Go Go.RowKit

structure Ins where
  op : Int
  d : Int
  a : Int
  b : Int
  n : Int
  f : Int
  args : List Int
  l1 : Int
  l2 : Int
structure Block where
  name : ByteArray
  ins : List Ins
structure Func where
  name : ByteArray
  args : Int
  regs : Int
  blocks : List Block
structure Prog where
  heap : Int
  threads : List Int
  funcs : List Func

def tInt : Ty Int := Ty.int .i64
def tIns : Ty Ins :=
  ((Ty.int .u8).cons (tInt.cons (tInt.cons (tInt.cons ((Ty.int .u32).cons (tInt.cons (tInt.slice.cons (tInt.cons (tInt.cons Ty.none_))))))))).via
    (fun x => ⟨x.1, x.2.1, x.2.2.1, x.2.2.2.1, x.2.2.2.2.1, x.2.2.2.2.2.1, x.2.2.2.2.2.2.1, x.2.2.2.2.2.2.2.1, x.2.2.2.2.2.2.2.2.1⟩)
    (fun i => (i.op, i.d, i.a, i.b, i.n, i.f, i.args, i.l1, i.l2, ()))
def tBlock : Ty Block := (Ty.str.cons (tIns.slice.cons Ty.none_)).via (fun x => ⟨x.1, x.2.1⟩) (fun b => (b.name, b.ins, ()))
def tFunc : Ty Func := (Ty.str.cons (tInt.cons (tInt.cons (tBlock.slice.cons Ty.none_)))).via (fun x => ⟨x.1, x.2.1, x.2.2.1, x.2.2.2.1⟩) (fun f => (f.name, f.args, f.regs, f.blocks, ()))
def tProg : Ty Prog := (tInt.cons (tInt.slice.cons (tFunc.slice.cons Ty.none_))).via (fun x => ⟨x.1, x.2.1, x.2.2.1⟩) (fun p => (p.heap, p.threads, p.funcs, ()))

theorem tInt_size : tInt.size = 1 := rfl
theorem tIns_size : tIns.size = 9 := rfl
theorem tBlock_size : tBlock.size = 2 := rfl
theorem tFunc_size : tFunc.size = 4 := rfl
theorem tProg_size : tProg.size = 3 := rfl

def wfI (k : IntKind) (n : Int) : Prop := (Lit.int k n).wf = true

theorem wfI_u8 {n : Int} (h : wfI .u8 n) : 0 ≤ n ∧ n ≤ 255 := by simpa [wfI, Lit.wf, IntKind.min, IntKind.max, IntKind.signed, IntKind.bits] using h
theorem wfI_u32 {n : Int} (h : wfI .u32 n) : 0 ≤ n ∧ n ≤ 4294967295 := by simpa [wfI, Lit.wf, IntKind.min, IntKind.max, IntKind.signed, IntKind.bits] using h
theorem wfI_i64 {n : Int} (h : wfI .i64 n) : -9223372036854775808 ≤ n ∧ n ≤ 9223372036854775807 := by simpa [wfI, Lit.wf, IntKind.min, IntKind.max, IntKind.signed, IntKind.bits] using h

theorem tInt_R {w : World} {S : Nat → Prop} {cs : List Value} {d : Int} : tInt.RS w S cs d ↔ cs = [.int .i64 d] ∧ wfI .i64 d := Iff.rfl

/-- one instruction, written out -/
structure InsCells (w : World) (S : Nat → Prop) (cs : List Value) (x : Ins) (A : Option Addr) (c : Nat) : Prop where
  cs : cs = [.int .u8 x.op, .int .i64 x.d, .int .i64 x.a, .int .i64 x.b, .int .u32 x.n, .int .i64 x.f, .slice A x.args.length c, .int .i64 x.l1, .int .i64 x.l2]
  op : wfI .u8 x.op
  d : wfI .i64 x.d
  a : wfI .i64 x.a
  b : wfI .i64 x.b
  n : wfI .u32 x.n
  f : wfI .i64 x.f
  l1 : wfI .i64 x.l1
  l2 : wfI .i64 x.l2
  args : tInt.slice.RS w S [.slice A x.args.length c] x.args

theorem tIns_R {w : World} {S : Nat → Prop} {cs : List Value} {x : Ins} : tIns.RS w S cs x ↔ ∃ A c, InsCells w S cs x A c := by
  constructor
  · rintro ⟨⟨_, _, rfl, ⟨rfl, h0⟩, _, _, rfl, ⟨rfl, h1⟩, _, _, rfl, ⟨rfl, h2⟩, _, _, rfl, ⟨rfl, h3⟩, _, _, rfl, ⟨rfl, h4⟩, _, _, rfl, ⟨rfl, h5⟩, _, _, rfl, hs, _, _, rfl, ⟨rfl, h7⟩, _, _, rfl, ⟨rfl, h8⟩, rfl⟩, _⟩
    have hs' := hs
    obtain ⟨A, c, rfl, _⟩ := hs
    exact ⟨A, c, rfl, h0, h1, h2, h3, h4, h5, h7, h8, hs'⟩
  · rintro ⟨A, c, h⟩
    obtain ⟨rfl, h0, h1, h2, h3, h4, h5, h7, h8, hs⟩ := h
    exact ⟨⟨[_], _, rfl, ⟨rfl, h0⟩, [_], _, rfl, ⟨rfl, h1⟩, [_], _, rfl, ⟨rfl, h2⟩, [_], _, rfl, ⟨rfl, h3⟩, [_], _, rfl, ⟨rfl, h4⟩, [_], _, rfl, ⟨rfl, h5⟩, [_], _, rfl, hs, [_], _, rfl, ⟨rfl, h7⟩, [_], _, rfl, ⟨rfl, h8⟩, rfl⟩, rfl⟩

theorem tBlock_R {w : World} {S : Nat → Prop} {cs : List Value} {x : Block} : tBlock.RS w S cs x ↔ ∃ A c, cs = [.string x.name, .slice A x.ins.length c] ∧ x.name.size ≤ maxLen ∧ tIns.slice.RS w S [.slice A x.ins.length c] x.ins := by
  constructor
  · rintro ⟨⟨_, _, rfl, ⟨rfl, h0⟩, _, _, rfl, hs, rfl⟩, _⟩
    have hs' := hs
    obtain ⟨A, c, rfl, _⟩ := hs
    exact ⟨A, c, rfl, h0, hs'⟩
  · rintro ⟨A, c, rfl, h0, hs⟩
    exact ⟨⟨[_], _, rfl, ⟨rfl, h0⟩, [_], _, rfl, hs, rfl⟩, rfl⟩

theorem tFunc_R {w : World} {S : Nat → Prop} {cs : List Value} {x : Func} : tFunc.RS w S cs x ↔ ∃ A c, cs = [.string x.name, .int .i64 x.args, .int .i64 x.regs, .slice A x.blocks.length c] ∧ x.name.size ≤ maxLen ∧ wfI .i64 x.args ∧ wfI .i64 x.regs ∧ tBlock.slice.RS w S [.slice A x.blocks.length c] x.blocks := by
  constructor
  · rintro ⟨⟨_, _, rfl, ⟨rfl, h0⟩, _, _, rfl, ⟨rfl, h1⟩, _, _, rfl, ⟨rfl, h2⟩, _, _, rfl, hs, rfl⟩, _⟩
    have hs' := hs
    obtain ⟨A, c, rfl, _⟩ := hs
    exact ⟨A, c, rfl, h0, h1, h2, hs'⟩
  · rintro ⟨A, c, rfl, h0, h1, h2, hs⟩
    exact ⟨⟨[_], _, rfl, ⟨rfl, h0⟩, [_], _, rfl, ⟨rfl, h1⟩, [_], _, rfl, ⟨rfl, h2⟩, [_], _, rfl, hs, rfl⟩, rfl⟩

theorem tProg_R {w : World} {S : Nat → Prop} {cs : List Value} {x : Prog} : tProg.RS w S cs x ↔ ∃ A c A' c', cs = [.int .i64 x.heap, .slice A' x.threads.length c', .slice A x.funcs.length c] ∧ wfI .i64 x.heap ∧ tInt.slice.RS w S [.slice A' x.threads.length c'] x.threads ∧ tFunc.slice.RS w S [.slice A x.funcs.length c] x.funcs := by
  constructor
  · rintro ⟨⟨_, _, rfl, ⟨rfl, h0⟩, _, _, rfl, ht, _, _, rfl, hs, rfl⟩, _⟩
    have hs' := hs
    have ht' := ht
    obtain ⟨A, c, rfl, _⟩ := hs
    obtain ⟨A', c', rfl, _⟩ := ht
    exact ⟨A, c, A', c', rfl, h0, ht', hs'⟩
  · rintro ⟨A, c, A', c', rfl, h0, ht, hs⟩
    exact ⟨⟨[_], _, rfl, ⟨rfl, h0⟩, [_], _, rfl, ht, [_], _, rfl, hs, rfl⟩, rfl⟩

/-! ### opening -/
open Go.Proofs
theorem opens_tInt : Opens Try.prog 3 tInt := opens_int Try.underlying3
theorem opens_ints : Opens Try.prog 22 tInt.slice := opens_slice Try.underlying22 (by kernel_rfl) (by decide) opens_tInt
theorem opens_tIns : Opens Try.prog 39 tIns :=
  opens_struct Try.underlying39 (by kernel_rfl)
    (opensF_cons rfl (by kernel_rfl) (opens_int Try.underlying5) (opensF_cons rfl (by kernel_rfl) opens_tInt (opensF_cons rfl (by kernel_rfl) opens_tInt (opensF_cons rfl (by kernel_rfl) opens_tInt
      (opensF_cons rfl (by kernel_rfl) (opens_int Try.underlying37) (opensF_cons rfl (by kernel_rfl) opens_tInt (opensF_cons rfl (by kernel_rfl) opens_ints (opensF_cons rfl (by kernel_rfl) opens_tInt
        (opensF_cons rfl (by kernel_rfl) opens_tInt opensF_nil))))))))) (fun _ => rfl)
theorem opens_tBlock : Opens Try.prog 42 tBlock :=
  opens_struct Try.underlying42 (by kernel_rfl)
    (opensF_cons rfl (by kernel_rfl) (opens_str Try.underlying9) (opensF_cons rfl (by kernel_rfl) (opens_slice Try.underlying40 (by kernel_rfl) (by decide) opens_tIns) opensF_nil)) (fun _ => rfl)
theorem opens_tFunc : Opens Try.prog 31 tFunc :=
  opens_struct Try.underlying31 (by kernel_rfl)
    (opensF_cons rfl (by kernel_rfl) (opens_str Try.underlying9) (opensF_cons rfl (by kernel_rfl) opens_tInt (opensF_cons rfl (by kernel_rfl) opens_tInt
      (opensF_cons rfl (by kernel_rfl) (opens_slice Try.underlying29 (by kernel_rfl) (by decide) opens_tBlock) opensF_nil)))) (fun _ => rfl)
theorem opens_tProg : Opens Try.prog 25 tProg :=
  opens_struct Try.underlying25 (by kernel_rfl)
    (opensF_cons rfl (by kernel_rfl) opens_tInt (opensF_cons rfl (by kernel_rfl) opens_ints (opensF_cons rfl (by kernel_rfl) (opens_slice Try.underlying23 (by kernel_rfl) (by decide) opens_tFunc) opensF_nil))) (fun _ => rfl)
end Mu
