/-
  No cell of these rows narrows 'for every input' (looked for: loops, veiled, ifaces, maps, wideKeys, modest, calm, conditions, laid).
  DERIVED. THE GIVEN ROWS OF THIS SEAT. 4 by the template 'for every input the law returns true; each argument reads behind the call as it read before'; 0 by the template 'total and deterministic' (their statements: YtnhheaffnpflfaaGreatTotals.lean).
  GIVEN WITH THE SEED: the statements are not yours to turn. If you find one false, say at which input.
  Laid BY PROGRAM, IN A SANDBOX (cutbox-rows.mjs): the forced cells as the released guide's own fill.sh prints them over the translation e10ad1db29d76039… (all of the seat's roots in one cut). By AI agents, Wed Nov 11 2026. No macro, syntax, notation, axiom, sorry.
-/
import Derived.Test.YtnhheaffnpflfaaGreatChecked
import GoSem.Claim
import GoSem.ClaimJoined
import GoSem.ClaimMapViews
import Derived.JoinedTies
import Derived.KernelRfl
namespace Go.Proofs.YtnhheaffnpflfaaGreat
/- THE CELL 'sum', in the pinned program and in every row, IS THE sha256 OF THE DUMP (.gsa) THAT YtnhheaffnpflfaaGreatProg.lean LOADS. Nothing in Lean hashes anything: it is a label: what it is worth is what the hold of that sum in a sandbox is worth. -/
noncomputable def Tryz.pinned : Pinned := { name := "ytnhheaffnpflfaagreat", sum := "e10ad1db29d76039aeb5f3b892f4c967e5f604d6f533c1cfde21147a4d4aae00", checked := Tryz.checked }
namespace Rows
def none {H : Type} : Left H := { results := [], args := [] }

/-- 'muntinlaw22.ColourRight': WHATEVER THE INPUT: true; the input reads as it did. -/
def colourRightSpec : ChangeSpec := { name := "colourRight", fn := fun _ => fun
  | [d] => { results := [.lit (.bool true)], args := [d] }
  | _ => none }
def colourRightRow : OpenClaim := { program := "ytnhheaffnpflfaagreat", sum := "e10ad1db29d76039aeb5f3b892f4c967e5f604d6f533c1cfde21147a4d4aae00", func := "muntin/muntinlaw22.ColourRight", spec := "colourRight", inPlace := ["slices.overlaps[int]", "maps.clone"], unfollowed := true, recurses := true, plainKeys := false, apart := false }
def ColourRightSaid : Prop := colourRightRow.holds Tryz.pinned (OpenSpec.ofChange colourRightSpec)

/-- ITS FALSE NEIGHBOUR: 'it returns false'. Refute it at one input. -/
def colourRightWrong : ChangeSpec := { name := "colourRight", fn := fun _ => fun
  | [d] => { results := [.lit (.bool false)], args := [d] }
  | _ => none }
def ColourRightWrongFalsely : Prop := colourRightRow.holds Tryz.pinned (OpenSpec.ofChange colourRightWrong)

/-- 'muntinlaw22.ColourTells': WHATEVER THE INPUT: true; the input reads as it did. -/
def colourTellsSpec : ChangeSpec := { name := "colourTells", fn := fun _ => fun
  | [d1, d2] => { results := [.lit (.bool true)], args := [d1, d2] }
  | _ => none }
def colourTellsRow : OpenClaim := { program := "ytnhheaffnpflfaagreat", sum := "e10ad1db29d76039aeb5f3b892f4c967e5f604d6f533c1cfde21147a4d4aae00", func := "muntin/muntinlaw22.ColourTells", spec := "colourTells", inPlace := ["slices.overlaps[int]", "maps.clone"], unfollowed := true, recurses := true, plainKeys := false, apart := false }
def ColourTellsSaid : Prop := colourTellsRow.holds Tryz.pinned (OpenSpec.ofChange colourTellsSpec)

/-- ITS FALSE NEIGHBOUR: 'it returns false'. Refute it at one input. -/
def colourTellsWrong : ChangeSpec := { name := "colourTells", fn := fun _ => fun
  | [d1, d2] => { results := [.lit (.bool false)], args := [d1, d2] }
  | _ => none }
def ColourTellsWrongFalsely : Prop := colourTellsRow.holds Tryz.pinned (OpenSpec.ofChange colourTellsWrong)

/-- 'muntinlaw22.ColourTurned': WHATEVER THE INPUT: true; the input reads as it did. -/
def colourTurnedSpec : ChangeSpec := { name := "colourTurned", fn := fun _ => fun
  | [d1, d2, d3] => { results := [.lit (.bool true)], args := [d1, d2, d3] }
  | _ => none }
def colourTurnedRow : OpenClaim := { program := "ytnhheaffnpflfaagreat", sum := "e10ad1db29d76039aeb5f3b892f4c967e5f604d6f533c1cfde21147a4d4aae00", func := "muntin/muntinlaw22.ColourTurned", spec := "colourTurned", inPlace := ["slices.overlaps[int]", "maps.clone"], unfollowed := true, recurses := true, plainKeys := false, apart := false }
def ColourTurnedSaid : Prop := colourTurnedRow.holds Tryz.pinned (OpenSpec.ofChange colourTurnedSpec)

/-- ITS FALSE NEIGHBOUR: 'it returns false'. Refute it at one input. -/
def colourTurnedWrong : ChangeSpec := { name := "colourTurned", fn := fun _ => fun
  | [d1, d2, d3] => { results := [.lit (.bool false)], args := [d1, d2, d3] }
  | _ => none }
def ColourTurnedWrongFalsely : Prop := colourTurnedRow.holds Tryz.pinned (OpenSpec.ofChange colourTurnedWrong)

/-- 'muntinlaw22.ColourNever': WHATEVER THE INPUT: true; the input reads as it did. -/
def colourNeverSpec : ChangeSpec := { name := "colourNever", fn := fun _ => fun
  | [d1, d2] => { results := [.lit (.bool true)], args := [d1, d2] }
  | _ => none }
def colourNeverRow : OpenClaim := { program := "ytnhheaffnpflfaagreat", sum := "e10ad1db29d76039aeb5f3b892f4c967e5f604d6f533c1cfde21147a4d4aae00", func := "muntin/muntinlaw22.ColourNever", spec := "colourNever", inPlace := ["slices.overlaps[int]", "maps.clone"], unfollowed := true, recurses := true, plainKeys := false, apart := false }
def ColourNeverSaid : Prop := colourNeverRow.holds Tryz.pinned (OpenSpec.ofChange colourNeverSpec)

/-- ITS FALSE NEIGHBOUR: 'it returns false'. Refute it at one input. -/
def colourNeverWrong : ChangeSpec := { name := "colourNever", fn := fun _ => fun
  | [d1, d2] => { results := [.lit (.bool false)], args := [d1, d2] }
  | _ => none }
def ColourNeverWrongFalsely : Prop := colourNeverRow.holds Tryz.pinned (OpenSpec.ofChange colourNeverWrong)

/- THE SECOND FORM. 'bulk': how many values and letters a reading holds, each counted each time it is reached (what is shared counts as often as it is met; a slice's spare places count too). A statement '..UptoSaid' is the law's where the arguments, and the package variables that the reading takes, are together of bulk at most 1048576: NARROWER than '..Said'. Prove '..Said' where nothing that the law and all that it calls make is longer than what came in: it says more and counts as full. Else prove '..UptoSaid'. A law counts once. -/
mutual
def uptoBulk {H : Type} : DataW H → Nat
  | .lit (.string bytes) => bytes.length + 1
  | .lit _ => 1
  | .nil => 1
  | .ptr d => uptoBulk d + 1
  | .slice elems spare => uptoBulkAll elems + uptoBulkAll spare + 1
  | .agg parts => uptoBulkAll parts + 1
  | .iface _ d => uptoBulk d + 1
  | .map entries => uptoBulkEntries entries + 1
  | .held _ => 1
def uptoBulkAll {H : Type} : List (DataW H) → Nat
  | [] => 0
  | d :: r => uptoBulk d + uptoBulkAll r
def uptoBulkEntries {H : Type} : List (Lit × DataW H) → Nat
  | [] => 0
  | x :: r => uptoBulkEntry x + uptoBulkEntries r
def uptoBulkEntry {H : Type} : Lit × DataW H → Nat
  | (.string bytes, d) => bytes.length + uptoBulk d + 1
  | (_, d) => uptoBulk d + 1
 end
def uptoSmall : (H : Type) → List (DataW H) → Bool := fun _ ds => decide (uptoBulkAll ds ≤ 1048576)
def OpenSpec.upto (s : _root_.Go.ChangeSpec) : _root_.Go.OpenSpec := { _root_.Go.OpenSpec.ofChange s with cond := some uptoSmall }

/-- 'muntinlaw22.ColourRight', WHERE WHAT IT READS IS OF BULK AT MOST 1048576: true; the input reads as it did. -/
def colourRightUptoRow : OpenClaim := { program := "ytnhheaffnpflfaagreat", sum := "e10ad1db29d76039aeb5f3b892f4c967e5f604d6f533c1cfde21147a4d4aae00", func := "muntin/muntinlaw22.ColourRight", spec := "colourRight", inPlace := ["slices.overlaps[int]", "maps.clone"], unfollowed := true, recurses := true, plainKeys := false, apart := false, narrowed := true }
def ColourRightUptoSaid : Prop := colourRightUptoRow.holds Tryz.pinned (OpenSpec.upto colourRightSpec)

/-- 'muntinlaw22.ColourTells', WHERE WHAT IT READS IS OF BULK AT MOST 1048576: true; the input reads as it did. -/
def colourTellsUptoRow : OpenClaim := { program := "ytnhheaffnpflfaagreat", sum := "e10ad1db29d76039aeb5f3b892f4c967e5f604d6f533c1cfde21147a4d4aae00", func := "muntin/muntinlaw22.ColourTells", spec := "colourTells", inPlace := ["slices.overlaps[int]", "maps.clone"], unfollowed := true, recurses := true, plainKeys := false, apart := false, narrowed := true }
def ColourTellsUptoSaid : Prop := colourTellsUptoRow.holds Tryz.pinned (OpenSpec.upto colourTellsSpec)

/-- 'muntinlaw22.ColourTurned', WHERE WHAT IT READS IS OF BULK AT MOST 1048576: true; the input reads as it did. -/
def colourTurnedUptoRow : OpenClaim := { program := "ytnhheaffnpflfaagreat", sum := "e10ad1db29d76039aeb5f3b892f4c967e5f604d6f533c1cfde21147a4d4aae00", func := "muntin/muntinlaw22.ColourTurned", spec := "colourTurned", inPlace := ["slices.overlaps[int]", "maps.clone"], unfollowed := true, recurses := true, plainKeys := false, apart := false, narrowed := true }
def ColourTurnedUptoSaid : Prop := colourTurnedUptoRow.holds Tryz.pinned (OpenSpec.upto colourTurnedSpec)

/-- 'muntinlaw22.ColourNever', WHERE WHAT IT READS IS OF BULK AT MOST 1048576: true; the input reads as it did. -/
def colourNeverUptoRow : OpenClaim := { program := "ytnhheaffnpflfaagreat", sum := "e10ad1db29d76039aeb5f3b892f4c967e5f604d6f533c1cfde21147a4d4aae00", func := "muntin/muntinlaw22.ColourNever", spec := "colourNever", inPlace := ["slices.overlaps[int]", "maps.clone"], unfollowed := true, recurses := true, plainKeys := false, apart := false, narrowed := true }
def ColourNeverUptoSaid : Prop := colourNeverUptoRow.holds Tryz.pinned (OpenSpec.upto colourNeverSpec)

end Rows
end Go.Proofs.YtnhheaffnpflfaaGreat
