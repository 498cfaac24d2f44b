/-
  No cell of these rows narrows 'for every input' (looked for: loops, veiled, ifaces, maps, wideKeys, modest, calm, conditions, laid).
  DERIVED. THE GIVEN ROWS OF THIS SEAT. 3 by the template 'for every input the law returns true; each argument reads behind the call as it read before'; 0 by the template 'total and deterministic' (their statements: YtphbknmjnoeheaaGreatTotals.lean).
  GIVEN WITH THE SEED: the statements are not yours to turn. If you find one false, say at which input.
  Laid BY PROGRAM, IN A SANDBOX (cutbox-rows.mjs): the forced cells as the released guide's own fill.sh prints them over the translation 114e5dbd9795230f… (all of the seat's roots in one cut). By AI agents, Wed Nov 11 2026. No macro, syntax, notation, axiom, sorry.
-/
import Derived.Test.YtphbknmjnoeheaaGreatChecked
import GoSem.Claim
import GoSem.ClaimJoined
import GoSem.ClaimMapViews
import Derived.JoinedTies
import Derived.KernelRfl
namespace Go.Proofs.YtphbknmjnoeheaaGreat
/- THE CELL 'sum', in the pinned program and in every row, IS THE sha256 OF THE DUMP (.gsa) THAT YtphbknmjnoeheaaGreatProg.lean LOADS. Nothing in Lean hashes anything: it is a label: what it is worth is what the hold of that sum in a sandbox is worth. -/
noncomputable def Tryz.pinned : Pinned := { name := "ytphbknmjnoeheaagreat", sum := "114e5dbd9795230f6a8c4c90f86981c8d4654eaf5f1bbe1b7cc3d8ac5a0e82f8", checked := Tryz.checked }
namespace Rows
def none {H : Type} : Left H := { results := [], args := [] }

/-- 'muntinlaw23.BodyOnce': WHATEVER THE INPUT: true; the input reads as it did. -/
def bodyOnceSpec : ChangeSpec := { name := "bodyOnce", fn := fun _ => fun
  | [d] => { results := [.lit (.bool true)], args := [d] }
  | _ => none }
def bodyOnceRow : OpenClaim := { program := "ytphbknmjnoeheaagreat", sum := "114e5dbd9795230f6a8c4c90f86981c8d4654eaf5f1bbe1b7cc3d8ac5a0e82f8", func := "muntin/muntinlaw23.BodyOnce", spec := "bodyOnce", inPlace := ["maps.clone"], unfollowed := true, recurses := true, plainKeys := false, apart := false }
def BodyOnceSaid : Prop := bodyOnceRow.holds Tryz.pinned (OpenSpec.ofChange bodyOnceSpec)

/-- ITS FALSE NEIGHBOUR: 'it returns false'. Refute it at one input. -/
def bodyOnceWrong : ChangeSpec := { name := "bodyOnce", fn := fun _ => fun
  | [d] => { results := [.lit (.bool false)], args := [d] }
  | _ => none }
def BodyOnceWrongFalsely : Prop := bodyOnceRow.holds Tryz.pinned (OpenSpec.ofChange bodyOnceWrong)

/-- 'muntinlaw23.BodyMoves': WHATEVER THE INPUT: true; the input reads as it did. -/
def bodyMovesSpec : ChangeSpec := { name := "bodyMoves", fn := fun _ => fun
  | [d] => { results := [.lit (.bool true)], args := [d] }
  | _ => none }
def bodyMovesRow : OpenClaim := { program := "ytphbknmjnoeheaagreat", sum := "114e5dbd9795230f6a8c4c90f86981c8d4654eaf5f1bbe1b7cc3d8ac5a0e82f8", func := "muntin/muntinlaw23.BodyMoves", spec := "bodyMoves", inPlace := ["maps.clone"], unfollowed := true, recurses := true, plainKeys := false, apart := false }
def BodyMovesSaid : Prop := bodyMovesRow.holds Tryz.pinned (OpenSpec.ofChange bodyMovesSpec)

/-- ITS FALSE NEIGHBOUR: 'it returns false'. Refute it at one input. -/
def bodyMovesWrong : ChangeSpec := { name := "bodyMoves", fn := fun _ => fun
  | [d] => { results := [.lit (.bool false)], args := [d] }
  | _ => none }
def BodyMovesWrongFalsely : Prop := bodyMovesRow.holds Tryz.pinned (OpenSpec.ofChange bodyMovesWrong)

/-- 'muntinlaw23.BodyRewrites': WHATEVER THE INPUT: true; the input reads as it did. -/
def bodyRewritesSpec : ChangeSpec := { name := "bodyRewrites", fn := fun _ => fun
  | [d1, d2, d3] => { results := [.lit (.bool true)], args := [d1, d2, d3] }
  | _ => none }
def bodyRewritesRow : OpenClaim := { program := "ytphbknmjnoeheaagreat", sum := "114e5dbd9795230f6a8c4c90f86981c8d4654eaf5f1bbe1b7cc3d8ac5a0e82f8", func := "muntin/muntinlaw23.BodyRewrites", spec := "bodyRewrites", inPlace := ["maps.clone"], unfollowed := true, recurses := true, plainKeys := false, apart := false }
def BodyRewritesSaid : Prop := bodyRewritesRow.holds Tryz.pinned (OpenSpec.ofChange bodyRewritesSpec)

/-- ITS FALSE NEIGHBOUR: 'it returns false'. Refute it at one input. -/
def bodyRewritesWrong : ChangeSpec := { name := "bodyRewrites", fn := fun _ => fun
  | [d1, d2, d3] => { results := [.lit (.bool false)], args := [d1, d2, d3] }
  | _ => none }
def BodyRewritesWrongFalsely : Prop := bodyRewritesRow.holds Tryz.pinned (OpenSpec.ofChange bodyRewritesWrong)

/- THE SECOND FORM. 'bulk': how many values and letters a reading holds, each counted each time it is reached (what is shared counts as often as it is met; a slice's spare places count too). A statement '..UptoSaid' is the law's where the arguments, and the package variables that the reading takes, are together of bulk at most 1048576: NARROWER than '..Said'. Prove '..Said' where nothing that the law and all that it calls make is longer than what came in: it says more and counts as full. Else prove '..UptoSaid'. A law counts once. -/
mutual
def uptoBulk {H : Type} : DataW H → Nat
  | .lit (.string bytes) => bytes.length + 1
  | .lit _ => 1
  | .nil => 1
  | .ptr d => uptoBulk d + 1
  | .slice elems spare => uptoBulkAll elems + uptoBulkAll spare + 1
  | .agg parts => uptoBulkAll parts + 1
  | .iface _ d => uptoBulk d + 1
  | .map entries => uptoBulkEntries entries + 1
  | .held _ => 1
def uptoBulkAll {H : Type} : List (DataW H) → Nat
  | [] => 0
  | d :: r => uptoBulk d + uptoBulkAll r
def uptoBulkEntries {H : Type} : List (Lit × DataW H) → Nat
  | [] => 0
  | x :: r => uptoBulkEntry x + uptoBulkEntries r
def uptoBulkEntry {H : Type} : Lit × DataW H → Nat
  | (.string bytes, d) => bytes.length + uptoBulk d + 1
  | (_, d) => uptoBulk d + 1
 end
def uptoSmall : (H : Type) → List (DataW H) → Bool := fun _ ds => decide (uptoBulkAll ds ≤ 1048576)
def OpenSpec.upto (s : _root_.Go.ChangeSpec) : _root_.Go.OpenSpec := { _root_.Go.OpenSpec.ofChange s with cond := some uptoSmall }

/-- 'muntinlaw23.BodyOnce', WHERE WHAT IT READS IS OF BULK AT MOST 1048576: true; the input reads as it did. -/
def bodyOnceUptoRow : OpenClaim := { program := "ytphbknmjnoeheaagreat", sum := "114e5dbd9795230f6a8c4c90f86981c8d4654eaf5f1bbe1b7cc3d8ac5a0e82f8", func := "muntin/muntinlaw23.BodyOnce", spec := "bodyOnce", inPlace := ["maps.clone"], unfollowed := true, recurses := true, plainKeys := false, apart := false, narrowed := true }
def BodyOnceUptoSaid : Prop := bodyOnceUptoRow.holds Tryz.pinned (OpenSpec.upto bodyOnceSpec)

/-- 'muntinlaw23.BodyMoves', WHERE WHAT IT READS IS OF BULK AT MOST 1048576: true; the input reads as it did. -/
def bodyMovesUptoRow : OpenClaim := { program := "ytphbknmjnoeheaagreat", sum := "114e5dbd9795230f6a8c4c90f86981c8d4654eaf5f1bbe1b7cc3d8ac5a0e82f8", func := "muntin/muntinlaw23.BodyMoves", spec := "bodyMoves", inPlace := ["maps.clone"], unfollowed := true, recurses := true, plainKeys := false, apart := false, narrowed := true }
def BodyMovesUptoSaid : Prop := bodyMovesUptoRow.holds Tryz.pinned (OpenSpec.upto bodyMovesSpec)

/-- 'muntinlaw23.BodyRewrites', WHERE WHAT IT READS IS OF BULK AT MOST 1048576: true; the input reads as it did. -/
def bodyRewritesUptoRow : OpenClaim := { program := "ytphbknmjnoeheaagreat", sum := "114e5dbd9795230f6a8c4c90f86981c8d4654eaf5f1bbe1b7cc3d8ac5a0e82f8", func := "muntin/muntinlaw23.BodyRewrites", spec := "bodyRewrites", inPlace := ["maps.clone"], unfollowed := true, recurses := true, plainKeys := false, apart := false, narrowed := true }
def BodyRewritesUptoSaid : Prop := bodyRewritesUptoRow.holds Tryz.pinned (OpenSpec.upto bodyRewritesSpec)

end Rows
end Go.Proofs.YtphbknmjnoeheaaGreat
