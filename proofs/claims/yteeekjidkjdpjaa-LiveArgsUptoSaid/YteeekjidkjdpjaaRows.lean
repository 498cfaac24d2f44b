/-
  No cell of these rows narrows 'for every input' (looked for: loops, veiled, ifaces, maps, wideKeys, modest, calm, conditions, laid).
  DERIVED. THE GIVEN ROWS OF THIS SEAT. 9 by the template 'for every input the law returns true; each argument reads behind the call as it read before'; 0 by the template 'total and deterministic' (their statements: YteeekjidkjdpjaaTotals.lean).
  GIVEN WITH THE SEED: the statements are not yours to turn. If you find one false, say at which input.
  Laid BY PROGRAM, IN A SANDBOX (cutbox-rows.mjs): the forced cells as the released guide's own fill.sh prints them over the translation b03da97cf20192b9… (all of the seat's roots in one cut). By AI agents, Wed Nov 11 2026. No macro, syntax, notation, axiom, sorry.
-/
import Derived.Test.YteeekjidkjdpjaaChecked
import GoSem.Claim
import GoSem.ClaimJoined
import GoSem.ClaimMapViews
import Derived.JoinedTies
import Derived.KernelRfl
namespace Go.Proofs.Yteeekjidkjdpjaa
/- THE CELL 'sum', in the pinned program and in every row, IS THE sha256 OF THE DUMP (.gsa) THAT YteeekjidkjdpjaaProg.lean LOADS. Nothing in Lean hashes anything: it is a label: what it is worth is what the hold of that sum in a sandbox is worth. -/
noncomputable def Try.pinned : Pinned := { name := "yteeekjidkjdpjaa", sum := "b03da97cf20192b9681e9c79aa467a3597d09304d6e086ee35dd0bf821ab0ff4", checked := Try.checked }
namespace Rows
def none {H : Type} : Left H := { results := [], args := [] }

/-- 'muntinlaw20.CallsTell': WHATEVER THE INPUT: true; the input reads as it did. -/
def callsTellSpec : ChangeSpec := { name := "callsTell", fn := fun _ => fun
  | [d1, d2] => { results := [.lit (.bool true)], args := [d1, d2] }
  | _ => none }
def callsTellRow : OpenClaim := { program := "yteeekjidkjdpjaa", sum := "b03da97cf20192b9681e9c79aa467a3597d09304d6e086ee35dd0bf821ab0ff4", func := "muntin/muntinlaw20.CallsTell", spec := "callsTell", unfollowed := true, recurses := true, apart := false }
def CallsTellSaid : Prop := callsTellRow.holds Try.pinned (OpenSpec.ofChange callsTellSpec)

/-- ITS FALSE NEIGHBOUR: 'it returns false'. Refute it at one input. -/
def callsTellWrong : ChangeSpec := { name := "callsTell", fn := fun _ => fun
  | [d1, d2] => { results := [.lit (.bool false)], args := [d1, d2] }
  | _ => none }
def CallsTellWrongFalsely : Prop := callsTellRow.holds Try.pinned (OpenSpec.ofChange callsTellWrong)

/-- 'muntinlaw20.CallsFollow': WHATEVER THE INPUT: true; the input reads as it did. -/
def callsFollowSpec : ChangeSpec := { name := "callsFollow", fn := fun _ => fun
  | [d] => { results := [.lit (.bool true)], args := [d] }
  | _ => none }
def callsFollowRow : OpenClaim := { program := "yteeekjidkjdpjaa", sum := "b03da97cf20192b9681e9c79aa467a3597d09304d6e086ee35dd0bf821ab0ff4", func := "muntin/muntinlaw20.CallsFollow", spec := "callsFollow", unfollowed := true, recurses := true, apart := false }
def CallsFollowSaid : Prop := callsFollowRow.holds Try.pinned (OpenSpec.ofChange callsFollowSpec)

/-- ITS FALSE NEIGHBOUR: 'it returns false'. Refute it at one input. -/
def callsFollowWrong : ChangeSpec := { name := "callsFollow", fn := fun _ => fun
  | [d] => { results := [.lit (.bool false)], args := [d] }
  | _ => none }
def CallsFollowWrongFalsely : Prop := callsFollowRow.holds Try.pinned (OpenSpec.ofChange callsFollowWrong)

/-- 'muntinlaw20.CallsMore': WHATEVER THE INPUT: true; the input reads as it did. -/
def callsMoreSpec : ChangeSpec := { name := "callsMore", fn := fun _ => fun
  | [d1, d2, d3] => { results := [.lit (.bool true)], args := [d1, d2, d3] }
  | _ => none }
def callsMoreRow : OpenClaim := { program := "yteeekjidkjdpjaa", sum := "b03da97cf20192b9681e9c79aa467a3597d09304d6e086ee35dd0bf821ab0ff4", func := "muntin/muntinlaw20.CallsMore", spec := "callsMore", unfollowed := true, recurses := true, apart := false }
def CallsMoreSaid : Prop := callsMoreRow.holds Try.pinned (OpenSpec.ofChange callsMoreSpec)

/-- ITS FALSE NEIGHBOUR: 'it returns false'. Refute it at one input. -/
def callsMoreWrong : ChangeSpec := { name := "callsMore", fn := fun _ => fun
  | [d1, d2, d3] => { results := [.lit (.bool false)], args := [d1, d2, d3] }
  | _ => none }
def CallsMoreWrongFalsely : Prop := callsMoreRow.holds Try.pinned (OpenSpec.ofChange callsMoreWrong)

/-- 'muntinlaw20.CallsTurned': WHATEVER THE INPUT: true; the input reads as it did. -/
def callsTurnedSpec : ChangeSpec := { name := "callsTurned", fn := fun _ => fun
  | [d1, d2] => { results := [.lit (.bool true)], args := [d1, d2] }
  | _ => none }
def callsTurnedRow : OpenClaim := { program := "yteeekjidkjdpjaa", sum := "b03da97cf20192b9681e9c79aa467a3597d09304d6e086ee35dd0bf821ab0ff4", func := "muntin/muntinlaw20.CallsTurned", spec := "callsTurned", unfollowed := true, recurses := true, apart := false }
def CallsTurnedSaid : Prop := callsTurnedRow.holds Try.pinned (OpenSpec.ofChange callsTurnedSpec)

/-- ITS FALSE NEIGHBOUR: 'it returns false'. Refute it at one input. -/
def callsTurnedWrong : ChangeSpec := { name := "callsTurned", fn := fun _ => fun
  | [d1, d2] => { results := [.lit (.bool false)], args := [d1, d2] }
  | _ => none }
def CallsTurnedWrongFalsely : Prop := callsTurnedRow.holds Try.pinned (OpenSpec.ofChange callsTurnedWrong)

/-- 'muntinlaw17.LiveTells': WHATEVER THE INPUT: true; the input reads as it did. -/
def liveTellsSpec : ChangeSpec := { name := "liveTells", fn := fun _ => fun
  | [d] => { results := [.lit (.bool true)], args := [d] }
  | _ => none }
def liveTellsRow : OpenClaim := { program := "yteeekjidkjdpjaa", sum := "b03da97cf20192b9681e9c79aa467a3597d09304d6e086ee35dd0bf821ab0ff4", func := "muntin/muntinlaw17.LiveTells", spec := "liveTells", inPlace := ["maps.clone"], unfollowed := true, recurses := true, apart := false }
def LiveTellsSaid : Prop := liveTellsRow.holds Try.pinned (OpenSpec.ofChange liveTellsSpec)

/-- ITS FALSE NEIGHBOUR: 'it returns false'. Refute it at one input. -/
def liveTellsWrong : ChangeSpec := { name := "liveTells", fn := fun _ => fun
  | [d] => { results := [.lit (.bool false)], args := [d] }
  | _ => none }
def LiveTellsWrongFalsely : Prop := liveTellsRow.holds Try.pinned (OpenSpec.ofChange liveTellsWrong)

/-- 'muntinlaw17.LiveArgs': WHATEVER THE INPUT: true; the input reads as it did. -/
def liveArgsSpec : ChangeSpec := { name := "liveArgs", fn := fun _ => fun
  | [d1, d2] => { results := [.lit (.bool true)], args := [d1, d2] }
  | _ => none }
def liveArgsRow : OpenClaim := { program := "yteeekjidkjdpjaa", sum := "b03da97cf20192b9681e9c79aa467a3597d09304d6e086ee35dd0bf821ab0ff4", func := "muntin/muntinlaw17.LiveArgs", spec := "liveArgs", inPlace := ["maps.clone"], unfollowed := true, recurses := true, apart := false }
def LiveArgsSaid : Prop := liveArgsRow.holds Try.pinned (OpenSpec.ofChange liveArgsSpec)

/-- ITS FALSE NEIGHBOUR: 'it returns false'. Refute it at one input. -/
def liveArgsWrong : ChangeSpec := { name := "liveArgs", fn := fun _ => fun
  | [d1, d2] => { results := [.lit (.bool false)], args := [d1, d2] }
  | _ => none }
def LiveArgsWrongFalsely : Prop := liveArgsRow.holds Try.pinned (OpenSpec.ofChange liveArgsWrong)

/-- 'muntinlaw17.LiveMore': WHATEVER THE INPUT: true; the input reads as it did. -/
def liveMoreSpec : ChangeSpec := { name := "liveMore", fn := fun _ => fun
  | [d1, d2, d3] => { results := [.lit (.bool true)], args := [d1, d2, d3] }
  | _ => none }
def liveMoreRow : OpenClaim := { program := "yteeekjidkjdpjaa", sum := "b03da97cf20192b9681e9c79aa467a3597d09304d6e086ee35dd0bf821ab0ff4", func := "muntin/muntinlaw17.LiveMore", spec := "liveMore", inPlace := ["maps.clone"], unfollowed := true, recurses := true, apart := false }
def LiveMoreSaid : Prop := liveMoreRow.holds Try.pinned (OpenSpec.ofChange liveMoreSpec)

/-- ITS FALSE NEIGHBOUR: 'it returns false'. Refute it at one input. -/
def liveMoreWrong : ChangeSpec := { name := "liveMore", fn := fun _ => fun
  | [d1, d2, d3] => { results := [.lit (.bool false)], args := [d1, d2, d3] }
  | _ => none }
def LiveMoreWrongFalsely : Prop := liveMoreRow.holds Try.pinned (OpenSpec.ofChange liveMoreWrong)

/-- 'muntinlaw17.LiveCuts': WHATEVER THE INPUT: true; the input reads as it did. -/
def liveCutsSpec : ChangeSpec := { name := "liveCuts", fn := fun _ => fun
  | [d1, d2, d3] => { results := [.lit (.bool true)], args := [d1, d2, d3] }
  | _ => none }
def liveCutsRow : OpenClaim := { program := "yteeekjidkjdpjaa", sum := "b03da97cf20192b9681e9c79aa467a3597d09304d6e086ee35dd0bf821ab0ff4", func := "muntin/muntinlaw17.LiveCuts", spec := "liveCuts", inPlace := ["maps.clone"], unfollowed := true, recurses := true, apart := false }
def LiveCutsSaid : Prop := liveCutsRow.holds Try.pinned (OpenSpec.ofChange liveCutsSpec)

/-- ITS FALSE NEIGHBOUR: 'it returns false'. Refute it at one input. -/
def liveCutsWrong : ChangeSpec := { name := "liveCuts", fn := fun _ => fun
  | [d1, d2, d3] => { results := [.lit (.bool false)], args := [d1, d2, d3] }
  | _ => none }
def LiveCutsWrongFalsely : Prop := liveCutsRow.holds Try.pinned (OpenSpec.ofChange liveCutsWrong)

/-- 'muntinlaw17.LiveSteps': WHATEVER THE INPUT: true; the input reads as it did. -/
def liveStepsSpec : ChangeSpec := { name := "liveSteps", fn := fun _ => fun
  | [d] => { results := [.lit (.bool true)], args := [d] }
  | _ => none }
def liveStepsRow : OpenClaim := { program := "yteeekjidkjdpjaa", sum := "b03da97cf20192b9681e9c79aa467a3597d09304d6e086ee35dd0bf821ab0ff4", func := "muntin/muntinlaw17.LiveSteps", spec := "liveSteps", inPlace := ["maps.clone"], unfollowed := true, recurses := true, apart := false }
def LiveStepsSaid : Prop := liveStepsRow.holds Try.pinned (OpenSpec.ofChange liveStepsSpec)

/-- ITS FALSE NEIGHBOUR: 'it returns false'. Refute it at one input. -/
def liveStepsWrong : ChangeSpec := { name := "liveSteps", fn := fun _ => fun
  | [d] => { results := [.lit (.bool false)], args := [d] }
  | _ => none }
def LiveStepsWrongFalsely : Prop := liveStepsRow.holds Try.pinned (OpenSpec.ofChange liveStepsWrong)

/- THE SECOND FORM. 'bulk': how many values and letters a reading holds, each counted each time it is reached (what is shared counts as often as it is met; a slice's spare places count too). A statement '..UptoSaid' is the law's where the arguments, and the package variables that the reading takes, are together of bulk at most 1048576: NARROWER than '..Said'. Prove '..Said' where nothing that the law and all that it calls make is longer than what came in: it says more and counts as full. Else prove '..UptoSaid'. A law counts once. -/
mutual
def uptoBulk {H : Type} : DataW H → Nat
  | .lit (.string bytes) => bytes.length + 1
  | .lit _ => 1
  | .nil => 1
  | .ptr d => uptoBulk d + 1
  | .slice elems spare => uptoBulkAll elems + uptoBulkAll spare + 1
  | .agg parts => uptoBulkAll parts + 1
  | .iface _ d => uptoBulk d + 1
  | .map entries => uptoBulkEntries entries + 1
  | .held _ => 1
def uptoBulkAll {H : Type} : List (DataW H) → Nat
  | [] => 0
  | d :: r => uptoBulk d + uptoBulkAll r
def uptoBulkEntries {H : Type} : List (Lit × DataW H) → Nat
  | [] => 0
  | x :: r => uptoBulkEntry x + uptoBulkEntries r
def uptoBulkEntry {H : Type} : Lit × DataW H → Nat
  | (.string bytes, d) => bytes.length + uptoBulk d + 1
  | (_, d) => uptoBulk d + 1
 end
def uptoSmall : (H : Type) → List (DataW H) → Bool := fun _ ds => decide (uptoBulkAll ds ≤ 1048576)
def OpenSpec.upto (s : _root_.Go.ChangeSpec) : _root_.Go.OpenSpec := { _root_.Go.OpenSpec.ofChange s with cond := some uptoSmall }

/-- 'muntinlaw20.CallsTell', WHERE WHAT IT READS IS OF BULK AT MOST 1048576: true; the input reads as it did. -/
def callsTellUptoRow : OpenClaim := { program := "yteeekjidkjdpjaa", sum := "b03da97cf20192b9681e9c79aa467a3597d09304d6e086ee35dd0bf821ab0ff4", func := "muntin/muntinlaw20.CallsTell", spec := "callsTell", unfollowed := true, recurses := true, apart := false, narrowed := true }
def CallsTellUptoSaid : Prop := callsTellUptoRow.holds Try.pinned (OpenSpec.upto callsTellSpec)

/-- 'muntinlaw20.CallsFollow', WHERE WHAT IT READS IS OF BULK AT MOST 1048576: true; the input reads as it did. -/
def callsFollowUptoRow : OpenClaim := { program := "yteeekjidkjdpjaa", sum := "b03da97cf20192b9681e9c79aa467a3597d09304d6e086ee35dd0bf821ab0ff4", func := "muntin/muntinlaw20.CallsFollow", spec := "callsFollow", unfollowed := true, recurses := true, apart := false, narrowed := true }
def CallsFollowUptoSaid : Prop := callsFollowUptoRow.holds Try.pinned (OpenSpec.upto callsFollowSpec)

/-- 'muntinlaw20.CallsMore', WHERE WHAT IT READS IS OF BULK AT MOST 1048576: true; the input reads as it did. -/
def callsMoreUptoRow : OpenClaim := { program := "yteeekjidkjdpjaa", sum := "b03da97cf20192b9681e9c79aa467a3597d09304d6e086ee35dd0bf821ab0ff4", func := "muntin/muntinlaw20.CallsMore", spec := "callsMore", unfollowed := true, recurses := true, apart := false, narrowed := true }
def CallsMoreUptoSaid : Prop := callsMoreUptoRow.holds Try.pinned (OpenSpec.upto callsMoreSpec)

/-- 'muntinlaw20.CallsTurned', WHERE WHAT IT READS IS OF BULK AT MOST 1048576: true; the input reads as it did. -/
def callsTurnedUptoRow : OpenClaim := { program := "yteeekjidkjdpjaa", sum := "b03da97cf20192b9681e9c79aa467a3597d09304d6e086ee35dd0bf821ab0ff4", func := "muntin/muntinlaw20.CallsTurned", spec := "callsTurned", unfollowed := true, recurses := true, apart := false, narrowed := true }
def CallsTurnedUptoSaid : Prop := callsTurnedUptoRow.holds Try.pinned (OpenSpec.upto callsTurnedSpec)

/-- 'muntinlaw17.LiveTells', WHERE WHAT IT READS IS OF BULK AT MOST 1048576: true; the input reads as it did. -/
def liveTellsUptoRow : OpenClaim := { program := "yteeekjidkjdpjaa", sum := "b03da97cf20192b9681e9c79aa467a3597d09304d6e086ee35dd0bf821ab0ff4", func := "muntin/muntinlaw17.LiveTells", spec := "liveTells", inPlace := ["maps.clone"], unfollowed := true, recurses := true, apart := false, narrowed := true }
def LiveTellsUptoSaid : Prop := liveTellsUptoRow.holds Try.pinned (OpenSpec.upto liveTellsSpec)

/-- 'muntinlaw17.LiveArgs', WHERE WHAT IT READS IS OF BULK AT MOST 1048576: true; the input reads as it did. -/
def liveArgsUptoRow : OpenClaim := { program := "yteeekjidkjdpjaa", sum := "b03da97cf20192b9681e9c79aa467a3597d09304d6e086ee35dd0bf821ab0ff4", func := "muntin/muntinlaw17.LiveArgs", spec := "liveArgs", inPlace := ["maps.clone"], unfollowed := true, recurses := true, apart := false, narrowed := true }
def LiveArgsUptoSaid : Prop := liveArgsUptoRow.holds Try.pinned (OpenSpec.upto liveArgsSpec)

/-- 'muntinlaw17.LiveMore', WHERE WHAT IT READS IS OF BULK AT MOST 1048576: true; the input reads as it did. -/
def liveMoreUptoRow : OpenClaim := { program := "yteeekjidkjdpjaa", sum := "b03da97cf20192b9681e9c79aa467a3597d09304d6e086ee35dd0bf821ab0ff4", func := "muntin/muntinlaw17.LiveMore", spec := "liveMore", inPlace := ["maps.clone"], unfollowed := true, recurses := true, apart := false, narrowed := true }
def LiveMoreUptoSaid : Prop := liveMoreUptoRow.holds Try.pinned (OpenSpec.upto liveMoreSpec)

/-- 'muntinlaw17.LiveCuts', WHERE WHAT IT READS IS OF BULK AT MOST 1048576: true; the input reads as it did. -/
def liveCutsUptoRow : OpenClaim := { program := "yteeekjidkjdpjaa", sum := "b03da97cf20192b9681e9c79aa467a3597d09304d6e086ee35dd0bf821ab0ff4", func := "muntin/muntinlaw17.LiveCuts", spec := "liveCuts", inPlace := ["maps.clone"], unfollowed := true, recurses := true, apart := false, narrowed := true }
def LiveCutsUptoSaid : Prop := liveCutsUptoRow.holds Try.pinned (OpenSpec.upto liveCutsSpec)

/-- 'muntinlaw17.LiveSteps', WHERE WHAT IT READS IS OF BULK AT MOST 1048576: true; the input reads as it did. -/
def liveStepsUptoRow : OpenClaim := { program := "yteeekjidkjdpjaa", sum := "b03da97cf20192b9681e9c79aa467a3597d09304d6e086ee35dd0bf821ab0ff4", func := "muntin/muntinlaw17.LiveSteps", spec := "liveSteps", inPlace := ["maps.clone"], unfollowed := true, recurses := true, apart := false, narrowed := true }
def LiveStepsUptoSaid : Prop := liveStepsUptoRow.holds Try.pinned (OpenSpec.upto liveStepsSpec)

end Rows
end Go.Proofs.Yteeekjidkjdpjaa
