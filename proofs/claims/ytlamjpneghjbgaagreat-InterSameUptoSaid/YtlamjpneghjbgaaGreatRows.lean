/-
  No cell of these rows narrows 'for every input' (looked for: loops, veiled, ifaces, maps, wideKeys, modest, calm, conditions, laid).
  DERIVED. THE GIVEN ROWS OF THIS SEAT. 5 by the template 'for every input the law returns true; each argument reads behind the call as it read before'; 0 by the template 'total and deterministic' (their statements: YtlamjpneghjbgaaGreatTotals.lean).
  GIVEN WITH THE SEED: the statements are not yours to turn. If you find one false, say at which input.
  Laid BY PROGRAM, IN A SANDBOX (cutbox-rows.mjs): the forced cells as the released guide's own fill.sh prints them over the translation 69e6115d5cbfe566… (all of the seat's roots in one cut). By AI agents, Wed Nov 11 2026. No macro, syntax, notation, axiom, sorry.
-/
import Derived.Test.YtlamjpneghjbgaaGreatChecked
import GoSem.Claim
import GoSem.ClaimJoined
import GoSem.ClaimMapViews
import Derived.JoinedTies
import Derived.KernelRfl
namespace Go.Proofs.YtlamjpneghjbgaaGreat
/- THE CELL 'sum', in the pinned program and in every row, IS THE sha256 OF THE DUMP (.gsa) THAT YtlamjpneghjbgaaGreatProg.lean LOADS. Nothing in Lean hashes anything: it is a label: what it is worth is what the hold of that sum in a sandbox is worth. -/
noncomputable def Tryz.pinned : Pinned := { name := "ytlamjpneghjbgaagreat", sum := "69e6115d5cbfe566f09c25660f40b7418ec3139acc70b46a7cfba220c9dddd22", checked := Tryz.checked }
namespace Rows
def none {H : Type} : Left H := { results := [], args := [] }

/-- 'muntinlaw20.CallsStand': WHATEVER THE INPUT: true; the input reads as it did. -/
def callsStandSpec : ChangeSpec := { name := "callsStand", fn := fun _ => fun
  | [d1, d2] => { results := [.lit (.bool true)], args := [d1, d2] }
  | _ => none }
def callsStandRow : OpenClaim := { program := "ytlamjpneghjbgaagreat", sum := "69e6115d5cbfe566f09c25660f40b7418ec3139acc70b46a7cfba220c9dddd22", func := "muntin/muntinlaw20.CallsStand", spec := "callsStand", unfollowed := true, recurses := true, plainKeys := false, apart := false }
def CallsStandSaid : Prop := callsStandRow.holds Tryz.pinned (OpenSpec.ofChange callsStandSpec)

/-- ITS FALSE NEIGHBOUR: 'it returns false'. Refute it at one input. -/
def callsStandWrong : ChangeSpec := { name := "callsStand", fn := fun _ => fun
  | [d1, d2] => { results := [.lit (.bool false)], args := [d1, d2] }
  | _ => none }
def CallsStandWrongFalsely : Prop := callsStandRow.holds Tryz.pinned (OpenSpec.ofChange callsStandWrong)

/-- 'muntinlaw30.TidyIdle': WHATEVER THE INPUT: true; the input reads as it did. -/
def tidyIdleSpec : ChangeSpec := { name := "tidyIdle", fn := fun _ => fun
  | [d1, d2, d3] => { results := [.lit (.bool true)], args := [d1, d2, d3] }
  | _ => none }
def tidyIdleRow : OpenClaim := { program := "ytlamjpneghjbgaagreat", sum := "69e6115d5cbfe566f09c25660f40b7418ec3139acc70b46a7cfba220c9dddd22", func := "muntin/muntinlaw30.TidyIdle", spec := "tidyIdle", inPlace := ["maps.clone"], unfollowed := true, recurses := true, plainKeys := false, apart := false }
def TidyIdleSaid : Prop := tidyIdleRow.holds Tryz.pinned (OpenSpec.ofChange tidyIdleSpec)

/-- ITS FALSE NEIGHBOUR: 'it returns false'. Refute it at one input. -/
def tidyIdleWrong : ChangeSpec := { name := "tidyIdle", fn := fun _ => fun
  | [d1, d2, d3] => { results := [.lit (.bool false)], args := [d1, d2, d3] }
  | _ => none }
def TidyIdleWrongFalsely : Prop := tidyIdleRow.holds Tryz.pinned (OpenSpec.ofChange tidyIdleWrong)

/-- 'muntinlaw30.TidyMay': WHATEVER THE INPUT: true; the input reads as it did. -/
def tidyMaySpec : ChangeSpec := { name := "tidyMay", fn := fun _ => fun
  | [d] => { results := [.lit (.bool true)], args := [d] }
  | _ => none }
def tidyMayRow : OpenClaim := { program := "ytlamjpneghjbgaagreat", sum := "69e6115d5cbfe566f09c25660f40b7418ec3139acc70b46a7cfba220c9dddd22", func := "muntin/muntinlaw30.TidyMay", spec := "tidyMay", inPlace := ["maps.clone"], unfollowed := true, recurses := true, plainKeys := false, apart := false }
def TidyMaySaid : Prop := tidyMayRow.holds Tryz.pinned (OpenSpec.ofChange tidyMaySpec)

/-- ITS FALSE NEIGHBOUR: 'it returns false'. Refute it at one input. -/
def tidyMayWrong : ChangeSpec := { name := "tidyMay", fn := fun _ => fun
  | [d] => { results := [.lit (.bool false)], args := [d] }
  | _ => none }
def TidyMayWrongFalsely : Prop := tidyMayRow.holds Tryz.pinned (OpenSpec.ofChange tidyMayWrong)

/-- 'muntinlaw30.TidyRuns': WHATEVER THE INPUT: true; the input reads as it did. -/
def tidyRunsSpec : ChangeSpec := { name := "tidyRuns", fn := fun _ => fun
  | [d1, d2, d3] => { results := [.lit (.bool true)], args := [d1, d2, d3] }
  | _ => none }
def tidyRunsRow : OpenClaim := { program := "ytlamjpneghjbgaagreat", sum := "69e6115d5cbfe566f09c25660f40b7418ec3139acc70b46a7cfba220c9dddd22", func := "muntin/muntinlaw30.TidyRuns", spec := "tidyRuns", inPlace := ["maps.clone"], unfollowed := true, recurses := true, plainKeys := false, apart := false }
def TidyRunsSaid : Prop := tidyRunsRow.holds Tryz.pinned (OpenSpec.ofChange tidyRunsSpec)

/-- ITS FALSE NEIGHBOUR: 'it returns false'. Refute it at one input. -/
def tidyRunsWrong : ChangeSpec := { name := "tidyRuns", fn := fun _ => fun
  | [d1, d2, d3] => { results := [.lit (.bool false)], args := [d1, d2, d3] }
  | _ => none }
def TidyRunsWrongFalsely : Prop := tidyRunsRow.holds Tryz.pinned (OpenSpec.ofChange tidyRunsWrong)

/-- 'muntinlaw18.InterSame': WHATEVER THE INPUT: true; the input reads as it did. -/
def interSameSpec : ChangeSpec := { name := "interSame", fn := fun _ => fun
  | [d1, d2] => { results := [.lit (.bool true)], args := [d1, d2] }
  | _ => none }
def interSameRow : OpenClaim := { program := "ytlamjpneghjbgaagreat", sum := "69e6115d5cbfe566f09c25660f40b7418ec3139acc70b46a7cfba220c9dddd22", func := "muntin/muntinlaw18.InterSame", spec := "interSame", inPlace := ["maps.clone"], unfollowed := true, recurses := true, plainKeys := false, apart := false }
def InterSameSaid : Prop := interSameRow.holds Tryz.pinned (OpenSpec.ofChange interSameSpec)

/-- ITS FALSE NEIGHBOUR: 'it returns false'. Refute it at one input. -/
def interSameWrong : ChangeSpec := { name := "interSame", fn := fun _ => fun
  | [d1, d2] => { results := [.lit (.bool false)], args := [d1, d2] }
  | _ => none }
def InterSameWrongFalsely : Prop := interSameRow.holds Tryz.pinned (OpenSpec.ofChange interSameWrong)

/- THE SECOND FORM. 'bulk': how many values and letters a reading holds, each counted each time it is reached (what is shared counts as often as it is met; a slice's spare places count too). A statement '..UptoSaid' is the law's where the arguments, and the package variables that the reading takes, are together of bulk at most 1048576: NARROWER than '..Said'. Prove '..Said' where nothing that the law and all that it calls make is longer than what came in: it says more and counts as full. Else prove '..UptoSaid'. A law counts once. -/
mutual
def uptoBulk {H : Type} : DataW H → Nat
  | .lit (.string bytes) => bytes.length + 1
  | .lit _ => 1
  | .nil => 1
  | .ptr d => uptoBulk d + 1
  | .slice elems spare => uptoBulkAll elems + uptoBulkAll spare + 1
  | .agg parts => uptoBulkAll parts + 1
  | .iface _ d => uptoBulk d + 1
  | .map entries => uptoBulkEntries entries + 1
  | .held _ => 1
def uptoBulkAll {H : Type} : List (DataW H) → Nat
  | [] => 0
  | d :: r => uptoBulk d + uptoBulkAll r
def uptoBulkEntries {H : Type} : List (Lit × DataW H) → Nat
  | [] => 0
  | x :: r => uptoBulkEntry x + uptoBulkEntries r
def uptoBulkEntry {H : Type} : Lit × DataW H → Nat
  | (.string bytes, d) => bytes.length + uptoBulk d + 1
  | (_, d) => uptoBulk d + 1
 end
def uptoSmall : (H : Type) → List (DataW H) → Bool := fun _ ds => decide (uptoBulkAll ds ≤ 1048576)
def OpenSpec.upto (s : _root_.Go.ChangeSpec) : _root_.Go.OpenSpec := { _root_.Go.OpenSpec.ofChange s with cond := some uptoSmall }

/-- 'muntinlaw20.CallsStand', WHERE WHAT IT READS IS OF BULK AT MOST 1048576: true; the input reads as it did. -/
def callsStandUptoRow : OpenClaim := { program := "ytlamjpneghjbgaagreat", sum := "69e6115d5cbfe566f09c25660f40b7418ec3139acc70b46a7cfba220c9dddd22", func := "muntin/muntinlaw20.CallsStand", spec := "callsStand", unfollowed := true, recurses := true, plainKeys := false, apart := false, narrowed := true }
def CallsStandUptoSaid : Prop := callsStandUptoRow.holds Tryz.pinned (OpenSpec.upto callsStandSpec)

/-- 'muntinlaw30.TidyIdle', WHERE WHAT IT READS IS OF BULK AT MOST 1048576: true; the input reads as it did. -/
def tidyIdleUptoRow : OpenClaim := { program := "ytlamjpneghjbgaagreat", sum := "69e6115d5cbfe566f09c25660f40b7418ec3139acc70b46a7cfba220c9dddd22", func := "muntin/muntinlaw30.TidyIdle", spec := "tidyIdle", inPlace := ["maps.clone"], unfollowed := true, recurses := true, plainKeys := false, apart := false, narrowed := true }
def TidyIdleUptoSaid : Prop := tidyIdleUptoRow.holds Tryz.pinned (OpenSpec.upto tidyIdleSpec)

/-- 'muntinlaw30.TidyMay', WHERE WHAT IT READS IS OF BULK AT MOST 1048576: true; the input reads as it did. -/
def tidyMayUptoRow : OpenClaim := { program := "ytlamjpneghjbgaagreat", sum := "69e6115d5cbfe566f09c25660f40b7418ec3139acc70b46a7cfba220c9dddd22", func := "muntin/muntinlaw30.TidyMay", spec := "tidyMay", inPlace := ["maps.clone"], unfollowed := true, recurses := true, plainKeys := false, apart := false, narrowed := true }
def TidyMayUptoSaid : Prop := tidyMayUptoRow.holds Tryz.pinned (OpenSpec.upto tidyMaySpec)

/-- 'muntinlaw30.TidyRuns', WHERE WHAT IT READS IS OF BULK AT MOST 1048576: true; the input reads as it did. -/
def tidyRunsUptoRow : OpenClaim := { program := "ytlamjpneghjbgaagreat", sum := "69e6115d5cbfe566f09c25660f40b7418ec3139acc70b46a7cfba220c9dddd22", func := "muntin/muntinlaw30.TidyRuns", spec := "tidyRuns", inPlace := ["maps.clone"], unfollowed := true, recurses := true, plainKeys := false, apart := false, narrowed := true }
def TidyRunsUptoSaid : Prop := tidyRunsUptoRow.holds Tryz.pinned (OpenSpec.upto tidyRunsSpec)

/-- 'muntinlaw18.InterSame', WHERE WHAT IT READS IS OF BULK AT MOST 1048576: true; the input reads as it did. -/
def interSameUptoRow : OpenClaim := { program := "ytlamjpneghjbgaagreat", sum := "69e6115d5cbfe566f09c25660f40b7418ec3139acc70b46a7cfba220c9dddd22", func := "muntin/muntinlaw18.InterSame", spec := "interSame", inPlace := ["maps.clone"], unfollowed := true, recurses := true, plainKeys := false, apart := false, narrowed := true }
def InterSameUptoSaid : Prop := interSameUptoRow.holds Tryz.pinned (OpenSpec.upto interSameSpec)

end Rows
end Go.Proofs.YtlamjpneghjbgaaGreat
