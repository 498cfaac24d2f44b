/-
  No cell of these rows narrows 'for every input' (looked for: loops, veiled, ifaces, maps, wideKeys, modest, calm, conditions, laid).
  DERIVED. THE GIVEN ROWS OF THIS SEAT. 3 by the template 'for every input the law returns true; each argument reads behind the call as it read before'; 0 by the template 'total and deterministic' (their statements: YtpippebmbphhfaaGreatTotals.lean).
  GIVEN WITH THE SEED: the statements are not yours to turn. If you find one false, say at which input.
  Laid BY PROGRAM, IN A SANDBOX (cutbox-rows.mjs): the forced cells as the released guide's own fill.sh prints them over the translation 50fb17403f7d366b… (all of the seat's roots in one cut). By AI agents, Wed Nov 11 2026. No macro, syntax, notation, axiom, sorry.
-/
import Derived.Test.YtpippebmbphhfaaGreatChecked
import GoSem.Claim
import GoSem.ClaimJoined
import GoSem.ClaimMapViews
import Derived.JoinedTies
import Derived.KernelRfl
namespace Go.Proofs.YtpippebmbphhfaaGreat
/- THE CELL 'sum', in the pinned program and in every row, IS THE sha256 OF THE DUMP (.gsa) THAT YtpippebmbphhfaaGreatProg.lean LOADS. Nothing in Lean hashes anything: it is a label: what it is worth is what the hold of that sum in a sandbox is worth. -/
noncomputable def Tryz.pinned : Pinned := { name := "ytpippebmbphhfaagreat", sum := "50fb17403f7d366b0982182dcb70cde1bec52461076eb4ad92aff42d0223df0a", checked := Tryz.checked }
namespace Rows
def none {H : Type} : Left H := { results := [], args := [] }

/-- 'muntinlaw18.InterTells': WHATEVER THE INPUT: true; the input reads as it did. -/
def interTellsSpec : ChangeSpec := { name := "interTells", fn := fun _ => fun
  | [d1, d2] => { results := [.lit (.bool true)], args := [d1, d2] }
  | _ => none }
def interTellsRow : OpenClaim := { program := "ytpippebmbphhfaagreat", sum := "50fb17403f7d366b0982182dcb70cde1bec52461076eb4ad92aff42d0223df0a", func := "muntin/muntinlaw18.InterTells", spec := "interTells", inPlace := ["maps.clone"], unfollowed := true, recurses := true, plainKeys := false, apart := false }
def InterTellsSaid : Prop := interTellsRow.holds Tryz.pinned (OpenSpec.ofChange interTellsSpec)

/-- ITS FALSE NEIGHBOUR: 'it returns false'. Refute it at one input. -/
def interTellsWrong : ChangeSpec := { name := "interTells", fn := fun _ => fun
  | [d1, d2] => { results := [.lit (.bool false)], args := [d1, d2] }
  | _ => none }
def InterTellsWrongFalsely : Prop := interTellsRow.holds Tryz.pinned (OpenSpec.ofChange interTellsWrong)

/-- 'muntinlaw18.InterSame': WHATEVER THE INPUT: true; the input reads as it did. -/
def interSameSpec : ChangeSpec := { name := "interSame", fn := fun _ => fun
  | [d1, d2] => { results := [.lit (.bool true)], args := [d1, d2] }
  | _ => none }
def interSameRow : OpenClaim := { program := "ytpippebmbphhfaagreat", sum := "50fb17403f7d366b0982182dcb70cde1bec52461076eb4ad92aff42d0223df0a", func := "muntin/muntinlaw18.InterSame", spec := "interSame", inPlace := ["maps.clone"], unfollowed := true, recurses := true, plainKeys := false, apart := false }
def InterSameSaid : Prop := interSameRow.holds Tryz.pinned (OpenSpec.ofChange interSameSpec)

/-- ITS FALSE NEIGHBOUR: 'it returns false'. Refute it at one input. -/
def interSameWrong : ChangeSpec := { name := "interSame", fn := fun _ => fun
  | [d1, d2] => { results := [.lit (.bool false)], args := [d1, d2] }
  | _ => none }
def InterSameWrongFalsely : Prop := interSameRow.holds Tryz.pinned (OpenSpec.ofChange interSameWrong)

/-- 'muntinlaw20.CallsStand': WHATEVER THE INPUT: true; the input reads as it did. -/
def callsStandSpec : ChangeSpec := { name := "callsStand", fn := fun _ => fun
  | [d1, d2] => { results := [.lit (.bool true)], args := [d1, d2] }
  | _ => none }
def callsStandRow : OpenClaim := { program := "ytpippebmbphhfaagreat", sum := "50fb17403f7d366b0982182dcb70cde1bec52461076eb4ad92aff42d0223df0a", func := "muntin/muntinlaw20.CallsStand", spec := "callsStand", unfollowed := true, recurses := true, plainKeys := false, apart := false }
def CallsStandSaid : Prop := callsStandRow.holds Tryz.pinned (OpenSpec.ofChange callsStandSpec)

/-- ITS FALSE NEIGHBOUR: 'it returns false'. Refute it at one input. -/
def callsStandWrong : ChangeSpec := { name := "callsStand", fn := fun _ => fun
  | [d1, d2] => { results := [.lit (.bool false)], args := [d1, d2] }
  | _ => none }
def CallsStandWrongFalsely : Prop := callsStandRow.holds Tryz.pinned (OpenSpec.ofChange callsStandWrong)

/- THE SECOND FORM. 'bulk': how many values and letters a reading holds, each counted each time it is reached (what is shared counts as often as it is met; a slice's spare places count too). A statement '..UptoSaid' is the law's where the arguments, and the package variables that the reading takes, are together of bulk at most 1048576: NARROWER than '..Said'. Prove '..Said' where nothing that the law and all that it calls make is longer than what came in: it says more and counts as full. Else prove '..UptoSaid'. A law counts once. -/
mutual
def uptoBulk {H : Type} : DataW H → Nat
  | .lit (.string bytes) => bytes.length + 1
  | .lit _ => 1
  | .nil => 1
  | .ptr d => uptoBulk d + 1
  | .slice elems spare => uptoBulkAll elems + uptoBulkAll spare + 1
  | .agg parts => uptoBulkAll parts + 1
  | .iface _ d => uptoBulk d + 1
  | .map entries => uptoBulkEntries entries + 1
  | .held _ => 1
def uptoBulkAll {H : Type} : List (DataW H) → Nat
  | [] => 0
  | d :: r => uptoBulk d + uptoBulkAll r
def uptoBulkEntries {H : Type} : List (Lit × DataW H) → Nat
  | [] => 0
  | x :: r => uptoBulkEntry x + uptoBulkEntries r
def uptoBulkEntry {H : Type} : Lit × DataW H → Nat
  | (.string bytes, d) => bytes.length + uptoBulk d + 1
  | (_, d) => uptoBulk d + 1
 end
def uptoSmall : (H : Type) → List (DataW H) → Bool := fun _ ds => decide (uptoBulkAll ds ≤ 1048576)
def OpenSpec.upto (s : _root_.Go.ChangeSpec) : _root_.Go.OpenSpec := { _root_.Go.OpenSpec.ofChange s with cond := some uptoSmall }

/-- 'muntinlaw18.InterTells', WHERE WHAT IT READS IS OF BULK AT MOST 1048576: true; the input reads as it did. -/
def interTellsUptoRow : OpenClaim := { program := "ytpippebmbphhfaagreat", sum := "50fb17403f7d366b0982182dcb70cde1bec52461076eb4ad92aff42d0223df0a", func := "muntin/muntinlaw18.InterTells", spec := "interTells", inPlace := ["maps.clone"], unfollowed := true, recurses := true, plainKeys := false, apart := false, narrowed := true }
def InterTellsUptoSaid : Prop := interTellsUptoRow.holds Tryz.pinned (OpenSpec.upto interTellsSpec)

/-- 'muntinlaw18.InterSame', WHERE WHAT IT READS IS OF BULK AT MOST 1048576: true; the input reads as it did. -/
def interSameUptoRow : OpenClaim := { program := "ytpippebmbphhfaagreat", sum := "50fb17403f7d366b0982182dcb70cde1bec52461076eb4ad92aff42d0223df0a", func := "muntin/muntinlaw18.InterSame", spec := "interSame", inPlace := ["maps.clone"], unfollowed := true, recurses := true, plainKeys := false, apart := false, narrowed := true }
def InterSameUptoSaid : Prop := interSameUptoRow.holds Tryz.pinned (OpenSpec.upto interSameSpec)

/-- 'muntinlaw20.CallsStand', WHERE WHAT IT READS IS OF BULK AT MOST 1048576: true; the input reads as it did. -/
def callsStandUptoRow : OpenClaim := { program := "ytpippebmbphhfaagreat", sum := "50fb17403f7d366b0982182dcb70cde1bec52461076eb4ad92aff42d0223df0a", func := "muntin/muntinlaw20.CallsStand", spec := "callsStand", unfollowed := true, recurses := true, plainKeys := false, apart := false, narrowed := true }
def CallsStandUptoSaid : Prop := callsStandUptoRow.holds Tryz.pinned (OpenSpec.upto callsStandSpec)

end Rows
end Go.Proofs.YtpippebmbphhfaaGreat
