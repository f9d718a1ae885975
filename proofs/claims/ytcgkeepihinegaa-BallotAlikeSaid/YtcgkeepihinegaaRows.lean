/-
  No cell of these rows narrows 'for every input' (looked for: loops, veiled, ifaces, maps, wideKeys, modest, calm, conditions, laid).
  DERIVED. THE GIVEN ROWS OF THIS SEAT. 5 by the template 'for every input the law returns true; each argument reads behind the call as it read before'; 0 by the template 'total and deterministic' (their statements: YtcgkeepihinegaaTotals.lean).
  GIVEN WITH THE SEED: the statements are not yours to turn. If you find one false, say at which input.
  Laid BY PROGRAM, IN A SANDBOX (cutbox-rows.mjs): the forced cells as the released guide's own fill.sh prints them over the translation c5e2248f3213c955… (all of the seat's roots in one cut). By AI agents, Wed Nov 11 2026. No macro, syntax, notation, axiom, sorry.
-/
import Derived.Test.YtcgkeepihinegaaChecked
import GoSem.Claim
import GoSem.ClaimJoined
import GoSem.ClaimMapViews
import Derived.JoinedTies
import Derived.KernelRfl
namespace Go.Proofs.Ytcgkeepihinegaa
/- THE CELL 'sum', in the pinned program and in every row, IS THE sha256 OF THE DUMP (.gsa) THAT YtcgkeepihinegaaProg.lean LOADS. Nothing in Lean hashes anything: it is a label: what it is worth is what the hold of that sum in a sandbox is worth. -/
noncomputable def Try.pinned : Pinned := { name := "ytcgkeepihinegaa", sum := "c5e2248f3213c955a08b24f420c4900165e0fa53e651da7c96dee29836f1fd2c", checked := Try.checked }
namespace Rows
def none {H : Type} : Left H := { results := [], args := [] }

/-- 'chantrylaw12.BallotPuts': WHATEVER THE INPUT: true; the input reads as it did. -/
def ballotPutsSpec : ChangeSpec := { name := "ballotPuts", fn := fun _ => fun
  | [d1, d2] => { results := [.lit (.bool true)], args := [d1, d2] }
  | _ => none }
def ballotPutsRow : OpenClaim := { program := "ytcgkeepihinegaa", sum := "c5e2248f3213c955a08b24f420c4900165e0fa53e651da7c96dee29836f1fd2c", func := "chantry/chantrylaw12.BallotPuts", spec := "ballotPuts", inPlace := ["slices.overlaps[chantry/ballot.Cast]"], unfollowed := true, recurses := true, apart := false }
def BallotPutsSaid : Prop := ballotPutsRow.holds Try.pinned (OpenSpec.ofChange ballotPutsSpec)

/-- ITS FALSE NEIGHBOUR: 'it returns false'. Refute it at one input. -/
def ballotPutsWrong : ChangeSpec := { name := "ballotPuts", fn := fun _ => fun
  | [d1, d2] => { results := [.lit (.bool false)], args := [d1, d2] }
  | _ => none }
def BallotPutsWrongFalsely : Prop := ballotPutsRow.holds Try.pinned (OpenSpec.ofChange ballotPutsWrong)

/-- 'chantrylaw12.BallotRow': WHATEVER THE INPUT: true; the input reads as it did. -/
def ballotRowSpec : ChangeSpec := { name := "ballotRow", fn := fun _ => fun
  | [d1, d2] => { results := [.lit (.bool true)], args := [d1, d2] }
  | _ => none }
def ballotRowRow : OpenClaim := { program := "ytcgkeepihinegaa", sum := "c5e2248f3213c955a08b24f420c4900165e0fa53e651da7c96dee29836f1fd2c", func := "chantry/chantrylaw12.BallotRow", spec := "ballotRow", inPlace := ["slices.overlaps[chantry/ballot.Cast]"], unfollowed := true, recurses := true, apart := false }
def BallotRowSaid : Prop := ballotRowRow.holds Try.pinned (OpenSpec.ofChange ballotRowSpec)

/-- ITS FALSE NEIGHBOUR: 'it returns false'. Refute it at one input. -/
def ballotRowWrong : ChangeSpec := { name := "ballotRow", fn := fun _ => fun
  | [d1, d2] => { results := [.lit (.bool false)], args := [d1, d2] }
  | _ => none }
def BallotRowWrongFalsely : Prop := ballotRowRow.holds Try.pinned (OpenSpec.ofChange ballotRowWrong)

/-- 'chantrylaw12.BallotOne': WHATEVER THE INPUT: true; the input reads as it did. -/
def ballotOneSpec : ChangeSpec := { name := "ballotOne", fn := fun _ => fun
  | [d1, d2] => { results := [.lit (.bool true)], args := [d1, d2] }
  | _ => none }
def ballotOneRow : OpenClaim := { program := "ytcgkeepihinegaa", sum := "c5e2248f3213c955a08b24f420c4900165e0fa53e651da7c96dee29836f1fd2c", func := "chantry/chantrylaw12.BallotOne", spec := "ballotOne", inPlace := ["slices.overlaps[chantry/ballot.Cast]"], unfollowed := true, recurses := true, apart := false }
def BallotOneSaid : Prop := ballotOneRow.holds Try.pinned (OpenSpec.ofChange ballotOneSpec)

/-- ITS FALSE NEIGHBOUR: 'it returns false'. Refute it at one input. -/
def ballotOneWrong : ChangeSpec := { name := "ballotOne", fn := fun _ => fun
  | [d1, d2] => { results := [.lit (.bool false)], args := [d1, d2] }
  | _ => none }
def BallotOneWrongFalsely : Prop := ballotOneRow.holds Try.pinned (OpenSpec.ofChange ballotOneWrong)

/-- 'chantrylaw12.BallotAlike': WHATEVER THE INPUT: true; the input reads as it did. -/
def ballotAlikeSpec : ChangeSpec := { name := "ballotAlike", fn := fun _ => fun
  | [d1, d2, d3] => { results := [.lit (.bool true)], args := [d1, d2, d3] }
  | _ => none }
def ballotAlikeRow : OpenClaim := { program := "ytcgkeepihinegaa", sum := "c5e2248f3213c955a08b24f420c4900165e0fa53e651da7c96dee29836f1fd2c", func := "chantry/chantrylaw12.BallotAlike", spec := "ballotAlike", inPlace := ["slices.overlaps[chantry/ballot.Cast]"], unfollowed := true, recurses := true, apart := false }
def BallotAlikeSaid : Prop := ballotAlikeRow.holds Try.pinned (OpenSpec.ofChange ballotAlikeSpec)

/-- ITS FALSE NEIGHBOUR: 'it returns false'. Refute it at one input. -/
def ballotAlikeWrong : ChangeSpec := { name := "ballotAlike", fn := fun _ => fun
  | [d1, d2, d3] => { results := [.lit (.bool false)], args := [d1, d2, d3] }
  | _ => none }
def BallotAlikeWrongFalsely : Prop := ballotAlikeRow.holds Try.pinned (OpenSpec.ofChange ballotAlikeWrong)

/-- 'chantrylaw12.BallotTwice': WHATEVER THE INPUT: true; the input reads as it did. -/
def ballotTwiceSpec : ChangeSpec := { name := "ballotTwice", fn := fun _ => fun
  | [d1, d2, d3] => { results := [.lit (.bool true)], args := [d1, d2, d3] }
  | _ => none }
def ballotTwiceRow : OpenClaim := { program := "ytcgkeepihinegaa", sum := "c5e2248f3213c955a08b24f420c4900165e0fa53e651da7c96dee29836f1fd2c", func := "chantry/chantrylaw12.BallotTwice", spec := "ballotTwice", inPlace := ["slices.overlaps[chantry/ballot.Cast]"], unfollowed := true, recurses := true, apart := false }
def BallotTwiceSaid : Prop := ballotTwiceRow.holds Try.pinned (OpenSpec.ofChange ballotTwiceSpec)

/-- ITS FALSE NEIGHBOUR: 'it returns false'. Refute it at one input. -/
def ballotTwiceWrong : ChangeSpec := { name := "ballotTwice", fn := fun _ => fun
  | [d1, d2, d3] => { results := [.lit (.bool false)], args := [d1, d2, d3] }
  | _ => none }
def BallotTwiceWrongFalsely : Prop := ballotTwiceRow.holds Try.pinned (OpenSpec.ofChange ballotTwiceWrong)

/- THE SECOND FORM. 'bulk': how many values and letters a reading holds, each counted each time it is reached (what is shared counts as often as it is met; a slice's spare places count too). A statement '..UptoSaid' is the law's where the arguments, and the package variables that the reading takes, are together of bulk at most 1048576: NARROWER than '..Said'. Prove '..Said' where nothing that the law and all that it calls make is longer than what came in: it says more and counts as full. Else prove '..UptoSaid'. A law counts once. -/
mutual
def uptoBulk {H : Type} : DataW H → Nat
  | .lit (.string bytes) => bytes.length + 1
  | .lit _ => 1
  | .nil => 1
  | .ptr d => uptoBulk d + 1
  | .slice elems spare => uptoBulkAll elems + uptoBulkAll spare + 1
  | .agg parts => uptoBulkAll parts + 1
  | .iface _ d => uptoBulk d + 1
  | .map entries => uptoBulkEntries entries + 1
  | .held _ => 1
def uptoBulkAll {H : Type} : List (DataW H) → Nat
  | [] => 0
  | d :: r => uptoBulk d + uptoBulkAll r
def uptoBulkEntries {H : Type} : List (Lit × DataW H) → Nat
  | [] => 0
  | x :: r => uptoBulkEntry x + uptoBulkEntries r
def uptoBulkEntry {H : Type} : Lit × DataW H → Nat
  | (.string bytes, d) => bytes.length + uptoBulk d + 1
  | (_, d) => uptoBulk d + 1
 end
def uptoSmall : (H : Type) → List (DataW H) → Bool := fun _ ds => decide (uptoBulkAll ds ≤ 1048576)
def OpenSpec.upto (s : _root_.Go.ChangeSpec) : _root_.Go.OpenSpec := { _root_.Go.OpenSpec.ofChange s with cond := some uptoSmall }

/-- 'chantrylaw12.BallotPuts', WHERE WHAT IT READS IS OF BULK AT MOST 1048576: true; the input reads as it did. -/
def ballotPutsUptoRow : OpenClaim := { program := "ytcgkeepihinegaa", sum := "c5e2248f3213c955a08b24f420c4900165e0fa53e651da7c96dee29836f1fd2c", func := "chantry/chantrylaw12.BallotPuts", spec := "ballotPuts", inPlace := ["slices.overlaps[chantry/ballot.Cast]"], unfollowed := true, recurses := true, apart := false, narrowed := true }
def BallotPutsUptoSaid : Prop := ballotPutsUptoRow.holds Try.pinned (OpenSpec.upto ballotPutsSpec)

/-- 'chantrylaw12.BallotRow', WHERE WHAT IT READS IS OF BULK AT MOST 1048576: true; the input reads as it did. -/
def ballotRowUptoRow : OpenClaim := { program := "ytcgkeepihinegaa", sum := "c5e2248f3213c955a08b24f420c4900165e0fa53e651da7c96dee29836f1fd2c", func := "chantry/chantrylaw12.BallotRow", spec := "ballotRow", inPlace := ["slices.overlaps[chantry/ballot.Cast]"], unfollowed := true, recurses := true, apart := false, narrowed := true }
def BallotRowUptoSaid : Prop := ballotRowUptoRow.holds Try.pinned (OpenSpec.upto ballotRowSpec)

/-- 'chantrylaw12.BallotOne', WHERE WHAT IT READS IS OF BULK AT MOST 1048576: true; the input reads as it did. -/
def ballotOneUptoRow : OpenClaim := { program := "ytcgkeepihinegaa", sum := "c5e2248f3213c955a08b24f420c4900165e0fa53e651da7c96dee29836f1fd2c", func := "chantry/chantrylaw12.BallotOne", spec := "ballotOne", inPlace := ["slices.overlaps[chantry/ballot.Cast]"], unfollowed := true, recurses := true, apart := false, narrowed := true }
def BallotOneUptoSaid : Prop := ballotOneUptoRow.holds Try.pinned (OpenSpec.upto ballotOneSpec)

/-- 'chantrylaw12.BallotAlike', WHERE WHAT IT READS IS OF BULK AT MOST 1048576: true; the input reads as it did. -/
def ballotAlikeUptoRow : OpenClaim := { program := "ytcgkeepihinegaa", sum := "c5e2248f3213c955a08b24f420c4900165e0fa53e651da7c96dee29836f1fd2c", func := "chantry/chantrylaw12.BallotAlike", spec := "ballotAlike", inPlace := ["slices.overlaps[chantry/ballot.Cast]"], unfollowed := true, recurses := true, apart := false, narrowed := true }
def BallotAlikeUptoSaid : Prop := ballotAlikeUptoRow.holds Try.pinned (OpenSpec.upto ballotAlikeSpec)

/-- 'chantrylaw12.BallotTwice', WHERE WHAT IT READS IS OF BULK AT MOST 1048576: true; the input reads as it did. -/
def ballotTwiceUptoRow : OpenClaim := { program := "ytcgkeepihinegaa", sum := "c5e2248f3213c955a08b24f420c4900165e0fa53e651da7c96dee29836f1fd2c", func := "chantry/chantrylaw12.BallotTwice", spec := "ballotTwice", inPlace := ["slices.overlaps[chantry/ballot.Cast]"], unfollowed := true, recurses := true, apart := false, narrowed := true }
def BallotTwiceUptoSaid : Prop := ballotTwiceUptoRow.holds Try.pinned (OpenSpec.upto ballotTwiceSpec)

end Rows
end Go.Proofs.Ytcgkeepihinegaa
