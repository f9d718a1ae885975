/-
  No cell of these rows narrows 'for every input' (looked for: loops, veiled, ifaces, maps, wideKeys, modest, calm, conditions, laid).
  DERIVED. THE GIVEN ROWS OF THIS SEAT. 5 by the template 'for every input the law returns true; each argument reads behind the call as it read before'; 0 by the template 'total and deterministic' (their statements: YtcmooifiiakbdaaTotals.lean).
  GIVEN WITH THE SEED: the statements are not yours to turn. If you find one false, say at which input.
  Laid BY PROGRAM, IN A SANDBOX (cutbox-rows.mjs): the forced cells as the released guide's own fill.sh prints them over the translation b9ffe61210a6361f… (all of the seat's roots in one cut). By AI agents, Wed Nov 11 2026. No macro, syntax, notation, axiom, sorry.
-/
import Derived.Test.YtcmooifiiakbdaaChecked
import GoSem.Claim
import GoSem.ClaimJoined
import GoSem.ClaimMapViews
import Derived.JoinedTies
import Derived.KernelRfl
namespace Go.Proofs.Ytcmooifiiakbdaa
/- THE CELL 'sum', in the pinned program and in every row, IS THE sha256 OF THE DUMP (.gsa) THAT YtcmooifiiakbdaaProg.lean LOADS. Nothing in Lean hashes anything: it is a label: what it is worth is what the hold of that sum in a sandbox is worth. -/
noncomputable def Try.pinned : Pinned := { name := "ytcmooifiiakbdaa", sum := "b9ffe61210a6361ff71d84bfec5bc3461c4b61e33dc0c7d9e6fd3e99df76f6b8", checked := Try.checked }
namespace Rows
def none {H : Type} : Left H := { results := [], args := [] }

/-- 'chantrylaw13.FlushPuts': WHATEVER THE INPUT: true; the input reads as it did. -/
def flushPutsSpec : ChangeSpec := { name := "flushPuts", fn := fun _ => fun
  | [d1, d2, d3] => { results := [.lit (.bool true)], args := [d1, d2, d3] }
  | _ => none }
def flushPutsRow : OpenClaim := { program := "ytcmooifiiakbdaa", sum := "b9ffe61210a6361ff71d84bfec5bc3461c4b61e33dc0c7d9e6fd3e99df76f6b8", func := "chantry/chantrylaw13.FlushPuts", spec := "flushPuts", inPlace := ["slices.overlaps[chantry/flush.Mark]"], unfollowed := true, recurses := true, apart := false }
def FlushPutsSaid : Prop := flushPutsRow.holds Try.pinned (OpenSpec.ofChange flushPutsSpec)

/-- ITS FALSE NEIGHBOUR: 'it returns false'. Refute it at one input. -/
def flushPutsWrong : ChangeSpec := { name := "flushPuts", fn := fun _ => fun
  | [d1, d2, d3] => { results := [.lit (.bool false)], args := [d1, d2, d3] }
  | _ => none }
def FlushPutsWrongFalsely : Prop := flushPutsRow.holds Try.pinned (OpenSpec.ofChange flushPutsWrong)

/-- 'chantrylaw13.FlushRow': WHATEVER THE INPUT: true; the input reads as it did. -/
def flushRowSpec : ChangeSpec := { name := "flushRow", fn := fun _ => fun
  | [d1, d2] => { results := [.lit (.bool true)], args := [d1, d2] }
  | _ => none }
def flushRowRow : OpenClaim := { program := "ytcmooifiiakbdaa", sum := "b9ffe61210a6361ff71d84bfec5bc3461c4b61e33dc0c7d9e6fd3e99df76f6b8", func := "chantry/chantrylaw13.FlushRow", spec := "flushRow", inPlace := ["slices.overlaps[chantry/flush.Mark]"], unfollowed := true, recurses := true, apart := false }
def FlushRowSaid : Prop := flushRowRow.holds Try.pinned (OpenSpec.ofChange flushRowSpec)

/-- ITS FALSE NEIGHBOUR: 'it returns false'. Refute it at one input. -/
def flushRowWrong : ChangeSpec := { name := "flushRow", fn := fun _ => fun
  | [d1, d2] => { results := [.lit (.bool false)], args := [d1, d2] }
  | _ => none }
def FlushRowWrongFalsely : Prop := flushRowRow.holds Try.pinned (OpenSpec.ofChange flushRowWrong)

/-- 'chantrylaw13.FlushAny': WHATEVER THE INPUT: true; the input reads as it did. -/
def flushAnySpec : ChangeSpec := { name := "flushAny", fn := fun _ => fun
  | [d1, d2, d3] => { results := [.lit (.bool true)], args := [d1, d2, d3] }
  | _ => none }
def flushAnyRow : OpenClaim := { program := "ytcmooifiiakbdaa", sum := "b9ffe61210a6361ff71d84bfec5bc3461c4b61e33dc0c7d9e6fd3e99df76f6b8", func := "chantry/chantrylaw13.FlushAny", spec := "flushAny", inPlace := ["slices.overlaps[chantry/flush.Mark]"], unfollowed := true, recurses := true, apart := false }
def FlushAnySaid : Prop := flushAnyRow.holds Try.pinned (OpenSpec.ofChange flushAnySpec)

/-- ITS FALSE NEIGHBOUR: 'it returns false'. Refute it at one input. -/
def flushAnyWrong : ChangeSpec := { name := "flushAny", fn := fun _ => fun
  | [d1, d2, d3] => { results := [.lit (.bool false)], args := [d1, d2, d3] }
  | _ => none }
def FlushAnyWrongFalsely : Prop := flushAnyRow.holds Try.pinned (OpenSpec.ofChange flushAnyWrong)

/-- 'chantrylaw13.FlushLate': WHATEVER THE INPUT: true; the input reads as it did. -/
def flushLateSpec : ChangeSpec := { name := "flushLate", fn := fun _ => fun
  | [d1, d2, d3] => { results := [.lit (.bool true)], args := [d1, d2, d3] }
  | _ => none }
def flushLateRow : OpenClaim := { program := "ytcmooifiiakbdaa", sum := "b9ffe61210a6361ff71d84bfec5bc3461c4b61e33dc0c7d9e6fd3e99df76f6b8", func := "chantry/chantrylaw13.FlushLate", spec := "flushLate", inPlace := ["slices.overlaps[chantry/flush.Mark]"], unfollowed := true, recurses := true, apart := false }
def FlushLateSaid : Prop := flushLateRow.holds Try.pinned (OpenSpec.ofChange flushLateSpec)

/-- ITS FALSE NEIGHBOUR: 'it returns false'. Refute it at one input. -/
def flushLateWrong : ChangeSpec := { name := "flushLate", fn := fun _ => fun
  | [d1, d2, d3] => { results := [.lit (.bool false)], args := [d1, d2, d3] }
  | _ => none }
def FlushLateWrongFalsely : Prop := flushLateRow.holds Try.pinned (OpenSpec.ofChange flushLateWrong)

/-- 'chantrylaw13.FlushOnce': WHATEVER THE INPUT: true; the input reads as it did. -/
def flushOnceSpec : ChangeSpec := { name := "flushOnce", fn := fun _ => fun
  | [d1, d2] => { results := [.lit (.bool true)], args := [d1, d2] }
  | _ => none }
def flushOnceRow : OpenClaim := { program := "ytcmooifiiakbdaa", sum := "b9ffe61210a6361ff71d84bfec5bc3461c4b61e33dc0c7d9e6fd3e99df76f6b8", func := "chantry/chantrylaw13.FlushOnce", spec := "flushOnce", inPlace := ["slices.overlaps[chantry/flush.Mark]"], unfollowed := true, recurses := true, apart := false }
def FlushOnceSaid : Prop := flushOnceRow.holds Try.pinned (OpenSpec.ofChange flushOnceSpec)

/-- ITS FALSE NEIGHBOUR: 'it returns false'. Refute it at one input. -/
def flushOnceWrong : ChangeSpec := { name := "flushOnce", fn := fun _ => fun
  | [d1, d2] => { results := [.lit (.bool false)], args := [d1, d2] }
  | _ => none }
def FlushOnceWrongFalsely : Prop := flushOnceRow.holds Try.pinned (OpenSpec.ofChange flushOnceWrong)

/- THE SECOND FORM. 'bulk': how many values and letters a reading holds, each counted each time it is reached (what is shared counts as often as it is met; a slice's spare places count too). A statement '..UptoSaid' is the law's where the arguments, and the package variables that the reading takes, are together of bulk at most 1048576: NARROWER than '..Said'. Prove '..Said' where nothing that the law and all that it calls make is longer than what came in: it says more and counts as full. Else prove '..UptoSaid'. A law counts once. -/
mutual
def uptoBulk {H : Type} : DataW H → Nat
  | .lit (.string bytes) => bytes.length + 1
  | .lit _ => 1
  | .nil => 1
  | .ptr d => uptoBulk d + 1
  | .slice elems spare => uptoBulkAll elems + uptoBulkAll spare + 1
  | .agg parts => uptoBulkAll parts + 1
  | .iface _ d => uptoBulk d + 1
  | .map entries => uptoBulkEntries entries + 1
  | .held _ => 1
def uptoBulkAll {H : Type} : List (DataW H) → Nat
  | [] => 0
  | d :: r => uptoBulk d + uptoBulkAll r
def uptoBulkEntries {H : Type} : List (Lit × DataW H) → Nat
  | [] => 0
  | x :: r => uptoBulkEntry x + uptoBulkEntries r
def uptoBulkEntry {H : Type} : Lit × DataW H → Nat
  | (.string bytes, d) => bytes.length + uptoBulk d + 1
  | (_, d) => uptoBulk d + 1
 end
def uptoSmall : (H : Type) → List (DataW H) → Bool := fun _ ds => decide (uptoBulkAll ds ≤ 1048576)
def OpenSpec.upto (s : _root_.Go.ChangeSpec) : _root_.Go.OpenSpec := { _root_.Go.OpenSpec.ofChange s with cond := some uptoSmall }

/-- 'chantrylaw13.FlushPuts', WHERE WHAT IT READS IS OF BULK AT MOST 1048576: true; the input reads as it did. -/
def flushPutsUptoRow : OpenClaim := { program := "ytcmooifiiakbdaa", sum := "b9ffe61210a6361ff71d84bfec5bc3461c4b61e33dc0c7d9e6fd3e99df76f6b8", func := "chantry/chantrylaw13.FlushPuts", spec := "flushPuts", inPlace := ["slices.overlaps[chantry/flush.Mark]"], unfollowed := true, recurses := true, apart := false, narrowed := true }
def FlushPutsUptoSaid : Prop := flushPutsUptoRow.holds Try.pinned (OpenSpec.upto flushPutsSpec)

/-- 'chantrylaw13.FlushRow', WHERE WHAT IT READS IS OF BULK AT MOST 1048576: true; the input reads as it did. -/
def flushRowUptoRow : OpenClaim := { program := "ytcmooifiiakbdaa", sum := "b9ffe61210a6361ff71d84bfec5bc3461c4b61e33dc0c7d9e6fd3e99df76f6b8", func := "chantry/chantrylaw13.FlushRow", spec := "flushRow", inPlace := ["slices.overlaps[chantry/flush.Mark]"], unfollowed := true, recurses := true, apart := false, narrowed := true }
def FlushRowUptoSaid : Prop := flushRowUptoRow.holds Try.pinned (OpenSpec.upto flushRowSpec)

/-- 'chantrylaw13.FlushAny', WHERE WHAT IT READS IS OF BULK AT MOST 1048576: true; the input reads as it did. -/
def flushAnyUptoRow : OpenClaim := { program := "ytcmooifiiakbdaa", sum := "b9ffe61210a6361ff71d84bfec5bc3461c4b61e33dc0c7d9e6fd3e99df76f6b8", func := "chantry/chantrylaw13.FlushAny", spec := "flushAny", inPlace := ["slices.overlaps[chantry/flush.Mark]"], unfollowed := true, recurses := true, apart := false, narrowed := true }
def FlushAnyUptoSaid : Prop := flushAnyUptoRow.holds Try.pinned (OpenSpec.upto flushAnySpec)

/-- 'chantrylaw13.FlushLate', WHERE WHAT IT READS IS OF BULK AT MOST 1048576: true; the input reads as it did. -/
def flushLateUptoRow : OpenClaim := { program := "ytcmooifiiakbdaa", sum := "b9ffe61210a6361ff71d84bfec5bc3461c4b61e33dc0c7d9e6fd3e99df76f6b8", func := "chantry/chantrylaw13.FlushLate", spec := "flushLate", inPlace := ["slices.overlaps[chantry/flush.Mark]"], unfollowed := true, recurses := true, apart := false, narrowed := true }
def FlushLateUptoSaid : Prop := flushLateUptoRow.holds Try.pinned (OpenSpec.upto flushLateSpec)

/-- 'chantrylaw13.FlushOnce', WHERE WHAT IT READS IS OF BULK AT MOST 1048576: true; the input reads as it did. -/
def flushOnceUptoRow : OpenClaim := { program := "ytcmooifiiakbdaa", sum := "b9ffe61210a6361ff71d84bfec5bc3461c4b61e33dc0c7d9e6fd3e99df76f6b8", func := "chantry/chantrylaw13.FlushOnce", spec := "flushOnce", inPlace := ["slices.overlaps[chantry/flush.Mark]"], unfollowed := true, recurses := true, apart := false, narrowed := true }
def FlushOnceUptoSaid : Prop := flushOnceUptoRow.holds Try.pinned (OpenSpec.upto flushOnceSpec)

end Rows
end Go.Proofs.Ytcmooifiiakbdaa
