/-
  DERIVED. GIVEN WITH THE SEED: THE CARDS: each row of YteogjiadmgbmbaaDoorRows.lean that lists a variable, with what it lists TIED to the program's text (the seventh form; the later family's looks); each row that meets fmt, with fmt's text TOLD by the authors' own Lean function (tested against real Go, not proved from fmt's source: count such statements apart). THE CARD IS WHAT COUNTS. Prove the row's statement (the work); the ties are given (YteogjiadmgbmbaaDoorTie.lean); close each card by the builder's one call (the guide's Derived/Test/ToyasCard.lean, 'card_holds'). Laid BY PROGRAM, IN A SANDBOX (cutbox-door.mjs). By AI agents, Wed Nov 11 2026. No macro, syntax, notation, axiom, sorry.
-/
import Derived.Test.YteogjiadmgbmbaaDoorRows
import GoSem.ClaimSeven
namespace Go.Proofs.YteogjiadmgbmbaaDoor
namespace Rows

/-- THE TIED CARD OF 'chantrylaw11.RollApplies'. -/
def rollAppliesCard : Claim7 := { stood := { row := rollAppliesRow, standIns := [], harness := (true, "b0ff595f293ee64b5f1ba89c943995ecb60e3051a8d4021670cde0ea9c9faf80"), looks := true }, kinds := [], alts := [], laidByText := true, laidKinds := [.data, .data, .data, .sentinel, .sentinel], laidTests := true, laidLooks := .later }
def RollAppliesCardSaid : Prop := Claim7.holds Tryd.pinned (.plain (OpenSpec.ofChange rollAppliesSpec)) rollAppliesCard

/-- THE TIED CARD OF 'chantrylaw11.RollTexts'. -/
def rollTextsCard : Claim7 := { stood := { row := rollTextsRow, standIns := [], harness := (true, "b0ff595f293ee64b5f1ba89c943995ecb60e3051a8d4021670cde0ea9c9faf80"), looks := true }, kinds := [], alts := [], laidByText := true, laidKinds := [.data, .data, .data, .sentinel, .sentinel], laidTests := true, laidLooks := .later }
def RollTextsCardSaid : Prop := Claim7.holds Tryd.pinned (.plain (OpenSpec.ofChange rollTextsSpec)) rollTextsCard

/-- THE TIED CARD OF 'chantrylaw11.RollMembers'. -/
def rollMembersCard : Claim7 := { stood := { row := rollMembersRow, standIns := [], harness := (true, "b0ff595f293ee64b5f1ba89c943995ecb60e3051a8d4021670cde0ea9c9faf80"), looks := true }, kinds := [], alts := [], laidByText := true, laidKinds := [.data, .data, .data, .sentinel, .sentinel], laidTests := true, laidLooks := .later }
def RollMembersCardSaid : Prop := Claim7.holds Tryd.pinned (.plain (OpenSpec.ofChange rollMembersSpec)) rollMembersCard

/-- THE SECOND FORM's CARD OF 'chantrylaw11.RollApplies'. -/
def rollAppliesUptoCard : Claim7 := { stood := { row := rollAppliesUptoRow, standIns := [], harness := (true, "b0ff595f293ee64b5f1ba89c943995ecb60e3051a8d4021670cde0ea9c9faf80"), looks := true }, kinds := [], alts := [], laidByText := true, laidKinds := [.data, .data, .data, .sentinel, .sentinel], laidTests := true, laidLooks := .later }
def RollAppliesUptoCardSaid : Prop := Claim7.holds Tryd.pinned (.plain (OpenSpec.upto rollAppliesSpec)) rollAppliesUptoCard

/-- THE SECOND FORM's CARD OF 'chantrylaw11.RollTexts'. -/
def rollTextsUptoCard : Claim7 := { stood := { row := rollTextsUptoRow, standIns := [], harness := (true, "b0ff595f293ee64b5f1ba89c943995ecb60e3051a8d4021670cde0ea9c9faf80"), looks := true }, kinds := [], alts := [], laidByText := true, laidKinds := [.data, .data, .data, .sentinel, .sentinel], laidTests := true, laidLooks := .later }
def RollTextsUptoCardSaid : Prop := Claim7.holds Tryd.pinned (.plain (OpenSpec.upto rollTextsSpec)) rollTextsUptoCard

/-- THE SECOND FORM's CARD OF 'chantrylaw11.RollMembers'. -/
def rollMembersUptoCard : Claim7 := { stood := { row := rollMembersUptoRow, standIns := [], harness := (true, "b0ff595f293ee64b5f1ba89c943995ecb60e3051a8d4021670cde0ea9c9faf80"), looks := true }, kinds := [], alts := [], laidByText := true, laidKinds := [.data, .data, .data, .sentinel, .sentinel], laidTests := true, laidLooks := .later }
def RollMembersUptoCardSaid : Prop := Claim7.holds Tryd.pinned (.plain (OpenSpec.upto rollMembersSpec)) rollMembersUptoCard
end Rows
end Go.Proofs.YteogjiadmgbmbaaDoor
