/-
  DERIVED. GIVEN WITH THE SEED: THE CARDS: each row of YtfeohgeipcjbnaaDoorRows.lean that lists a variable, with what it lists TIED to the program's text (the seventh form; the later family's looks); each row that meets fmt, with fmt's text TOLD by the authors' own Lean function (tested against real Go, not proved from fmt's source: count such statements apart). THE CARD IS WHAT COUNTS. Prove the row's statement (the work); the ties are given (YtfeohgeipcjbnaaDoorTie.lean); close each card by the builder's one call (the guide's Derived/Test/ToyasCard.lean, 'card_holds'). Laid BY PROGRAM, IN A SANDBOX (cutbox-door.mjs). By AI agents, Wed Nov 11 2026. No macro, syntax, notation, axiom, sorry.
-/
import Derived.Test.YtfeohgeipcjbnaaDoorRows
import GoSem.ClaimSeven
namespace Go.Proofs.YtfeohgeipcjbnaaDoor
namespace Rows

/-- THE TIED CARD OF 'chantrylaw11.RollPaths'. -/
def rollPathsCard : Claim7 := { stood := { row := rollPathsRow, standIns := [], harness := (true, "1cca813f63087f3d2755cbae163cc0456ce7eca6dd67bb78d8be2c8e78c11e76"), looks := true }, kinds := [], alts := [], laidByText := true, laidKinds := [.data, .data, .data, .sentinel, .sentinel], laidTests := true, laidLooks := .later }
def RollPathsCardSaid : Prop := Claim7.holds Tryd.pinned (.plain (OpenSpec.ofChange rollPathsSpec)) rollPathsCard

/-- THE TIED CARD OF 'chantrylaw11.RollBack'. -/
def rollBackCard : Claim7 := { stood := { row := rollBackRow, standIns := [], harness := (true, "1cca813f63087f3d2755cbae163cc0456ce7eca6dd67bb78d8be2c8e78c11e76"), looks := true }, kinds := [], alts := [], laidByText := true, laidKinds := [.data, .data, .data, .sentinel, .sentinel], laidTests := true, laidLooks := .later }
def RollBackCardSaid : Prop := Claim7.holds Tryd.pinned (.plain (OpenSpec.ofChange rollBackSpec)) rollBackCard

/-- THE TIED CARD OF 'chantrylaw11.RollEnds'. -/
def rollEndsCard : Claim7 := { stood := { row := rollEndsRow, standIns := [], harness := (true, "1cca813f63087f3d2755cbae163cc0456ce7eca6dd67bb78d8be2c8e78c11e76"), looks := true }, kinds := [], alts := [], laidByText := true, laidKinds := [.data, .data, .data, .sentinel, .sentinel], laidTests := true, laidLooks := .later }
def RollEndsCardSaid : Prop := Claim7.holds Tryd.pinned (.plain (OpenSpec.ofChange rollEndsSpec)) rollEndsCard

/-- THE SECOND FORM's CARD OF 'chantrylaw11.RollPaths'. -/
def rollPathsUptoCard : Claim7 := { stood := { row := rollPathsUptoRow, standIns := [], harness := (true, "1cca813f63087f3d2755cbae163cc0456ce7eca6dd67bb78d8be2c8e78c11e76"), looks := true }, kinds := [], alts := [], laidByText := true, laidKinds := [.data, .data, .data, .sentinel, .sentinel], laidTests := true, laidLooks := .later }
def RollPathsUptoCardSaid : Prop := Claim7.holds Tryd.pinned (.plain (OpenSpec.upto rollPathsSpec)) rollPathsUptoCard

/-- THE SECOND FORM's CARD OF 'chantrylaw11.RollBack'. -/
def rollBackUptoCard : Claim7 := { stood := { row := rollBackUptoRow, standIns := [], harness := (true, "1cca813f63087f3d2755cbae163cc0456ce7eca6dd67bb78d8be2c8e78c11e76"), looks := true }, kinds := [], alts := [], laidByText := true, laidKinds := [.data, .data, .data, .sentinel, .sentinel], laidTests := true, laidLooks := .later }
def RollBackUptoCardSaid : Prop := Claim7.holds Tryd.pinned (.plain (OpenSpec.upto rollBackSpec)) rollBackUptoCard

/-- THE SECOND FORM's CARD OF 'chantrylaw11.RollEnds'. -/
def rollEndsUptoCard : Claim7 := { stood := { row := rollEndsUptoRow, standIns := [], harness := (true, "1cca813f63087f3d2755cbae163cc0456ce7eca6dd67bb78d8be2c8e78c11e76"), looks := true }, kinds := [], alts := [], laidByText := true, laidKinds := [.data, .data, .data, .sentinel, .sentinel], laidTests := true, laidLooks := .later }
def RollEndsUptoCardSaid : Prop := Claim7.holds Tryd.pinned (.plain (OpenSpec.upto rollEndsSpec)) rollEndsUptoCard
end Rows
end Go.Proofs.YtfeohgeipcjbnaaDoor
