/-
  DERIVED. GIVEN WITH THE SEED: THE CARDS: each row of YtlobacpdhglnkaaGreatDoorRows.lean that lists a variable, with what it lists TIED to the program's text (the seventh form; the later family's looks); each row that meets fmt, with fmt's text TOLD by the authors' own Lean function (tested against real Go, not proved from fmt's source: count such statements apart). THE CARD IS WHAT COUNTS. Prove the row's statement (the work); the ties are given (YtlobacpdhglnkaaGreatDoorTie.lean); close each card by the builder's one call (the guide's Derived/Test/ToyasCard.lean, 'card_holds'). Laid BY PROGRAM, IN A SANDBOX (cutbox-door.mjs). By AI agents, Wed Nov 11 2026. No macro, syntax, notation, axiom, sorry.
-/
import Derived.Test.YtlobacpdhglnkaaGreatDoorRows
import GoSem.ClaimSeven
namespace Go.Proofs.YtlobacpdhglnkaaGreatDoor
namespace Rows

/-- THE TIED CARD OF 'stokvellaw48.BlameGrows'. -/
def blameGrowsCard : Claim7 := { stood := { row := blameGrowsRow, standIns := [], harness := (true, "3ece3217c31dbbcb8d7012f73c301688b3eb3032dc6f8e4c71ec2b47bea63125"), looks := true }, kinds := [], alts := [], laidByText := true, laidKinds := [.data, .data, .data, .data, .sentinel, .sentinel, .data], laidTests := true, laidLooks := .later }
def BlameGrowsCardSaid : Prop := Claim7.holds Tryz.pinned (.plain (OpenSpec.ofChange blameGrowsSpec)) blameGrowsCard

/-- THE SECOND FORM's CARD OF 'stokvellaw48.BlameGrows'. -/
def blameGrowsUptoCard : Claim7 := { stood := { row := blameGrowsUptoRow, standIns := [], harness := (true, "3ece3217c31dbbcb8d7012f73c301688b3eb3032dc6f8e4c71ec2b47bea63125"), looks := true }, kinds := [], alts := [], laidByText := true, laidKinds := [.data, .data, .data, .data, .sentinel, .sentinel, .data], laidTests := true, laidLooks := .later }
def BlameGrowsUptoCardSaid : Prop := Claim7.holds Tryz.pinned (.plain (OpenSpec.upto blameGrowsSpec)) blameGrowsUptoCard
end Rows
end Go.Proofs.YtlobacpdhglnkaaGreatDoor
