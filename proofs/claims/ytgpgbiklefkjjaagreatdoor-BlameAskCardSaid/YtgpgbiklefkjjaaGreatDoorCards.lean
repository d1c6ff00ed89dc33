/-
  DERIVED. GIVEN WITH THE SEED: THE CARDS: each row of YtgpgbiklefkjjaaGreatDoorRows.lean that lists a variable, with what it lists TIED to the program's text (the seventh form; the later family's looks); each row that meets fmt, with fmt's text TOLD by the authors' own Lean function (tested against real Go, not proved from fmt's source: count such statements apart). THE CARD IS WHAT COUNTS. Prove the row's statement (the work); the ties are given (YtgpgbiklefkjjaaGreatDoorTie.lean); close each card by the builder's one call (the guide's Derived/Test/ToyasCard.lean, 'card_holds'). Laid BY PROGRAM, IN A SANDBOX (cutbox-door.mjs). By AI agents, Wed Nov 11 2026. No macro, syntax, notation, axiom, sorry.
-/
import Derived.Test.YtgpgbiklefkjjaaGreatDoorRows
import GoSem.ClaimSeven
namespace Go.Proofs.YtgpgbiklefkjjaaGreatDoor
namespace Rows

/-- THE TIED CARD OF 'stokvellaw48.BlameAsk'. -/
def blameAskCard : Claim7 := { stood := { row := blameAskRow, standIns := [], harness := (true, "b2146f5c0a4241f20fb49d58c46e5c51dd1653e2e9ef0e4f66541a62f74257c5"), looks := true }, kinds := [], alts := [], laidByText := true, laidKinds := [.data, .data, .data, .data, .sentinel, .sentinel, .data], laidTests := true, laidLooks := .later }
def BlameAskCardSaid : Prop := Claim7.holds Tryz.pinned (.plain (OpenSpec.ofChange blameAskSpec)) blameAskCard

/-- THE SECOND FORM's CARD OF 'stokvellaw48.BlameAsk'. -/
def blameAskUptoCard : Claim7 := { stood := { row := blameAskUptoRow, standIns := [], harness := (true, "b2146f5c0a4241f20fb49d58c46e5c51dd1653e2e9ef0e4f66541a62f74257c5"), looks := true }, kinds := [], alts := [], laidByText := true, laidKinds := [.data, .data, .data, .data, .sentinel, .sentinel, .data], laidTests := true, laidLooks := .later }
def BlameAskUptoCardSaid : Prop := Claim7.holds Tryz.pinned (.plain (OpenSpec.upto blameAskSpec)) blameAskUptoCard
end Rows
end Go.Proofs.YtgpgbiklefkjjaaGreatDoor
