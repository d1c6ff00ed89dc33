/-
  DERIVED. GIVEN WITH THE SEED: THE CARDS: each row of YtdigebokbhmfaaaGreatDoorRows.lean that lists a variable, with what it lists TIED to the program's text (the seventh form; the later family's looks); each row that meets fmt, with fmt's text TOLD by the authors' own Lean function (tested against real Go, not proved from fmt's source: count such statements apart). THE CARD IS WHAT COUNTS. Prove the row's statement (the work); the ties are given (YtdigebokbhmfaaaGreatDoorTie.lean); close each card by the builder's one call (the guide's Derived/Test/ToyasCard.lean, 'card_holds'). Laid BY PROGRAM, IN A SANDBOX (cutbox-door.mjs). By AI agents, Wed Nov 11 2026. No macro, syntax, notation, axiom, sorry.
-/
import Derived.Test.YtdigebokbhmfaaaGreatDoorRows
import GoSem.ClaimSeven
namespace Go.Proofs.YtdigebokbhmfaaaGreatDoor
namespace Rows

/-- THE TIED CARD OF 'stokvellaw46.LostRestore'. -/
def lostRestoreCard : Claim7 := { stood := { row := lostRestoreRow, standIns := [], harness := (true, "989122db1a96136af4c38461ca56594738e684a56c0c9d6f487b5bcde975649c"), looks := true }, kinds := [], alts := [], laidByText := true, laidKinds := [.data, .data, .data, .data, .sentinel, .sentinel, .data], laidTests := true, laidLooks := .later }
def LostRestoreCardSaid : Prop := Claim7.holds Tryz.pinned (.plain (OpenSpec.ofChange lostRestoreSpec)) lostRestoreCard

/-- THE TIED CARD OF 'stokvellaw46.LostSafe'. -/
def lostSafeCard : Claim7 := { stood := { row := lostSafeRow, standIns := [], harness := (true, "989122db1a96136af4c38461ca56594738e684a56c0c9d6f487b5bcde975649c"), looks := true }, kinds := [], alts := [], laidByText := true, laidKinds := [.data, .data, .data, .data, .sentinel, .sentinel, .data], laidTests := true, laidLooks := .later }
def LostSafeCardSaid : Prop := Claim7.holds Tryz.pinned (.plain (OpenSpec.ofChange lostSafeSpec)) lostSafeCard

/-- THE SECOND FORM's CARD OF 'stokvellaw46.LostRestore'. -/
def lostRestoreUptoCard : Claim7 := { stood := { row := lostRestoreUptoRow, standIns := [], harness := (true, "989122db1a96136af4c38461ca56594738e684a56c0c9d6f487b5bcde975649c"), looks := true }, kinds := [], alts := [], laidByText := true, laidKinds := [.data, .data, .data, .data, .sentinel, .sentinel, .data], laidTests := true, laidLooks := .later }
def LostRestoreUptoCardSaid : Prop := Claim7.holds Tryz.pinned (.plain (OpenSpec.upto lostRestoreSpec)) lostRestoreUptoCard

/-- THE SECOND FORM's CARD OF 'stokvellaw46.LostSafe'. -/
def lostSafeUptoCard : Claim7 := { stood := { row := lostSafeUptoRow, standIns := [], harness := (true, "989122db1a96136af4c38461ca56594738e684a56c0c9d6f487b5bcde975649c"), looks := true }, kinds := [], alts := [], laidByText := true, laidKinds := [.data, .data, .data, .data, .sentinel, .sentinel, .data], laidTests := true, laidLooks := .later }
def LostSafeUptoCardSaid : Prop := Claim7.holds Tryz.pinned (.plain (OpenSpec.upto lostSafeSpec)) lostSafeUptoCard
end Rows
end Go.Proofs.YtdigebokbhmfaaaGreatDoor
