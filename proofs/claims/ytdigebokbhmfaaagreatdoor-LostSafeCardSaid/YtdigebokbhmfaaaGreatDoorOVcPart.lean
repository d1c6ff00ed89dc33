/- Texts that the law leans on. -/
import Derived.Test.YtdigebokbhmfaaaGreatDoorOVcMore
set_option linter.unusedVariables false
set_option linter.unusedSimpArgs false
namespace Go.Vc
open Go.RowKit
theorem stays_row {v : Value} {E size : Nat} {L : List (List CV)} {o : LO} : Stays (.row v E size L) o := fun b T cells e => by cases e
theorem stays_box {b : Nat} {T : TypeId} {c c' : List CV} : Stays (.box b T c) (.box b T c') := fun b T cells e => by cases e; exact ⟨_, _, rfl⟩
end Go.Vc
