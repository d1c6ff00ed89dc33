/- Texts that the law leans on. -/
import Derived.Test.YtdigebokbhmfaaaGreatDoorRows
import Derived.JoinedOf
import Derived.ProofKit
set_option linter.unusedVariables false
set_option linter.unusedSimpArgs false
namespace Go.Proofs.YtdigebokbhmfaaaGreatDoor.lostSafe
open Go
set_option maxRecDepth 100000
theorem jf0 : (Rows.lostSafeRow.wf (OpenSpec.ofChange Rows.lostSafeSpec) : Bool) = true := by kernel_rfl
theorem jf1 : (laidOutB Tryz.prog : Bool) = true := by kernel_rfl
theorem jf2 : (mapsRowed Tryz.prog : Bool) = true := by kernel_rfl
theorem jf3 : (Tryz.f4.params.all (Tryz.prog.readableRec ·) : Bool) = true := by kernel_rfl
theorem jf4 : (namedTie Tryz.prog Rows.lostSafeRow.named Rows.lostSafeSpec.vars : Bool) = true := by kernel_rfl
theorem jf5 : ((Rows.lostSafeRow.stops == []) : Bool) = true := by kernel_rfl
theorem jf6 : ((Tryz.prog.stops == []) : Bool) = true := by kernel_rfl
theorem jf7 : ((Rows.lostSafeRow.knobs == []) : Bool) = true := by kernel_rfl
theorem jf8 : ((Tryz.prog.stopKnobs == []) : Bool) = true := by kernel_rfl
end Go.Proofs.YtdigebokbhmfaaaGreatDoor.lostSafe
