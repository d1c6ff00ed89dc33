/- Texts that the law leans on. -/
import Derived.Test.YtdigebokbhmfaaaGreatDoorRows
import Derived.JoinedOf
import Derived.ProofKit
set_option linter.unusedVariables false
set_option linter.unusedSimpArgs false
namespace Go.Proofs.YtdigebokbhmfaaaGreatDoor.lostRestore
open Go
set_option maxRecDepth 100000
theorem jf23 : (Rows.lostRestoreRow.shortTexts.isNone : Bool) = true := by kernel_rfl
theorem jf24 : (Tryz.prog.stopsHeard : Bool) = true := by kernel_rfl
theorem jf25 : (Tryz.prog.mayEnter : Bool) = true := by kernel_rfl
theorem jf26 : ((Rows.lostRestoreRow.lifted == Tryz.prog.liftsFinal) : Bool) = true := by kernel_rfl
theorem jf27 : ((Tryz.prog.make == some Rows.lostRestoreRow.make) : Bool) = true := by kernel_rfl
theorem jf28 : ((Rows.lostRestoreRow.kinds == (if Rows.lostRestoreRow.domain.isEmpty then [] else Tryz.f3.params.toList.map fun t => match Tryz.prog.underlying t with | some (.int k) => some k | _ => none)) : Bool) = true := by kernel_rfl
theorem jf29 : ((Rows.lostRestoreRow.pinned == Rows.lostRestoreRow.pinnedBy) : Bool) = true := by kernel_rfl
theorem jf30 : ((Rows.lostRestoreRow.veiled == (Tryz.f3.params.toList ++ Rows.lostRestoreSpec.plain.varTypes Tryz.prog ++ Tryz.f3.resultTypes.toList).any (Tryz.prog.veiledRec ·)) : Bool) = true := by kernel_rfl
theorem jf31 : (Rows.lostRestoreRow.veiledFits Tryz.prog Tryz.f3.params.toList (Tryz.f3.params.toList ++ Rows.lostRestoreSpec.plain.varTypes Tryz.prog ++ Tryz.f3.resultTypes.toList) : Bool) = true := by kernel_rfl
end Go.Proofs.YtdigebokbhmfaaaGreatDoor.lostRestore
