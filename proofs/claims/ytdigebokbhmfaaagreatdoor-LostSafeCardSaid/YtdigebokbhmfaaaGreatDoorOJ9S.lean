/- Texts that the law leans on. -/
import Derived.Test.YtdigebokbhmfaaaGreatDoorRows
import Derived.JoinedOf
import Derived.ProofKit
set_option linter.unusedVariables false
set_option linter.unusedSimpArgs false
namespace Go.Proofs.YtdigebokbhmfaaaGreatDoor.lostSafe
open Go
set_option maxRecDepth 100000
theorem jf23 : (Rows.lostSafeRow.shortTexts.isNone : Bool) = true := by kernel_rfl
theorem jf24 : (Tryz.prog.stopsHeard : Bool) = true := by kernel_rfl
theorem jf25 : (Tryz.prog.mayEnter : Bool) = true := by kernel_rfl
theorem jf26 : ((Rows.lostSafeRow.lifted == Tryz.prog.liftsFinal) : Bool) = true := by kernel_rfl
theorem jf27 : ((Tryz.prog.make == some Rows.lostSafeRow.make) : Bool) = true := by kernel_rfl
theorem jf28 : ((Rows.lostSafeRow.kinds == (if Rows.lostSafeRow.domain.isEmpty then [] else Tryz.f4.params.toList.map fun t => match Tryz.prog.underlying t with | some (.int k) => some k | _ => none)) : Bool) = true := by kernel_rfl
theorem jf29 : ((Rows.lostSafeRow.pinned == Rows.lostSafeRow.pinnedBy) : Bool) = true := by kernel_rfl
theorem jf30 : ((Rows.lostSafeRow.veiled == (Tryz.f4.params.toList ++ Rows.lostSafeSpec.plain.varTypes Tryz.prog ++ Tryz.f4.resultTypes.toList).any (Tryz.prog.veiledRec ·)) : Bool) = true := by kernel_rfl
theorem jf31 : (Rows.lostSafeRow.veiledFits Tryz.prog Tryz.f4.params.toList (Tryz.f4.params.toList ++ Rows.lostSafeSpec.plain.varTypes Tryz.prog ++ Tryz.f4.resultTypes.toList) : Bool) = true := by kernel_rfl
end Go.Proofs.YtdigebokbhmfaaaGreatDoor.lostSafe
