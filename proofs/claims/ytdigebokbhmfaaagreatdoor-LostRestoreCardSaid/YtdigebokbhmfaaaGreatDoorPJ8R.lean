/- Texts that the law leans on. -/
import Derived.Test.YtdigebokbhmfaaaGreatDoorRows
import Derived.JoinedOf
import Derived.ProofKit
set_option linter.unusedVariables false
set_option linter.unusedSimpArgs false
namespace Go.Proofs.YtdigebokbhmfaaaGreatDoor.lostRestore
open Go
set_option maxRecDepth 100000
theorem jf13 : ((Rows.lostRestoreRow.maps == (Tryz.f3.params.toList ++ Rows.lostRestoreSpec.plain.varTypes Tryz.prog).any (Tryz.prog.mapsRec ·)) : Bool) = true := by kernel_rfl
theorem jf14 : ((Rows.lostRestoreRow.ifaces == (Tryz.f3.params.toList ++ Rows.lostRestoreSpec.plain.varTypes Tryz.prog).any (Tryz.prog.ifacesRec ·)) : Bool) = true := by kernel_rfl
theorem jf15 : ((Rows.lostRestoreRow.mapsOut == Tryz.prog.mapsAmong Tryz.f3.resultTypes.toList) : Bool) = true := by kernel_rfl
theorem jf16 : ((Rows.lostRestoreRow.loops == (Tryz.f3.params.toList ++ Rows.lostRestoreSpec.plain.varTypes Tryz.prog).any (Tryz.prog.loopsFrom ·)) : Bool) = true := by kernel_rfl
theorem jf17 : ((Rows.lostRestoreRow.wideKeys == (Tryz.f3.params.toList ++ Rows.lostRestoreSpec.plain.varTypes Tryz.prog ++ Tryz.f3.resultTypes.toList).any (Tryz.prog.wideKeysFrom ·)) : Bool) = true := by kernel_rfl
theorem jf18 : (Rows.lostRestoreSpec.vars.all (Tryz.prog.varReadable ·) : Bool) = true := by kernel_rfl
theorem jf19 : (Tryz.f3.resultTypes.all (fun t => Tryz.prog.readableRec t && decide (t < Tryz.prog.types.size)) : Bool) = true := by kernel_rfl
theorem jf20 : ((Rows.lostRestoreRow.ifacesOut == Tryz.f3.resultTypes.toList.any (Tryz.prog.ifacesRec ·)) : Bool) = true := by kernel_rfl
theorem jf21 : ((Rows.lostRestoreRow.loopsOut == Tryz.f3.resultTypes.toList.any (Tryz.prog.loopsFrom ·)) : Bool) = true := by kernel_rfl
theorem jf22 : ((Rows.lostRestoreRow.plainKeys == Tryz.prog.plainKeys) : Bool) = true := by kernel_rfl
end Go.Proofs.YtdigebokbhmfaaaGreatDoor.lostRestore
