/- Texts that the law leans on. -/
import Derived.Test.YtgpgbiklefkjjaaGreatDoorRows
import Derived.JoinedOf
import Derived.ProofKit
set_option linter.unusedVariables false
set_option linter.unusedSimpArgs false
namespace Go.Proofs.YtgpgbiklefkjjaaGreatDoor.blameAsk
open Go
set_option maxRecDepth 100000
theorem and2 {a b : Bool} (h1 : a = true) (h2 : b = true) : (a && b) = true := by rw [h1, h2]; rfl
theorem jf0 : (Rows.blameAskRow.wf (OpenSpec.ofChange Rows.blameAskSpec) : Bool) = true := by kernel_rfl
theorem jf1 : (laidOutB Tryz.prog : Bool) = true := by kernel_rfl
theorem jf2 : (mapsRowed Tryz.prog : Bool) = true := by kernel_rfl
theorem jf3 : (Tryz.f3.params.all (Tryz.prog.readableRec ·) : Bool) = true := by kernel_rfl
theorem jf4 : (namedTie Tryz.prog Rows.blameAskRow.named Rows.blameAskSpec.vars : Bool) = true := by kernel_rfl
theorem jf5 : ((Rows.blameAskRow.stops == []) : Bool) = true := by kernel_rfl
theorem jf6 : ((Tryz.prog.stops == []) : Bool) = true := by kernel_rfl
theorem jf7 : ((Rows.blameAskRow.knobs == []) : Bool) = true := by kernel_rfl
theorem jf8 : ((Tryz.prog.stopKnobs == []) : Bool) = true := by kernel_rfl
theorem jf9 : ((Rows.blameAskRow.inPlace == Tryz.prog.inPlace 3) : Bool) = true := by kernel_rfl
theorem jf10 : ((Rows.blameAskRow.unfollowed == Tryz.prog.unfollowed 3) : Bool) = true := by kernel_rfl
theorem jf11 : ((Rows.blameAskRow.recurses == Tryz.prog.recurses 3) : Bool) = true := by kernel_rfl
theorem jf12 : ((Rows.blameAskRow.named == Tryz.prog.varsNamed 3) : Bool) = true := by kernel_rfl
theorem jf13 : ((Rows.blameAskRow.maps == (Tryz.f3.params.toList ++ Rows.blameAskSpec.plain.varTypes Tryz.prog).any (Tryz.prog.mapsRec ·)) : Bool) = true := by kernel_rfl
theorem jf14 : ((Rows.blameAskRow.ifaces == (Tryz.f3.params.toList ++ Rows.blameAskSpec.plain.varTypes Tryz.prog).any (Tryz.prog.ifacesRec ·)) : Bool) = true := by kernel_rfl
theorem jf15 : ((Rows.blameAskRow.mapsOut == Tryz.prog.mapsAmong Tryz.f3.resultTypes.toList) : Bool) = true := by kernel_rfl
theorem jf16 : ((Rows.blameAskRow.loops == (Tryz.f3.params.toList ++ Rows.blameAskSpec.plain.varTypes Tryz.prog).any (Tryz.prog.loopsFrom ·)) : Bool) = true := by kernel_rfl
theorem jf17 : ((Rows.blameAskRow.wideKeys == (Tryz.f3.params.toList ++ Rows.blameAskSpec.plain.varTypes Tryz.prog ++ Tryz.f3.resultTypes.toList).any (Tryz.prog.wideKeysFrom ·)) : Bool) = true := by kernel_rfl
theorem jf18 : (Rows.blameAskSpec.vars.all (Tryz.prog.varReadable ·) : Bool) = true := by kernel_rfl
theorem jf19 : (Tryz.f3.resultTypes.all (fun t => Tryz.prog.readableRec t && decide (t < Tryz.prog.types.size)) : Bool) = true := by kernel_rfl
theorem jf20 : ((Rows.blameAskRow.ifacesOut == Tryz.f3.resultTypes.toList.any (Tryz.prog.ifacesRec ·)) : Bool) = true := by kernel_rfl
theorem jf21 : ((Rows.blameAskRow.loopsOut == Tryz.f3.resultTypes.toList.any (Tryz.prog.loopsFrom ·)) : Bool) = true := by kernel_rfl
theorem jf22 : ((Rows.blameAskRow.plainKeys == Tryz.prog.plainKeys) : Bool) = true := by kernel_rfl
theorem jf23 : (Rows.blameAskRow.shortTexts.isNone : Bool) = true := by kernel_rfl
theorem jf24 : (Tryz.prog.stopsHeard : Bool) = true := by kernel_rfl
theorem jf25 : (Tryz.prog.mayEnter : Bool) = true := by kernel_rfl
theorem jf26 : ((Rows.blameAskRow.lifted == Tryz.prog.liftsFinal) : Bool) = true := by kernel_rfl
theorem jf27 : ((Tryz.prog.make == some Rows.blameAskRow.make) : Bool) = true := by kernel_rfl
theorem jf28 : ((Rows.blameAskRow.kinds == (if Rows.blameAskRow.domain.isEmpty then [] else Tryz.f3.params.toList.map fun t => match Tryz.prog.underlying t with | some (.int k) => some k | _ => none)) : Bool) = true := by kernel_rfl
theorem jf29 : ((Rows.blameAskRow.pinned == Rows.blameAskRow.pinnedBy) : Bool) = true := by kernel_rfl
theorem jf30 : ((Rows.blameAskRow.veiled == (Tryz.f3.params.toList ++ Rows.blameAskSpec.plain.varTypes Tryz.prog ++ Tryz.f3.resultTypes.toList).any (Tryz.prog.veiledRec ·)) : Bool) = true := by kernel_rfl
theorem jf31 : (Rows.blameAskRow.veiledFits Tryz.prog Tryz.f3.params.toList (Tryz.f3.params.toList ++ Rows.blameAskSpec.plain.varTypes Tryz.prog ++ Tryz.f3.resultTypes.toList) : Bool) = true := by kernel_rfl
theorem joined : joinedFacts Tryz.prog 3 Tryz.f3 Rows.blameAskSpec Rows.blameAskRow = true := by
 unfold joinedFacts
 exact (and2 (and2 (and2 (and2 (and2 (and2 (and2 (and2 (and2 (and2 (and2 (and2 (and2 (and2 (and2 (and2 (and2 (and2 (and2 (and2 (and2 (and2 (and2 (and2 (and2 (and2 (and2 (and2 (and2 (and2 (and2 jf0 jf1) jf2) jf3) jf4) jf5) jf6) jf7) jf8) jf9) jf10) jf11) jf12) jf13) jf14) jf15) jf16) jf17) jf18) jf19) jf20) jf21) jf22) jf23) jf24) jf25) jf26) jf27) jf28) jf29) jf30) jf31)
end Go.Proofs.YtgpgbiklefkjjaaGreatDoor.blameAsk
