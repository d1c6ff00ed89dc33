/- Texts that the law leans on. -/
import Derived.Test.YtlobacpdhglnkaaGreatDoorRows
import Derived.SevenTiedAt
import Derived.ProofKit
set_option linter.unusedVariables false
set_option linter.unusedSimpArgs false
namespace Go.Proofs.YtlobacpdhglnkaaGreatDoor.blameGrows
open Go
set_option maxRecDepth 100000
theorem cf0 : Rows.blameGrowsRow.wfByText (OpenSpec.ofChange Rows.blameGrowsSpec) = true := by kernel_rfl
theorem cf1 : Tryz.prog.mainIs = some (true, "3ece3217c31dbbcb8d7012f73c301688b3eb3032dc6f8e4c71ec2b47bea63125".toList) := by kernel_rfl
theorem cf2 : true = Tryz.prog.looks [] := by kernel_rfl
theorem cf3 : ([24, 25, 3].all fun u => !Tryz.prog.wantsStandIn u) = true := by kernel_rfl
theorem noGo : Tryz.prog.funcs.any Func.goes = false := by kernel_rfl
theorem goes_none {P : Program} (h : P.funcs.any Func.goes = false) (f : FuncId) : P.goes f = false := by
 have key : ∀ g : Nat, (P.funcs[g]?).any Func.goes = false := fun g => by
  cases hg : P.funcs[g]? with
  | none => rfl
  | some fn =>
   obtain ⟨hl, e⟩ := Array.getElem?_eq_some_iff.1 hg
   rw [Array.any_eq_false] at h
   have := h g hl
   rw [e] at this
   simpa using this
 unfold Program.goes
 rw [h]
 simp [key]
theorem cf4 : false = Rows.blameGrowsRow.goesBy Tryz.prog := by
 show false = Tryz.prog.goesAt .entering "stokvel/stokvellaw48.BlameGrows"
 unfold Program.goesAt Program.goesFrom
 cases Tryz.prog.funcNamed "stokvel/stokvellaw48.BlameGrows" with
 | none => rfl
 | some f => simp [goes_none noGo f]
end Go.Proofs.YtlobacpdhglnkaaGreatDoor.blameGrows
