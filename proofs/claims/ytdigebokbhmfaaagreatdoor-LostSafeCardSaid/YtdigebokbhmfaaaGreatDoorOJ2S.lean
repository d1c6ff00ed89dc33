/- Texts that the law leans on. -/
import Derived.Test.YtdigebokbhmfaaaGreatDoorRows
import Derived.SevenTiedAt
import Derived.ProofKit
set_option linter.unusedVariables false
set_option linter.unusedSimpArgs false
namespace Go.Proofs.YtdigebokbhmfaaaGreatDoor.lostSafe
open Go
set_option maxRecDepth 100000
theorem cf0 : Rows.lostSafeRow.wfByText (OpenSpec.ofChange Rows.lostSafeSpec) = true := by kernel_rfl
theorem cf1 : Tryz.prog.mainIs = some (true, "989122db1a96136af4c38461ca56594738e684a56c0c9d6f487b5bcde975649c".toList) := by kernel_rfl
theorem cf2 : true = Tryz.prog.looks [] := by kernel_rfl
theorem cf3 : ([5, 48].all fun u => !Tryz.prog.wantsStandIn u) = true := by kernel_rfl
theorem noGo : Tryz.prog.funcs.any Func.goes = false := by kernel_rfl
theorem goes_none {P : Program} (h : P.funcs.any Func.goes = false) (f : FuncId) : P.goes f = false := by
 have key : ∀ g : Nat, (P.funcs[g]?).any Func.goes = false := fun g => by
  cases hg : P.funcs[g]? with
  | none => rfl
  | some fn =>
   obtain ⟨hl, e⟩ := Array.getElem?_eq_some_iff.1 hg
   rw [Array.any_eq_false] at h
   have := h g hl
   rw [e] at this
   simpa using this
 unfold Program.goes
 rw [h]
 simp [key]
theorem cf4 : false = Rows.lostSafeRow.goesBy Tryz.prog := by
 show false = Tryz.prog.goesAt .entering "stokvel/stokvellaw46.LostSafe"
 unfold Program.goesAt Program.goesFrom
 cases Tryz.prog.funcNamed "stokvel/stokvellaw46.LostSafe" with
 | none => rfl
 | some f => simp [goes_none noGo f]
end Go.Proofs.YtdigebokbhmfaaaGreatDoor.lostSafe
