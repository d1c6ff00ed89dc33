/- Texts that the law leans on. -/
import Derived.Test.YtdigebokbhmfaaaGreatDoorRows
import Derived.LaidByTextLater
import Derived.SevenTiedAt
set_option linter.unusedVariables false
set_option linter.unusedSimpArgs false
namespace Go.Proofs.YtdigebokbhmfaaaGreatDoor
open Go
noncomputable def tieL : List (String × DataW Unit) := [("stokvel/entry.uses", Rows.laid_stokvel_entry_uses), ("internal/strconv.uint64pow10", Rows.laid_internal_strconv_uint64pow10), ("math/bits.deBruijn32tab", Rows.laid_math_bits_deBruijn32tab), ("math/bits.deBruijn64tab", Rows.laid_math_bits_deBruijn64tab), ("strconv.ErrSyntax", Rows.laid_strconv_ErrSyntax), ("strconv.ErrRange", Rows.laid_strconv_ErrRange), ("stokvel/lex.signs", Rows.laid_stokvel_lex_signs)]
theorem tie_a : Tryz.prog.worded (varsWordLater true) = true := by kernel_rfl
theorem tie_b : Tryz.prog.worded (varsWordLater !true) = false := by kernel_rfl
theorem tie_c : Tryz.prog.worded rootWordLater = true := by kernel_rfl
theorem tie_d : tieL.map (fun x => Tryz.prog.kindOfLater x.1) = ([.data, .data, .data, .data, .sentinel, .sentinel, .data] : List LaidKind).map some := by kernel_rfl
theorem tie_e : (Tryz.prog.funcNamed "gosem.cut.vars").isSome = true := by kernel_rfl
theorem tie_f : varsNamedLaterB Tryz.prog (varsId Tryz.prog) tieL = true := by kernel_rfl
theorem tie_g : ∀ os tape, varsDone Tryz.prog 400 (varsId Tryz.prog) os tape = true := fun _ _ => by kernel_rfl
theorem tie_h : ∀ os tape, (DataW.laidRun Tryz.prog (varsWorld Tryz.prog 400 (varsId Tryz.prog) os tape).memory 8 (tieL.map (·.1))).map (·.1) = some tieL := fun _ _ => by kernel_rfl
theorem tie_i : ∀ os tape, (DataW.laidRun Tryz.prog (varsWorld Tryz.prog 400 (varsId Tryz.prog) os tape).memory 8 (tieL.map (·.1))).map (fun x => decide x.2.Nodup && laidRowsB Tryz.prog (varsWorld Tryz.prog 400 (varsId Tryz.prog) os tape).memory x.2) = some true := fun _ _ => by kernel_rfl
theorem tie_j : (tieL.all fun x => x.2.handleName?.isNone) = true := by kernel_rfl
theorem tie' : Tryz.prog.laidByTextLater tieL [.data, .data, .data, .data, .sentinel, .sentinel, .data] true :=
 Program.laidByTextLater_by_run 400 8 tie_a tie_b tie_c tie_d tie_e tie_f tie_g tie_h tie_i tie_j
theorem noOwnUnsafe' : Tryz.pinned.checked.prog.headLifts.contains "ownunsafe" = false := by kernel_rfl
theorem lostSafe_tie : Rows.lostSafeRow.laidByTextAt .later Tryz.pinned [.data, .data, .data, .data, .sentinel, .sentinel, .data] true :=
 OpenClaim.laidByTextAt_later rfl rfl tie' noOwnUnsafe'
end Go.Proofs.YtdigebokbhmfaaaGreatDoor
