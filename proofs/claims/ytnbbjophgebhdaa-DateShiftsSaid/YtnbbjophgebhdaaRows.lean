/-
  No cell of these rows narrows 'for every input' (looked for: loops, veiled, ifaces, maps, wideKeys, modest, calm, conditions, laid).
  DERIVED. THE GIVEN ROWS OF THIS SEAT. 4 by the template 'for every input the law returns true; each argument reads behind the call as it read before'; 0 by the template 'total and deterministic' (their statements: YtnbbjophgebhdaaTotals.lean).
  GIVEN WITH THE SEED: the statements are not yours to turn. If you find one false, say at which input.
  Laid BY PROGRAM, IN A SANDBOX (cutbox-rows.mjs): the forced cells as the released guide's own fill.sh prints them over the translation 3f96bf7f249c3831… (all of the seat's roots in one cut). By AI agents, Wed Nov 11 2026. No macro, syntax, notation, axiom, sorry.
-/
import Derived.Test.YtnbbjophgebhdaaChecked
import GoSem.Claim
import GoSem.ClaimJoined
import GoSem.ClaimMapViews
import Derived.JoinedTies
import Derived.KernelRfl
namespace Go.Proofs.Ytnbbjophgebhdaa
/- THE CELL 'sum', in the pinned program and in every row, IS THE sha256 OF THE DUMP (.gsa) THAT YtnbbjophgebhdaaProg.lean LOADS. Nothing in Lean hashes anything: it is a label: what it is worth is what the hold of that sum in a sandbox is worth. -/
noncomputable def Try.pinned : Pinned := { name := "ytnbbjophgebhdaa", sum := "3f96bf7f249c383175b6e8ea5168a8c62d8a30085aa7fc0568c69738269e706a", checked := Try.checked }
namespace Rows
def none {H : Type} : Left H := { results := [], args := [] }

/-- 'stokvellaw10.DateTells': WHATEVER THE INPUT: true; the input reads as it did. -/
def dateTellsSpec : ChangeSpec := { name := "dateTells", fn := fun _ => fun
  | [d1, d2, d3, d4, d5, d6] => { results := [.lit (.bool true)], args := [d1, d2, d3, d4, d5, d6] }
  | _ => none }
def dateTellsRow : OpenClaim := { program := "ytnbbjophgebhdaa", sum := "3f96bf7f249c383175b6e8ea5168a8c62d8a30085aa7fc0568c69738269e706a", func := "stokvel/stokvellaw10.DateTells", spec := "dateTells", apart := false }
def DateTellsSaid : Prop := dateTellsRow.holds Try.pinned (OpenSpec.ofChange dateTellsSpec)

/-- ITS FALSE NEIGHBOUR: 'it returns false'. Refute it at one input. -/
def dateTellsWrong : ChangeSpec := { name := "dateTells", fn := fun _ => fun
  | [d1, d2, d3, d4, d5, d6] => { results := [.lit (.bool false)], args := [d1, d2, d3, d4, d5, d6] }
  | _ => none }
def DateTellsWrongFalsely : Prop := dateTellsRow.holds Try.pinned (OpenSpec.ofChange dateTellsWrong)

/-- 'stokvellaw10.DatePeriods': WHATEVER THE INPUT: true; the input reads as it did. -/
def datePeriodsSpec : ChangeSpec := { name := "datePeriods", fn := fun _ => fun
  | [d1, d2, d3, d4] => { results := [.lit (.bool true)], args := [d1, d2, d3, d4] }
  | _ => none }
def datePeriodsRow : OpenClaim := { program := "ytnbbjophgebhdaa", sum := "3f96bf7f249c383175b6e8ea5168a8c62d8a30085aa7fc0568c69738269e706a", func := "stokvel/stokvellaw10.DatePeriods", spec := "datePeriods", apart := false }
def DatePeriodsSaid : Prop := datePeriodsRow.holds Try.pinned (OpenSpec.ofChange datePeriodsSpec)

/-- ITS FALSE NEIGHBOUR: 'it returns false'. Refute it at one input. -/
def datePeriodsWrong : ChangeSpec := { name := "datePeriods", fn := fun _ => fun
  | [d1, d2, d3, d4] => { results := [.lit (.bool false)], args := [d1, d2, d3, d4] }
  | _ => none }
def DatePeriodsWrongFalsely : Prop := datePeriodsRow.holds Try.pinned (OpenSpec.ofChange datePeriodsWrong)

/-- 'stokvellaw10.DateNexts': WHATEVER THE INPUT: true; the input reads as it did. -/
def dateNextsSpec : ChangeSpec := { name := "dateNexts", fn := fun _ => fun
  | [d1, d2, d3, d4, d5] => { results := [.lit (.bool true)], args := [d1, d2, d3, d4, d5] }
  | _ => none }
def dateNextsRow : OpenClaim := { program := "ytnbbjophgebhdaa", sum := "3f96bf7f249c383175b6e8ea5168a8c62d8a30085aa7fc0568c69738269e706a", func := "stokvel/stokvellaw10.DateNexts", spec := "dateNexts", apart := false }
def DateNextsSaid : Prop := dateNextsRow.holds Try.pinned (OpenSpec.ofChange dateNextsSpec)

/-- ITS FALSE NEIGHBOUR: 'it returns false'. Refute it at one input. -/
def dateNextsWrong : ChangeSpec := { name := "dateNexts", fn := fun _ => fun
  | [d1, d2, d3, d4, d5] => { results := [.lit (.bool false)], args := [d1, d2, d3, d4, d5] }
  | _ => none }
def DateNextsWrongFalsely : Prop := dateNextsRow.holds Try.pinned (OpenSpec.ofChange dateNextsWrong)

/-- 'stokvellaw10.DateShifts': WHATEVER THE INPUT: true; the input reads as it did. -/
def dateShiftsSpec : ChangeSpec := { name := "dateShifts", fn := fun _ => fun
  | [d1, d2, d3, d4, d5, d6] => { results := [.lit (.bool true)], args := [d1, d2, d3, d4, d5, d6] }
  | _ => none }
def dateShiftsRow : OpenClaim := { program := "ytnbbjophgebhdaa", sum := "3f96bf7f249c383175b6e8ea5168a8c62d8a30085aa7fc0568c69738269e706a", func := "stokvel/stokvellaw10.DateShifts", spec := "dateShifts", apart := false }
def DateShiftsSaid : Prop := dateShiftsRow.holds Try.pinned (OpenSpec.ofChange dateShiftsSpec)

/-- ITS FALSE NEIGHBOUR: 'it returns false'. Refute it at one input. -/
def dateShiftsWrong : ChangeSpec := { name := "dateShifts", fn := fun _ => fun
  | [d1, d2, d3, d4, d5, d6] => { results := [.lit (.bool false)], args := [d1, d2, d3, d4, d5, d6] }
  | _ => none }
def DateShiftsWrongFalsely : Prop := dateShiftsRow.holds Try.pinned (OpenSpec.ofChange dateShiftsWrong)

/- THE SECOND FORM. 'bulk': how many values and letters a reading holds, each counted each time it is reached (what is shared counts as often as it is met; a slice's spare places count too). A statement '..UptoSaid' is the law's where the arguments, and the package variables that the reading takes, are together of bulk at most 1048576: NARROWER than '..Said'. Prove '..Said' where nothing that the law and all that it calls make is longer than what came in: it says more and counts as full. Else prove '..UptoSaid'. A law counts once. -/
mutual
def uptoBulk {H : Type} : DataW H → Nat
  | .lit (.string bytes) => bytes.length + 1
  | .lit _ => 1
  | .nil => 1
  | .ptr d => uptoBulk d + 1
  | .slice elems spare => uptoBulkAll elems + uptoBulkAll spare + 1
  | .agg parts => uptoBulkAll parts + 1
  | .iface _ d => uptoBulk d + 1
  | .map entries => uptoBulkEntries entries + 1
  | .held _ => 1
def uptoBulkAll {H : Type} : List (DataW H) → Nat
  | [] => 0
  | d :: r => uptoBulk d + uptoBulkAll r
def uptoBulkEntries {H : Type} : List (Lit × DataW H) → Nat
  | [] => 0
  | x :: r => uptoBulkEntry x + uptoBulkEntries r
def uptoBulkEntry {H : Type} : Lit × DataW H → Nat
  | (.string bytes, d) => bytes.length + uptoBulk d + 1
  | (_, d) => uptoBulk d + 1
 end
def uptoSmall : (H : Type) → List (DataW H) → Bool := fun _ ds => decide (uptoBulkAll ds ≤ 1048576)
def OpenSpec.upto (s : _root_.Go.ChangeSpec) : _root_.Go.OpenSpec := { _root_.Go.OpenSpec.ofChange s with cond := some uptoSmall }

/-- 'stokvellaw10.DateTells', WHERE WHAT IT READS IS OF BULK AT MOST 1048576: true; the input reads as it did. -/
def dateTellsUptoRow : OpenClaim := { program := "ytnbbjophgebhdaa", sum := "3f96bf7f249c383175b6e8ea5168a8c62d8a30085aa7fc0568c69738269e706a", func := "stokvel/stokvellaw10.DateTells", spec := "dateTells", apart := false, narrowed := true }
def DateTellsUptoSaid : Prop := dateTellsUptoRow.holds Try.pinned (OpenSpec.upto dateTellsSpec)

/-- 'stokvellaw10.DatePeriods', WHERE WHAT IT READS IS OF BULK AT MOST 1048576: true; the input reads as it did. -/
def datePeriodsUptoRow : OpenClaim := { program := "ytnbbjophgebhdaa", sum := "3f96bf7f249c383175b6e8ea5168a8c62d8a30085aa7fc0568c69738269e706a", func := "stokvel/stokvellaw10.DatePeriods", spec := "datePeriods", apart := false, narrowed := true }
def DatePeriodsUptoSaid : Prop := datePeriodsUptoRow.holds Try.pinned (OpenSpec.upto datePeriodsSpec)

/-- 'stokvellaw10.DateNexts', WHERE WHAT IT READS IS OF BULK AT MOST 1048576: true; the input reads as it did. -/
def dateNextsUptoRow : OpenClaim := { program := "ytnbbjophgebhdaa", sum := "3f96bf7f249c383175b6e8ea5168a8c62d8a30085aa7fc0568c69738269e706a", func := "stokvel/stokvellaw10.DateNexts", spec := "dateNexts", apart := false, narrowed := true }
def DateNextsUptoSaid : Prop := dateNextsUptoRow.holds Try.pinned (OpenSpec.upto dateNextsSpec)

/-- 'stokvellaw10.DateShifts', WHERE WHAT IT READS IS OF BULK AT MOST 1048576: true; the input reads as it did. -/
def dateShiftsUptoRow : OpenClaim := { program := "ytnbbjophgebhdaa", sum := "3f96bf7f249c383175b6e8ea5168a8c62d8a30085aa7fc0568c69738269e706a", func := "stokvel/stokvellaw10.DateShifts", spec := "dateShifts", apart := false, narrowed := true }
def DateShiftsUptoSaid : Prop := dateShiftsUptoRow.holds Try.pinned (OpenSpec.upto dateShiftsSpec)

end Rows
end Go.Proofs.Ytnbbjophgebhdaa
