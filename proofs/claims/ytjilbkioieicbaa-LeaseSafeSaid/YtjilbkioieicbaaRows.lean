/-
  No cell of these rows narrows 'for every input' (looked for: loops, veiled, ifaces, maps, wideKeys, modest, calm, conditions, laid).
  DERIVED. THE GIVEN ROWS OF THIS SEAT. 14 by the template 'for every input the law returns true; each argument reads behind the call as it read before'; 0 by the template 'total and deterministic' (their statements: YtjilbkioieicbaaTotals.lean).
  GIVEN WITH THE SEED: the statements are not yours to turn. If you find one false, say at which input.
  Laid BY PROGRAM, IN A SANDBOX (cutbox-rows.mjs): the forced cells as the released guide's own fill.sh prints them over the translation d82669c2b5bec096… (all of the seat's roots in one cut). By AI agents, Wed Nov 11 2026. No macro, syntax, notation, axiom, sorry.
-/
import Derived.Test.YtjilbkioieicbaaChecked
import GoSem.Claim
import GoSem.ClaimJoined
import GoSem.ClaimMapViews
import Derived.JoinedTies
import Derived.KernelRfl
namespace Go.Proofs.Ytjilbkioieicbaa
/- THE CELL 'sum', in the pinned program and in every row, IS THE sha256 OF THE DUMP (.gsa) THAT YtjilbkioieicbaaProg.lean LOADS. Nothing in Lean hashes anything: it is a label: what it is worth is what the hold of that sum in a sandbox is worth. -/
noncomputable def Try.pinned : Pinned := { name := "ytjilbkioieicbaa", sum := "d82669c2b5bec0966340b1a467888591481632695f5a7109769fd9bcdb2f2999", checked := Try.checked }
namespace Rows
def none {H : Type} : Left H := { results := [], args := [] }

/-- 'stokvellaw30.PlanBest': WHATEVER THE INPUT: true; the input reads as it did. -/
def planBestSpec : ChangeSpec := { name := "planBest", fn := fun _ => fun
  | [d1, d2, d3, d4, d5, d6] => { results := [.lit (.bool true)], args := [d1, d2, d3, d4, d5, d6] }
  | _ => none }
def planBestRow : OpenClaim := { program := "ytjilbkioieicbaa", sum := "d82669c2b5bec0966340b1a467888591481632695f5a7109769fd9bcdb2f2999", func := "stokvel/stokvellaw30.PlanBest", spec := "planBest", unfollowed := true, recurses := true, apart := false }
def PlanBestSaid : Prop := planBestRow.holds Try.pinned (OpenSpec.ofChange planBestSpec)

/-- ITS FALSE NEIGHBOUR: 'it returns false'. Refute it at one input. -/
def planBestWrong : ChangeSpec := { name := "planBest", fn := fun _ => fun
  | [d1, d2, d3, d4, d5, d6] => { results := [.lit (.bool false)], args := [d1, d2, d3, d4, d5, d6] }
  | _ => none }
def PlanBestWrongFalsely : Prop := planBestRow.holds Try.pinned (OpenSpec.ofChange planBestWrong)

/-- 'stokvellaw30.PlanRuns': WHATEVER THE INPUT: true; the input reads as it did. -/
def planRunsSpec : ChangeSpec := { name := "planRuns", fn := fun _ => fun
  | [d1, d2, d3, d4, d5, d6] => { results := [.lit (.bool true)], args := [d1, d2, d3, d4, d5, d6] }
  | _ => none }
def planRunsRow : OpenClaim := { program := "ytjilbkioieicbaa", sum := "d82669c2b5bec0966340b1a467888591481632695f5a7109769fd9bcdb2f2999", func := "stokvel/stokvellaw30.PlanRuns", spec := "planRuns", unfollowed := true, recurses := true, apart := false }
def PlanRunsSaid : Prop := planRunsRow.holds Try.pinned (OpenSpec.ofChange planRunsSpec)

/-- ITS FALSE NEIGHBOUR: 'it returns false'. Refute it at one input. -/
def planRunsWrong : ChangeSpec := { name := "planRuns", fn := fun _ => fun
  | [d1, d2, d3, d4, d5, d6] => { results := [.lit (.bool false)], args := [d1, d2, d3, d4, d5, d6] }
  | _ => none }
def PlanRunsWrongFalsely : Prop := planRunsRow.holds Try.pinned (OpenSpec.ofChange planRunsWrong)

/-- 'stokvellaw30.PlanMore': WHATEVER THE INPUT: true; the input reads as it did. -/
def planMoreSpec : ChangeSpec := { name := "planMore", fn := fun _ => fun
  | [d1, d2, d3, d4, d5, d6, d7] => { results := [.lit (.bool true)], args := [d1, d2, d3, d4, d5, d6, d7] }
  | _ => none }
def planMoreRow : OpenClaim := { program := "ytjilbkioieicbaa", sum := "d82669c2b5bec0966340b1a467888591481632695f5a7109769fd9bcdb2f2999", func := "stokvel/stokvellaw30.PlanMore", spec := "planMore", unfollowed := true, recurses := true, apart := false }
def PlanMoreSaid : Prop := planMoreRow.holds Try.pinned (OpenSpec.ofChange planMoreSpec)

/-- ITS FALSE NEIGHBOUR: 'it returns false'. Refute it at one input. -/
def planMoreWrong : ChangeSpec := { name := "planMore", fn := fun _ => fun
  | [d1, d2, d3, d4, d5, d6, d7] => { results := [.lit (.bool false)], args := [d1, d2, d3, d4, d5, d6, d7] }
  | _ => none }
def PlanMoreWrongFalsely : Prop := planMoreRow.holds Try.pinned (OpenSpec.ofChange planMoreWrong)

/-- 'stokvellaw27.RightsSum': WHATEVER THE INPUT: true; the input reads as it did. -/
def rightsSumSpec : ChangeSpec := { name := "rightsSum", fn := fun _ => fun
  | [d] => { results := [.lit (.bool true)], args := [d] }
  | _ => none }
def rightsSumRow : OpenClaim := { program := "ytjilbkioieicbaa", sum := "d82669c2b5bec0966340b1a467888591481632695f5a7109769fd9bcdb2f2999", func := "stokvel/stokvellaw27.RightsSum", spec := "rightsSum", inPlace := ["slices.overlaps[stokvel/api.Lot]"], unfollowed := true, recurses := true, apart := false }
def RightsSumSaid : Prop := rightsSumRow.holds Try.pinned (OpenSpec.ofChange rightsSumSpec)

/-- ITS FALSE NEIGHBOUR: 'it returns false'. Refute it at one input. -/
def rightsSumWrong : ChangeSpec := { name := "rightsSum", fn := fun _ => fun
  | [d] => { results := [.lit (.bool false)], args := [d] }
  | _ => none }
def RightsSumWrongFalsely : Prop := rightsSumRow.holds Try.pinned (OpenSpec.ofChange rightsSumWrong)

/-- 'stokvellaw27.RightsRefused': WHATEVER THE INPUT: true; the input reads as it did. -/
def rightsRefusedSpec : ChangeSpec := { name := "rightsRefused", fn := fun _ => fun
  | [d] => { results := [.lit (.bool true)], args := [d] }
  | _ => none }
def rightsRefusedRow : OpenClaim := { program := "ytjilbkioieicbaa", sum := "d82669c2b5bec0966340b1a467888591481632695f5a7109769fd9bcdb2f2999", func := "stokvel/stokvellaw27.RightsRefused", spec := "rightsRefused", inPlace := ["slices.overlaps[stokvel/api.Lot]"], unfollowed := true, recurses := true, apart := false }
def RightsRefusedSaid : Prop := rightsRefusedRow.holds Try.pinned (OpenSpec.ofChange rightsRefusedSpec)

/-- ITS FALSE NEIGHBOUR: 'it returns false'. Refute it at one input. -/
def rightsRefusedWrong : ChangeSpec := { name := "rightsRefused", fn := fun _ => fun
  | [d] => { results := [.lit (.bool false)], args := [d] }
  | _ => none }
def RightsRefusedWrongFalsely : Prop := rightsRefusedRow.holds Try.pinned (OpenSpec.ofChange rightsRefusedWrong)

/-- 'stokvellaw27.RightsTells': WHATEVER THE INPUT: true; the input reads as it did. -/
def rightsTellsSpec : ChangeSpec := { name := "rightsTells", fn := fun _ => fun
  | [d1, d2, d3] => { results := [.lit (.bool true)], args := [d1, d2, d3] }
  | _ => none }
def rightsTellsRow : OpenClaim := { program := "ytjilbkioieicbaa", sum := "d82669c2b5bec0966340b1a467888591481632695f5a7109769fd9bcdb2f2999", func := "stokvel/stokvellaw27.RightsTells", spec := "rightsTells", inPlace := ["slices.overlaps[stokvel/api.Lot]"], unfollowed := true, recurses := true, apart := false }
def RightsTellsSaid : Prop := rightsTellsRow.holds Try.pinned (OpenSpec.ofChange rightsTellsSpec)

/-- ITS FALSE NEIGHBOUR: 'it returns false'. Refute it at one input. -/
def rightsTellsWrong : ChangeSpec := { name := "rightsTells", fn := fun _ => fun
  | [d1, d2, d3] => { results := [.lit (.bool false)], args := [d1, d2, d3] }
  | _ => none }
def RightsTellsWrongFalsely : Prop := rightsTellsRow.holds Try.pinned (OpenSpec.ofChange rightsTellsWrong)

/-- 'stokvellaw27.RightsParts': WHATEVER THE INPUT: true; the input reads as it did. -/
def rightsPartsSpec : ChangeSpec := { name := "rightsParts", fn := fun _ => fun
  | [d1, d2, d3] => { results := [.lit (.bool true)], args := [d1, d2, d3] }
  | _ => none }
def rightsPartsRow : OpenClaim := { program := "ytjilbkioieicbaa", sum := "d82669c2b5bec0966340b1a467888591481632695f5a7109769fd9bcdb2f2999", func := "stokvel/stokvellaw27.RightsParts", spec := "rightsParts", inPlace := ["slices.overlaps[stokvel/api.Lot]"], unfollowed := true, recurses := true, apart := false }
def RightsPartsSaid : Prop := rightsPartsRow.holds Try.pinned (OpenSpec.ofChange rightsPartsSpec)

/-- ITS FALSE NEIGHBOUR: 'it returns false'. Refute it at one input. -/
def rightsPartsWrong : ChangeSpec := { name := "rightsParts", fn := fun _ => fun
  | [d1, d2, d3] => { results := [.lit (.bool false)], args := [d1, d2, d3] }
  | _ => none }
def RightsPartsWrongFalsely : Prop := rightsPartsRow.holds Try.pinned (OpenSpec.ofChange rightsPartsWrong)

/-- 'stokvellaw27.RightsMoves': WHATEVER THE INPUT: true; the input reads as it did. -/
def rightsMovesSpec : ChangeSpec := { name := "rightsMoves", fn := fun _ => fun
  | [d1, d2] => { results := [.lit (.bool true)], args := [d1, d2] }
  | _ => none }
def rightsMovesRow : OpenClaim := { program := "ytjilbkioieicbaa", sum := "d82669c2b5bec0966340b1a467888591481632695f5a7109769fd9bcdb2f2999", func := "stokvel/stokvellaw27.RightsMoves", spec := "rightsMoves", inPlace := ["slices.overlaps[stokvel/api.Lot]"], unfollowed := true, recurses := true, apart := false }
def RightsMovesSaid : Prop := rightsMovesRow.holds Try.pinned (OpenSpec.ofChange rightsMovesSpec)

/-- ITS FALSE NEIGHBOUR: 'it returns false'. Refute it at one input. -/
def rightsMovesWrong : ChangeSpec := { name := "rightsMoves", fn := fun _ => fun
  | [d1, d2] => { results := [.lit (.bool false)], args := [d1, d2] }
  | _ => none }
def RightsMovesWrongFalsely : Prop := rightsMovesRow.holds Try.pinned (OpenSpec.ofChange rightsMovesWrong)

/-- 'stokvellaw27.RightsLent': WHATEVER THE INPUT: true; the input reads as it did. -/
def rightsLentSpec : ChangeSpec := { name := "rightsLent", fn := fun _ => fun
  | [d1, d2, d3, d4, d5] => { results := [.lit (.bool true)], args := [d1, d2, d3, d4, d5] }
  | _ => none }
def rightsLentRow : OpenClaim := { program := "ytjilbkioieicbaa", sum := "d82669c2b5bec0966340b1a467888591481632695f5a7109769fd9bcdb2f2999", func := "stokvel/stokvellaw27.RightsLent", spec := "rightsLent", inPlace := ["slices.overlaps[stokvel/api.Lot]"], unfollowed := true, recurses := true, apart := false }
def RightsLentSaid : Prop := rightsLentRow.holds Try.pinned (OpenSpec.ofChange rightsLentSpec)

/-- ITS FALSE NEIGHBOUR: 'it returns false'. Refute it at one input. -/
def rightsLentWrong : ChangeSpec := { name := "rightsLent", fn := fun _ => fun
  | [d1, d2, d3, d4, d5] => { results := [.lit (.bool false)], args := [d1, d2, d3, d4, d5] }
  | _ => none }
def RightsLentWrongFalsely : Prop := rightsLentRow.holds Try.pinned (OpenSpec.ofChange rightsLentWrong)

/-- 'stokvellaw28.LeaseOne': WHATEVER THE INPUT: true; the input reads as it did. -/
def leaseOneSpec : ChangeSpec := { name := "leaseOne", fn := fun _ => fun
  | [d1, d2, d3] => { results := [.lit (.bool true)], args := [d1, d2, d3] }
  | _ => none }
def leaseOneRow : OpenClaim := { program := "ytjilbkioieicbaa", sum := "d82669c2b5bec0966340b1a467888591481632695f5a7109769fd9bcdb2f2999", func := "stokvel/stokvellaw28.LeaseOne", spec := "leaseOne", inPlace := ["slices.overlaps[stokvel/api.Lot]"], unfollowed := true, recurses := true, apart := false }
def LeaseOneSaid : Prop := leaseOneRow.holds Try.pinned (OpenSpec.ofChange leaseOneSpec)

/-- ITS FALSE NEIGHBOUR: 'it returns false'. Refute it at one input. -/
def leaseOneWrong : ChangeSpec := { name := "leaseOne", fn := fun _ => fun
  | [d1, d2, d3] => { results := [.lit (.bool false)], args := [d1, d2, d3] }
  | _ => none }
def LeaseOneWrongFalsely : Prop := leaseOneRow.holds Try.pinned (OpenSpec.ofChange leaseOneWrong)

/-- 'stokvellaw28.LeasePlain': WHATEVER THE INPUT: true; the input reads as it did. -/
def leasePlainSpec : ChangeSpec := { name := "leasePlain", fn := fun _ => fun
  | [d1, d2] => { results := [.lit (.bool true)], args := [d1, d2] }
  | _ => none }
def leasePlainRow : OpenClaim := { program := "ytjilbkioieicbaa", sum := "d82669c2b5bec0966340b1a467888591481632695f5a7109769fd9bcdb2f2999", func := "stokvel/stokvellaw28.LeasePlain", spec := "leasePlain", inPlace := ["slices.overlaps[stokvel/api.Lot]"], unfollowed := true, recurses := true, apart := false }
def LeasePlainSaid : Prop := leasePlainRow.holds Try.pinned (OpenSpec.ofChange leasePlainSpec)

/-- ITS FALSE NEIGHBOUR: 'it returns false'. Refute it at one input. -/
def leasePlainWrong : ChangeSpec := { name := "leasePlain", fn := fun _ => fun
  | [d1, d2] => { results := [.lit (.bool false)], args := [d1, d2] }
  | _ => none }
def LeasePlainWrongFalsely : Prop := leasePlainRow.holds Try.pinned (OpenSpec.ofChange leasePlainWrong)

/-- 'stokvellaw28.LeaseSafe': WHATEVER THE INPUT: true; the input reads as it did. -/
def leaseSafeSpec : ChangeSpec := { name := "leaseSafe", fn := fun _ => fun
  | [d1, d2] => { results := [.lit (.bool true)], args := [d1, d2] }
  | _ => none }
def leaseSafeRow : OpenClaim := { program := "ytjilbkioieicbaa", sum := "d82669c2b5bec0966340b1a467888591481632695f5a7109769fd9bcdb2f2999", func := "stokvel/stokvellaw28.LeaseSafe", spec := "leaseSafe", inPlace := ["slices.overlaps[stokvel/api.Lot]"], unfollowed := true, recurses := true, apart := false }
def LeaseSafeSaid : Prop := leaseSafeRow.holds Try.pinned (OpenSpec.ofChange leaseSafeSpec)

/-- ITS FALSE NEIGHBOUR: 'it returns false'. Refute it at one input. -/
def leaseSafeWrong : ChangeSpec := { name := "leaseSafe", fn := fun _ => fun
  | [d1, d2] => { results := [.lit (.bool false)], args := [d1, d2] }
  | _ => none }
def LeaseSafeWrongFalsely : Prop := leaseSafeRow.holds Try.pinned (OpenSpec.ofChange leaseSafeWrong)

/-- 'stokvellaw28.LeaseBack': WHATEVER THE INPUT: true; the input reads as it did. -/
def leaseBackSpec : ChangeSpec := { name := "leaseBack", fn := fun _ => fun
  | [d1, d2, d3, d4, d5, d6, d7] => { results := [.lit (.bool true)], args := [d1, d2, d3, d4, d5, d6, d7] }
  | _ => none }
def leaseBackRow : OpenClaim := { program := "ytjilbkioieicbaa", sum := "d82669c2b5bec0966340b1a467888591481632695f5a7109769fd9bcdb2f2999", func := "stokvel/stokvellaw28.LeaseBack", spec := "leaseBack", inPlace := ["slices.overlaps[stokvel/api.Lot]"], unfollowed := true, recurses := true, apart := false }
def LeaseBackSaid : Prop := leaseBackRow.holds Try.pinned (OpenSpec.ofChange leaseBackSpec)

/-- ITS FALSE NEIGHBOUR: 'it returns false'. Refute it at one input. -/
def leaseBackWrong : ChangeSpec := { name := "leaseBack", fn := fun _ => fun
  | [d1, d2, d3, d4, d5, d6, d7] => { results := [.lit (.bool false)], args := [d1, d2, d3, d4, d5, d6, d7] }
  | _ => none }
def LeaseBackWrongFalsely : Prop := leaseBackRow.holds Try.pinned (OpenSpec.ofChange leaseBackWrong)

/-- 'stokvellaw30.PlanCoins': WHATEVER THE INPUT: true; the input reads as it did. -/
def planCoinsSpec : ChangeSpec := { name := "planCoins", fn := fun _ => fun
  | [d1, d2, d3] => { results := [.lit (.bool true)], args := [d1, d2, d3] }
  | _ => none }
def planCoinsRow : OpenClaim := { program := "ytjilbkioieicbaa", sum := "d82669c2b5bec0966340b1a467888591481632695f5a7109769fd9bcdb2f2999", func := "stokvel/stokvellaw30.PlanCoins", spec := "planCoins", inPlace := ["slices.overlaps[stokvel/api.Lot]"], unfollowed := true, recurses := true, apart := false }
def PlanCoinsSaid : Prop := planCoinsRow.holds Try.pinned (OpenSpec.ofChange planCoinsSpec)

/-- ITS FALSE NEIGHBOUR: 'it returns false'. Refute it at one input. -/
def planCoinsWrong : ChangeSpec := { name := "planCoins", fn := fun _ => fun
  | [d1, d2, d3] => { results := [.lit (.bool false)], args := [d1, d2, d3] }
  | _ => none }
def PlanCoinsWrongFalsely : Prop := planCoinsRow.holds Try.pinned (OpenSpec.ofChange planCoinsWrong)

/- THE SECOND FORM. 'bulk': how many values and letters a reading holds, each counted each time it is reached (what is shared counts as often as it is met; a slice's spare places count too). A statement '..UptoSaid' is the law's where the arguments, and the package variables that the reading takes, are together of bulk at most 1048576: NARROWER than '..Said'. Prove '..Said' where nothing that the law and all that it calls make is longer than what came in: it says more and counts as full. Else prove '..UptoSaid'. A law counts once. -/
mutual
def uptoBulk {H : Type} : DataW H → Nat
  | .lit (.string bytes) => bytes.length + 1
  | .lit _ => 1
  | .nil => 1
  | .ptr d => uptoBulk d + 1
  | .slice elems spare => uptoBulkAll elems + uptoBulkAll spare + 1
  | .agg parts => uptoBulkAll parts + 1
  | .iface _ d => uptoBulk d + 1
  | .map entries => uptoBulkEntries entries + 1
  | .held _ => 1
def uptoBulkAll {H : Type} : List (DataW H) → Nat
  | [] => 0
  | d :: r => uptoBulk d + uptoBulkAll r
def uptoBulkEntries {H : Type} : List (Lit × DataW H) → Nat
  | [] => 0
  | x :: r => uptoBulkEntry x + uptoBulkEntries r
def uptoBulkEntry {H : Type} : Lit × DataW H → Nat
  | (.string bytes, d) => bytes.length + uptoBulk d + 1
  | (_, d) => uptoBulk d + 1
 end
def uptoSmall : (H : Type) → List (DataW H) → Bool := fun _ ds => decide (uptoBulkAll ds ≤ 1048576)
def OpenSpec.upto (s : _root_.Go.ChangeSpec) : _root_.Go.OpenSpec := { _root_.Go.OpenSpec.ofChange s with cond := some uptoSmall }

/-- 'stokvellaw30.PlanBest', WHERE WHAT IT READS IS OF BULK AT MOST 1048576: true; the input reads as it did. -/
def planBestUptoRow : OpenClaim := { program := "ytjilbkioieicbaa", sum := "d82669c2b5bec0966340b1a467888591481632695f5a7109769fd9bcdb2f2999", func := "stokvel/stokvellaw30.PlanBest", spec := "planBest", unfollowed := true, recurses := true, apart := false, narrowed := true }
def PlanBestUptoSaid : Prop := planBestUptoRow.holds Try.pinned (OpenSpec.upto planBestSpec)

/-- 'stokvellaw30.PlanRuns', WHERE WHAT IT READS IS OF BULK AT MOST 1048576: true; the input reads as it did. -/
def planRunsUptoRow : OpenClaim := { program := "ytjilbkioieicbaa", sum := "d82669c2b5bec0966340b1a467888591481632695f5a7109769fd9bcdb2f2999", func := "stokvel/stokvellaw30.PlanRuns", spec := "planRuns", unfollowed := true, recurses := true, apart := false, narrowed := true }
def PlanRunsUptoSaid : Prop := planRunsUptoRow.holds Try.pinned (OpenSpec.upto planRunsSpec)

/-- 'stokvellaw30.PlanMore', WHERE WHAT IT READS IS OF BULK AT MOST 1048576: true; the input reads as it did. -/
def planMoreUptoRow : OpenClaim := { program := "ytjilbkioieicbaa", sum := "d82669c2b5bec0966340b1a467888591481632695f5a7109769fd9bcdb2f2999", func := "stokvel/stokvellaw30.PlanMore", spec := "planMore", unfollowed := true, recurses := true, apart := false, narrowed := true }
def PlanMoreUptoSaid : Prop := planMoreUptoRow.holds Try.pinned (OpenSpec.upto planMoreSpec)

/-- 'stokvellaw27.RightsSum', WHERE WHAT IT READS IS OF BULK AT MOST 1048576: true; the input reads as it did. -/
def rightsSumUptoRow : OpenClaim := { program := "ytjilbkioieicbaa", sum := "d82669c2b5bec0966340b1a467888591481632695f5a7109769fd9bcdb2f2999", func := "stokvel/stokvellaw27.RightsSum", spec := "rightsSum", inPlace := ["slices.overlaps[stokvel/api.Lot]"], unfollowed := true, recurses := true, apart := false, narrowed := true }
def RightsSumUptoSaid : Prop := rightsSumUptoRow.holds Try.pinned (OpenSpec.upto rightsSumSpec)

/-- 'stokvellaw27.RightsRefused', WHERE WHAT IT READS IS OF BULK AT MOST 1048576: true; the input reads as it did. -/
def rightsRefusedUptoRow : OpenClaim := { program := "ytjilbkioieicbaa", sum := "d82669c2b5bec0966340b1a467888591481632695f5a7109769fd9bcdb2f2999", func := "stokvel/stokvellaw27.RightsRefused", spec := "rightsRefused", inPlace := ["slices.overlaps[stokvel/api.Lot]"], unfollowed := true, recurses := true, apart := false, narrowed := true }
def RightsRefusedUptoSaid : Prop := rightsRefusedUptoRow.holds Try.pinned (OpenSpec.upto rightsRefusedSpec)

/-- 'stokvellaw27.RightsTells', WHERE WHAT IT READS IS OF BULK AT MOST 1048576: true; the input reads as it did. -/
def rightsTellsUptoRow : OpenClaim := { program := "ytjilbkioieicbaa", sum := "d82669c2b5bec0966340b1a467888591481632695f5a7109769fd9bcdb2f2999", func := "stokvel/stokvellaw27.RightsTells", spec := "rightsTells", inPlace := ["slices.overlaps[stokvel/api.Lot]"], unfollowed := true, recurses := true, apart := false, narrowed := true }
def RightsTellsUptoSaid : Prop := rightsTellsUptoRow.holds Try.pinned (OpenSpec.upto rightsTellsSpec)

/-- 'stokvellaw27.RightsParts', WHERE WHAT IT READS IS OF BULK AT MOST 1048576: true; the input reads as it did. -/
def rightsPartsUptoRow : OpenClaim := { program := "ytjilbkioieicbaa", sum := "d82669c2b5bec0966340b1a467888591481632695f5a7109769fd9bcdb2f2999", func := "stokvel/stokvellaw27.RightsParts", spec := "rightsParts", inPlace := ["slices.overlaps[stokvel/api.Lot]"], unfollowed := true, recurses := true, apart := false, narrowed := true }
def RightsPartsUptoSaid : Prop := rightsPartsUptoRow.holds Try.pinned (OpenSpec.upto rightsPartsSpec)

/-- 'stokvellaw27.RightsMoves', WHERE WHAT IT READS IS OF BULK AT MOST 1048576: true; the input reads as it did. -/
def rightsMovesUptoRow : OpenClaim := { program := "ytjilbkioieicbaa", sum := "d82669c2b5bec0966340b1a467888591481632695f5a7109769fd9bcdb2f2999", func := "stokvel/stokvellaw27.RightsMoves", spec := "rightsMoves", inPlace := ["slices.overlaps[stokvel/api.Lot]"], unfollowed := true, recurses := true, apart := false, narrowed := true }
def RightsMovesUptoSaid : Prop := rightsMovesUptoRow.holds Try.pinned (OpenSpec.upto rightsMovesSpec)

/-- 'stokvellaw27.RightsLent', WHERE WHAT IT READS IS OF BULK AT MOST 1048576: true; the input reads as it did. -/
def rightsLentUptoRow : OpenClaim := { program := "ytjilbkioieicbaa", sum := "d82669c2b5bec0966340b1a467888591481632695f5a7109769fd9bcdb2f2999", func := "stokvel/stokvellaw27.RightsLent", spec := "rightsLent", inPlace := ["slices.overlaps[stokvel/api.Lot]"], unfollowed := true, recurses := true, apart := false, narrowed := true }
def RightsLentUptoSaid : Prop := rightsLentUptoRow.holds Try.pinned (OpenSpec.upto rightsLentSpec)

/-- 'stokvellaw28.LeaseOne', WHERE WHAT IT READS IS OF BULK AT MOST 1048576: true; the input reads as it did. -/
def leaseOneUptoRow : OpenClaim := { program := "ytjilbkioieicbaa", sum := "d82669c2b5bec0966340b1a467888591481632695f5a7109769fd9bcdb2f2999", func := "stokvel/stokvellaw28.LeaseOne", spec := "leaseOne", inPlace := ["slices.overlaps[stokvel/api.Lot]"], unfollowed := true, recurses := true, apart := false, narrowed := true }
def LeaseOneUptoSaid : Prop := leaseOneUptoRow.holds Try.pinned (OpenSpec.upto leaseOneSpec)

/-- 'stokvellaw28.LeasePlain', WHERE WHAT IT READS IS OF BULK AT MOST 1048576: true; the input reads as it did. -/
def leasePlainUptoRow : OpenClaim := { program := "ytjilbkioieicbaa", sum := "d82669c2b5bec0966340b1a467888591481632695f5a7109769fd9bcdb2f2999", func := "stokvel/stokvellaw28.LeasePlain", spec := "leasePlain", inPlace := ["slices.overlaps[stokvel/api.Lot]"], unfollowed := true, recurses := true, apart := false, narrowed := true }
def LeasePlainUptoSaid : Prop := leasePlainUptoRow.holds Try.pinned (OpenSpec.upto leasePlainSpec)

/-- 'stokvellaw28.LeaseSafe', WHERE WHAT IT READS IS OF BULK AT MOST 1048576: true; the input reads as it did. -/
def leaseSafeUptoRow : OpenClaim := { program := "ytjilbkioieicbaa", sum := "d82669c2b5bec0966340b1a467888591481632695f5a7109769fd9bcdb2f2999", func := "stokvel/stokvellaw28.LeaseSafe", spec := "leaseSafe", inPlace := ["slices.overlaps[stokvel/api.Lot]"], unfollowed := true, recurses := true, apart := false, narrowed := true }
def LeaseSafeUptoSaid : Prop := leaseSafeUptoRow.holds Try.pinned (OpenSpec.upto leaseSafeSpec)

/-- 'stokvellaw28.LeaseBack', WHERE WHAT IT READS IS OF BULK AT MOST 1048576: true; the input reads as it did. -/
def leaseBackUptoRow : OpenClaim := { program := "ytjilbkioieicbaa", sum := "d82669c2b5bec0966340b1a467888591481632695f5a7109769fd9bcdb2f2999", func := "stokvel/stokvellaw28.LeaseBack", spec := "leaseBack", inPlace := ["slices.overlaps[stokvel/api.Lot]"], unfollowed := true, recurses := true, apart := false, narrowed := true }
def LeaseBackUptoSaid : Prop := leaseBackUptoRow.holds Try.pinned (OpenSpec.upto leaseBackSpec)

/-- 'stokvellaw30.PlanCoins', WHERE WHAT IT READS IS OF BULK AT MOST 1048576: true; the input reads as it did. -/
def planCoinsUptoRow : OpenClaim := { program := "ytjilbkioieicbaa", sum := "d82669c2b5bec0966340b1a467888591481632695f5a7109769fd9bcdb2f2999", func := "stokvel/stokvellaw30.PlanCoins", spec := "planCoins", inPlace := ["slices.overlaps[stokvel/api.Lot]"], unfollowed := true, recurses := true, apart := false, narrowed := true }
def PlanCoinsUptoSaid : Prop := planCoinsUptoRow.holds Try.pinned (OpenSpec.upto planCoinsSpec)

end Rows
end Go.Proofs.Ytjilbkioieicbaa
