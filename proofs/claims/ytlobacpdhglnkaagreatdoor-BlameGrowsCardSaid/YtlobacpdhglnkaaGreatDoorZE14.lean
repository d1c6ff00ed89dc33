/- The law BlameGrows, as its card says it: for every input the call returns true and the arguments read as before; no condition. What the card lists of the program's variables is tied to the program's text. -/
import Derived.Test.YtlobacpdhglnkaaGreatDoorPE13
import Derived.Test.YtlobacpdhglnkaaGreatDoorPJ2
import Derived.Test.YtlobacpdhglnkaaGreatDoorCards
import Derived.SevenTiedAt
set_option linter.unusedVariables false
set_option linter.unusedSimpArgs false
namespace Go.Proofs.YtlobacpdhglnkaaGreatDoor.blameGrows
open Go
theorem proved : Rows.BlameGrowsCardSaid :=
 Claim7.holds_tied_plain_at .later [] [.data, .data, .data, .data, .sentinel, .sentinel, .data] true (true, "3ece3217c31dbbcb8d7012f73c301688b3eb3032dc6f8e4c71ec2b47bea63125") true
  over (fun _ h => by cases h) cf0 (fun _ h => by cases h) blameGrows_tie rfl ⟨rfl, rfl⟩ cf1 rfl
  (fun f fn hf hfn => by
   obtain rfl : f = 3 := Option.some.inj (named3.symm.trans hf) |>.symm
   obtain rfl : fn = Tryz.f3 := (Option.some.inj (Tryz.func3.symm.trans hfn)).symm
   exact ⟨cf2, fun j t ht => by
    rw [Tryz.params3] at ht
    have hm : t ∈ [24, 25, 3] := by simpa using Array.mem_of_getElem? ht
    exact (show Tryz.prog.wantsStandIn t = false by simpa using List.all_eq_true.1 cf3 t hm)⟩)
  cf4
#print axioms proved
end Go.Proofs.YtlobacpdhglnkaaGreatDoor.blameGrows
