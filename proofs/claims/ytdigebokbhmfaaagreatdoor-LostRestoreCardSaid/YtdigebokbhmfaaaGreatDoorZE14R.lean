/- The law LostRestore, as its card says it: for every input the call returns true and the arguments read as before; no condition. What the card lists of the program's variables is tied to the program's text. -/
import Derived.Test.YtdigebokbhmfaaaGreatDoorPE13R
import Derived.Test.YtdigebokbhmfaaaGreatDoorPJ2R
import Derived.Test.YtdigebokbhmfaaaGreatDoorCards
import Derived.SevenTiedAt
set_option linter.unusedVariables false
set_option linter.unusedSimpArgs false
namespace Go.Proofs.YtdigebokbhmfaaaGreatDoor.lostRestore
open Go
theorem proved : Rows.LostRestoreCardSaid :=
 Claim7.holds_tied_plain_at .later [] [.data, .data, .data, .data, .sentinel, .sentinel, .data] true (true, "989122db1a96136af4c38461ca56594738e684a56c0c9d6f487b5bcde975649c") true
  over (fun _ h => by cases h) cf0 (fun _ h => by cases h) lostRestore_tie rfl ⟨rfl, rfl⟩ cf1 rfl
  (fun f fn hf hfn => by
   obtain rfl : f = 3 := Option.some.inj (named3.symm.trans hf) |>.symm
   obtain rfl : fn = Tryz.f3 := (Option.some.inj (Tryz.func3.symm.trans hfn)).symm
   exact ⟨cf2, fun j t ht => by
    rw [Tryz.params3] at ht
    have hm : t ∈ [22, 23, 3] := by simpa using Array.mem_of_getElem? ht
    exact (show Tryz.prog.wantsStandIn t = false by simpa using List.all_eq_true.1 cf3 t hm)⟩)
  cf4
#print axioms proved
end Go.Proofs.YtdigebokbhmfaaaGreatDoor.lostRestore
