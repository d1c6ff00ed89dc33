/- The law LostSafe, as its card says it: for every input the call returns true and the arguments read as before; no condition. What the card lists of the program's variables is tied to the program's text. -/
import Derived.Test.YtdigebokbhmfaaaGreatDoorOE13S
import Derived.Test.YtdigebokbhmfaaaGreatDoorOJ2S
import Derived.Test.YtdigebokbhmfaaaGreatDoorCards
import Derived.SevenTiedAt
set_option linter.unusedVariables false
set_option linter.unusedSimpArgs false
namespace Go.Proofs.YtdigebokbhmfaaaGreatDoor.lostSafe
open Go
theorem proved : Rows.LostSafeCardSaid :=
 Claim7.holds_tied_plain_at .later [] [.data, .data, .data, .data, .sentinel, .sentinel, .data] true (true, "989122db1a96136af4c38461ca56594738e684a56c0c9d6f487b5bcde975649c") true
  over (fun _ h => by cases h) cf0 (fun _ h => by cases h) lostSafe_tie rfl ⟨rfl, rfl⟩ cf1 rfl
  (fun f fn hf hfn => by
   obtain rfl : f = 4 := Option.some.inj (named4.symm.trans hf) |>.symm
   obtain rfl : fn = Tryz.f4 := (Option.some.inj (Tryz.func4.symm.trans hfn)).symm
   exact ⟨cf2, fun j t ht => by
    rw [Tryz.params4] at ht
    have hm : t ∈ [5, 48] := by simpa using Array.mem_of_getElem? ht
    exact (show Tryz.prog.wantsStandIn t = false by simpa using List.all_eq_true.1 cf3 t hm)⟩)
  cf4
#print axioms proved
end Go.Proofs.YtdigebokbhmfaaaGreatDoor.lostSafe
