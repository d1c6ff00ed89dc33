/- The law BlameAsk, as its card says it: for every input the call returns true and the arguments read as before; no condition. What the card lists of the program's variables is tied to the program's text. -/
import Derived.Test.YtgpgbiklefkjjaaGreatDoorPE13
import Derived.Test.YtgpgbiklefkjjaaGreatDoorPJ2
import Derived.Test.YtgpgbiklefkjjaaGreatDoorCards
import Derived.SevenTiedAt
set_option linter.unusedVariables false
set_option linter.unusedSimpArgs false
namespace Go.Proofs.YtgpgbiklefkjjaaGreatDoor.blameAsk
open Go
theorem proved : Rows.BlameAskCardSaid :=
 Claim7.holds_tied_plain_at .later [] [.data, .data, .data, .data, .sentinel, .sentinel, .data] true (true, "b2146f5c0a4241f20fb49d58c46e5c51dd1653e2e9ef0e4f66541a62f74257c5") true
  over (fun _ h => by cases h) cf0 (fun _ h => by cases h) blameAsk_tie rfl ⟨rfl, rfl⟩ cf1 rfl
  (fun f fn hf hfn => by
   obtain rfl : f = 3 := Option.some.inj (named3.symm.trans hf) |>.symm
   obtain rfl : fn = Tryz.f3 := (Option.some.inj (Tryz.func3.symm.trans hfn)).symm
   exact ⟨cf2, fun j t ht => by
    rw [Tryz.params3] at ht
    have hm : t ∈ [22, 23] := by simpa using Array.mem_of_getElem? ht
    exact (show Tryz.prog.wantsStandIn t = false by simpa using List.all_eq_true.1 cf3 t hm)⟩)
  cf4
#print axioms proved
end Go.Proofs.YtgpgbiklefkjjaaGreatDoor.blameAsk
