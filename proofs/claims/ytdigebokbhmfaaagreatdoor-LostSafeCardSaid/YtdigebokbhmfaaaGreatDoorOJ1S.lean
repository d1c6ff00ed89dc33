/- Texts that the law leans on. -/
import Derived.Test.YtdigebokbhmfaaaGreatDoorOJ3S
import Derived.Test.YtdigebokbhmfaaaGreatDoorOJ4S
import Derived.Test.YtdigebokbhmfaaaGreatDoorOJ5S
import Derived.Test.YtdigebokbhmfaaaGreatDoorOJ6S
import Derived.Test.YtdigebokbhmfaaaGreatDoorOJ7S
import Derived.Test.YtdigebokbhmfaaaGreatDoorOJ8S
import Derived.Test.YtdigebokbhmfaaaGreatDoorOJ9S
import Derived.Test.YtdigebokbhmfaaaGreatDoorRows
import Derived.JoinedOf
import Derived.ProofKit
set_option linter.unusedVariables false
set_option linter.unusedSimpArgs false
namespace Go.Proofs.YtdigebokbhmfaaaGreatDoor.lostSafe
open Go
set_option maxRecDepth 100000
theorem and2 {a b : Bool} (h1 : a = true) (h2 : b = true) : (a && b) = true := by rw [h1, h2]; rfl
theorem joined : joinedFacts Tryz.prog 4 Tryz.f4 Rows.lostSafeSpec Rows.lostSafeRow = true := by
 unfold joinedFacts
 exact (and2 (and2 (and2 (and2 (and2 (and2 (and2 (and2 (and2 (and2 (and2 (and2 (and2 (and2 (and2 (and2 (and2 (and2 (and2 (and2 (and2 (and2 (and2 (and2 (and2 (and2 (and2 (and2 (and2 (and2 (and2 jf0 jf1) jf2) jf3) jf4) jf5) jf6) jf7) jf8) jf9) jf10) jf11) jf12) jf13) jf14) jf15) jf16) jf17) jf18) jf19) jf20) jf21) jf22) jf23) jf24) jf25) jf26) jf27) jf28) jf29) jf30) jf31)
end Go.Proofs.YtdigebokbhmfaaaGreatDoor.lostSafe
