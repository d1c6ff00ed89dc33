/- The examples of rights: what the plain functions compute. -/
import Derived.Test.YtjilbkioieicbaaP3
import Derived.Test.YtjilbkioieicbaaR3
import Derived.Test.YtjilbkioieicbaaWS
namespace Go.Proofs.Ytjilbkioieicbaa
open Go.Vc Rt
set_option linter.unusedVariables false
set_option linter.unusedSimpArgs false
def sD : List Deed := [⟨0, 0, 3, 0, 0, 0, [⟨0, 0, 10⟩]⟩, ⟨1, 1, 3, 5, 0, 0, [⟨0, 0, 4⟩]⟩, ⟨2, 1, 5, 6, 0, 0, [⟨0, 3, 5⟩]⟩, ⟨3, 2, 3, 5, 0, 9, [⟨0, 4, 6⟩]⟩, ⟨4, 3, 3, 0, 0, 0, [⟨0, 5, 7⟩]⟩, ⟨5, 1, 5, 6, 0, 0, [⟨0, 4, 6⟩]⟩, ⟨6, 1, 5, 3, 0, 0, [⟨0, 4, 6⟩]⟩, ⟨7, 3, 5, 0, 0, 0, [⟨0, 0, 2⟩]⟩, ⟨8, 1, 5, 3, 0, 0, [⟨0, 1, 3⟩]⟩, ⟨9, 1, 3, 5, 0, 0, [⟨0, 9, 11⟩]⟩]
def sErr : List Int := [0, 0, 27, 0, 28, 28, 0, 0, 29, 4]
def sEnd : List Lot := [⟨⟨0, 0, 2⟩, 5, 5, 0, 7⟩, ⟨⟨0, 2, 4⟩, 5, 5, 0, -1⟩, ⟨⟨0, 4, 10⟩, 3, 3, 0, -1⟩]
def sLent : List Lot := [⟨⟨0, 0, 4⟩, 5, 5, 0, -1⟩, ⟨⟨0, 4, 6⟩, 3, 5, 9, -1⟩, ⟨⟨0, 6, 10⟩, 3, 3, 0, -1⟩]
theorem s_errs : (lotsK sD).2 = sErr := by kernel_rfl
theorem s_end : (lotsK sD).1 = sEnd := by kernel_rfl
theorem s_lent : (lotsK (sD.take 4)).1 = sLent := by kernel_rfl
theorem s_sum : count (norm (openL (fun _ => true) sEnd)) = 8 := by kernel_rfl
theorem s_owned : norm (openL (fun l => decide (l.o = 3)) sLent) = [⟨0, 4, 10⟩] := by kernel_rfl
theorem s_held : norm (openL (fun l => decide (l.h = 5)) sLent) = [⟨0, 0, 6⟩] := by kernel_rfl
theorem s_spans : ∀ d ∈ sD, d.spans.length ≤ 8 := by
  have : sD.all (fun d => decide (d.spans.length ≤ 8)) = true := by kernel_rfl
  intro d hd
  have := List.all_eq_true.1 this d hd
  simpa using this
end Go.Proofs.Ytjilbkioieicbaa
