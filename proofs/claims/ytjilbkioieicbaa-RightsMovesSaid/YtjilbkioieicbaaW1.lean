/- Walks: spans. -/
import Derived.Test.YtjilbkioieicbaaB0
namespace Go.Proofs.Ytjilbkioieicbaa
open Go.Vc Rt
set_option linter.unusedVariables false
set_option linter.unusedSimpArgs false
theorem mark_c (n : Int) (w : World) : Ans Try.prog 111 [vI n] (.b (isMark n)) w := by
  refine calls_plainB [.i n] Try.func111 rfl rfl (Nat.le_of_ble_eq_true rfl) rfl fun B hB => ?_
  repeat refine At.seq ?_
  refine At.region tab_ok ?_
  conv => whnf
  repeat refine At.seq ?_
  refine At.region tab_ok ?_
  conv => whnf
  repeat refine At.seq ?_
  refine At.ret (At.doneB tab_ok hB _ rfl fun w' hw => ⟨?_, hw.fr⟩)
  simp only [RV.den, SV.den, CV.den, band, isMark]
theorem isKey_c (n : Int) (w : World) : Ans Try.prog 121 [vI n] (.b (decide (0 ≤ n) && decide (n < 200))) w := by
  refine calls_plainB [.i n] Try.func121 rfl rfl (Nat.le_of_ble_eq_true rfl) rfl fun B hB => ?_
  repeat refine At.seq ?_
  refine At.region tab_ok ?_
  conv => whnf
  repeat refine At.seq ?_
  refine At.region tab_ok ?_
  conv => whnf
  repeat refine At.seq ?_
  refine At.ret (At.doneB tab_ok hB _ rfl fun w' hw => ⟨?_, hw.fr⟩)
  simp only [RV.den, SV.den, CV.den, band]
theorem valid_c (s : Span) (w : World) : Ans Try.prog 80 [vS s] (.b (valid s)) w := by
  refine calls_plainB [.s (.agg (encS s))] Try.func80 rfl rfl (Nat.le_of_ble_eq_true rfl) rfl fun B hB => ?_
  repeat refine At.seq ?_
  refine At.region tab_ok ?_
  conv => whnf
  intro b
  conv => whnf
  repeat refine At.seq ?_
  refine At.region tab_ok ?_
  conv => whnf
  refine ans_call b111 rfl (fun w _ => mark_c s.m w) ?_
  conv => whnf
  repeat refine At.seq ?_
  refine At.ret (At.doneB tab_ok hB _ rfl fun w' hw => ⟨?_, hw.fr⟩)
  simp only [RV.den, SV.den, CV.den, band, valid, Bool.and_assoc]
end Go.Proofs.Ytjilbkioieicbaa
