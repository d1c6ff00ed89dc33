/- Walks: the order of spans. -/
import Derived.Test.YtjilbkioieicbaaW4
namespace Go.Proofs.Ytjilbkioieicbaa
open Go.Vc Rt
set_option linter.unusedVariables false
set_option linter.unusedSimpArgs false
def cmpS (a b : Span) : Int := orI [cmpI a.m b.m, cmpI a.f b.f]
theorem norm2_c (x y : Span) (w : World) : Ans Try.prog 100 [vS x, vS y] (.i (cmpS x y)) w := by
  refine calls_plainB [.s (.agg (encS x)), .s (.agg (encS y))] Try.func100 rfl rfl (Nat.le_of_ble_eq_true rfl) rfl fun B hB => ?_
  repeat refine At.seq ?_
  refine At.region tab_ok ?_
  conv => whnf
  intro b1
  conv => whnf
  intro b2
  conv => whnf
  repeat refine At.seq ?_
  refine At.plan tab_ok mixed [(0, .box b1 56 (encS x)), (1, .box b2 56 (encS y))] (.take 0 (.take 1 (.take 2 (.take 3 (.take 5 (.take 6 (.take 7 (.take 8 (.br 4 (.br 9 (.br 10 (.br 11 (.take 12 .done) .nob) .nob) .nob) .nob))))))))) (by kernel_rfl) (by kernel_rfl) ⟨rfl, rfl, trivial⟩ ?_
  conv => whnf
  refine ⟨ans_call b58 rfl (fun w _ => compare_c x.m y.m w) ?_, trivial⟩
  conv => whnf
  refine ⟨⟨⟨rfl, rfl, trivial⟩, fun w' hw => hw.fr⟩, ?_⟩
  conv => whnf
  refine ⟨ans_call b58 rfl (fun w _ => compare_c x.f y.f w) ?_, trivial⟩
  conv => whnf
  refine ⟨⟨⟨rfl, rfl, trivial⟩, fun w' hw => hw.fr⟩, ?_⟩
  conv => whnf
  refine ⟨?_, trivial⟩
  intro v1
  conv => whnf
  refine ⟨⟨⟨rfl, rfl, trivial⟩, fun w' hw => hw.fr⟩, ?_⟩
  conv => whnf
  refine ⟨ans_call b101 rfl (fun w' hw => or_c [cmpI x.m y.m, cmpI x.f y.f] [] v1 w' (SlOf.of_row (xs := [cmpI x.m y.m, cmpI x.f y.f]) (hw.row (id := 2) rfl) (fun b hb hb' => by cases hb') (by simp))) ?_, trivial⟩
  conv => whnf
  refine ⟨⟨⟨rfl, rfl, trivial⟩, fun w' hw => hw.fr⟩, ?_⟩
  conv => whnf
  repeat refine At.seq ?_
  refine At.ret (At.doneB tab_ok hB _ rfl fun w' hw => ⟨rfl, hw.fr⟩)
end Go.Proofs.Ytjilbkioieicbaa
