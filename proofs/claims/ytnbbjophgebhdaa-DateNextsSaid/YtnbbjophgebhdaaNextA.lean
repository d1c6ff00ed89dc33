/- Cases of the walk of dateNexts, each with its tests decided. -/
import Derived.Test.YtnbbjophgebhdaaBase
import Derived.ProofKit
import Derived.OpenShut
namespace Go.Proofs.Ytnbbjophgebhdaa.dateNexts
open Go.ChangeShapes Go.WideShapes Go.ChangeAt Go.RowKit
set_option linter.unusedVariables false
set_option maxRecDepth 100000 in
set_option maxHeartbeats 1000000 in
theorem n_0 (day f l p g : Int) (w : World) (h : p < 0) :
    Calls Try.prog 5 #[.int .i64 day, .int .i64 f, .int .i64 l, .int .i64 p, .int .i64 g] w fun e w' => e = .returned (.bool true) ∧ Grown w w' := by
  go_enter Try.func5, Try.ntmps5
  go_wp2_with (first | (go_at_call 7; (with_reducible refine (small_0 _).mono ?_); rintro e w1 ⟨rfl, rfl⟩) | (go_at_call 8; (with_reducible refine (per_any _ _ _ _).mono ?_); rintro e w1 ⟨rfl, rfl⟩) | (go_at_call 10; (with_reducible refine (beg_0 _ _ _ _).mono ?_); rintro e w1 ⟨rfl, rfl⟩) | (go_at_call 14; (with_reducible refine (ends_any _ _ _ _).mono ?_); rintro e w1 ⟨rfl, rfl⟩) | (go_at_call 16; (with_reducible refine (due_any _ _ _ _ _).mono ?_); rintro e w1 ⟨rfl, rfl⟩) | (go_at_call 18; (with_reducible refine (late_any _ _ _ _ _ _).mono ?_); rintro e w1 ⟨rfl, rfl⟩))
  go_ret
  exact ⟨rfl, Grown.refl _⟩

set_option maxRecDepth 100000 in
set_option maxHeartbeats 1000000 in
theorem n_1 (day f l p g : Int) (w : World) (h : 0 ≤ p) (h1 : 1048576 < p) :
    Calls Try.prog 5 #[.int .i64 day, .int .i64 f, .int .i64 l, .int .i64 p, .int .i64 g] w fun e w' => e = .returned (.bool true) ∧ Grown w w' := by
  have n1 : ¬ p < 0 := by omega
  go_enter Try.func5, Try.ntmps5
  go_wp2_with (first | (go_at_call 7; (with_reducible refine (small_0 _).mono ?_); rintro e w1 ⟨rfl, rfl⟩) | (go_at_call 8; (with_reducible refine (per_any _ _ _ _).mono ?_); rintro e w1 ⟨rfl, rfl⟩) | (go_at_call 10; (with_reducible refine (beg_0 _ _ _ _).mono ?_); rintro e w1 ⟨rfl, rfl⟩) | (go_at_call 14; (with_reducible refine (ends_any _ _ _ _).mono ?_); rintro e w1 ⟨rfl, rfl⟩) | (go_at_call 16; (with_reducible refine (due_any _ _ _ _ _).mono ?_); rintro e w1 ⟨rfl, rfl⟩) | (go_at_call 18; (with_reducible refine (late_any _ _ _ _ _ _).mono ?_); rintro e w1 ⟨rfl, rfl⟩))
  go_ret
  exact ⟨rfl, Grown.refl _⟩

set_option maxRecDepth 100000 in
set_option maxHeartbeats 1000000 in
theorem n_2 (day f l p g : Int) (w : World) (h : 0 ≤ p) (h1 : p ≤ 1048576) (h2 : day < 0) :
    Calls Try.prog 5 #[.int .i64 day, .int .i64 f, .int .i64 l, .int .i64 p, .int .i64 g] w fun e w' => e = .returned (.bool true) ∧ Grown w w' := by
  have n1 : ¬ p < 0 := by omega
  have n2 : ¬ 1048576 < p := by omega
  go_enter Try.func5, Try.ntmps5
  go_wp2_with (first | (go_at_call 7; (with_reducible refine (small_0 _).mono ?_); rintro e w1 ⟨rfl, rfl⟩) | (go_at_call 8; (with_reducible refine (per_any _ _ _ _).mono ?_); rintro e w1 ⟨rfl, rfl⟩) | (go_at_call 10; (with_reducible refine (beg_0 _ _ _ _).mono ?_); rintro e w1 ⟨rfl, rfl⟩) | (go_at_call 14; (with_reducible refine (ends_any _ _ _ _).mono ?_); rintro e w1 ⟨rfl, rfl⟩) | (go_at_call 16; (with_reducible refine (due_any _ _ _ _ _).mono ?_); rintro e w1 ⟨rfl, rfl⟩) | (go_at_call 18; (with_reducible refine (late_any _ _ _ _ _ _).mono ?_); rintro e w1 ⟨rfl, rfl⟩))
  go_ret
  exact ⟨rfl, Grown.refl _⟩

set_option maxRecDepth 100000 in
set_option maxHeartbeats 1000000 in
theorem n_3 (day f l p g : Int) (w : World) (h : 0 ≤ p) (h1 : p ≤ 1048576) (h2 : 0 ≤ day) (h3 : 1048576 ≤ day) :
    Calls Try.prog 5 #[.int .i64 day, .int .i64 f, .int .i64 l, .int .i64 p, .int .i64 g] w fun e w' => e = .returned (.bool true) ∧ Grown w w' := by
  have n1 : ¬ p < 0 := by omega
  have n2 : ¬ 1048576 < p := by omega
  have n3 : ¬ day < 0 := by omega
  go_enter Try.func5, Try.ntmps5
  go_wp2_with (first | (go_at_call 7; (with_reducible refine (small_0 _).mono ?_); rintro e w1 ⟨rfl, rfl⟩) | (go_at_call 8; (with_reducible refine (per_any _ _ _ _).mono ?_); rintro e w1 ⟨rfl, rfl⟩) | (go_at_call 10; (with_reducible refine (beg_0 _ _ _ _).mono ?_); rintro e w1 ⟨rfl, rfl⟩) | (go_at_call 14; (with_reducible refine (ends_any _ _ _ _).mono ?_); rintro e w1 ⟨rfl, rfl⟩) | (go_at_call 16; (with_reducible refine (due_any _ _ _ _ _).mono ?_); rintro e w1 ⟨rfl, rfl⟩) | (go_at_call 18; (with_reducible refine (late_any _ _ _ _ _ _).mono ?_); rintro e w1 ⟨rfl, rfl⟩))
  go_ret
  exact ⟨rfl, Grown.refl _⟩

set_option maxRecDepth 100000 in
set_option maxHeartbeats 1000000 in
theorem n_11ns (day f l p g : Int) (w : World) (h : 0 ≤ p) (h1 : p ≤ 1048576) (h2 : 0 ≤ day) (h3 : day < 1048576) (v0 : 0 ≤ (dueV p f l 0)) (v1 : (dueV p f l 0) ≤ 1048576) (v2 : 0 ≤ (dueV p f l g)) (v3 : (dueV p f l g) ≤ 1048576) (v4 : 0 ≤ (lateV day p f l g)) (v5 : (lateV day p f l g) ≤ 1048576) (x0 : ((lateE day p f l g) != (lateE (day + 1) p f l g)) = false) (x1 : ((lateE day p f l g) != (dueE p f l g)) = false) (e0 : ((dueE p f l 0) == 0) = false) (e1 : ((dueE p f l 0) == 1) = true) (f1 : ((shE (p + 1) f l 0) == 1) = true) (g0 : ((dueE p f l g) == 0) = false) (z0 : l < 1) :
    Calls Try.prog 5 #[.int .i64 day, .int .i64 f, .int .i64 l, .int .i64 p, .int .i64 g] w fun e w' => e = .returned (.bool true) ∧ Grown w w' := by
  have n1 : ¬ p < 0 := by omega
  have n2 : ¬ 1048576 < p := by omega
  have n3 : ¬ day < 0 := by omega
  have n4 : ¬ 1048576 ≤ day := by omega
  go_enter Try.func5, Try.ntmps5
  go_wp2_with (first | (go_at_call 7; (with_reducible refine (small_0 _).mono ?_); rintro e w1 ⟨rfl, rfl⟩) | (go_at_call 8; (with_reducible refine (per_any _ _ _ _).mono ?_); rintro e w1 ⟨rfl, rfl⟩) | (go_at_call 10; (with_reducible refine (beg_0 _ _ _ _).mono ?_); rintro e w1 ⟨rfl, rfl⟩) | (go_at_call 14; (with_reducible refine (ends_any _ _ _ _).mono ?_); rintro e w1 ⟨rfl, rfl⟩) | (go_at_call 16; (with_reducible refine (due_any _ _ _ _ _).mono ?_); rintro e w1 ⟨rfl, rfl⟩) | (go_at_call 18; (with_reducible refine (late_any _ _ _ _ _ _).mono ?_); rintro e w1 ⟨rfl, rfl⟩))
  go_ret
  exact ⟨rfl, Grown.refl _⟩

set_option maxRecDepth 100000 in
set_option maxHeartbeats 1000000 in
theorem n_11nm (day f l p g : Int) (w : World) (h : 0 ≤ p) (h1 : p ≤ 1048576) (h2 : 0 ≤ day) (h3 : day < 1048576) (v0 : 0 ≤ (dueV p f l 0)) (v1 : (dueV p f l 0) ≤ 1048576) (v2 : 0 ≤ (dueV p f l g)) (v3 : (dueV p f l g) ≤ 1048576) (v4 : 0 ≤ (lateV day p f l g)) (v5 : (lateV day p f l g) ≤ 1048576) (x0 : ((lateE day p f l g) != (lateE (day + 1) p f l g)) = false) (x1 : ((lateE day p f l g) != (dueE p f l g)) = false) (e0 : ((dueE p f l 0) == 0) = false) (e1 : ((dueE p f l 0) == 1) = true) (f1 : ((shE (p + 1) f l 0) == 1) = true) (g0 : ((dueE p f l g) == 0) = false) (z0 : 1 ≤ l) (z1 : 1048576 < l) :
    Calls Try.prog 5 #[.int .i64 day, .int .i64 f, .int .i64 l, .int .i64 p, .int .i64 g] w fun e w' => e = .returned (.bool true) ∧ Grown w w' := by
  have n1 : ¬ p < 0 := by omega
  have n2 : ¬ 1048576 < p := by omega
  have n3 : ¬ day < 0 := by omega
  have n4 : ¬ 1048576 ≤ day := by omega
  have n6 : ¬ l < 1 := by omega
  go_enter Try.func5, Try.ntmps5
  go_wp2_with (first | (go_at_call 7; (with_reducible refine (small_0 _).mono ?_); rintro e w1 ⟨rfl, rfl⟩) | (go_at_call 8; (with_reducible refine (per_any _ _ _ _).mono ?_); rintro e w1 ⟨rfl, rfl⟩) | (go_at_call 10; (with_reducible refine (beg_0 _ _ _ _).mono ?_); rintro e w1 ⟨rfl, rfl⟩) | (go_at_call 14; (with_reducible refine (ends_any _ _ _ _).mono ?_); rintro e w1 ⟨rfl, rfl⟩) | (go_at_call 16; (with_reducible refine (due_any _ _ _ _ _).mono ?_); rintro e w1 ⟨rfl, rfl⟩) | (go_at_call 18; (with_reducible refine (late_any _ _ _ _ _ _).mono ?_); rintro e w1 ⟨rfl, rfl⟩))
  go_ret
  exact ⟨rfl, Grown.refl _⟩

set_option maxRecDepth 100000 in
set_option maxHeartbeats 1000000 in
theorem n_11no (day f l p g : Int) (w : World) (h : 0 ≤ p) (h1 : p ≤ 1048576) (h2 : 0 ≤ day) (h3 : day < 1048576) (v0 : 0 ≤ (dueV p f l 0)) (v1 : (dueV p f l 0) ≤ 1048576) (v2 : 0 ≤ (dueV p f l g)) (v3 : (dueV p f l g) ≤ 1048576) (v4 : 0 ≤ (lateV day p f l g)) (v5 : (lateV day p f l g) ≤ 1048576) (x0 : ((lateE day p f l g) != (lateE (day + 1) p f l g)) = false) (x1 : ((lateE day p f l g) != (dueE p f l g)) = false) (e0 : ((dueE p f l 0) == 0) = false) (e1 : ((dueE p f l 0) == 1) = true) (f1 : ((shE (p + 1) f l 0) == 1) = true) (g0 : ((dueE p f l g) == 0) = false) (z0 : 1 ≤ l) (z1 : l ≤ 1048576) (z2 : 1048576 < day + l) :
    Calls Try.prog 5 #[.int .i64 day, .int .i64 f, .int .i64 l, .int .i64 p, .int .i64 g] w fun e w' => e = .returned (.bool true) ∧ Grown w w' := by
  have n1 : ¬ p < 0 := by omega
  have n2 : ¬ 1048576 < p := by omega
  have n3 : ¬ day < 0 := by omega
  have n4 : ¬ 1048576 ≤ day := by omega
  have n6 : ¬ l < 1 := by omega
  have n7 : ¬ 1048576 < l := by omega
  go_enter Try.func5, Try.ntmps5
  go_wp2_with (first | (go_at_call 7; (with_reducible refine (small_0 _).mono ?_); rintro e w1 ⟨rfl, rfl⟩) | (go_at_call 8; (with_reducible refine (per_any _ _ _ _).mono ?_); rintro e w1 ⟨rfl, rfl⟩) | (go_at_call 10; (with_reducible refine (beg_0 _ _ _ _).mono ?_); rintro e w1 ⟨rfl, rfl⟩) | (go_at_call 14; (with_reducible refine (ends_any _ _ _ _).mono ?_); rintro e w1 ⟨rfl, rfl⟩) | (go_at_call 16; (with_reducible refine (due_any _ _ _ _ _).mono ?_); rintro e w1 ⟨rfl, rfl⟩) | (go_at_call 18; (with_reducible refine (late_any _ _ _ _ _ _).mono ?_); rintro e w1 ⟨rfl, rfl⟩))
  go_ret
  exact ⟨rfl, Grown.refl _⟩

set_option maxRecDepth 100000 in
set_option maxHeartbeats 1000000 in
theorem n_11nk (day f l p g : Int) (w : World) (h : 0 ≤ p) (h1 : p ≤ 1048576) (h2 : 0 ≤ day) (h3 : day < 1048576) (v0 : 0 ≤ (dueV p f l 0)) (v1 : (dueV p f l 0) ≤ 1048576) (v2 : 0 ≤ (dueV p f l g)) (v3 : (dueV p f l g) ≤ 1048576) (v4 : 0 ≤ (lateV day p f l g)) (v5 : (lateV day p f l g) ≤ 1048576) (x0 : ((lateE day p f l g) != (lateE (day + 1) p f l g)) = false) (x1 : ((lateE day p f l g) != (dueE p f l g)) = false) (e0 : ((dueE p f l 0) == 0) = false) (e1 : ((dueE p f l 0) == 1) = true) (f1 : ((shE (p + 1) f l 0) == 1) = true) (g0 : ((dueE p f l g) == 0) = false) (z0 : 1 ≤ l) (z1 : l ≤ 1048576) (z2 : day + l ≤ 1048576) (k0 : ((perE day f l) != 0) = true) :
    Calls Try.prog 5 #[.int .i64 day, .int .i64 f, .int .i64 l, .int .i64 p, .int .i64 g] w fun e w' => e = .returned (.bool true) ∧ Grown w w' := by
  have n1 : ¬ p < 0 := by omega
  have n2 : ¬ 1048576 < p := by omega
  have n3 : ¬ day < 0 := by omega
  have n4 : ¬ 1048576 ≤ day := by omega
  have n6 : ¬ l < 1 := by omega
  have n7 : ¬ 1048576 < l := by omega
  have n8 : ¬ 1048576 < day + l := by omega
  go_enter Try.func5, Try.ntmps5
  go_wp2_with (first | (go_at_call 7; (with_reducible refine (small_0 _).mono ?_); rintro e w1 ⟨rfl, rfl⟩) | (go_at_call 8; (with_reducible refine (per_any _ _ _ _).mono ?_); rintro e w1 ⟨rfl, rfl⟩) | (go_at_call 10; (with_reducible refine (beg_0 _ _ _ _).mono ?_); rintro e w1 ⟨rfl, rfl⟩) | (go_at_call 14; (with_reducible refine (ends_any _ _ _ _).mono ?_); rintro e w1 ⟨rfl, rfl⟩) | (go_at_call 16; (with_reducible refine (due_any _ _ _ _ _).mono ?_); rintro e w1 ⟨rfl, rfl⟩) | (go_at_call 18; (with_reducible refine (late_any _ _ _ _ _ _).mono ?_); rintro e w1 ⟨rfl, rfl⟩))
  go_ret
  exact ⟨rfl, Grown.refl _⟩

set_option maxRecDepth 100000 in
set_option maxHeartbeats 1000000 in
theorem n_00no (day f l p g : Int) (w : World) (h : 0 ≤ p) (h1 : p ≤ 1048576) (h2 : 0 ≤ day) (h3 : day < 1048576) (v0 : 0 ≤ (dueV p f l 0)) (v1 : (dueV p f l 0) ≤ 1048576) (v2 : 0 ≤ (dueV p f l g)) (v3 : (dueV p f l g) ≤ 1048576) (v4 : 0 ≤ (lateV day p f l g)) (v5 : (lateV day p f l g) ≤ 1048576) (x0 : ((lateE day p f l g) != (lateE (day + 1) p f l g)) = false) (x1 : ((lateE day p f l g) != (dueE p f l g)) = false) (e0 : ((dueE p f l 0) == 0) = true) (f0 : ((shE (p + 1) f l 0) == 0) = true) (nx : ((shV (p + 1) f l 0) != (dueV p f l 0) + 1) = false) (e1 : ((dueE p f l 0) == 1) = false) (f1 : ((shE (p + 1) f l 0) == 1) = false) (g0 : ((dueE p f l g) == 0) = false) (z0 : 1 ≤ l) (z1 : l ≤ 1048576) (z2 : 1048576 < day + l) :
    Calls Try.prog 5 #[.int .i64 day, .int .i64 f, .int .i64 l, .int .i64 p, .int .i64 g] w fun e w' => e = .returned (.bool true) ∧ Grown w w' := by
  have n1 : ¬ p < 0 := by omega
  have n2 : ¬ 1048576 < p := by omega
  have n3 : ¬ day < 0 := by omega
  have n4 : ¬ 1048576 ≤ day := by omega
  have n6 : ¬ l < 1 := by omega
  have n7 : ¬ 1048576 < l := by omega
  go_enter Try.func5, Try.ntmps5
  go_wp2_with (first | (go_at_call 7; (with_reducible refine (small_0 _).mono ?_); rintro e w1 ⟨rfl, rfl⟩) | (go_at_call 8; (with_reducible refine (per_any _ _ _ _).mono ?_); rintro e w1 ⟨rfl, rfl⟩) | (go_at_call 10; (with_reducible refine (beg_0 _ _ _ _).mono ?_); rintro e w1 ⟨rfl, rfl⟩) | (go_at_call 14; (with_reducible refine (ends_any _ _ _ _).mono ?_); rintro e w1 ⟨rfl, rfl⟩) | (go_at_call 16; (with_reducible refine (due_any _ _ _ _ _).mono ?_); rintro e w1 ⟨rfl, rfl⟩) | (go_at_call 18; (with_reducible refine (late_any _ _ _ _ _ _).mono ?_); rintro e w1 ⟨rfl, rfl⟩))
  go_ret
  exact ⟨rfl, Grown.refl _⟩

set_option maxRecDepth 100000 in
set_option maxHeartbeats 1000000 in
theorem n_00nk (day f l p g : Int) (w : World) (h : 0 ≤ p) (h1 : p ≤ 1048576) (h2 : 0 ≤ day) (h3 : day < 1048576) (v0 : 0 ≤ (dueV p f l 0)) (v1 : (dueV p f l 0) ≤ 1048576) (v2 : 0 ≤ (dueV p f l g)) (v3 : (dueV p f l g) ≤ 1048576) (v4 : 0 ≤ (lateV day p f l g)) (v5 : (lateV day p f l g) ≤ 1048576) (x0 : ((lateE day p f l g) != (lateE (day + 1) p f l g)) = false) (x1 : ((lateE day p f l g) != (dueE p f l g)) = false) (e0 : ((dueE p f l 0) == 0) = true) (f0 : ((shE (p + 1) f l 0) == 0) = true) (nx : ((shV (p + 1) f l 0) != (dueV p f l 0) + 1) = false) (e1 : ((dueE p f l 0) == 1) = false) (f1 : ((shE (p + 1) f l 0) == 1) = false) (g0 : ((dueE p f l g) == 0) = false) (z0 : 1 ≤ l) (z1 : l ≤ 1048576) (z2 : day + l ≤ 1048576) (k0 : ((perE day f l) != 0) = true) :
    Calls Try.prog 5 #[.int .i64 day, .int .i64 f, .int .i64 l, .int .i64 p, .int .i64 g] w fun e w' => e = .returned (.bool true) ∧ Grown w w' := by
  have n1 : ¬ p < 0 := by omega
  have n2 : ¬ 1048576 < p := by omega
  have n3 : ¬ day < 0 := by omega
  have n4 : ¬ 1048576 ≤ day := by omega
  have n6 : ¬ l < 1 := by omega
  have n7 : ¬ 1048576 < l := by omega
  have n8 : ¬ 1048576 < day + l := by omega
  go_enter Try.func5, Try.ntmps5
  go_wp2_with (first | (go_at_call 7; (with_reducible refine (small_0 _).mono ?_); rintro e w1 ⟨rfl, rfl⟩) | (go_at_call 8; (with_reducible refine (per_any _ _ _ _).mono ?_); rintro e w1 ⟨rfl, rfl⟩) | (go_at_call 10; (with_reducible refine (beg_0 _ _ _ _).mono ?_); rintro e w1 ⟨rfl, rfl⟩) | (go_at_call 14; (with_reducible refine (ends_any _ _ _ _).mono ?_); rintro e w1 ⟨rfl, rfl⟩) | (go_at_call 16; (with_reducible refine (due_any _ _ _ _ _).mono ?_); rintro e w1 ⟨rfl, rfl⟩) | (go_at_call 18; (with_reducible refine (late_any _ _ _ _ _ _).mono ?_); rintro e w1 ⟨rfl, rfl⟩))
  go_ret
  exact ⟨rfl, Grown.refl _⟩

set_option maxRecDepth 100000 in
set_option maxHeartbeats 1000000 in
theorem n_00nq (day f l p g : Int) (w : World) (h : 0 ≤ p) (h1 : p ≤ 1048576) (h2 : 0 ≤ day) (h3 : day < 1048576) (v0 : 0 ≤ (dueV p f l 0)) (v1 : (dueV p f l 0) ≤ 1048576) (v2 : 0 ≤ (dueV p f l g)) (v3 : (dueV p f l g) ≤ 1048576) (v4 : 0 ≤ (lateV day p f l g)) (v5 : (lateV day p f l g) ≤ 1048576) (x0 : ((lateE day p f l g) != (lateE (day + 1) p f l g)) = false) (x1 : ((lateE day p f l g) != (dueE p f l g)) = false) (e0 : ((dueE p f l 0) == 0) = true) (f0 : ((shE (p + 1) f l 0) == 0) = true) (nx : ((shV (p + 1) f l 0) != (dueV p f l 0) + 1) = false) (e1 : ((dueE p f l 0) == 1) = false) (f1 : ((shE (p + 1) f l 0) == 1) = false) (g0 : ((dueE p f l g) == 0) = false) (z0 : 1 ≤ l) (z1 : l ≤ 1048576) (z2 : day + l ≤ 1048576) (k0 : ((perE day f l) != 0) = false) (k1 : ((perE (day + l) f l) == 0) = true) (k2 : ((perV (day + l) f l) == (perV day f l) + 1) = true) (k3 : 0 ≤ (perV day f l)) (k4 : (perV day f l) ≤ 1048576) :
    Calls Try.prog 5 #[.int .i64 day, .int .i64 f, .int .i64 l, .int .i64 p, .int .i64 g] w fun e w' => e = .returned (.bool true) ∧ Grown w w' := by
  have n1 : ¬ p < 0 := by omega
  have n2 : ¬ 1048576 < p := by omega
  have n3 : ¬ day < 0 := by omega
  have n4 : ¬ 1048576 ≤ day := by omega
  have n6 : ¬ l < 1 := by omega
  have n7 : ¬ 1048576 < l := by omega
  have n8 : ¬ 1048576 < day + l := by omega
  go_enter Try.func5, Try.ntmps5
  go_wp2_with (first | (go_at_call 7; (with_reducible refine (small_0 _).mono ?_); rintro e w1 ⟨rfl, rfl⟩) | (go_at_call 8; (with_reducible refine (per_any _ _ _ _).mono ?_); rintro e w1 ⟨rfl, rfl⟩) | (go_at_call 10; (with_reducible refine (beg_0 _ _ _ _).mono ?_); rintro e w1 ⟨rfl, rfl⟩) | (go_at_call 14; (with_reducible refine (ends_any _ _ _ _).mono ?_); rintro e w1 ⟨rfl, rfl⟩) | (go_at_call 16; (with_reducible refine (due_any _ _ _ _ _).mono ?_); rintro e w1 ⟨rfl, rfl⟩) | (go_at_call 18; (with_reducible refine (late_any _ _ _ _ _ _).mono ?_); rintro e w1 ⟨rfl, rfl⟩))
  go_ret
  exact ⟨rfl, Grown.refl _⟩

end Go.Proofs.Ytnbbjophgebhdaa.dateNexts
