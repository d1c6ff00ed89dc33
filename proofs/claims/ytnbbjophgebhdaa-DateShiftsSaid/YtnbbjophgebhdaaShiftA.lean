/- Cases of the walk of dateShifts, each with its tests decided. -/
import Derived.Test.YtnbbjophgebhdaaBase
import Derived.ProofKit
import Derived.OpenShut
namespace Go.Proofs.Ytnbbjophgebhdaa.dateShifts
open Go.ChangeShapes Go.WideShapes Go.ChangeAt Go.RowKit
set_option linter.unusedVariables false
set_option maxRecDepth 100000 in
set_option maxHeartbeats 1000000 in
theorem s_0 (day f l p k y : Int) (w : World) (h0 : y < 0) :
    Calls Try.prog 6 #[.int .i64 day, .int .i64 f, .int .i64 l, .int .i64 p, .int .i64 k, .int .i64 y] w fun e w' => e = .returned (.bool true) ∧ Grown w w' := by
  go_enter Try.func6, Try.ntmps6
  go_wp2_with (first | (go_at_call 7; (with_reducible refine (small_0 _).mono ?_); rintro e w1 ⟨rfl, rfl⟩) | (go_at_call 8; (with_reducible refine (per_any _ _ _ _).mono ?_); rintro e w1 ⟨rfl, rfl⟩) | (go_at_call 14; (with_reducible refine (ends_any _ _ _ _).mono ?_); rintro e w1 ⟨rfl, rfl⟩) | (go_at_call 20; (with_reducible refine (ope_any _ _ _ _ _).mono ?_); rintro e w1 ⟨rfl, rfl⟩))
  go_ret
  exact ⟨rfl, Grown.refl _⟩

set_option maxRecDepth 100000 in
set_option maxHeartbeats 1000000 in
theorem s_1 (day f l p k y : Int) (w : World) (h0 : 0 ≤ y) (h1 : 1048576 < y) :
    Calls Try.prog 6 #[.int .i64 day, .int .i64 f, .int .i64 l, .int .i64 p, .int .i64 k, .int .i64 y] w fun e w' => e = .returned (.bool true) ∧ Grown w w' := by
  have n0 : ¬ y < 0 := by omega
  go_enter Try.func6, Try.ntmps6
  go_wp2_with (first | (go_at_call 7; (with_reducible refine (small_0 _).mono ?_); rintro e w1 ⟨rfl, rfl⟩) | (go_at_call 8; (with_reducible refine (per_any _ _ _ _).mono ?_); rintro e w1 ⟨rfl, rfl⟩) | (go_at_call 14; (with_reducible refine (ends_any _ _ _ _).mono ?_); rintro e w1 ⟨rfl, rfl⟩) | (go_at_call 20; (with_reducible refine (ope_any _ _ _ _ _).mono ?_); rintro e w1 ⟨rfl, rfl⟩))
  go_ret
  exact ⟨rfl, Grown.refl _⟩

set_option maxRecDepth 100000 in
set_option maxHeartbeats 1000000 in
theorem s_2 (day f l p k y : Int) (w : World) (h0 : 0 ≤ y) (h1 : y ≤ 1048576) (h2 : f < 0) :
    Calls Try.prog 6 #[.int .i64 day, .int .i64 f, .int .i64 l, .int .i64 p, .int .i64 k, .int .i64 y] w fun e w' => e = .returned (.bool true) ∧ Grown w w' := by
  have n0 : ¬ y < 0 := by omega
  have n1 : ¬ 1048576 < y := by omega
  go_enter Try.func6, Try.ntmps6
  go_wp2_with (first | (go_at_call 7; (with_reducible refine (small_0 _).mono ?_); rintro e w1 ⟨rfl, rfl⟩) | (go_at_call 8; (with_reducible refine (per_any _ _ _ _).mono ?_); rintro e w1 ⟨rfl, rfl⟩) | (go_at_call 14; (with_reducible refine (ends_any _ _ _ _).mono ?_); rintro e w1 ⟨rfl, rfl⟩) | (go_at_call 20; (with_reducible refine (ope_any _ _ _ _ _).mono ?_); rintro e w1 ⟨rfl, rfl⟩))
  go_ret
  exact ⟨rfl, Grown.refl _⟩

set_option maxRecDepth 100000 in
set_option maxHeartbeats 1000000 in
theorem s_3 (day f l p k y : Int) (w : World) (h0 : 0 ≤ y) (h1 : y ≤ 1048576) (h2 : 0 ≤ f) (h3 : 1048576 < f) :
    Calls Try.prog 6 #[.int .i64 day, .int .i64 f, .int .i64 l, .int .i64 p, .int .i64 k, .int .i64 y] w fun e w' => e = .returned (.bool true) ∧ Grown w w' := by
  have n0 : ¬ y < 0 := by omega
  have n1 : ¬ 1048576 < y := by omega
  have n2 : ¬ f < 0 := by omega
  go_enter Try.func6, Try.ntmps6
  go_wp2_with (first | (go_at_call 7; (with_reducible refine (small_0 _).mono ?_); rintro e w1 ⟨rfl, rfl⟩) | (go_at_call 8; (with_reducible refine (per_any _ _ _ _).mono ?_); rintro e w1 ⟨rfl, rfl⟩) | (go_at_call 14; (with_reducible refine (ends_any _ _ _ _).mono ?_); rintro e w1 ⟨rfl, rfl⟩) | (go_at_call 20; (with_reducible refine (ope_any _ _ _ _ _).mono ?_); rintro e w1 ⟨rfl, rfl⟩))
  go_ret
  exact ⟨rfl, Grown.refl _⟩

set_option maxRecDepth 100000 in
set_option maxHeartbeats 1000000 in
theorem s_4 (day f l p k y : Int) (w : World) (h0 : 0 ≤ y) (h1 : y ≤ 1048576) (h2 : 0 ≤ f) (h3 : f ≤ 1048576) (h4 : day < 0) :
    Calls Try.prog 6 #[.int .i64 day, .int .i64 f, .int .i64 l, .int .i64 p, .int .i64 k, .int .i64 y] w fun e w' => e = .returned (.bool true) ∧ Grown w w' := by
  have n0 : ¬ y < 0 := by omega
  have n1 : ¬ 1048576 < y := by omega
  have n2 : ¬ f < 0 := by omega
  have n3 : ¬ 1048576 < f := by omega
  go_enter Try.func6, Try.ntmps6
  go_wp2_with (first | (go_at_call 7; (with_reducible refine (small_0 _).mono ?_); rintro e w1 ⟨rfl, rfl⟩) | (go_at_call 8; (with_reducible refine (per_any _ _ _ _).mono ?_); rintro e w1 ⟨rfl, rfl⟩) | (go_at_call 14; (with_reducible refine (ends_any _ _ _ _).mono ?_); rintro e w1 ⟨rfl, rfl⟩) | (go_at_call 20; (with_reducible refine (ope_any _ _ _ _ _).mono ?_); rintro e w1 ⟨rfl, rfl⟩))
  go_ret
  exact ⟨rfl, Grown.refl _⟩

set_option maxRecDepth 100000 in
set_option maxHeartbeats 1000000 in
theorem s_5 (day f l p k y : Int) (w : World) (h0 : 0 ≤ y) (h1 : y ≤ 1048576) (h2 : 0 ≤ f) (h3 : f ≤ 1048576) (h4 : 0 ≤ day) (h5 : 1048576 < day) :
    Calls Try.prog 6 #[.int .i64 day, .int .i64 f, .int .i64 l, .int .i64 p, .int .i64 k, .int .i64 y] w fun e w' => e = .returned (.bool true) ∧ Grown w w' := by
  have n0 : ¬ y < 0 := by omega
  have n1 : ¬ 1048576 < y := by omega
  have n2 : ¬ f < 0 := by omega
  have n3 : ¬ 1048576 < f := by omega
  have n4 : ¬ day < 0 := by omega
  go_enter Try.func6, Try.ntmps6
  go_wp2_with (first | (go_at_call 7; (with_reducible refine (small_0 _).mono ?_); rintro e w1 ⟨rfl, rfl⟩) | (go_at_call 8; (with_reducible refine (per_any _ _ _ _).mono ?_); rintro e w1 ⟨rfl, rfl⟩) | (go_at_call 14; (with_reducible refine (ends_any _ _ _ _).mono ?_); rintro e w1 ⟨rfl, rfl⟩) | (go_at_call 20; (with_reducible refine (ope_any _ _ _ _ _).mono ?_); rintro e w1 ⟨rfl, rfl⟩))
  go_ret
  exact ⟨rfl, Grown.refl _⟩

set_option maxRecDepth 100000 in
set_option maxHeartbeats 1000000 in
theorem s_6 (day f l p k y : Int) (w : World) (h0 : 0 ≤ y) (h1 : y ≤ 1048576) (h2 : 0 ≤ f) (h3 : f ≤ 1048576) (h4 : 0 ≤ day) (h5 : day ≤ 1048576) (h6 : 1048576 < f + y) :
    Calls Try.prog 6 #[.int .i64 day, .int .i64 f, .int .i64 l, .int .i64 p, .int .i64 k, .int .i64 y] w fun e w' => e = .returned (.bool true) ∧ Grown w w' := by
  have n0 : ¬ y < 0 := by omega
  have n1 : ¬ 1048576 < y := by omega
  have n2 : ¬ f < 0 := by omega
  have n3 : ¬ 1048576 < f := by omega
  have n4 : ¬ day < 0 := by omega
  have n5 : ¬ 1048576 < day := by omega
  go_enter Try.func6, Try.ntmps6
  go_wp2_with (first | (go_at_call 7; (with_reducible refine (small_0 _).mono ?_); rintro e w1 ⟨rfl, rfl⟩) | (go_at_call 8; (with_reducible refine (per_any _ _ _ _).mono ?_); rintro e w1 ⟨rfl, rfl⟩) | (go_at_call 14; (with_reducible refine (ends_any _ _ _ _).mono ?_); rintro e w1 ⟨rfl, rfl⟩) | (go_at_call 20; (with_reducible refine (ope_any _ _ _ _ _).mono ?_); rintro e w1 ⟨rfl, rfl⟩))
  go_ret
  exact ⟨rfl, Grown.refl _⟩

set_option maxRecDepth 100000 in
set_option maxHeartbeats 1000000 in
theorem s_11no (day f l p k y : Int) (w : World) (h0 : 0 ≤ y) (h1 : y ≤ 1048576) (h2 : 0 ≤ f) (h3 : f ≤ 1048576) (h4 : 0 ≤ day) (h5 : day ≤ 1048576) (h6 : f + y ≤ 1048576) (v0 : 0 ≤ (dueV p f l 0)) (v1 : (dueV p f l 0) ≤ 1048576) (v2 : -1048576 ≤ (opV p f l k)) (v3 : (opV p f l k) ≤ 1048577) (f0 : ((dueE p (f + y) l 0) == 0) = false) (e1 : ((dueE p f l 0) == 1) = true) (f1 : ((dueE p (f + y) l 0) == 1) = true) (g0 : ((opE p f l k) == 0) = false) (z : 1048576 < day + y) :
    Calls Try.prog 6 #[.int .i64 day, .int .i64 f, .int .i64 l, .int .i64 p, .int .i64 k, .int .i64 y] w fun e w' => e = .returned (.bool true) ∧ Grown w w' := by
  have n0 : ¬ y < 0 := by omega
  have n1 : ¬ 1048576 < y := by omega
  have n2 : ¬ f < 0 := by omega
  have n3 : ¬ 1048576 < f := by omega
  have n4 : ¬ day < 0 := by omega
  have n5 : ¬ 1048576 < day := by omega
  have n6 : ¬ 1048576 < f + y := by omega
  go_enter Try.func6, Try.ntmps6
  go_wp2_with (first | (go_at_call 7; (with_reducible refine (small_0 _).mono ?_); rintro e w1 ⟨rfl, rfl⟩) | (go_at_call 8; (with_reducible refine (per_any _ _ _ _).mono ?_); rintro e w1 ⟨rfl, rfl⟩) | (go_at_call 14; (with_reducible refine (ends_any _ _ _ _).mono ?_); rintro e w1 ⟨rfl, rfl⟩) | (go_at_call 20; (with_reducible refine (ope_any _ _ _ _ _).mono ?_); rintro e w1 ⟨rfl, rfl⟩))
  go_ret
  exact ⟨rfl, Grown.refl _⟩

set_option maxRecDepth 100000 in
set_option maxHeartbeats 1000000 in
theorem s_11nk (day f l p k y : Int) (w : World) (h0 : 0 ≤ y) (h1 : y ≤ 1048576) (h2 : 0 ≤ f) (h3 : f ≤ 1048576) (h4 : 0 ≤ day) (h5 : day ≤ 1048576) (h6 : f + y ≤ 1048576) (v0 : 0 ≤ (dueV p f l 0)) (v1 : (dueV p f l 0) ≤ 1048576) (v2 : -1048576 ≤ (opV p f l k)) (v3 : (opV p f l k) ≤ 1048577) (f0 : ((dueE p (f + y) l 0) == 0) = false) (e1 : ((dueE p f l 0) == 1) = true) (f1 : ((dueE p (f + y) l 0) == 1) = true) (g0 : ((opE p f l k) == 0) = false) (z : day + y ≤ 1048576) (k0 : ((perV day f l) == (perV (day + y) (f + y) l)) = true) (k1 : ((perE day f l) == (perE (day + y) (f + y) l)) = true) :
    Calls Try.prog 6 #[.int .i64 day, .int .i64 f, .int .i64 l, .int .i64 p, .int .i64 k, .int .i64 y] w fun e w' => e = .returned (.bool true) ∧ Grown w w' := by
  have n0 : ¬ y < 0 := by omega
  have n1 : ¬ 1048576 < y := by omega
  have n2 : ¬ f < 0 := by omega
  have n3 : ¬ 1048576 < f := by omega
  have n4 : ¬ day < 0 := by omega
  have n5 : ¬ 1048576 < day := by omega
  have n6 : ¬ 1048576 < f + y := by omega
  have m2 : ¬ 1048576 < day + y := by omega
  go_enter Try.func6, Try.ntmps6
  go_wp2_with (first | (go_at_call 7; (with_reducible refine (small_0 _).mono ?_); rintro e w1 ⟨rfl, rfl⟩) | (go_at_call 8; (with_reducible refine (per_any _ _ _ _).mono ?_); rintro e w1 ⟨rfl, rfl⟩) | (go_at_call 14; (with_reducible refine (ends_any _ _ _ _).mono ?_); rintro e w1 ⟨rfl, rfl⟩) | (go_at_call 20; (with_reducible refine (ope_any _ _ _ _ _).mono ?_); rintro e w1 ⟨rfl, rfl⟩))
  go_ret
  exact ⟨rfl, Grown.refl _⟩

end Go.Proofs.Ytnbbjophgebhdaa.dateShifts
