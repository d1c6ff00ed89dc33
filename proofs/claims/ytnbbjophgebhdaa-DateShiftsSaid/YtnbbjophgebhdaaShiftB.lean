/- Cases of the walk of dateShifts, each with its tests decided. -/
import Derived.Test.YtnbbjophgebhdaaBase
import Derived.ProofKit
import Derived.OpenShut
namespace Go.Proofs.Ytnbbjophgebhdaa.dateShifts
open Go.ChangeShapes Go.WideShapes Go.ChangeAt Go.RowKit
set_option linter.unusedVariables false
set_option maxRecDepth 100000 in
set_option maxHeartbeats 1000000 in
theorem s_00no (day f l p k y : Int) (w : World) (h0 : 0 ≤ y) (h1 : y ≤ 1048576) (h2 : 0 ≤ f) (h3 : f ≤ 1048576) (h4 : 0 ≤ day) (h5 : day ≤ 1048576) (h6 : f + y ≤ 1048576) (v0 : 0 ≤ (dueV p f l 0)) (v1 : (dueV p f l 0) ≤ 1048576) (v2 : -1048576 ≤ (opV p f l k)) (v3 : (opV p f l k) ≤ 1048577) (f0 : ((dueE p (f + y) l 0) == 0) = true) (e0 : ((dueE p f l 0) != 0) = false) (nx : ((dueV p (f + y) l 0) != (dueV p f l 0) + y) = false) (e1 : ((dueE p f l 0) == 1) = false) (f1 : ((dueE p (f + y) l 0) == 1) = false) (g0 : ((opE p f l k) == 0) = false) (z : 1048576 < day + y) :
    Calls Try.prog 6 #[.int .i64 day, .int .i64 f, .int .i64 l, .int .i64 p, .int .i64 k, .int .i64 y] w fun e w' => e = .returned (.bool true) ∧ Grown w w' := by
  have n0 : ¬ y < 0 := by omega
  have n1 : ¬ 1048576 < y := by omega
  have n2 : ¬ f < 0 := by omega
  have n3 : ¬ 1048576 < f := by omega
  have n4 : ¬ day < 0 := by omega
  have n5 : ¬ 1048576 < day := by omega
  have n6 : ¬ 1048576 < f + y := by omega
  go_enter Try.func6, Try.ntmps6
  go_wp2_with (first | (go_at_call 7; (with_reducible refine (small_0 _).mono ?_); rintro e w1 ⟨rfl, rfl⟩) | (go_at_call 8; (with_reducible refine (per_any _ _ _ _).mono ?_); rintro e w1 ⟨rfl, rfl⟩) | (go_at_call 14; (with_reducible refine (ends_any _ _ _ _).mono ?_); rintro e w1 ⟨rfl, rfl⟩) | (go_at_call 20; (with_reducible refine (ope_any _ _ _ _ _).mono ?_); rintro e w1 ⟨rfl, rfl⟩))
  go_ret
  exact ⟨rfl, Grown.refl _⟩

set_option maxRecDepth 100000 in
set_option maxHeartbeats 1000000 in
theorem s_00nk (day f l p k y : Int) (w : World) (h0 : 0 ≤ y) (h1 : y ≤ 1048576) (h2 : 0 ≤ f) (h3 : f ≤ 1048576) (h4 : 0 ≤ day) (h5 : day ≤ 1048576) (h6 : f + y ≤ 1048576) (v0 : 0 ≤ (dueV p f l 0)) (v1 : (dueV p f l 0) ≤ 1048576) (v2 : -1048576 ≤ (opV p f l k)) (v3 : (opV p f l k) ≤ 1048577) (f0 : ((dueE p (f + y) l 0) == 0) = true) (e0 : ((dueE p f l 0) != 0) = false) (nx : ((dueV p (f + y) l 0) != (dueV p f l 0) + y) = false) (e1 : ((dueE p f l 0) == 1) = false) (f1 : ((dueE p (f + y) l 0) == 1) = false) (g0 : ((opE p f l k) == 0) = false) (z : day + y ≤ 1048576) (k0 : ((perV day f l) == (perV (day + y) (f + y) l)) = true) (k1 : ((perE day f l) == (perE (day + y) (f + y) l)) = true) :
    Calls Try.prog 6 #[.int .i64 day, .int .i64 f, .int .i64 l, .int .i64 p, .int .i64 k, .int .i64 y] w fun e w' => e = .returned (.bool true) ∧ Grown w w' := by
  have n0 : ¬ y < 0 := by omega
  have n1 : ¬ 1048576 < y := by omega
  have n2 : ¬ f < 0 := by omega
  have n3 : ¬ 1048576 < f := by omega
  have n4 : ¬ day < 0 := by omega
  have n5 : ¬ 1048576 < day := by omega
  have n6 : ¬ 1048576 < f + y := by omega
  have m2 : ¬ 1048576 < day + y := by omega
  go_enter Try.func6, Try.ntmps6
  go_wp2_with (first | (go_at_call 7; (with_reducible refine (small_0 _).mono ?_); rintro e w1 ⟨rfl, rfl⟩) | (go_at_call 8; (with_reducible refine (per_any _ _ _ _).mono ?_); rintro e w1 ⟨rfl, rfl⟩) | (go_at_call 14; (with_reducible refine (ends_any _ _ _ _).mono ?_); rintro e w1 ⟨rfl, rfl⟩) | (go_at_call 20; (with_reducible refine (ope_any _ _ _ _ _).mono ?_); rintro e w1 ⟨rfl, rfl⟩))
  go_ret
  exact ⟨rfl, Grown.refl _⟩

set_option maxRecDepth 100000 in
set_option maxHeartbeats 1000000 in
theorem s_00yo (day f l p k y : Int) (w : World) (h0 : 0 ≤ y) (h1 : y ≤ 1048576) (h2 : 0 ≤ f) (h3 : f ≤ 1048576) (h4 : 0 ≤ day) (h5 : day ≤ 1048576) (h6 : f + y ≤ 1048576) (v0 : 0 ≤ (dueV p f l 0)) (v1 : (dueV p f l 0) ≤ 1048576) (v2 : -1048576 ≤ (opV p f l k)) (v3 : (opV p f l k) ≤ 1048577) (f0 : ((dueE p (f + y) l 0) == 0) = true) (e0 : ((dueE p f l 0) != 0) = false) (nx : ((dueV p (f + y) l 0) != (dueV p f l 0) + y) = false) (e1 : ((dueE p f l 0) == 1) = false) (f1 : ((dueE p (f + y) l 0) == 1) = false) (g0 : ((opE p f l k) == 0) = true) (g1 : ((dueV p f l 0) - (opV p f l k) + 1 != k) = false) (g2 : f ≤ (opV p f l k)) (g3 : k ≤ l) (z : 1048576 < day + y) :
    Calls Try.prog 6 #[.int .i64 day, .int .i64 f, .int .i64 l, .int .i64 p, .int .i64 k, .int .i64 y] w fun e w' => e = .returned (.bool true) ∧ Grown w w' := by
  have n0 : ¬ y < 0 := by omega
  have n1 : ¬ 1048576 < y := by omega
  have n2 : ¬ f < 0 := by omega
  have n3 : ¬ 1048576 < f := by omega
  have n4 : ¬ day < 0 := by omega
  have n5 : ¬ 1048576 < day := by omega
  have n6 : ¬ 1048576 < f + y := by omega
  have m0 : ¬ (opV p f l k) < f := by omega
  have m1 : ¬ l < k := by omega
  go_enter Try.func6, Try.ntmps6
  go_wp2_with (first | (go_at_call 7; (with_reducible refine (small_0 _).mono ?_); rintro e w1 ⟨rfl, rfl⟩) | (go_at_call 8; (with_reducible refine (per_any _ _ _ _).mono ?_); rintro e w1 ⟨rfl, rfl⟩) | (go_at_call 14; (with_reducible refine (ends_any _ _ _ _).mono ?_); rintro e w1 ⟨rfl, rfl⟩) | (go_at_call 20; (with_reducible refine (ope_any _ _ _ _ _).mono ?_); rintro e w1 ⟨rfl, rfl⟩))
  go_ret
  exact ⟨rfl, Grown.refl _⟩

set_option maxRecDepth 100000 in
set_option maxHeartbeats 1000000 in
theorem s_00yk (day f l p k y : Int) (w : World) (h0 : 0 ≤ y) (h1 : y ≤ 1048576) (h2 : 0 ≤ f) (h3 : f ≤ 1048576) (h4 : 0 ≤ day) (h5 : day ≤ 1048576) (h6 : f + y ≤ 1048576) (v0 : 0 ≤ (dueV p f l 0)) (v1 : (dueV p f l 0) ≤ 1048576) (v2 : -1048576 ≤ (opV p f l k)) (v3 : (opV p f l k) ≤ 1048577) (f0 : ((dueE p (f + y) l 0) == 0) = true) (e0 : ((dueE p f l 0) != 0) = false) (nx : ((dueV p (f + y) l 0) != (dueV p f l 0) + y) = false) (e1 : ((dueE p f l 0) == 1) = false) (f1 : ((dueE p (f + y) l 0) == 1) = false) (g0 : ((opE p f l k) == 0) = true) (g1 : ((dueV p f l 0) - (opV p f l k) + 1 != k) = false) (g2 : f ≤ (opV p f l k)) (g3 : k ≤ l) (z : day + y ≤ 1048576) (k0 : ((perV day f l) == (perV (day + y) (f + y) l)) = true) (k1 : ((perE day f l) == (perE (day + y) (f + y) l)) = true) :
    Calls Try.prog 6 #[.int .i64 day, .int .i64 f, .int .i64 l, .int .i64 p, .int .i64 k, .int .i64 y] w fun e w' => e = .returned (.bool true) ∧ Grown w w' := by
  have n0 : ¬ y < 0 := by omega
  have n1 : ¬ 1048576 < y := by omega
  have n2 : ¬ f < 0 := by omega
  have n3 : ¬ 1048576 < f := by omega
  have n4 : ¬ day < 0 := by omega
  have n5 : ¬ 1048576 < day := by omega
  have n6 : ¬ 1048576 < f + y := by omega
  have m0 : ¬ (opV p f l k) < f := by omega
  have m1 : ¬ l < k := by omega
  have m2 : ¬ 1048576 < day + y := by omega
  go_enter Try.func6, Try.ntmps6
  go_wp2_with (first | (go_at_call 7; (with_reducible refine (small_0 _).mono ?_); rintro e w1 ⟨rfl, rfl⟩) | (go_at_call 8; (with_reducible refine (per_any _ _ _ _).mono ?_); rintro e w1 ⟨rfl, rfl⟩) | (go_at_call 14; (with_reducible refine (ends_any _ _ _ _).mono ?_); rintro e w1 ⟨rfl, rfl⟩) | (go_at_call 20; (with_reducible refine (ope_any _ _ _ _ _).mono ?_); rintro e w1 ⟨rfl, rfl⟩))
  go_ret
  exact ⟨rfl, Grown.refl _⟩

set_option maxRecDepth 100000 in
set_option maxHeartbeats 1000000 in
theorem s_33no (day f l p k y : Int) (w : World) (h0 : 0 ≤ y) (h1 : y ≤ 1048576) (h2 : 0 ≤ f) (h3 : f ≤ 1048576) (h4 : 0 ≤ day) (h5 : day ≤ 1048576) (h6 : f + y ≤ 1048576) (v0 : 0 ≤ (dueV p f l 0)) (v1 : (dueV p f l 0) ≤ 1048576) (v2 : -1048576 ≤ (opV p f l k)) (v3 : (opV p f l k) ≤ 1048577) (f0 : ((dueE p (f + y) l 0) == 0) = false) (e1 : ((dueE p f l 0) == 1) = false) (f1 : ((dueE p (f + y) l 0) == 1) = false) (g0 : ((opE p f l k) == 0) = false) (z : 1048576 < day + y) :
    Calls Try.prog 6 #[.int .i64 day, .int .i64 f, .int .i64 l, .int .i64 p, .int .i64 k, .int .i64 y] w fun e w' => e = .returned (.bool true) ∧ Grown w w' := by
  have n0 : ¬ y < 0 := by omega
  have n1 : ¬ 1048576 < y := by omega
  have n2 : ¬ f < 0 := by omega
  have n3 : ¬ 1048576 < f := by omega
  have n4 : ¬ day < 0 := by omega
  have n5 : ¬ 1048576 < day := by omega
  have n6 : ¬ 1048576 < f + y := by omega
  go_enter Try.func6, Try.ntmps6
  go_wp2_with (first | (go_at_call 7; (with_reducible refine (small_0 _).mono ?_); rintro e w1 ⟨rfl, rfl⟩) | (go_at_call 8; (with_reducible refine (per_any _ _ _ _).mono ?_); rintro e w1 ⟨rfl, rfl⟩) | (go_at_call 14; (with_reducible refine (ends_any _ _ _ _).mono ?_); rintro e w1 ⟨rfl, rfl⟩) | (go_at_call 20; (with_reducible refine (ope_any _ _ _ _ _).mono ?_); rintro e w1 ⟨rfl, rfl⟩))
  go_ret
  exact ⟨rfl, Grown.refl _⟩

set_option maxRecDepth 100000 in
set_option maxHeartbeats 1000000 in
theorem s_33nk (day f l p k y : Int) (w : World) (h0 : 0 ≤ y) (h1 : y ≤ 1048576) (h2 : 0 ≤ f) (h3 : f ≤ 1048576) (h4 : 0 ≤ day) (h5 : day ≤ 1048576) (h6 : f + y ≤ 1048576) (v0 : 0 ≤ (dueV p f l 0)) (v1 : (dueV p f l 0) ≤ 1048576) (v2 : -1048576 ≤ (opV p f l k)) (v3 : (opV p f l k) ≤ 1048577) (f0 : ((dueE p (f + y) l 0) == 0) = false) (e1 : ((dueE p f l 0) == 1) = false) (f1 : ((dueE p (f + y) l 0) == 1) = false) (g0 : ((opE p f l k) == 0) = false) (z : day + y ≤ 1048576) (k0 : ((perV day f l) == (perV (day + y) (f + y) l)) = true) (k1 : ((perE day f l) == (perE (day + y) (f + y) l)) = true) :
    Calls Try.prog 6 #[.int .i64 day, .int .i64 f, .int .i64 l, .int .i64 p, .int .i64 k, .int .i64 y] w fun e w' => e = .returned (.bool true) ∧ Grown w w' := by
  have n0 : ¬ y < 0 := by omega
  have n1 : ¬ 1048576 < y := by omega
  have n2 : ¬ f < 0 := by omega
  have n3 : ¬ 1048576 < f := by omega
  have n4 : ¬ day < 0 := by omega
  have n5 : ¬ 1048576 < day := by omega
  have n6 : ¬ 1048576 < f + y := by omega
  have m2 : ¬ 1048576 < day + y := by omega
  go_enter Try.func6, Try.ntmps6
  go_wp2_with (first | (go_at_call 7; (with_reducible refine (small_0 _).mono ?_); rintro e w1 ⟨rfl, rfl⟩) | (go_at_call 8; (with_reducible refine (per_any _ _ _ _).mono ?_); rintro e w1 ⟨rfl, rfl⟩) | (go_at_call 14; (with_reducible refine (ends_any _ _ _ _).mono ?_); rintro e w1 ⟨rfl, rfl⟩) | (go_at_call 20; (with_reducible refine (ope_any _ _ _ _ _).mono ?_); rintro e w1 ⟨rfl, rfl⟩))
  go_ret
  exact ⟨rfl, Grown.refl _⟩

set_option maxRecDepth 100000 in
set_option maxHeartbeats 1000000 in
theorem s_33yo (day f l p k y : Int) (w : World) (h0 : 0 ≤ y) (h1 : y ≤ 1048576) (h2 : 0 ≤ f) (h3 : f ≤ 1048576) (h4 : 0 ≤ day) (h5 : day ≤ 1048576) (h6 : f + y ≤ 1048576) (v0 : 0 ≤ (dueV p f l 0)) (v1 : (dueV p f l 0) ≤ 1048576) (v2 : -1048576 ≤ (opV p f l k)) (v3 : (opV p f l k) ≤ 1048577) (f0 : ((dueE p (f + y) l 0) == 0) = false) (e1 : ((dueE p f l 0) == 1) = false) (f1 : ((dueE p (f + y) l 0) == 1) = false) (g0 : ((opE p f l k) == 0) = true) (g1 : ((dueV p f l 0) - (opV p f l k) + 1 != k) = false) (g2 : f ≤ (opV p f l k)) (g3 : k ≤ l) (z : 1048576 < day + y) :
    Calls Try.prog 6 #[.int .i64 day, .int .i64 f, .int .i64 l, .int .i64 p, .int .i64 k, .int .i64 y] w fun e w' => e = .returned (.bool true) ∧ Grown w w' := by
  have n0 : ¬ y < 0 := by omega
  have n1 : ¬ 1048576 < y := by omega
  have n2 : ¬ f < 0 := by omega
  have n3 : ¬ 1048576 < f := by omega
  have n4 : ¬ day < 0 := by omega
  have n5 : ¬ 1048576 < day := by omega
  have n6 : ¬ 1048576 < f + y := by omega
  have m0 : ¬ (opV p f l k) < f := by omega
  have m1 : ¬ l < k := by omega
  go_enter Try.func6, Try.ntmps6
  go_wp2_with (first | (go_at_call 7; (with_reducible refine (small_0 _).mono ?_); rintro e w1 ⟨rfl, rfl⟩) | (go_at_call 8; (with_reducible refine (per_any _ _ _ _).mono ?_); rintro e w1 ⟨rfl, rfl⟩) | (go_at_call 14; (with_reducible refine (ends_any _ _ _ _).mono ?_); rintro e w1 ⟨rfl, rfl⟩) | (go_at_call 20; (with_reducible refine (ope_any _ _ _ _ _).mono ?_); rintro e w1 ⟨rfl, rfl⟩))
  go_ret
  exact ⟨rfl, Grown.refl _⟩

set_option maxRecDepth 100000 in
set_option maxHeartbeats 1000000 in
theorem s_33yk (day f l p k y : Int) (w : World) (h0 : 0 ≤ y) (h1 : y ≤ 1048576) (h2 : 0 ≤ f) (h3 : f ≤ 1048576) (h4 : 0 ≤ day) (h5 : day ≤ 1048576) (h6 : f + y ≤ 1048576) (v0 : 0 ≤ (dueV p f l 0)) (v1 : (dueV p f l 0) ≤ 1048576) (v2 : -1048576 ≤ (opV p f l k)) (v3 : (opV p f l k) ≤ 1048577) (f0 : ((dueE p (f + y) l 0) == 0) = false) (e1 : ((dueE p f l 0) == 1) = false) (f1 : ((dueE p (f + y) l 0) == 1) = false) (g0 : ((opE p f l k) == 0) = true) (g1 : ((dueV p f l 0) - (opV p f l k) + 1 != k) = false) (g2 : f ≤ (opV p f l k)) (g3 : k ≤ l) (z : day + y ≤ 1048576) (k0 : ((perV day f l) == (perV (day + y) (f + y) l)) = true) (k1 : ((perE day f l) == (perE (day + y) (f + y) l)) = true) :
    Calls Try.prog 6 #[.int .i64 day, .int .i64 f, .int .i64 l, .int .i64 p, .int .i64 k, .int .i64 y] w fun e w' => e = .returned (.bool true) ∧ Grown w w' := by
  have n0 : ¬ y < 0 := by omega
  have n1 : ¬ 1048576 < y := by omega
  have n2 : ¬ f < 0 := by omega
  have n3 : ¬ 1048576 < f := by omega
  have n4 : ¬ day < 0 := by omega
  have n5 : ¬ 1048576 < day := by omega
  have n6 : ¬ 1048576 < f + y := by omega
  have m0 : ¬ (opV p f l k) < f := by omega
  have m1 : ¬ l < k := by omega
  have m2 : ¬ 1048576 < day + y := by omega
  go_enter Try.func6, Try.ntmps6
  go_wp2_with (first | (go_at_call 7; (with_reducible refine (small_0 _).mono ?_); rintro e w1 ⟨rfl, rfl⟩) | (go_at_call 8; (with_reducible refine (per_any _ _ _ _).mono ?_); rintro e w1 ⟨rfl, rfl⟩) | (go_at_call 14; (with_reducible refine (ends_any _ _ _ _).mono ?_); rintro e w1 ⟨rfl, rfl⟩) | (go_at_call 20; (with_reducible refine (ope_any _ _ _ _ _).mono ?_); rintro e w1 ⟨rfl, rfl⟩))
  go_ret
  exact ⟨rfl, Grown.refl _⟩

end Go.Proofs.Ytnbbjophgebhdaa.dateShifts
