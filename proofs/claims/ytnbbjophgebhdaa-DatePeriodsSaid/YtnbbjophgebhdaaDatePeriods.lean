/- The law DatePeriods (stokvellaw10): for every input the call returns true and the arguments read as before; no condition. -/
import Derived.Test.YtnbbjophgebhdaaBase
import Derived.WalkKit
import Derived.ProofKit
import Derived.OpenShut
import Derived.Lib.Hide
namespace Go.Proofs.Ytnbbjophgebhdaa.datePeriods
open Go.ChangeShapes Go.WideShapes Go.ChangeAt Go.RowKit
set_option linter.unusedVariables false      -- a walk need not use every 'w<i>' (that an integer argument fits its kind)

theorem own : ownKnob Try.prog.godebug = none := by kernel_rfl


theorem ediv_bd {x l : Int} (h : 0 ≤ x) (hl : 1 ≤ l) : x / l * l ≤ x ∧ x < x / l * l + l ∧ 0 ≤ x / l ∧ x / l ≤ x := by
  have h1 := Int.ediv_mul_le x (b := l) (by omega)
  have h2 := Int.lt_ediv_add_one_mul_self x (b := l) (by omega)
  have h3 := Int.ediv_nonneg h (b := l) (by omega)
  have h4 := Int.ediv_le_self l h
  rw [Int.add_mul, Int.one_mul] at h2
  omega
theorem ediv_uniq {x l q : Int} (hl : 1 ≤ l) (h1 : q * l ≤ x) (h2 : x < q * l + l) : x / l = q := by
  apply Int.le_antisymm
  · have : x < (q + 1) * l := by rw [Int.add_mul, Int.one_mul]; exact h2
    have := Int.ediv_lt_of_lt_mul (by omega) this
    omega
  · exact Int.le_ediv_of_mul_le (by omega) h1
theorem perE_cases (day f l : Int) : (perE day f l = 1 ∧ perV day f l = 0) ∨ (perE day f l = 26 ∧ perV day f l = 0 ∧ day < f) ∨
    (perE day f l = 0 ∧ 0 ≤ day ∧ day ≤ 1048576 ∧ calB f l = true ∧ f ≤ day ∧ perV day f l = (day - f) / l) := by
  unfold perE perV
  by_cases h : dayB day = true ∧ calB f l = true
  · have hd := dayB_iff.1 h.1
    by_cases h2 : f ≤ day
    · right; right; simp [h.1, h.2, h2]; omega
    · right; left; simp [h.1, h.2, h2]; omega
  · left
    refine ⟨by simp only [h, if_false], ?_⟩
    rw [if_neg (fun h' => h ⟨h'.1, h'.2.1⟩)]
theorem shE_ok {p f l d : Int} (h : shE p f l d = 0) : 0 ≤ p ∧ calB f l = true ∧ p ≤ 1048576 ∧ f + p * l + d ≤ 1048576 ∧ shV p f l d = f + p * l + d := by
  unfold shE at h
  split at h
  · rename_i h1
    split at h
    · rename_i h2
      exact ⟨h1.1, h1.2, h2.1, h2.2, by simp [shV, h1.1, h1.2, h2.1, h2.2]⟩
    · simp at h
  · simp at h
theorem shE_of {p f l d : Int} (h0 : 0 ≤ p) (hc : calB f l = true) (h1 : p ≤ 1048576) (h2 : f + p * l + d ≤ 1048576) : shE p f l d = 0 ∧ shV p f l d = f + p * l + d := by
  simp [shE, shV, h0, hc, h1, h2]
theorem shE_bad {p f l d : Int} (h : shE p f l d ≠ 0) : shV p f l d = 0 := by
  unfold shV
  split
  · rename_i h'
    exact (h (shE_of h'.1 h'.2.1 h'.2.2.1 h'.2.2.2).1).elim
  · rfl
theorem due0V (p f l : Int) : dueV p f l 0 = shV p f l (l - 1) := by simp [dueV, dayB_zero]
theorem due0E (p f l : Int) : dueE p f l 0 = shE p f l (l - 1) := by simp [dueE, dayB_zero]

set_option maxRecDepth 100000 in
set_option maxHeartbeats 1000000 in
theorem c_arg (day f l p : Int) (w : World) (h0 : ((perE day f l) != 0) = true) (h1 : ((perV day f l) == 0) = true) (h2 : ((perE day f l) == 1) = true) :
    Calls Try.prog 4 #[.int .i64 day, .int .i64 f, .int .i64 l, .int .i64 p] w fun e w' => e = .returned (.bool true) ∧ Grown w w' := by
  go_enter Try.func4, Try.ntmps4
  go_wp2_with (first | (go_at_call 7; (with_reducible refine (small_0 _).mono ?_); rintro e w1 ⟨rfl, rfl⟩) | (go_at_call 8; (with_reducible refine (per_any _ _ _ _).mono ?_); rintro e w1 ⟨rfl, rfl⟩) | (go_at_call 10; (with_reducible refine (beg_0 _ _ _ _).mono ?_); rintro e w1 ⟨rfl, rfl⟩) | (go_at_call 14; (with_reducible refine (ends_any _ _ _ _).mono ?_); rintro e w1 ⟨rfl, rfl⟩) | (go_at_call 12; (with_reducible refine (within_any _ _ _ _).mono ?_); rintro e w1 ⟨rfl, rfl⟩))
  go_ret
  exact ⟨rfl, Grown.refl _⟩

set_option maxRecDepth 100000 in
set_option maxHeartbeats 1000000 in
theorem c_early (day f l p : Int) (w : World) (h0 : ((perE day f l) != 0) = true) (h1 : ((perV day f l) == 0) = true) (h2 : ((perE day f l) == 1) = false) (h3 : ((perE day f l) == 26) = true) (h4 : day < f) :
    Calls Try.prog 4 #[.int .i64 day, .int .i64 f, .int .i64 l, .int .i64 p] w fun e w' => e = .returned (.bool true) ∧ Grown w w' := by
  go_enter Try.func4, Try.ntmps4
  go_wp2_with (first | (go_at_call 7; (with_reducible refine (small_0 _).mono ?_); rintro e w1 ⟨rfl, rfl⟩) | (go_at_call 8; (with_reducible refine (per_any _ _ _ _).mono ?_); rintro e w1 ⟨rfl, rfl⟩) | (go_at_call 10; (with_reducible refine (beg_0 _ _ _ _).mono ?_); rintro e w1 ⟨rfl, rfl⟩) | (go_at_call 14; (with_reducible refine (ends_any _ _ _ _).mono ?_); rintro e w1 ⟨rfl, rfl⟩) | (go_at_call 12; (with_reducible refine (within_any _ _ _ _).mono ?_); rintro e w1 ⟨rfl, rfl⟩))
  go_ret
  exact ⟨rfl, Grown.refl _⟩

set_option maxRecDepth 100000 in
set_option maxHeartbeats 1000000 in
theorem c_gh (day f l p : Int) (w : World) (h0 : ((perE day f l) != 0) = false) (h1 : ((shE (perV day f l) f l 0) != 0) = false) (h2 : (shV (perV day f l) f l 0) ≤ day) (h3 : f ≤ (shV (perV day f l) f l 0)) (q0 : 0 ≤ (shV (perV day f l) f l 0)) (q1 : (shV (perV day f l) f l 0) ≤ 1048576) (q2 : 0 ≤ (dueV (perV day f l) f l 0)) (q3 : (dueV (perV day f l) f l 0) ≤ 1048576) (q4 : 1 ≤ l) (q5 : l ≤ 1048576) (g0 : ((dueE (perV day f l) f l 0) == 0) = true) (g1 : ((dueE (perV day f l) f l 0) != 0) = false) (g2 : day ≤ (dueV (perV day f l) f l 0)) (g3 : ((dueV (perV day f l) f l 0) - (shV (perV day f l) f l 0) != l - 1) = false) (i0 : ((shE p f l 0) != 0) = true) (m0 : 0 ≤ (shV p f l 0) * (dueV p f l 0)) (m1 : (shV p f l 0) * (dueV p f l 0) ≤ 1099511627776) (m2 : ((shV p f l 0) * (dueV p f l 0) == 0) = true) :
    Calls Try.prog 4 #[.int .i64 day, .int .i64 f, .int .i64 l, .int .i64 p] w fun e w' => e = .returned (.bool true) ∧ Grown w w' := by
  have n2 : ¬ day < (shV (perV day f l) f l 0) := by omega
  have n3 : ¬ (shV (perV day f l) f l 0) < f := by omega
  have n4 : ¬ (dueV (perV day f l) f l 0) < day := by omega
  go_enter Try.func4, Try.ntmps4
  go_wp2_with (first | (go_at_call 7; (with_reducible refine (small_0 _).mono ?_); rintro e w1 ⟨rfl, rfl⟩) | (go_at_call 8; (with_reducible refine (per_any _ _ _ _).mono ?_); rintro e w1 ⟨rfl, rfl⟩) | (go_at_call 10; (with_reducible refine (beg_0 _ _ _ _).mono ?_); rintro e w1 ⟨rfl, rfl⟩) | (go_at_call 14; (with_reducible refine (ends_any _ _ _ _).mono ?_); rintro e w1 ⟨rfl, rfl⟩) | (go_at_call 12; (with_reducible refine (within_any _ _ _ _).mono ?_); rintro e w1 ⟨rfl, rfl⟩))
  go_ret
  exact ⟨rfl, Grown.refl _⟩

set_option maxRecDepth 100000 in
set_option maxHeartbeats 1000000 in
theorem c_gj (day f l p : Int) (w : World) (h0 : ((perE day f l) != 0) = false) (h1 : ((shE (perV day f l) f l 0) != 0) = false) (h2 : (shV (perV day f l) f l 0) ≤ day) (h3 : f ≤ (shV (perV day f l) f l 0)) (q0 : 0 ≤ (shV (perV day f l) f l 0)) (q1 : (shV (perV day f l) f l 0) ≤ 1048576) (q2 : 0 ≤ (dueV (perV day f l) f l 0)) (q3 : (dueV (perV day f l) f l 0) ≤ 1048576) (q4 : 1 ≤ l) (q5 : l ≤ 1048576) (g0 : ((dueE (perV day f l) f l 0) == 0) = true) (g1 : ((dueE (perV day f l) f l 0) != 0) = false) (g2 : day ≤ (dueV (perV day f l) f l 0)) (g3 : ((dueV (perV day f l) f l 0) - (shV (perV day f l) f l 0) != l - 1) = false) (i0 : ((shE p f l 0) != 0) = false) (i1 : ((dueE p f l 0) != 0) = true) (m0 : 0 ≤ (shV p f l 0) * (dueV p f l 0)) (m1 : (shV p f l 0) * (dueV p f l 0) ≤ 1099511627776) (m2 : ((shV p f l 0) * (dueV p f l 0) == 0) = true) :
    Calls Try.prog 4 #[.int .i64 day, .int .i64 f, .int .i64 l, .int .i64 p] w fun e w' => e = .returned (.bool true) ∧ Grown w w' := by
  have n2 : ¬ day < (shV (perV day f l) f l 0) := by omega
  have n3 : ¬ (shV (perV day f l) f l 0) < f := by omega
  have n4 : ¬ (dueV (perV day f l) f l 0) < day := by omega
  go_enter Try.func4, Try.ntmps4
  go_wp2_with (first | (go_at_call 7; (with_reducible refine (small_0 _).mono ?_); rintro e w1 ⟨rfl, rfl⟩) | (go_at_call 8; (with_reducible refine (per_any _ _ _ _).mono ?_); rintro e w1 ⟨rfl, rfl⟩) | (go_at_call 10; (with_reducible refine (beg_0 _ _ _ _).mono ?_); rintro e w1 ⟨rfl, rfl⟩) | (go_at_call 14; (with_reducible refine (ends_any _ _ _ _).mono ?_); rintro e w1 ⟨rfl, rfl⟩) | (go_at_call 12; (with_reducible refine (within_any _ _ _ _).mono ?_); rintro e w1 ⟨rfl, rfl⟩))
  go_ret
  exact ⟨rfl, Grown.refl _⟩

set_option maxRecDepth 100000 in
set_option maxHeartbeats 1000000 in
theorem c_gt (day f l p : Int) (w : World) (h0 : ((perE day f l) != 0) = false) (h1 : ((shE (perV day f l) f l 0) != 0) = false) (h2 : (shV (perV day f l) f l 0) ≤ day) (h3 : f ≤ (shV (perV day f l) f l 0)) (q0 : 0 ≤ (shV (perV day f l) f l 0)) (q1 : (shV (perV day f l) f l 0) ≤ 1048576) (q2 : 0 ≤ (dueV (perV day f l) f l 0)) (q3 : (dueV (perV day f l) f l 0) ≤ 1048576) (q4 : 1 ≤ l) (q5 : l ≤ 1048576) (g0 : ((dueE (perV day f l) f l 0) == 0) = true) (g1 : ((dueE (perV day f l) f l 0) != 0) = false) (g2 : day ≤ (dueV (perV day f l) f l 0)) (g3 : ((dueV (perV day f l) f l 0) - (shV (perV day f l) f l 0) != l - 1) = false) (i0 : ((shE p f l 0) != 0) = false) (i1 : ((dueE p f l 0) != 0) = false) (i2 : (witB day (shV p f l 0) (dueV p f l 0)) = true) (i3 : ((perV day f l) == p) = true) :
    Calls Try.prog 4 #[.int .i64 day, .int .i64 f, .int .i64 l, .int .i64 p] w fun e w' => e = .returned (.bool true) ∧ Grown w w' := by
  have n2 : ¬ day < (shV (perV day f l) f l 0) := by omega
  have n3 : ¬ (shV (perV day f l) f l 0) < f := by omega
  have n4 : ¬ (dueV (perV day f l) f l 0) < day := by omega
  go_enter Try.func4, Try.ntmps4
  go_wp2_with (first | (go_at_call 7; (with_reducible refine (small_0 _).mono ?_); rintro e w1 ⟨rfl, rfl⟩) | (go_at_call 8; (with_reducible refine (per_any _ _ _ _).mono ?_); rintro e w1 ⟨rfl, rfl⟩) | (go_at_call 10; (with_reducible refine (beg_0 _ _ _ _).mono ?_); rintro e w1 ⟨rfl, rfl⟩) | (go_at_call 14; (with_reducible refine (ends_any _ _ _ _).mono ?_); rintro e w1 ⟨rfl, rfl⟩) | (go_at_call 12; (with_reducible refine (within_any _ _ _ _).mono ?_); rintro e w1 ⟨rfl, rfl⟩))
  go_ret
  exact ⟨rfl, Grown.refl _⟩

set_option maxRecDepth 100000 in
set_option maxHeartbeats 1000000 in
theorem c_gf (day f l p : Int) (w : World) (h0 : ((perE day f l) != 0) = false) (h1 : ((shE (perV day f l) f l 0) != 0) = false) (h2 : (shV (perV day f l) f l 0) ≤ day) (h3 : f ≤ (shV (perV day f l) f l 0)) (q0 : 0 ≤ (shV (perV day f l) f l 0)) (q1 : (shV (perV day f l) f l 0) ≤ 1048576) (q2 : 0 ≤ (dueV (perV day f l) f l 0)) (q3 : (dueV (perV day f l) f l 0) ≤ 1048576) (q4 : 1 ≤ l) (q5 : l ≤ 1048576) (g0 : ((dueE (perV day f l) f l 0) == 0) = true) (g1 : ((dueE (perV day f l) f l 0) != 0) = false) (g2 : day ≤ (dueV (perV day f l) f l 0)) (g3 : ((dueV (perV day f l) f l 0) - (shV (perV day f l) f l 0) != l - 1) = false) (i0 : ((shE p f l 0) != 0) = false) (i1 : ((dueE p f l 0) != 0) = false) (i2 : (witB day (shV p f l 0) (dueV p f l 0)) = false) (i3 : ((perV day f l) == p) = false) :
    Calls Try.prog 4 #[.int .i64 day, .int .i64 f, .int .i64 l, .int .i64 p] w fun e w' => e = .returned (.bool true) ∧ Grown w w' := by
  have n2 : ¬ day < (shV (perV day f l) f l 0) := by omega
  have n3 : ¬ (shV (perV day f l) f l 0) < f := by omega
  have n4 : ¬ (dueV (perV day f l) f l 0) < day := by omega
  go_enter Try.func4, Try.ntmps4
  go_wp2_with (first | (go_at_call 7; (with_reducible refine (small_0 _).mono ?_); rintro e w1 ⟨rfl, rfl⟩) | (go_at_call 8; (with_reducible refine (per_any _ _ _ _).mono ?_); rintro e w1 ⟨rfl, rfl⟩) | (go_at_call 10; (with_reducible refine (beg_0 _ _ _ _).mono ?_); rintro e w1 ⟨rfl, rfl⟩) | (go_at_call 14; (with_reducible refine (ends_any _ _ _ _).mono ?_); rintro e w1 ⟨rfl, rfl⟩) | (go_at_call 12; (with_reducible refine (within_any _ _ _ _).mono ?_); rintro e w1 ⟨rfl, rfl⟩))
  go_ret
  exact ⟨rfl, Grown.refl _⟩

set_option maxRecDepth 100000 in
set_option maxHeartbeats 1000000 in
theorem c_rh (day f l p : Int) (w : World) (h0 : ((perE day f l) != 0) = false) (h1 : ((shE (perV day f l) f l 0) != 0) = false) (h2 : (shV (perV day f l) f l 0) ≤ day) (h3 : f ≤ (shV (perV day f l) f l 0)) (q0 : 0 ≤ (shV (perV day f l) f l 0)) (q1 : (shV (perV day f l) f l 0) ≤ 1048576) (q2 : 0 ≤ (dueV (perV day f l) f l 0)) (q3 : (dueV (perV day f l) f l 0) ≤ 1048576) (q4 : 1 ≤ l) (q5 : l ≤ 1048576) (g0 : ((dueE (perV day f l) f l 0) == 0) = false) (g1 : ((dueE (perV day f l) f l 0) != 0) = true) (g4 : ((dueE (perV day f l) f l 0) != 3) = false) (i0 : ((shE p f l 0) != 0) = true) (m0 : 0 ≤ (shV p f l 0) * (dueV p f l 0)) (m1 : (shV p f l 0) * (dueV p f l 0) ≤ 1099511627776) (m2 : ((shV p f l 0) * (dueV p f l 0) == 0) = true) :
    Calls Try.prog 4 #[.int .i64 day, .int .i64 f, .int .i64 l, .int .i64 p] w fun e w' => e = .returned (.bool true) ∧ Grown w w' := by
  have n2 : ¬ day < (shV (perV day f l) f l 0) := by omega
  have n3 : ¬ (shV (perV day f l) f l 0) < f := by omega
  go_enter Try.func4, Try.ntmps4
  go_wp2_with (first | (go_at_call 7; (with_reducible refine (small_0 _).mono ?_); rintro e w1 ⟨rfl, rfl⟩) | (go_at_call 8; (with_reducible refine (per_any _ _ _ _).mono ?_); rintro e w1 ⟨rfl, rfl⟩) | (go_at_call 10; (with_reducible refine (beg_0 _ _ _ _).mono ?_); rintro e w1 ⟨rfl, rfl⟩) | (go_at_call 14; (with_reducible refine (ends_any _ _ _ _).mono ?_); rintro e w1 ⟨rfl, rfl⟩) | (go_at_call 12; (with_reducible refine (within_any _ _ _ _).mono ?_); rintro e w1 ⟨rfl, rfl⟩))
  go_ret
  exact ⟨rfl, Grown.refl _⟩

set_option maxRecDepth 100000 in
set_option maxHeartbeats 1000000 in
theorem c_rj (day f l p : Int) (w : World) (h0 : ((perE day f l) != 0) = false) (h1 : ((shE (perV day f l) f l 0) != 0) = false) (h2 : (shV (perV day f l) f l 0) ≤ day) (h3 : f ≤ (shV (perV day f l) f l 0)) (q0 : 0 ≤ (shV (perV day f l) f l 0)) (q1 : (shV (perV day f l) f l 0) ≤ 1048576) (q2 : 0 ≤ (dueV (perV day f l) f l 0)) (q3 : (dueV (perV day f l) f l 0) ≤ 1048576) (q4 : 1 ≤ l) (q5 : l ≤ 1048576) (g0 : ((dueE (perV day f l) f l 0) == 0) = false) (g1 : ((dueE (perV day f l) f l 0) != 0) = true) (g4 : ((dueE (perV day f l) f l 0) != 3) = false) (i0 : ((shE p f l 0) != 0) = false) (i1 : ((dueE p f l 0) != 0) = true) (m0 : 0 ≤ (shV p f l 0) * (dueV p f l 0)) (m1 : (shV p f l 0) * (dueV p f l 0) ≤ 1099511627776) (m2 : ((shV p f l 0) * (dueV p f l 0) == 0) = true) :
    Calls Try.prog 4 #[.int .i64 day, .int .i64 f, .int .i64 l, .int .i64 p] w fun e w' => e = .returned (.bool true) ∧ Grown w w' := by
  have n2 : ¬ day < (shV (perV day f l) f l 0) := by omega
  have n3 : ¬ (shV (perV day f l) f l 0) < f := by omega
  go_enter Try.func4, Try.ntmps4
  go_wp2_with (first | (go_at_call 7; (with_reducible refine (small_0 _).mono ?_); rintro e w1 ⟨rfl, rfl⟩) | (go_at_call 8; (with_reducible refine (per_any _ _ _ _).mono ?_); rintro e w1 ⟨rfl, rfl⟩) | (go_at_call 10; (with_reducible refine (beg_0 _ _ _ _).mono ?_); rintro e w1 ⟨rfl, rfl⟩) | (go_at_call 14; (with_reducible refine (ends_any _ _ _ _).mono ?_); rintro e w1 ⟨rfl, rfl⟩) | (go_at_call 12; (with_reducible refine (within_any _ _ _ _).mono ?_); rintro e w1 ⟨rfl, rfl⟩))
  go_ret
  exact ⟨rfl, Grown.refl _⟩

set_option maxRecDepth 100000 in
set_option maxHeartbeats 1000000 in
theorem c_rt (day f l p : Int) (w : World) (h0 : ((perE day f l) != 0) = false) (h1 : ((shE (perV day f l) f l 0) != 0) = false) (h2 : (shV (perV day f l) f l 0) ≤ day) (h3 : f ≤ (shV (perV day f l) f l 0)) (q0 : 0 ≤ (shV (perV day f l) f l 0)) (q1 : (shV (perV day f l) f l 0) ≤ 1048576) (q2 : 0 ≤ (dueV (perV day f l) f l 0)) (q3 : (dueV (perV day f l) f l 0) ≤ 1048576) (q4 : 1 ≤ l) (q5 : l ≤ 1048576) (g0 : ((dueE (perV day f l) f l 0) == 0) = false) (g1 : ((dueE (perV day f l) f l 0) != 0) = true) (g4 : ((dueE (perV day f l) f l 0) != 3) = false) (i0 : ((shE p f l 0) != 0) = false) (i1 : ((dueE p f l 0) != 0) = false) (i2 : (witB day (shV p f l 0) (dueV p f l 0)) = true) (i3 : ((perV day f l) == p) = true) :
    Calls Try.prog 4 #[.int .i64 day, .int .i64 f, .int .i64 l, .int .i64 p] w fun e w' => e = .returned (.bool true) ∧ Grown w w' := by
  have n2 : ¬ day < (shV (perV day f l) f l 0) := by omega
  have n3 : ¬ (shV (perV day f l) f l 0) < f := by omega
  go_enter Try.func4, Try.ntmps4
  go_wp2_with (first | (go_at_call 7; (with_reducible refine (small_0 _).mono ?_); rintro e w1 ⟨rfl, rfl⟩) | (go_at_call 8; (with_reducible refine (per_any _ _ _ _).mono ?_); rintro e w1 ⟨rfl, rfl⟩) | (go_at_call 10; (with_reducible refine (beg_0 _ _ _ _).mono ?_); rintro e w1 ⟨rfl, rfl⟩) | (go_at_call 14; (with_reducible refine (ends_any _ _ _ _).mono ?_); rintro e w1 ⟨rfl, rfl⟩) | (go_at_call 12; (with_reducible refine (within_any _ _ _ _).mono ?_); rintro e w1 ⟨rfl, rfl⟩))
  go_ret
  exact ⟨rfl, Grown.refl _⟩

set_option maxRecDepth 100000 in
set_option maxHeartbeats 1000000 in
theorem c_rf (day f l p : Int) (w : World) (h0 : ((perE day f l) != 0) = false) (h1 : ((shE (perV day f l) f l 0) != 0) = false) (h2 : (shV (perV day f l) f l 0) ≤ day) (h3 : f ≤ (shV (perV day f l) f l 0)) (q0 : 0 ≤ (shV (perV day f l) f l 0)) (q1 : (shV (perV day f l) f l 0) ≤ 1048576) (q2 : 0 ≤ (dueV (perV day f l) f l 0)) (q3 : (dueV (perV day f l) f l 0) ≤ 1048576) (q4 : 1 ≤ l) (q5 : l ≤ 1048576) (g0 : ((dueE (perV day f l) f l 0) == 0) = false) (g1 : ((dueE (perV day f l) f l 0) != 0) = true) (g4 : ((dueE (perV day f l) f l 0) != 3) = false) (i0 : ((shE p f l 0) != 0) = false) (i1 : ((dueE p f l 0) != 0) = false) (i2 : (witB day (shV p f l 0) (dueV p f l 0)) = false) (i3 : ((perV day f l) == p) = false) :
    Calls Try.prog 4 #[.int .i64 day, .int .i64 f, .int .i64 l, .int .i64 p] w fun e w' => e = .returned (.bool true) ∧ Grown w w' := by
  have n2 : ¬ day < (shV (perV day f l) f l 0) := by omega
  have n3 : ¬ (shV (perV day f l) f l 0) < f := by omega
  go_enter Try.func4, Try.ntmps4
  go_wp2_with (first | (go_at_call 7; (with_reducible refine (small_0 _).mono ?_); rintro e w1 ⟨rfl, rfl⟩) | (go_at_call 8; (with_reducible refine (per_any _ _ _ _).mono ?_); rintro e w1 ⟨rfl, rfl⟩) | (go_at_call 10; (with_reducible refine (beg_0 _ _ _ _).mono ?_); rintro e w1 ⟨rfl, rfl⟩) | (go_at_call 14; (with_reducible refine (ends_any _ _ _ _).mono ?_); rintro e w1 ⟨rfl, rfl⟩) | (go_at_call 12; (with_reducible refine (within_any _ _ _ _).mono ?_); rintro e w1 ⟨rfl, rfl⟩))
  go_ret
  exact ⟨rfl, Grown.refl _⟩

theorem walk (a0 : Int) (a1 : Int) (a2 : Int) (a3 : Int) (w0 : (Lit.int .i64 a0).wf = true) (w1 : (Lit.int .i64 a1).wf = true) (w2 : (Lit.int .i64 a2).wf = true) (w3 : (Lit.int .i64 a3).wf = true) (w : World) :
    Calls Try.prog 4 #[.int .i64 a0, .int .i64 a1, .int .i64 a2, .int .i64 a3] w fun e w' => e = .returned (.bool true) ∧ Grown w w' := by
  generalize a0 = day, a1 = f, a2 = l, a3 = p
  rcases perE_cases day f l with ⟨h1, h2⟩ | ⟨h1, h2, h3⟩ | ⟨hE, hd0, hd1, hc, hfd, hV⟩
  · exact c_arg day f l p w (by rw [h1]; decide) (by rw [h2]; decide) (by rw [h1]; decide)
  · exact c_early day f l p w (by rw [h1]; decide) (by rw [h2]; decide) (by rw [h1]; decide) (by rw [h1]; decide) h3
  have c := calB_iff.1 hc
  have eb := ediv_bd (x := day - f) (l := l) (by omega) c.2.2.1
  rw [← hV] at eb
  have hs := shE_of (p := perV day f l) (f := f) (l := l) (d := 0) (by omega) hc (by omega) (by omega)
  have q0 := shV_bd (perV day f l) f l 0 (by omega)
  have q2 := dueV_bd (perV day f l) f l 0
  have hn := Int.mul_nonneg eb.2.2.1 (show 0 ≤ l by omega)
  have e1 : shV (perV day f l) f l 0 ≤ day := by rw [hs.2]; omega
  have e2 : f ≤ shV (perV day f l) f l 0 := by rw [hs.2]; omega
  have hg : (dueE (perV day f l) f l 0 = 0 ∧ dueV (perV day f l) f l 0 = f + perV day f l * l + (l - 1)) ∨ dueE (perV day f l) f l 0 = 3 := by
    rcases dueE_cases (perV day f l) f l 0 with h | h | h
    · left; refine ⟨h, ?_⟩
      rw [due0E] at h; rw [due0V]
      exact (shE_ok h).2.2.2.2
    · rw [due0E] at h
      unfold shE at h
      rw [if_pos ⟨by omega, hc⟩] at h
      split at h <;> omega
    · exact .inr h
  have bA := shV_bd p f l 0 (by omega)
  have bB := dueV_bd p f l 0
  have mm : 0 ≤ shV p f l 0 * dueV p f l 0 ∧ shV p f l 0 * dueV p f l 0 ≤ 1099511627776 :=
    ⟨Int.mul_nonneg bA.1 bB.1, by have := Int.mul_le_mul bA.2 bB.2 bB.1 (by omega); simpa using this⟩
  have he : (shE p f l 0 ≠ 0 ∧ shV p f l 0 * dueV p f l 0 = 0) ∨ (shE p f l 0 = 0 ∧ dueE p f l 0 ≠ 0 ∧ shV p f l 0 * dueV p f l 0 = 0) ∨
      (shE p f l 0 = 0 ∧ dueE p f l 0 = 0 ∧ (witB day (shV p f l 0) (dueV p f l 0) = decide (perV day f l = p))) := by
    by_cases x : shE p f l 0 = 0
    case neg => left; refine ⟨x, ?_⟩; rw [shE_bad x]; simp
    by_cases y : dueE p f l 0 = 0
    case neg =>
      right; left; refine ⟨x, y, ?_⟩
      rw [due0E] at y; rw [due0V, shE_bad y]; simp
    right; right; refine ⟨x, y, ?_⟩
    rw [due0E] at y
    rw [due0V, (shE_ok x).2.2.2.2, (shE_ok y).2.2.2.2]
    unfold witB
    rw [decide_eq_decide]
    constructor
    · intro h; rw [hV]; exact ediv_uniq c.2.2.1 (by omega) (by omega)
    · intro h; rw [← h]; omega
  have base0 : (perE day f l != 0) = false := by rw [hE]; decide
  have base1 : (shE (perV day f l) f l 0 != 0) = false := by rw [hs.1]; decide
  rcases hg with ⟨g, gv⟩ | g
  · rcases he with ⟨x, y⟩ | ⟨x, y, z⟩ | ⟨x, y, z⟩
    · exact c_gh day f l p w base0 base1 e1 e2 q0.1 q0.2 q2.1 q2.2 c.2.2.1 c.2.2.2 (by rw [g]; decide) (by rw [g]; decide) (by rw [gv]; omega) (by rw [gv, hs.2]; simp; omega) (by simpa using x) mm.1 mm.2 (by simpa using y)
    · exact c_gj day f l p w base0 base1 e1 e2 q0.1 q0.2 q2.1 q2.2 c.2.2.1 c.2.2.2 (by rw [g]; decide) (by rw [g]; decide) (by rw [gv]; omega) (by rw [gv, hs.2]; simp; omega) (by rw [x]; decide) (by simpa using y) mm.1 mm.2 (by simpa using z)
    · by_cases v : perV day f l = p
      · exact c_gt day f l p w base0 base1 e1 e2 q0.1 q0.2 q2.1 q2.2 c.2.2.1 c.2.2.2 (by rw [g]; decide) (by rw [g]; decide) (by rw [gv]; omega) (by rw [gv, hs.2]; simp; omega) (by rw [x]; decide) (by rw [y]; decide) (by rw [z]; simpa using v) (by simpa using v)
      · exact c_gf day f l p w base0 base1 e1 e2 q0.1 q0.2 q2.1 q2.2 c.2.2.1 c.2.2.2 (by rw [g]; decide) (by rw [g]; decide) (by rw [gv]; omega) (by rw [gv, hs.2]; simp; omega) (by rw [x]; decide) (by rw [y]; decide) (by rw [z]; simpa using v) (by simpa using v)
  · rcases he with ⟨x, y⟩ | ⟨x, y, z⟩ | ⟨x, y, z⟩
    · exact c_rh day f l p w base0 base1 e1 e2 q0.1 q0.2 q2.1 q2.2 c.2.2.1 c.2.2.2 (by rw [g]; decide) (by rw [g]; decide) (by rw [g]; decide) (by simpa using x) mm.1 mm.2 (by simpa using y)
    · exact c_rj day f l p w base0 base1 e1 e2 q0.1 q0.2 q2.1 q2.2 c.2.2.1 c.2.2.2 (by rw [g]; decide) (by rw [g]; decide) (by rw [g]; decide) (by rw [x]; decide) (by simpa using y) mm.1 mm.2 (by simpa using z)
    · by_cases v : perV day f l = p
      · exact c_rt day f l p w base0 base1 e1 e2 q0.1 q0.2 q2.1 q2.2 c.2.2.1 c.2.2.2 (by rw [g]; decide) (by rw [g]; decide) (by rw [g]; decide) (by rw [x]; decide) (by rw [y]; decide) (by rw [z]; simpa using v) (by simpa using v)
      · exact c_rf day f l p w base0 base1 e1 e2 q0.1 q0.2 q2.1 q2.2 c.2.2.1 c.2.2.2 (by rw [g]; decide) (by rw [g]; decide) (by rw [g]; decide) (by rw [x]; decide) (by rw [y]; decide) (by rw [z]; simpa using v) (by simpa using v)

/-! ### THE ROW's STEP: WRITTEN OUT: LEAVE IT -/
set_option maxRecDepth 100000 in
theorem lifted (os : Os) (started : os.Started) (H : Type) (enc : TypeId × Value → H) :
    ReturnsInHanded {} Try.checked os 4 .any (Rows.datePeriodsSpec.pre6 enc Try.prog Try.f4 Rows.datePeriodsRow.domain false) (Rows.datePeriodsSpec.post enc Try.prog Try.f4 false true false false) := by
  refine returnsInHanded_of_change (C := Try.checked) own started (by kernel_rfl) Try.func4
    (ChangeSpec.witness6 (enc := enc) (C := Try.checked) false ⟨#[], #[.int .i64 0, .int .i64 0, .int .i64 0, .int .i64 0], []⟩ 8 (by kernel_rfl) (by kernel_rfl) (by kernel_rfl) (by kernel_rfl)) ?_
  intro W base args ds gs before hval0 hW hcnd _
  have hval : ∀ (j : Nat) t v, Try.f4.params[j]? = some t → args[j]? = some v → Value.okWide Try.prog W .any base t v := hval0
  have hW' := hW
  obtain ⟨p, q, hA0, hV, rfl, hfz, hnd⟩ := hW
  have hA : DataW.TrodAll enc Try.prog W 0 (fun _ => true) true Try.f4.params.toList args.toList ds p := hA0
  rw [Try.params4] at hA hval
  obtain ⟨v0, vs0, d0, ds0, p0, q0, hargs, rfl, rfl, h0, r0⟩ := trodAll_cons hA
  obtain ⟨v1, vs1, d1, ds1, p1, q1, rfl, rfl, rfl, h1, r1⟩ := trodAll_cons r0
  obtain ⟨v2, vs2, d2, ds2, p2, q2, rfl, rfl, rfl, h2, r2⟩ := trodAll_cons r1
  obtain ⟨v3, vs3, d3, ds3, p3, q3, rfl, rfl, rfl, h3, r3⟩ := trodAll_cons r2
  obtain ⟨rfl, rfl, rfl⟩ := trodAll_nil r3
  obtain rfl : args = #[v0, v1, v2, v3] := by cases args; simp_all
  obtain ⟨rfl, rfl⟩ := trodVars_none hV
  obtain ⟨a0, rfl, rfl, rfl, w0⟩ := open_int Try.underlying3 (hval 0 3 v0 rfl rfl) h0
  obtain ⟨a1, rfl, rfl, rfl, w1⟩ := open_int Try.underlying3 (hval 1 3 v1 rfl rfl) h1
  obtain ⟨a2, rfl, rfl, rfl, w2⟩ := open_int Try.underlying3 (hval 2 3 v2 rfl rfl) h2
  obtain ⟨a3, rfl, rfl, rfl, w3⟩ := open_int Try.underlying3 (hval 3 3 v3 rfl rfl) h3
  clear hA0 hval0
  simp only [List.append_nil] at hW'
  refine (walk a0 a1 a2 a3 w0 w1 w2 w3 W).mono fun e W' ⟨he, hg⟩ => ?_
  subst he
  exact ⟨_, rfl, post_of_same (pa := []) (pv := []) hW' (fun _ _ _ => (trodAll_cons_mk (shut_bool Try.underlying4 _) trodAll_mk0)) (fun sp _ => (trodAll_cons_mk (shut_int Try.underlying3 w0) (trodAll_cons_mk (shut_int Try.underlying3 w1) (trodAll_cons_mk (shut_int Try.underlying3 w2) (trodAll_cons_mk (shut_int Try.underlying3 w3) trodAll_mk0))))) (fun _ _ => rfl) rfl
    (hg.frame _) hg.2.1 (ok_one (by kernel_rfl) rfl (okWide_bool_mk Try.underlying4 _))⟩

theorem over : Rows.datePeriodsRow.holds Try.pinned (OpenSpec.ofChange Rows.datePeriodsSpec) :=
  OpenClaim.holds_of_wide 4 Try.f4 rfl rfl rfl rfl rfl rfl rfl ⟨rfl, rfl, rfl, rfl, rfl⟩ rfl rfl rfl rfl rfl (by kernel_rfl) Try.func4 (by kernel_rfl)
    (of_decide_eq_true (by kernel_rfl)) (by unfold Func.isWrapper; first | (rw [if_pos (by decide +kernel)]; kernel_rfl) | (rw [if_neg (by decide +kernel)]; exact ⟨rfl, rfl⟩))
    (fun os started H enc _ => lifted os started H enc)

/-- ████ THE STATEMENT ████ -/
theorem proved : Rows.DatePeriodsSaid :=
  over
#print axioms proved
end Go.Proofs.Ytnbbjophgebhdaa.datePeriods
