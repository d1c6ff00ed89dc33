/- The contracts of the functions of package date and of its reference: each returns what a plain function on integers returns, and leaves the world alone. -/
import Derived.Test.YtnbbjophgebhdaaRows
import Derived.WalkKit
import Derived.WalkSpells
import Derived.WalkLawsBesides
import Derived.Lib.Hide
namespace Go.Proofs.Ytnbbjophgebhdaa
open Go.RowKit
set_option linter.unusedVariables false

def dayB (n : Int) : Bool := decide (0 ≤ n ∧ n ≤ 1048576)
theorem dayB_iff {n : Int} : dayB n = true ↔ 0 ≤ n ∧ n ≤ 1048576 := by simp [dayB]
theorem dayB_no {n : Int} : dayB n = false ↔ n < 0 ∨ 1048576 < n := by simp [dayB]; omega
/-- A calendar is right. -/
def calB (f l : Int) : Bool := decide (0 ≤ f ∧ f ≤ 1048576 ∧ 1 ≤ l ∧ l ≤ 1048576)
theorem calB_iff {f l : Int} : calB f l = true ↔ 0 ≤ f ∧ f ≤ 1048576 ∧ 1 ≤ l ∧ l ≤ 1048576 := by simp [calB]
theorem calB_no {f l : Int} : calB f l = false ↔ ¬ (0 ≤ f ∧ f ≤ 1048576 ∧ 1 ≤ l ∧ l ≤ 1048576) := by simp only [calB, decide_eq_false_iff_not]

def witB (a b c : Int) : Bool := decide (b ≤ a ∧ a ≤ c)
def perV (on f l : Int) : Int := if dayB on = true ∧ calB f l = true ∧ f ≤ on then (on - f) / l else 0
def perE (on f l : Int) : Int := if dayB on = true ∧ calB f l = true then (if f ≤ on then 0 else 26) else 1
/-- The day that is some days behind the beginning of a period. -/
def shV (p f l d : Int) : Int := if 0 ≤ p ∧ calB f l = true ∧ p ≤ 1048576 ∧ f + p * l + d ≤ 1048576 then f + p * l + d else 0
def shE (p f l d : Int) : Int := if 0 ≤ p ∧ calB f l = true then (if p ≤ 1048576 ∧ f + p * l + d ≤ 1048576 then 0 else 3) else 1
def dueV (p f l g : Int) : Int := if dayB g = true then shV p f l (l - 1 + g) else 0
def dueE (p f l g : Int) : Int := if dayB g = true then shE p f l (l - 1 + g) else 1
def lateV (on p f l g : Int) : Int := if dayB on = true ∧ dueE p f l g = 0 then max 0 (on - dueV p f l g) else 0
def lateE (on p f l g : Int) : Int := if dayB on = true then dueE p f l g else 1
def opV (p f l k : Int) : Int := if dueE p f l 0 = 0 ∧ 0 ≤ k ∧ k ≤ l then dueV p f l 0 - k + 1 else 0
def opE (p f l k : Int) : Int := if 0 ≤ k ∧ k ≤ l then dueE p f l 0 else 1
def isB (n e k : Int) : Bool := decide (n = k ∧ e = 0)

theorem mul_bd {p l : Int} (h0 : 0 ≤ p) (h1 : p ≤ 1048576) (h2 : 1 ≤ l) (h3 : l ≤ 1048576) : 0 ≤ p * l ∧ p * l ≤ 1099511627776 :=
  ⟨Int.mul_nonneg h0 (by omega), by
    have := Int.mul_le_mul h1 h3 (by omega) (by omega)
    simpa using this⟩
theorem shV_bd (p f l d : Int) (hd : 0 ≤ d) : 0 ≤ shV p f l d ∧ shV p f l d ≤ 1048576 := by
  unfold shV
  split
  · rename_i h
    obtain ⟨h0, hc, h1, h2⟩ := h
    have hc' := calB_iff.1 hc
    have := mul_bd h0 h1 hc'.2.2.1 hc'.2.2.2
    omega
  · omega
theorem shV_nocal {p f l d d' : Int} (h : calB f l = false) : shV p f l d = shV p f l d' := by simp [shV, h]
theorem shE_nocal {p f l d d' : Int} (h : calB f l = false) : shE p f l d = shE p f l d' := by simp [shE, h]
theorem dueV_bd (p f l g : Int) : 0 ≤ dueV p f l g ∧ dueV p f l g ≤ 1048576 := by
  unfold dueV
  split
  · rename_i h
    have hg := dayB_iff.1 h
    by_cases hc : calB f l = true
    · have hc' := calB_iff.1 hc
      exact shV_bd _ _ _ _ (by omega)
    · have hc' : calB f l = false := by simpa using hc
      rw [shV_nocal (d' := 0) hc']
      exact shV_bd _ _ _ _ (by omega)
  · omega
theorem shE_cases (p f l d : Int) : shE p f l d = 0 ∨ shE p f l d = 1 ∨ shE p f l d = 3 := by
  unfold shE; split
  · split <;> simp
  · simp
theorem dueE_cases (p f l g : Int) : dueE p f l g = 0 ∨ dueE p f l g = 1 ∨ dueE p f l g = 3 := by
  unfold dueE; split
  · exact shE_cases _ _ _ _
  · simp


set_option maxHeartbeats 400000 in
theorem day_0 (n : Int) (w : World) (h : n < 0) :
    Calls Try.prog 23 #[.int .i64 n] w fun e w' => e = .returned (.bool false) ∧ w = w' := by
  have h2 : ¬ 0 ≤ n := by omega
  go_enter Try.func23, Try.ntmps23
  go_wp2
  go_ret
  exact ⟨rfl, rfl⟩

set_option maxHeartbeats 400000 in
theorem day_1 (n : Int) (w : World) (h : 0 ≤ n) (h1 : 1048576 < n) :
    Calls Try.prog 23 #[.int .i64 n] w fun e w' => e = .returned (.bool false) ∧ w = w' := by
  have h2 : ¬ n ≤ 1048576 := by omega
  have h3 : decide (n ≤ 1048576) = false := by simp; omega
  go_enter Try.func23, Try.ntmps23
  go_wp2
  go_ret
  exact ⟨rfl, rfl⟩

set_option maxHeartbeats 400000 in
theorem day_2 (n : Int) (w : World) (h : 0 ≤ n) (h1 : n ≤ 1048576) :
    Calls Try.prog 23 #[.int .i64 n] w fun e w' => e = .returned (.bool true) ∧ w = w' := by
  go_enter Try.func23, Try.ntmps23
  go_wp2
  go_ret
  exact ⟨rfl, rfl⟩

theorem day_any (n : Int) (w : World) :
    Calls Try.prog 23 #[.int .i64 n] w fun e w' => e = .returned (.bool (dayB n)) ∧ w = w' := by
  rcases (by omega : n < 0 ∨ (0 ≤ n ∧ n ≤ 1048576) ∨ (0 ≤ n ∧ 1048576 < n)) with h | ⟨h, h1⟩ | ⟨h, h1⟩
  · rw [show dayB n = false by simp [dayB]; omega]; exact day_0 n w h
  · rw [show dayB n = true from dayB_iff.2 ⟨h, h1⟩]; exact day_2 n w h h1
  · rw [show dayB n = false by simp [dayB]; omega]; exact day_1 n w h h1

set_option maxHeartbeats 400000 in
theorem in_0 (n : Int) (w : World) (h : n < 0) :
    Calls Try.prog 24 #[.int .i64 n] w fun e w' => e = .returned (.bool false) ∧ w = w' := by
  have h2 : ¬ 0 ≤ n := by omega
  go_enter Try.func24, Try.ntmps24
  go_wp2
  go_ret
  exact ⟨rfl, rfl⟩

set_option maxHeartbeats 400000 in
theorem in_1 (n : Int) (w : World) (h : 0 ≤ n) (h1 : 1048576 < n) :
    Calls Try.prog 24 #[.int .i64 n] w fun e w' => e = .returned (.bool false) ∧ w = w' := by
  have h2 : ¬ n ≤ 1048576 := by omega
  have h3 : decide (n ≤ 1048576) = false := by simp; omega
  go_enter Try.func24, Try.ntmps24
  go_wp2
  go_ret
  exact ⟨rfl, rfl⟩

set_option maxHeartbeats 400000 in
theorem in_2 (n : Int) (w : World) (h : 0 ≤ n) (h1 : n ≤ 1048576) :
    Calls Try.prog 24 #[.int .i64 n] w fun e w' => e = .returned (.bool true) ∧ w = w' := by
  go_enter Try.func24, Try.ntmps24
  go_wp2
  go_ret
  exact ⟨rfl, rfl⟩

theorem in_any (n : Int) (w : World) :
    Calls Try.prog 24 #[.int .i64 n] w fun e w' => e = .returned (.bool (dayB n)) ∧ w = w' := by
  rcases (by omega : n < 0 ∨ (0 ≤ n ∧ n ≤ 1048576) ∨ (0 ≤ n ∧ 1048576 < n)) with h | ⟨h, h1⟩ | ⟨h, h1⟩
  · rw [show dayB n = false by simp [dayB]; omega]; exact in_0 n w h
  · rw [show dayB n = true from dayB_iff.2 ⟨h, h1⟩]; exact in_2 n w h h1
  · rw [show dayB n = false by simp [dayB]; omega]; exact in_1 n w h h1

set_option maxHeartbeats 400000 in
theorem within_0 (a b c : Int) (w : World) (h : a < b) :
    Calls Try.prog 12 #[.int .i64 a, .int .i64 b, .int .i64 c] w fun e w' => e = .returned (.bool false) ∧ w = w' := by
  have h2 : ¬ b ≤ a := by omega
  have h3 : decide (b ≤ a) = false := by simp; omega
  go_enter Try.func12, Try.ntmps12
  go_wp2
  go_ret
  exact ⟨rfl, rfl⟩

set_option maxHeartbeats 400000 in
theorem within_1 (a b c : Int) (w : World) (h : b ≤ a) (h1 : c < a) :
    Calls Try.prog 12 #[.int .i64 a, .int .i64 b, .int .i64 c] w fun e w' => e = .returned (.bool false) ∧ w = w' := by
  have h2 : ¬ a ≤ c := by omega
  have h3 : decide (a ≤ c) = false := by simp; omega
  go_enter Try.func12, Try.ntmps12
  go_wp2
  go_ret
  exact ⟨rfl, rfl⟩

set_option maxHeartbeats 400000 in
theorem within_2 (a b c : Int) (w : World) (h : b ≤ a) (h1 : a ≤ c) :
    Calls Try.prog 12 #[.int .i64 a, .int .i64 b, .int .i64 c] w fun e w' => e = .returned (.bool true) ∧ w = w' := by
  go_enter Try.func12, Try.ntmps12
  go_wp2
  go_ret
  exact ⟨rfl, rfl⟩

theorem within_any (a b c : Int) (w : World) :
    Calls Try.prog 12 #[.int .i64 a, .int .i64 b, .int .i64 c] w fun e w' => e = .returned (.bool (witB a b c)) ∧ w = w' := by
  rcases (by omega : a < b ∨ (b ≤ a ∧ a ≤ c) ∨ (b ≤ a ∧ c < a)) with h | ⟨h, h1⟩ | ⟨h, h1⟩
  · rw [show witB a b c = false by simp [witB]; omega]; exact within_0 a b c w h
  · rw [show witB a b c = true by simp [witB]; omega]; exact within_2 a b c w h h1
  · rw [show witB a b c = false by simp [witB]; omega]; exact within_1 a b c w h h1

set_option maxHeartbeats 400000 in
theorem rwithin_0 (a b c : Int) (w : World) (h : a < b) :
    Calls Try.prog 13 #[.int .i64 a, .int .i64 b, .int .i64 c] w fun e w' => e = .returned (.bool false) ∧ w = w' := by
  have h2 : ¬ b ≤ a := by omega
  have h3 : decide (b ≤ a) = false := by simp; omega
  go_enter Try.func13, Try.ntmps13
  go_wp2
  go_ret
  exact ⟨rfl, rfl⟩

set_option maxHeartbeats 400000 in
theorem rwithin_1 (a b c : Int) (w : World) (h : b ≤ a) (h1 : c < a) :
    Calls Try.prog 13 #[.int .i64 a, .int .i64 b, .int .i64 c] w fun e w' => e = .returned (.bool false) ∧ w = w' := by
  have h2 : ¬ a ≤ c := by omega
  have h3 : decide (a ≤ c) = false := by simp; omega
  go_enter Try.func13, Try.ntmps13
  go_wp2
  go_ret
  exact ⟨rfl, rfl⟩

set_option maxHeartbeats 400000 in
theorem rwithin_2 (a b c : Int) (w : World) (h : b ≤ a) (h1 : a ≤ c) :
    Calls Try.prog 13 #[.int .i64 a, .int .i64 b, .int .i64 c] w fun e w' => e = .returned (.bool true) ∧ w = w' := by
  go_enter Try.func13, Try.ntmps13
  go_wp2
  go_ret
  exact ⟨rfl, rfl⟩

theorem rwithin_any (a b c : Int) (w : World) :
    Calls Try.prog 13 #[.int .i64 a, .int .i64 b, .int .i64 c] w fun e w' => e = .returned (.bool (witB a b c)) ∧ w = w' := by
  rcases (by omega : a < b ∨ (b ≤ a ∧ a ≤ c) ∨ (b ≤ a ∧ c < a)) with h | ⟨h, h1⟩ | ⟨h, h1⟩
  · rw [show witB a b c = false by simp [witB]; omega]; exact rwithin_0 a b c w h
  · rw [show witB a b c = true by simp [witB]; omega]; exact rwithin_2 a b c w h h1
  · rw [show witB a b c = false by simp [witB]; omega]; exact rwithin_1 a b c w h h1

set_option maxHeartbeats 400000 in
theorem cal_0 (f l : Int) (w : World) (h : dayB f = false) :
    Calls Try.prog 25 #[.int .i64 f, .int .i64 l] w fun e w' => e = .returned (.bool false) ∧ w = w' := by
  go_enter Try.func25, Try.ntmps25
  go_wp2_with ((go_at_call 24; (with_reducible refine (in_any _ _).mono ?_); rintro e w1 ⟨rfl, rfl⟩))
  go_ret
  exact ⟨rfl, rfl⟩

set_option maxHeartbeats 400000 in
theorem cal_1 (f l : Int) (w : World) (h : dayB f = true) (h1 : dayB l = false) :
    Calls Try.prog 25 #[.int .i64 f, .int .i64 l] w fun e w' => e = .returned (.bool false) ∧ w = w' := by
  go_enter Try.func25, Try.ntmps25
  go_wp2_with ((go_at_call 24; (with_reducible refine (in_any _ _).mono ?_); rintro e w1 ⟨rfl, rfl⟩))
  go_ret
  exact ⟨rfl, rfl⟩

set_option maxHeartbeats 400000 in
theorem cal_2 (f l : Int) (w : World) (h : dayB f = true) (h1 : dayB l = true) (h2 : l < 1) :
    Calls Try.prog 25 #[.int .i64 f, .int .i64 l] w fun e w' => e = .returned (.bool false) ∧ w = w' := by
  have h3 : ¬ 1 ≤ l := by omega
  have h4 : decide (1 ≤ l) = false := by simp; omega
  go_enter Try.func25, Try.ntmps25
  go_wp2_with ((go_at_call 24; (with_reducible refine (in_any _ _).mono ?_); rintro e w1 ⟨rfl, rfl⟩))
  go_ret
  exact ⟨rfl, rfl⟩

set_option maxHeartbeats 400000 in
theorem cal_3 (f l : Int) (w : World) (h : dayB f = true) (h1 : dayB l = true) (h2 : 1 ≤ l) :
    Calls Try.prog 25 #[.int .i64 f, .int .i64 l] w fun e w' => e = .returned (.bool true) ∧ w = w' := by
  go_enter Try.func25, Try.ntmps25
  go_wp2_with ((go_at_call 24; (with_reducible refine (in_any _ _).mono ?_); rintro e w1 ⟨rfl, rfl⟩))
  go_ret
  exact ⟨rfl, rfl⟩

theorem cal_any (f l : Int) (w : World) :
    Calls Try.prog 25 #[.int .i64 f, .int .i64 l] w fun e w' => e = .returned (.bool (calB f l)) ∧ w = w' := by
  cases hf : dayB f
  · rw [show calB f l = false from calB_no.2 (by have := dayB_no.1 hf; omega)]; exact cal_0 f l w hf
  cases hl : dayB l
  · rw [show calB f l = false from calB_no.2 (by have := dayB_no.1 hl; omega)]; exact cal_1 f l w hf hl
  have h1 := dayB_iff.1 hf
  have h2 := dayB_iff.1 hl
  by_cases h : l < 1
  · rw [show calB f l = false from calB_no.2 (by omega)]; exact cal_2 f l w hf hl h
  · rw [show calB f l = true from calB_iff.2 (by omega)]; exact cal_3 f l w hf hl (by omega)

set_option maxHeartbeats 400000 in
theorem per_0 (on f l : Int) (w : World) (h : dayB on = false) :
    Calls Try.prog 8 #[.int .i64 on, .int .i64 f, .int .i64 l] w fun e w' => e = .returned (.tuple #[.int .i64 (0), .int .i64 (1)]) ∧ w = w' := by
  go_enter Try.func8, Try.ntmps8
  go_wp2_with ((go_at_call 23; (with_reducible refine (day_any _ _).mono ?_); rintro e w1 ⟨rfl, rfl⟩))
  go_ret2
  exact ⟨rfl, rfl⟩

set_option maxHeartbeats 400000 in
theorem per_1 (on f l : Int) (w : World) (h : dayB on = true) (h1 : dayB f = false) :
    Calls Try.prog 8 #[.int .i64 on, .int .i64 f, .int .i64 l] w fun e w' => e = .returned (.tuple #[.int .i64 (0), .int .i64 (1)]) ∧ w = w' := by
  go_enter Try.func8, Try.ntmps8
  go_wp2_with ((go_at_call 23; (with_reducible refine (day_any _ _).mono ?_); rintro e w1 ⟨rfl, rfl⟩))
  go_ret2
  exact ⟨rfl, rfl⟩

set_option maxHeartbeats 400000 in
theorem per_2 (on f l : Int) (w : World) (h : dayB on = true) (h1 : dayB f = true) (h2 : dayB l = false) :
    Calls Try.prog 8 #[.int .i64 on, .int .i64 f, .int .i64 l] w fun e w' => e = .returned (.tuple #[.int .i64 (0), .int .i64 (1)]) ∧ w = w' := by
  go_enter Try.func8, Try.ntmps8
  go_wp2_with ((go_at_call 23; (with_reducible refine (day_any _ _).mono ?_); rintro e w1 ⟨rfl, rfl⟩))
  go_ret2
  exact ⟨rfl, rfl⟩

set_option maxHeartbeats 400000 in
theorem per_3 (on f l : Int) (w : World) (h : dayB on = true) (h1 : dayB f = true) (h2 : dayB l = true) (h3 : (l == 0) = true) :
    Calls Try.prog 8 #[.int .i64 on, .int .i64 f, .int .i64 l] w fun e w' => e = .returned (.tuple #[.int .i64 (0), .int .i64 (1)]) ∧ w = w' := by
  go_enter Try.func8, Try.ntmps8
  go_wp2_with ((go_at_call 23; (with_reducible refine (day_any _ _).mono ?_); rintro e w1 ⟨rfl, rfl⟩))
  go_ret2
  exact ⟨rfl, rfl⟩

set_option maxHeartbeats 400000 in
theorem per_4 (on f l : Int) (w : World) (h : dayB on = true) (h1 : dayB f = true) (h2 : dayB l = true) (h3 : (l == 0) = false) (h4 : on < f) :
    Calls Try.prog 8 #[.int .i64 on, .int .i64 f, .int .i64 l] w fun e w' => e = .returned (.tuple #[.int .i64 (0), .int .i64 (26)]) ∧ w = w' := by
  go_enter Try.func8, Try.ntmps8
  go_wp2_with ((go_at_call 23; (with_reducible refine (day_any _ _).mono ?_); rintro e w1 ⟨rfl, rfl⟩))
  go_ret2
  exact ⟨rfl, rfl⟩

set_option maxHeartbeats 400000 in
theorem per_5 (on f l : Int) (w : World) (h : dayB on = true) (h1 : dayB f = true) (h2 : dayB l = true) (h3 : (l == 0) = false) (h4 : f ≤ on) (b0 : 0 ≤ on) (b1 : on ≤ 1048576) (b2 : 0 ≤ f) (b3 : f ≤ 1048576) (b4 : 1 ≤ l) (b5 : l ≤ 1048576) :
    Calls Try.prog 8 #[.int .i64 on, .int .i64 f, .int .i64 l] w fun e w' => e = .returned (.tuple #[.int .i64 ((on - f) / l), .int .i64 (0)]) ∧ w = w' := by
  have h5 : ¬ on < f := by omega
  go_enter Try.func8, Try.ntmps8
  go_wp2_with ((go_at_call 23; (with_reducible refine (day_any _ _).mono ?_); rintro e w1 ⟨rfl, rfl⟩))
  go_ret2
  exact ⟨rfl, rfl⟩

theorem per_any (on f l : Int) (w : World) :
    Calls Try.prog 8 #[.int .i64 on, .int .i64 f, .int .i64 l] w fun e w' => e = .returned (.tuple #[.int .i64 (perV on f l), .int .i64 (perE on f l)]) ∧ w = w' := by
  unfold perV perE
  cases ho : dayB on
  · simpa using per_0 on f l w ho
  cases hf : dayB f
  · rw [show calB f l = false from calB_no.2 (by have := dayB_no.1 hf; omega)]; simpa using per_1 on f l w ho hf
  cases hl : dayB l
  · rw [show calB f l = false from calB_no.2 (by have := dayB_no.1 hl; omega)]; simpa using per_2 on f l w ho hf hl
  have h0 := dayB_iff.1 ho
  have h1 := dayB_iff.1 hf
  have h2 := dayB_iff.1 hl
  by_cases h : l = 0
  · rw [show calB f l = false from calB_no.2 (by omega)]; simpa using per_3 on f l w ho hf hl (by simpa using h)
  rw [show calB f l = true from calB_iff.2 (by omega)]
  by_cases h4 : f ≤ on
  · simpa [h4] using per_5 on f l w ho hf hl (by simpa using h) h4 h0.1 h0.2 h1.1 h1.2 (by omega) h2.2
  · simpa [h4] using per_4 on f l w ho hf hl (by simpa using h) (by omega)

set_option maxHeartbeats 400000 in
theorem rper_0 (on f l : Int) (w : World) (h : dayB on = false) :
    Calls Try.prog 9 #[.int .i64 on, .int .i64 f, .int .i64 l] w fun e w' => e = .returned (.tuple #[.int .i64 (0), .int .i64 (1)]) ∧ w = w' := by
  go_enter Try.func9, Try.ntmps9
  go_wp2_with (first | (go_at_call 24; (with_reducible refine (in_any _ _).mono ?_); rintro e w1 ⟨rfl, rfl⟩) | (go_at_call 25; (with_reducible refine (cal_any _ _ _).mono ?_); rintro e w1 ⟨rfl, rfl⟩))
  go_ret2
  exact ⟨rfl, rfl⟩

set_option maxHeartbeats 400000 in
theorem rper_1 (on f l : Int) (w : World) (h : dayB on = true) (h1 : calB f l = false) :
    Calls Try.prog 9 #[.int .i64 on, .int .i64 f, .int .i64 l] w fun e w' => e = .returned (.tuple #[.int .i64 (0), .int .i64 (1)]) ∧ w = w' := by
  go_enter Try.func9, Try.ntmps9
  go_wp2_with (first | (go_at_call 24; (with_reducible refine (in_any _ _).mono ?_); rintro e w1 ⟨rfl, rfl⟩) | (go_at_call 25; (with_reducible refine (cal_any _ _ _).mono ?_); rintro e w1 ⟨rfl, rfl⟩))
  go_ret2
  exact ⟨rfl, rfl⟩

set_option maxHeartbeats 400000 in
theorem rper_2 (on f l : Int) (w : World) (h : dayB on = true) (h1 : calB f l = true) (h4 : on < f) :
    Calls Try.prog 9 #[.int .i64 on, .int .i64 f, .int .i64 l] w fun e w' => e = .returned (.tuple #[.int .i64 (0), .int .i64 (26)]) ∧ w = w' := by
  go_enter Try.func9, Try.ntmps9
  go_wp2_with (first | (go_at_call 24; (with_reducible refine (in_any _ _).mono ?_); rintro e w1 ⟨rfl, rfl⟩) | (go_at_call 25; (with_reducible refine (cal_any _ _ _).mono ?_); rintro e w1 ⟨rfl, rfl⟩))
  go_ret2
  exact ⟨rfl, rfl⟩

set_option maxHeartbeats 400000 in
theorem rper_3 (on f l : Int) (w : World) (h : dayB on = true) (h1 : calB f l = true) (h4 : f ≤ on) (b0 : 0 ≤ on) (b1 : on ≤ 1048576) (b2 : 0 ≤ f) (b3 : f ≤ 1048576) (b4 : 1 ≤ l) (b5 : l ≤ 1048576) :
    Calls Try.prog 9 #[.int .i64 on, .int .i64 f, .int .i64 l] w fun e w' => e = .returned (.tuple #[.int .i64 ((on - f) / l), .int .i64 (0)]) ∧ w = w' := by
  have h5 : ¬ on < f := by omega
  have h3 : (l == 0) = false := by simp; omega
  go_enter Try.func9, Try.ntmps9
  go_wp2_with (first | (go_at_call 24; (with_reducible refine (in_any _ _).mono ?_); rintro e w1 ⟨rfl, rfl⟩) | (go_at_call 25; (with_reducible refine (cal_any _ _ _).mono ?_); rintro e w1 ⟨rfl, rfl⟩))
  go_ret2
  exact ⟨rfl, rfl⟩

theorem rper_any (on f l : Int) (w : World) :
    Calls Try.prog 9 #[.int .i64 on, .int .i64 f, .int .i64 l] w fun e w' => e = .returned (.tuple #[.int .i64 (perV on f l), .int .i64 (perE on f l)]) ∧ w = w' := by
  unfold perV perE
  cases ho : dayB on
  · simpa using rper_0 on f l w ho
  cases hc : calB f l
  · simpa using rper_1 on f l w ho hc
  have h0 := dayB_iff.1 ho
  have h1 := calB_iff.1 hc
  by_cases h4 : f ≤ on
  · simpa [h4] using rper_3 on f l w ho hc h4 h0.1 h0.2 h1.1 h1.2.1 h1.2.2.1 h1.2.2.2
  · simpa [h4] using rper_2 on f l w ho hc (by omega)

set_option maxHeartbeats 400000 in
theorem sh_0 (p f l d : Int) (w : World) (h : p < 0) :
    Calls Try.prog 26 #[.int .i64 p, .int .i64 f, .int .i64 l, .int .i64 d] w fun e w' => e = .returned (.tuple #[.int .i64 (0), .int .i64 (1)]) ∧ w = w' := by
  go_enter Try.func26, Try.ntmps26
  go_wp2_with ((go_at_call 23; (with_reducible refine (day_any _ _).mono ?_); rintro e w1 ⟨rfl, rfl⟩))
  go_ret2
  exact ⟨rfl, rfl⟩

set_option maxHeartbeats 400000 in
theorem sh_1 (p f l d : Int) (w : World) (h : 0 ≤ p) (h1 : dayB f = false) :
    Calls Try.prog 26 #[.int .i64 p, .int .i64 f, .int .i64 l, .int .i64 d] w fun e w' => e = .returned (.tuple #[.int .i64 (0), .int .i64 (1)]) ∧ w = w' := by
  have h5 : ¬ p < 0 := by omega
  go_enter Try.func26, Try.ntmps26
  go_wp2_with ((go_at_call 23; (with_reducible refine (day_any _ _).mono ?_); rintro e w1 ⟨rfl, rfl⟩))
  go_ret2
  exact ⟨rfl, rfl⟩

set_option maxHeartbeats 400000 in
theorem sh_2 (p f l d : Int) (w : World) (h : 0 ≤ p) (h1 : dayB f = true) (h2 : dayB l = false) :
    Calls Try.prog 26 #[.int .i64 p, .int .i64 f, .int .i64 l, .int .i64 d] w fun e w' => e = .returned (.tuple #[.int .i64 (0), .int .i64 (1)]) ∧ w = w' := by
  have h5 : ¬ p < 0 := by omega
  go_enter Try.func26, Try.ntmps26
  go_wp2_with ((go_at_call 23; (with_reducible refine (day_any _ _).mono ?_); rintro e w1 ⟨rfl, rfl⟩))
  go_ret2
  exact ⟨rfl, rfl⟩

set_option maxHeartbeats 400000 in
theorem sh_3 (p f l d : Int) (w : World) (h : 0 ≤ p) (h1 : dayB f = true) (h2 : dayB l = true) (h3 : (l == 0) = true) :
    Calls Try.prog 26 #[.int .i64 p, .int .i64 f, .int .i64 l, .int .i64 d] w fun e w' => e = .returned (.tuple #[.int .i64 (0), .int .i64 (1)]) ∧ w = w' := by
  have h5 : ¬ p < 0 := by omega
  go_enter Try.func26, Try.ntmps26
  go_wp2_with ((go_at_call 23; (with_reducible refine (day_any _ _).mono ?_); rintro e w1 ⟨rfl, rfl⟩))
  go_ret2
  exact ⟨rfl, rfl⟩

set_option maxHeartbeats 400000 in
theorem sh_4 (p f l d : Int) (w : World) (h : 0 ≤ p) (h1 : dayB f = true) (h2 : dayB l = true) (h3 : (l == 0) = false) (h4 : 1048576 < p) :
    Calls Try.prog 26 #[.int .i64 p, .int .i64 f, .int .i64 l, .int .i64 d] w fun e w' => e = .returned (.tuple #[.int .i64 (0), .int .i64 (3)]) ∧ w = w' := by
  have h5 : ¬ p < 0 := by omega
  go_enter Try.func26, Try.ntmps26
  go_wp2_with ((go_at_call 23; (with_reducible refine (day_any _ _).mono ?_); rintro e w1 ⟨rfl, rfl⟩))
  go_ret2
  exact ⟨rfl, rfl⟩

set_option maxHeartbeats 400000 in
theorem sh_5 (p f l d : Int) (w : World) (h : 0 ≤ p) (h1 : dayB f = true) (h2 : dayB l = true) (h3 : (l == 0) = false) (b0 : 0 ≤ p) (b1 : p ≤ 1048576) (b2 : 0 ≤ f) (b3 : f ≤ 1048576) (b4 : 1 ≤ l) (b5 : l ≤ 1048576) (m0 : 0 ≤ p * l) (m1 : p * l ≤ 1099511627776) (d0 : 0 ≤ d) (d1 : d ≤ 4194304) (h4 : 1048576 < f + p * l + d) :
    Calls Try.prog 26 #[.int .i64 p, .int .i64 f, .int .i64 l, .int .i64 d] w fun e w' => e = .returned (.tuple #[.int .i64 (0), .int .i64 (3)]) ∧ w = w' := by
  have h5 : ¬ p < 0 := by omega
  have h6 : ¬ 1048576 < p := by omega
  go_enter Try.func26, Try.ntmps26
  go_wp2_with ((go_at_call 23; (with_reducible refine (day_any _ _).mono ?_); rintro e w1 ⟨rfl, rfl⟩))
  go_ret2
  exact ⟨rfl, rfl⟩

set_option maxHeartbeats 400000 in
theorem sh_6 (p f l d : Int) (w : World) (h : 0 ≤ p) (h1 : dayB f = true) (h2 : dayB l = true) (h3 : (l == 0) = false) (b0 : 0 ≤ p) (b1 : p ≤ 1048576) (b2 : 0 ≤ f) (b3 : f ≤ 1048576) (b4 : 1 ≤ l) (b5 : l ≤ 1048576) (m0 : 0 ≤ p * l) (m1 : p * l ≤ 1099511627776) (d0 : 0 ≤ d) (d1 : d ≤ 4194304) (h4 : f + p * l + d ≤ 1048576) :
    Calls Try.prog 26 #[.int .i64 p, .int .i64 f, .int .i64 l, .int .i64 d] w fun e w' => e = .returned (.tuple #[.int .i64 (f + p * l + d), .int .i64 (0)]) ∧ w = w' := by
  have h5 : ¬ p < 0 := by omega
  have h6 : ¬ 1048576 < p := by omega
  have h7 : ¬ 1048576 < f + p * l + d := by omega
  go_enter Try.func26, Try.ntmps26
  go_wp2_with ((go_at_call 23; (with_reducible refine (day_any _ _).mono ?_); rintro e w1 ⟨rfl, rfl⟩))
  go_ret2
  exact ⟨rfl, rfl⟩

theorem sh_any (p f l d : Int) (w : World) (d0 : 0 ≤ d) (d1 : d ≤ 4194304) :
    Calls Try.prog 26 #[.int .i64 p, .int .i64 f, .int .i64 l, .int .i64 d] w fun e w' => e = .returned (.tuple #[.int .i64 (shV p f l d), .int .i64 (shE p f l d)]) ∧ w = w' := by
  unfold shV shE
  by_cases hp : 0 ≤ p
  case neg => simpa [hp] using sh_0 p f l d w (by omega)
  cases hf : dayB f
  · rw [show calB f l = false from calB_no.2 (by have := dayB_no.1 hf; omega)]; simpa using sh_1 p f l d w hp hf
  cases hl : dayB l
  · rw [show calB f l = false from calB_no.2 (by have := dayB_no.1 hl; omega)]; simpa using sh_2 p f l d w hp hf hl
  have h1 := dayB_iff.1 hf
  have h2 := dayB_iff.1 hl
  by_cases h : l = 0
  · rw [show calB f l = false from calB_no.2 (by omega)]; simpa using sh_3 p f l d w hp hf hl (by simpa using h)
  rw [show calB f l = true from calB_iff.2 (by omega)]
  by_cases h3 : p ≤ 1048576
  case neg => simpa [hp, h3] using sh_4 p f l d w hp hf hl (by simpa using h) (by omega)
  have m := mul_bd hp h3 (l := l) (by omega) h2.2
  by_cases h4 : f + p * l + d ≤ 1048576
  · simpa [hp, h3, h4] using sh_6 p f l d w hp hf hl (by simpa using h) hp h3 h1.1 h1.2 (by omega) h2.2 m.1 m.2 d0 d1 h4
  · simpa [hp, h3, h4] using sh_5 p f l d w hp hf hl (by simpa using h) hp h3 h1.1 h1.2 (by omega) h2.2 m.1 m.2 d0 d1 (by omega)

set_option maxHeartbeats 400000 in
theorem af_0 (p f l d : Int) (w : World) (h4 : 1048576 < p) :
    Calls Try.prog 27 #[.int .i64 p, .int .i64 f, .int .i64 l, .int .i64 d] w fun e w' => e = .returned (.tuple #[.int .i64 (0), .int .i64 (3)]) ∧ w = w' := by
  go_enter Try.func27, Try.ntmps27
  go_wp2
  go_ret2
  exact ⟨rfl, rfl⟩

set_option maxHeartbeats 400000 in
theorem af_1 (p f l d : Int) (w : World) (b0 : 0 ≤ p) (b1 : p ≤ 1048576) (b2 : 0 ≤ f) (b3 : f ≤ 1048576) (b4 : 1 ≤ l) (b5 : l ≤ 1048576) (m0 : 0 ≤ p * l) (m1 : p * l ≤ 1099511627776) (d0 : 0 ≤ d) (d1 : d ≤ 4194304) (h4 : 1048576 < f + p * l + d) :
    Calls Try.prog 27 #[.int .i64 p, .int .i64 f, .int .i64 l, .int .i64 d] w fun e w' => e = .returned (.tuple #[.int .i64 (0), .int .i64 (3)]) ∧ w = w' := by
  have h6 : ¬ 1048576 < p := by omega
  go_enter Try.func27, Try.ntmps27
  go_wp2
  go_ret2
  exact ⟨rfl, rfl⟩

set_option maxHeartbeats 400000 in
theorem af_2 (p f l d : Int) (w : World) (b0 : 0 ≤ p) (b1 : p ≤ 1048576) (b2 : 0 ≤ f) (b3 : f ≤ 1048576) (b4 : 1 ≤ l) (b5 : l ≤ 1048576) (m0 : 0 ≤ p * l) (m1 : p * l ≤ 1099511627776) (d0 : 0 ≤ d) (d1 : d ≤ 4194304) (h4 : f + p * l + d ≤ 1048576) :
    Calls Try.prog 27 #[.int .i64 p, .int .i64 f, .int .i64 l, .int .i64 d] w fun e w' => e = .returned (.tuple #[.int .i64 (f + p * l + d), .int .i64 (0)]) ∧ w = w' := by
  have h6 : ¬ 1048576 < p := by omega
  have h7 : ¬ 1048576 < f + p * l + d := by omega
  go_enter Try.func27, Try.ntmps27
  go_wp2
  go_ret2
  exact ⟨rfl, rfl⟩

theorem af_any (p f l d : Int) (w : World) (d0 : 0 ≤ d) (d1 : d ≤ 4194304) (hp : 0 ≤ p) (hc : calB f l = true) :
    Calls Try.prog 27 #[.int .i64 p, .int .i64 f, .int .i64 l, .int .i64 d] w fun e w' => e = .returned (.tuple #[.int .i64 (shV p f l d), .int .i64 (shE p f l d)]) ∧ w = w' := by
  unfold shV shE
  have h1 := calB_iff.1 hc
  by_cases h3 : p ≤ 1048576
  case neg => simpa [hp, h3, hc] using af_0 p f l d w (by omega)
  have m := mul_bd hp h3 h1.2.2.1 h1.2.2.2
  by_cases h4 : f + p * l + d ≤ 1048576
  · simpa [hp, h3, h4, hc] using af_2 p f l d w hp h3 h1.1 h1.2.1 h1.2.2.1 h1.2.2.2 m.1 m.2 d0 d1 h4
  · simpa [hp, h3, h4, hc] using af_1 p f l d w hp h3 h1.1 h1.2.1 h1.2.2.1 h1.2.2.2 m.1 m.2 d0 d1 (by omega)

set_option maxHeartbeats 400000 in
theorem beg_0 (p f l : Int) (w : World)  :
    Calls Try.prog 10 #[.int .i64 p, .int .i64 f, .int .i64 l] w fun e w' => e = .returned (.tuple #[.int .i64 (shV p f l 0), .int .i64 (shE p f l 0)]) ∧ w = w' := by
  go_enter Try.func10, Try.ntmps10
  go_wp2_with ((go_at_call 26; (with_reducible refine (sh_any _ _ _ _ _ (by omega) (by omega)).mono ?_); rintro e w1 ⟨rfl, rfl⟩))
  go_ret2
  exact ⟨rfl, rfl⟩

set_option maxHeartbeats 400000 in
theorem rbeg_0 (p f l : Int) (w : World) (h : p < 0) :
    Calls Try.prog 11 #[.int .i64 p, .int .i64 f, .int .i64 l] w fun e w' => e = .returned (.tuple #[.int .i64 (0), .int .i64 (1)]) ∧ w = w' := by
  go_enter Try.func11, Try.ntmps11
  go_wp2_with (first | (go_at_call 25; (with_reducible refine (cal_any _ _ _).mono ?_); rintro e w1 ⟨rfl, rfl⟩) | (go_at_call 27; (with_reducible refine (af_any _ _ _ _ _ (by omega) (by omega) h hc).mono ?_); rintro e w1 ⟨rfl, rfl⟩))
  go_ret2
  exact ⟨rfl, rfl⟩

set_option maxHeartbeats 400000 in
theorem rbeg_1 (p f l : Int) (w : World) (h : 0 ≤ p) (hc : calB f l = false) :
    Calls Try.prog 11 #[.int .i64 p, .int .i64 f, .int .i64 l] w fun e w' => e = .returned (.tuple #[.int .i64 (0), .int .i64 (1)]) ∧ w = w' := by
  have h5 : ¬ p < 0 := by omega
  go_enter Try.func11, Try.ntmps11
  go_wp2_with (first | (go_at_call 25; (with_reducible refine (cal_any _ _ _).mono ?_); rintro e w1 ⟨rfl, rfl⟩) | (go_at_call 27; (with_reducible refine (af_any _ _ _ _ _ (by omega) (by omega) h hc).mono ?_); rintro e w1 ⟨rfl, rfl⟩))
  go_ret2
  exact ⟨rfl, rfl⟩

set_option maxHeartbeats 400000 in
theorem rbeg_2 (p f l : Int) (w : World) (h : 0 ≤ p) (hc : calB f l = true) :
    Calls Try.prog 11 #[.int .i64 p, .int .i64 f, .int .i64 l] w fun e w' => e = .returned (.tuple #[.int .i64 (shV p f l 0), .int .i64 (shE p f l 0)]) ∧ w = w' := by
  have h5 : ¬ p < 0 := by omega
  go_enter Try.func11, Try.ntmps11
  go_wp2_with (first | (go_at_call 25; (with_reducible refine (cal_any _ _ _).mono ?_); rintro e w1 ⟨rfl, rfl⟩) | (go_at_call 27; (with_reducible refine (af_any _ _ _ _ _ (by omega) (by omega) h hc).mono ?_); rintro e w1 ⟨rfl, rfl⟩))
  go_ret2
  exact ⟨rfl, rfl⟩

theorem rbeg_any (p f l : Int) (w : World) :
    Calls Try.prog 11 #[.int .i64 p, .int .i64 f, .int .i64 l] w fun e w' => e = .returned (.tuple #[.int .i64 (shV p f l 0), .int .i64 (shE p f l 0)]) ∧ w = w' := by
  by_cases hp : 0 ≤ p
  case neg => rw [show shV p f l 0 = 0 by simp [shV, hp], show shE p f l 0 = 1 by simp [shE, hp]]; exact rbeg_0 p f l w (by omega)
  cases hc : calB f l
  · rw [show shV p f l 0 = 0 by simp [shV, hc], show shE p f l 0 = 1 by simp [shE, hc]]; exact rbeg_1 p f l w hp hc
  · exact rbeg_2 p f l w hp hc

set_option maxHeartbeats 400000 in
theorem due_0 (p f l g : Int) (w : World) (h : dayB g = false) :
    Calls Try.prog 16 #[.int .i64 p, .int .i64 f, .int .i64 l, .int .i64 g] w fun e w' => e = .returned (.tuple #[.int .i64 (0), .int .i64 (1)]) ∧ w = w' := by
  go_enter Try.func16, Try.ntmps16
  go_wp2_with (first | (go_at_call 23; (with_reducible refine (day_any _ _).mono ?_); rintro e w1 ⟨rfl, rfl⟩) | (go_at_call 26; (with_reducible refine (sh_any _ _ _ _ _ (by omega) (by omega)).mono ?_); rintro e w1 ⟨rfl, rfl⟩))
  go_ret2
  exact ⟨rfl, rfl⟩

set_option maxHeartbeats 400000 in
theorem due_1 (p f l g : Int) (w : World) (h : dayB g = true) (g0 : 0 ≤ g) (g1 : g ≤ 1048576) (l0 : l < 1) :
    Calls Try.prog 16 #[.int .i64 p, .int .i64 f, .int .i64 l, .int .i64 g] w fun e w' => e = .returned (.tuple #[.int .i64 (shV p f l g), .int .i64 (shE p f l g)]) ∧ w = w' := by
  go_enter Try.func16, Try.ntmps16
  go_wp2_with (first | (go_at_call 23; (with_reducible refine (day_any _ _).mono ?_); rintro e w1 ⟨rfl, rfl⟩) | (go_at_call 26; (with_reducible refine (sh_any _ _ _ _ _ (by omega) (by omega)).mono ?_); rintro e w1 ⟨rfl, rfl⟩))
  go_ret2
  exact ⟨rfl, rfl⟩

set_option maxHeartbeats 400000 in
theorem due_2 (p f l g : Int) (w : World) (h : dayB g = true) (g0 : 0 ≤ g) (g1 : g ≤ 1048576) (l0 : 1 ≤ l) (l1 : l ≤ 1048576) :
    Calls Try.prog 16 #[.int .i64 p, .int .i64 f, .int .i64 l, .int .i64 g] w fun e w' => e = .returned (.tuple #[.int .i64 (shV p f l (l - 1 + g)), .int .i64 (shE p f l (l - 1 + g))]) ∧ w = w' := by
  go_enter Try.func16, Try.ntmps16
  go_wp2_with (first | (go_at_call 23; (with_reducible refine (day_any _ _).mono ?_); rintro e w1 ⟨rfl, rfl⟩) | (go_at_call 26; (with_reducible refine (sh_any _ _ _ _ _ (by omega) (by omega)).mono ?_); rintro e w1 ⟨rfl, rfl⟩))
  go_ret2
  exact ⟨rfl, rfl⟩

set_option maxHeartbeats 400000 in
theorem due_3 (p f l g : Int) (w : World) (h : dayB g = true) (g0 : 0 ≤ g) (g1 : g ≤ 1048576) (l0 : 1048576 < l) :
    Calls Try.prog 16 #[.int .i64 p, .int .i64 f, .int .i64 l, .int .i64 g] w fun e w' => e = .returned (.tuple #[.int .i64 (shV p f l (1048575 + g)), .int .i64 (shE p f l (1048575 + g))]) ∧ w = w' := by
  go_enter Try.func16, Try.ntmps16
  go_wp2_with (first | (go_at_call 23; (with_reducible refine (day_any _ _).mono ?_); rintro e w1 ⟨rfl, rfl⟩) | (go_at_call 26; (with_reducible refine (sh_any _ _ _ _ _ (by omega) (by omega)).mono ?_); rintro e w1 ⟨rfl, rfl⟩))
  go_ret2
  exact ⟨rfl, rfl⟩

set_option maxHeartbeats 400000 in
theorem ends_0 (p f l : Int) (w : World) (l0 : l < 1) :
    Calls Try.prog 14 #[.int .i64 p, .int .i64 f, .int .i64 l] w fun e w' => e = .returned (.tuple #[.int .i64 (shV p f l 0), .int .i64 (shE p f l 0)]) ∧ w = w' := by
  go_enter Try.func14, Try.ntmps14
  go_wp2_with ((go_at_call 26; (with_reducible refine (sh_any _ _ _ _ _ (by omega) (by omega)).mono ?_); rintro e w1 ⟨rfl, rfl⟩))
  go_ret2
  exact ⟨rfl, rfl⟩

set_option maxHeartbeats 400000 in
theorem ends_1 (p f l : Int) (w : World) (l0 : 1 ≤ l) (l1 : l ≤ 1048576) :
    Calls Try.prog 14 #[.int .i64 p, .int .i64 f, .int .i64 l] w fun e w' => e = .returned (.tuple #[.int .i64 (shV p f l (l - 1)), .int .i64 (shE p f l (l - 1))]) ∧ w = w' := by
  go_enter Try.func14, Try.ntmps14
  go_wp2_with ((go_at_call 26; (with_reducible refine (sh_any _ _ _ _ _ (by omega) (by omega)).mono ?_); rintro e w1 ⟨rfl, rfl⟩))
  go_ret2
  exact ⟨rfl, rfl⟩

set_option maxHeartbeats 400000 in
theorem ends_2 (p f l : Int) (w : World) (l0 : 1048576 < l) :
    Calls Try.prog 14 #[.int .i64 p, .int .i64 f, .int .i64 l] w fun e w' => e = .returned (.tuple #[.int .i64 (shV p f l 1048575), .int .i64 (shE p f l 1048575)]) ∧ w = w' := by
  go_enter Try.func14, Try.ntmps14
  go_wp2_with ((go_at_call 26; (with_reducible refine (sh_any _ _ _ _ _ (by omega) (by omega)).mono ?_); rintro e w1 ⟨rfl, rfl⟩))
  go_ret2
  exact ⟨rfl, rfl⟩

set_option maxHeartbeats 400000 in
theorem rdue_0 (p f l g : Int) (w : World) (h : p < 0) :
    Calls Try.prog 17 #[.int .i64 p, .int .i64 f, .int .i64 l, .int .i64 g] w fun e w' => e = .returned (.tuple #[.int .i64 (0), .int .i64 (1)]) ∧ w = w' := by
  go_enter Try.func17, Try.ntmps17
  go_wp2_with (first | (go_at_call 25; (with_reducible refine (cal_any _ _ _).mono ?_); rintro e w1 ⟨rfl, rfl⟩) | (go_at_call 24; (with_reducible refine (in_any _ _).mono ?_); rintro e w1 ⟨rfl, rfl⟩) | (go_at_call 27; (with_reducible refine (af_any _ _ _ _ _ (by omega) (by omega) h hc).mono ?_); rintro e w1 ⟨rfl, rfl⟩))
  go_ret2
  exact ⟨rfl, rfl⟩

set_option maxHeartbeats 400000 in
theorem rdue_1 (p f l g : Int) (w : World) (h : 0 ≤ p) (hc : calB f l = false) :
    Calls Try.prog 17 #[.int .i64 p, .int .i64 f, .int .i64 l, .int .i64 g] w fun e w' => e = .returned (.tuple #[.int .i64 (0), .int .i64 (1)]) ∧ w = w' := by
  have h5 : ¬ p < 0 := by omega
  go_enter Try.func17, Try.ntmps17
  go_wp2_with (first | (go_at_call 25; (with_reducible refine (cal_any _ _ _).mono ?_); rintro e w1 ⟨rfl, rfl⟩) | (go_at_call 24; (with_reducible refine (in_any _ _).mono ?_); rintro e w1 ⟨rfl, rfl⟩) | (go_at_call 27; (with_reducible refine (af_any _ _ _ _ _ (by omega) (by omega) h hc).mono ?_); rintro e w1 ⟨rfl, rfl⟩))
  go_ret2
  exact ⟨rfl, rfl⟩

set_option maxHeartbeats 400000 in
theorem rdue_2 (p f l g : Int) (w : World) (h : 0 ≤ p) (hc : calB f l = true) (hg : dayB g = false) :
    Calls Try.prog 17 #[.int .i64 p, .int .i64 f, .int .i64 l, .int .i64 g] w fun e w' => e = .returned (.tuple #[.int .i64 (0), .int .i64 (1)]) ∧ w = w' := by
  have h5 : ¬ p < 0 := by omega
  go_enter Try.func17, Try.ntmps17
  go_wp2_with (first | (go_at_call 25; (with_reducible refine (cal_any _ _ _).mono ?_); rintro e w1 ⟨rfl, rfl⟩) | (go_at_call 24; (with_reducible refine (in_any _ _).mono ?_); rintro e w1 ⟨rfl, rfl⟩) | (go_at_call 27; (with_reducible refine (af_any _ _ _ _ _ (by omega) (by omega) h hc).mono ?_); rintro e w1 ⟨rfl, rfl⟩))
  go_ret2
  exact ⟨rfl, rfl⟩

set_option maxHeartbeats 400000 in
theorem rdue_3 (p f l g : Int) (w : World) (h : 0 ≤ p) (hc : calB f l = true) (hg : dayB g = true) (g0 : 0 ≤ g) (g1 : g ≤ 1048576) (l0 : 1 ≤ l) (l1 : l ≤ 1048576) :
    Calls Try.prog 17 #[.int .i64 p, .int .i64 f, .int .i64 l, .int .i64 g] w fun e w' => e = .returned (.tuple #[.int .i64 (shV p f l (l - 1 + g)), .int .i64 (shE p f l (l - 1 + g))]) ∧ w = w' := by
  have h5 : ¬ p < 0 := by omega
  go_enter Try.func17, Try.ntmps17
  go_wp2_with (first | (go_at_call 25; (with_reducible refine (cal_any _ _ _).mono ?_); rintro e w1 ⟨rfl, rfl⟩) | (go_at_call 24; (with_reducible refine (in_any _ _).mono ?_); rintro e w1 ⟨rfl, rfl⟩) | (go_at_call 27; (with_reducible refine (af_any _ _ _ _ _ (by omega) (by omega) h hc).mono ?_); rintro e w1 ⟨rfl, rfl⟩))
  go_ret2
  exact ⟨rfl, rfl⟩

theorem due_any (p f l g : Int) (w : World) :
    Calls Try.prog 16 #[.int .i64 p, .int .i64 f, .int .i64 l, .int .i64 g] w fun e w' => e = .returned (.tuple #[.int .i64 (dueV p f l g), .int .i64 (dueE p f l g)]) ∧ w = w' := by
  cases hg : dayB g
  · rw [show dueV p f l g = 0 by simp [dueV, hg], show dueE p f l g = 1 by simp [dueE, hg]]; exact due_0 p f l g w hg
  have k := dayB_iff.1 hg
  rw [show dueV p f l g = shV p f l (l - 1 + g) by simp [dueV, hg], show dueE p f l g = shE p f l (l - 1 + g) by simp [dueE, hg]]
  by_cases l0 : l < 1
  · have hc : calB f l = false := calB_no.2 (by omega)
    rw [shV_nocal (d' := g) hc, shE_nocal (d' := g) hc]; exact due_1 p f l g w hg k.1 k.2 l0
  by_cases l1 : l ≤ 1048576
  · exact due_2 p f l g w hg k.1 k.2 (by omega) l1
  · have hc : calB f l = false := calB_no.2 (by omega)
    rw [shV_nocal (d' := 1048575 + g) hc, shE_nocal (d' := 1048575 + g) hc]; exact due_3 p f l g w hg k.1 k.2 (by omega)

theorem dayB_zero : dayB 0 = true := by decide

theorem ends_any (p f l : Int) (w : World) :
    Calls Try.prog 14 #[.int .i64 p, .int .i64 f, .int .i64 l] w fun e w' => e = .returned (.tuple #[.int .i64 (dueV p f l 0), .int .i64 (dueE p f l 0)]) ∧ w = w' := by
  rw [show dueV p f l 0 = shV p f l (l - 1) by simp [dueV, dayB_zero], show dueE p f l 0 = shE p f l (l - 1) by simp [dueE, dayB_zero]]
  by_cases l0 : l < 1
  · have hc : calB f l = false := calB_no.2 (by omega)
    rw [shV_nocal (d' := 0) hc, shE_nocal (d' := 0) hc]; exact ends_0 p f l w l0
  by_cases l1 : l ≤ 1048576
  · exact ends_1 p f l w (by omega) l1
  · have hc : calB f l = false := calB_no.2 (by omega)
    rw [shV_nocal (d' := 1048575) hc, shE_nocal (d' := 1048575) hc]; exact ends_2 p f l w (by omega)

theorem rdue_any (p f l g : Int) (w : World) :
    Calls Try.prog 17 #[.int .i64 p, .int .i64 f, .int .i64 l, .int .i64 g] w fun e w' => e = .returned (.tuple #[.int .i64 (dueV p f l g), .int .i64 (dueE p f l g)]) ∧ w = w' := by
  by_cases hp : 0 ≤ p
  case neg => rw [show dueV p f l g = 0 by simp [dueV, shV, hp], show dueE p f l g = 1 by simp [dueE, shE, hp]]; exact rdue_0 p f l g w (by omega)
  cases hc : calB f l
  · rw [show dueV p f l g = 0 by simp [dueV, shV, hc], show dueE p f l g = 1 by simp [dueE, shE, hc]]; exact rdue_1 p f l g w hp hc
  cases hg : dayB g
  · rw [show dueV p f l g = 0 by simp [dueV, hg], show dueE p f l g = 1 by simp [dueE, hg]]; exact rdue_2 p f l g w hp hc hg
  have c := calB_iff.1 hc
  have k := dayB_iff.1 hg
  have h := rdue_3 p f l g w hp hc hg k.1 k.2 c.2.2.1 c.2.2.2
  simpa [dueV, dueE, hg] using h

set_option maxHeartbeats 400000 in
theorem rends_0 (p f l : Int) (w : World)  :
    Calls Try.prog 15 #[.int .i64 p, .int .i64 f, .int .i64 l] w fun e w' => e = .returned (.tuple #[.int .i64 (dueV p f l 0), .int .i64 (dueE p f l 0)]) ∧ w = w' := by
  go_enter Try.func15, Try.ntmps15
  go_wp2_with ((go_at_call 17; (with_reducible refine (rdue_any _ _ _ _ _).mono ?_); rintro e w1 ⟨rfl, rfl⟩))
  go_ret2
  exact ⟨rfl, rfl⟩

set_option maxHeartbeats 400000 in
theorem late_0 (on p f l g : Int) (w : World) (h : dayB on = false) :
    Calls Try.prog 18 #[.int .i64 on, .int .i64 p, .int .i64 f, .int .i64 l, .int .i64 g] w fun e w' => e = .returned (.tuple #[.int .i64 (0), .int .i64 (1)]) ∧ w = w' := by
  go_enter Try.func18, Try.ntmps18
  go_wp2_with (first | (go_at_call 23; (with_reducible refine (day_any _ _).mono ?_); rintro e w1 ⟨rfl, rfl⟩) | (go_at_call 16; (with_reducible refine (due_any _ _ _ _ _).mono ?_); rintro e w1 ⟨rfl, rfl⟩))
  go_ret2
  exact ⟨rfl, rfl⟩

set_option maxHeartbeats 400000 in
theorem late_1 (on p f l g : Int) (w : World) (h : dayB on = true) (h1 : (dueE p f l g != 0) = true) :
    Calls Try.prog 18 #[.int .i64 on, .int .i64 p, .int .i64 f, .int .i64 l, .int .i64 g] w fun e w' => e = .returned (.tuple #[.int .i64 (0), .int .i64 (dueE p f l g)]) ∧ w = w' := by
  go_enter Try.func18, Try.ntmps18
  go_wp2_with (first | (go_at_call 23; (with_reducible refine (day_any _ _).mono ?_); rintro e w1 ⟨rfl, rfl⟩) | (go_at_call 16; (with_reducible refine (due_any _ _ _ _ _).mono ?_); rintro e w1 ⟨rfl, rfl⟩))
  go_ret2
  exact ⟨rfl, rfl⟩

set_option maxHeartbeats 400000 in
theorem late_2 (on p f l g : Int) (w : World) (h : dayB on = true) (h1 : (dueE p f l g != 0) = false) (b0 : 0 ≤ on) (b1 : on ≤ 1048576) (c0 : 0 ≤ dueV p f l g) (c1 : dueV p f l g ≤ 1048576) (x0 : on - dueV p f l g ≤ 0) :
    Calls Try.prog 18 #[.int .i64 on, .int .i64 p, .int .i64 f, .int .i64 l, .int .i64 g] w fun e w' => e = .returned (.tuple #[.int .i64 (0), .int .i64 (0)]) ∧ w = w' := by
  go_enter Try.func18, Try.ntmps18
  go_wp2_with (first | (go_at_call 23; (with_reducible refine (day_any _ _).mono ?_); rintro e w1 ⟨rfl, rfl⟩) | (go_at_call 16; (with_reducible refine (due_any _ _ _ _ _).mono ?_); rintro e w1 ⟨rfl, rfl⟩))
  go_ret2
  exact ⟨rfl, rfl⟩

set_option maxHeartbeats 400000 in
theorem late_3 (on p f l g : Int) (w : World) (h : dayB on = true) (h1 : (dueE p f l g != 0) = false) (b0 : 0 ≤ on) (b1 : on ≤ 1048576) (c0 : 0 ≤ dueV p f l g) (c1 : dueV p f l g ≤ 1048576) (x0 : 0 < on - dueV p f l g) :
    Calls Try.prog 18 #[.int .i64 on, .int .i64 p, .int .i64 f, .int .i64 l, .int .i64 g] w fun e w' => e = .returned (.tuple #[.int .i64 (on - dueV p f l g), .int .i64 (0)]) ∧ w = w' := by
  go_enter Try.func18, Try.ntmps18
  go_wp2_with (first | (go_at_call 23; (with_reducible refine (day_any _ _).mono ?_); rintro e w1 ⟨rfl, rfl⟩) | (go_at_call 16; (with_reducible refine (due_any _ _ _ _ _).mono ?_); rintro e w1 ⟨rfl, rfl⟩))
  go_ret2
  exact ⟨rfl, rfl⟩

theorem late_any (on p f l g : Int) (w : World) :
    Calls Try.prog 18 #[.int .i64 on, .int .i64 p, .int .i64 f, .int .i64 l, .int .i64 g] w fun e w' => e = .returned (.tuple #[.int .i64 (lateV on p f l g), .int .i64 (lateE on p f l g)]) ∧ w = w' := by
  cases ho : dayB on
  · simpa [lateV, lateE, ho] using late_0 on p f l g w ho
  have b := dayB_iff.1 ho
  have c := dueV_bd p f l g
  by_cases h : dueE p f l g = 0
  · rw [show lateV on p f l g = max 0 (on - dueV p f l g) by simp [lateV, ho, h], show lateE on p f l g = 0 by simp [lateE, ho, h]]
    by_cases x : 0 < on - dueV p f l g
    · rw [show max 0 (on - dueV p f l g) = on - dueV p f l g by omega]; exact late_3 on p f l g w ho (by simpa using h) b.1 b.2 c.1 c.2 x
    · rw [show max 0 (on - dueV p f l g) = 0 by omega]; exact late_2 on p f l g w ho (by simpa using h) b.1 b.2 c.1 c.2 (by omega)
  · have k := late_1 on p f l g w ho (by simpa using h)
    simpa [lateV, lateE, ho, h] using k

set_option maxHeartbeats 400000 in
theorem rlate_0 (on p f l g : Int) (w : World) (h : dayB on = false) :
    Calls Try.prog 19 #[.int .i64 on, .int .i64 p, .int .i64 f, .int .i64 l, .int .i64 g] w fun e w' => e = .returned (.tuple #[.int .i64 (0), .int .i64 (1)]) ∧ w = w' := by
  go_enter Try.func19, Try.ntmps19
  go_wp2_with (first | (go_at_call 24; (with_reducible refine (in_any _ _).mono ?_); rintro e w1 ⟨rfl, rfl⟩) | (go_at_call 17; (with_reducible refine (rdue_any _ _ _ _ _).mono ?_); rintro e w1 ⟨rfl, rfl⟩))
  go_ret2
  exact ⟨rfl, rfl⟩

set_option maxHeartbeats 400000 in
theorem rlate_1 (on p f l g : Int) (w : World) (h : dayB on = true) (h1 : (dueE p f l g != 0) = true) :
    Calls Try.prog 19 #[.int .i64 on, .int .i64 p, .int .i64 f, .int .i64 l, .int .i64 g] w fun e w' => e = .returned (.tuple #[.int .i64 (0), .int .i64 (dueE p f l g)]) ∧ w = w' := by
  go_enter Try.func19, Try.ntmps19
  go_wp2_with (first | (go_at_call 24; (with_reducible refine (in_any _ _).mono ?_); rintro e w1 ⟨rfl, rfl⟩) | (go_at_call 17; (with_reducible refine (rdue_any _ _ _ _ _).mono ?_); rintro e w1 ⟨rfl, rfl⟩))
  go_ret2
  exact ⟨rfl, rfl⟩

set_option maxHeartbeats 400000 in
theorem rlate_2 (on p f l g : Int) (w : World) (h : dayB on = true) (h1 : (dueE p f l g != 0) = false) (b0 : 0 ≤ on) (b1 : on ≤ 1048576) (c0 : 0 ≤ dueV p f l g) (c1 : dueV p f l g ≤ 1048576) (x0 : on - dueV p f l g ≤ 0) :
    Calls Try.prog 19 #[.int .i64 on, .int .i64 p, .int .i64 f, .int .i64 l, .int .i64 g] w fun e w' => e = .returned (.tuple #[.int .i64 (0), .int .i64 (0)]) ∧ w = w' := by
  go_enter Try.func19, Try.ntmps19
  go_wp2_with (first | (go_at_call 24; (with_reducible refine (in_any _ _).mono ?_); rintro e w1 ⟨rfl, rfl⟩) | (go_at_call 17; (with_reducible refine (rdue_any _ _ _ _ _).mono ?_); rintro e w1 ⟨rfl, rfl⟩))
  go_ret2
  exact ⟨rfl, rfl⟩

set_option maxHeartbeats 400000 in
theorem rlate_3 (on p f l g : Int) (w : World) (h : dayB on = true) (h1 : (dueE p f l g != 0) = false) (b0 : 0 ≤ on) (b1 : on ≤ 1048576) (c0 : 0 ≤ dueV p f l g) (c1 : dueV p f l g ≤ 1048576) (x0 : 0 < on - dueV p f l g) :
    Calls Try.prog 19 #[.int .i64 on, .int .i64 p, .int .i64 f, .int .i64 l, .int .i64 g] w fun e w' => e = .returned (.tuple #[.int .i64 (on - dueV p f l g), .int .i64 (0)]) ∧ w = w' := by
  go_enter Try.func19, Try.ntmps19
  go_wp2_with (first | (go_at_call 24; (with_reducible refine (in_any _ _).mono ?_); rintro e w1 ⟨rfl, rfl⟩) | (go_at_call 17; (with_reducible refine (rdue_any _ _ _ _ _).mono ?_); rintro e w1 ⟨rfl, rfl⟩))
  go_ret2
  exact ⟨rfl, rfl⟩

theorem rlate_any (on p f l g : Int) (w : World) :
    Calls Try.prog 19 #[.int .i64 on, .int .i64 p, .int .i64 f, .int .i64 l, .int .i64 g] w fun e w' => e = .returned (.tuple #[.int .i64 (lateV on p f l g), .int .i64 (lateE on p f l g)]) ∧ w = w' := by
  cases ho : dayB on
  · simpa [lateV, lateE, ho] using rlate_0 on p f l g w ho
  have b := dayB_iff.1 ho
  have c := dueV_bd p f l g
  by_cases h : dueE p f l g = 0
  · rw [show lateV on p f l g = max 0 (on - dueV p f l g) by simp [lateV, ho, h], show lateE on p f l g = 0 by simp [lateE, ho, h]]
    by_cases x : 0 < on - dueV p f l g
    · rw [show max 0 (on - dueV p f l g) = on - dueV p f l g by omega]; exact rlate_3 on p f l g w ho (by simpa using h) b.1 b.2 c.1 c.2 x
    · rw [show max 0 (on - dueV p f l g) = 0 by omega]; exact rlate_2 on p f l g w ho (by simpa using h) b.1 b.2 c.1 c.2 (by omega)
  · have k := rlate_1 on p f l g w ho (by simpa using h)
    simpa [lateV, lateE, ho, h] using k

set_option maxHeartbeats 400000 in
theorem ope_0 (p f l k : Int) (w : World) (h1 : (dueE p f l 0 == 1) = true) :
    Calls Try.prog 20 #[.int .i64 p, .int .i64 f, .int .i64 l, .int .i64 k] w fun e w' => e = .returned (.tuple #[.int .i64 (0), .int .i64 (1)]) ∧ w = w' := by
  go_enter Try.func20, Try.ntmps20
  go_wp2_with ((go_at_call 14; (with_reducible refine (ends_any _ _ _ _).mono ?_); rintro e w1 ⟨rfl, rfl⟩))
  go_ret2
  exact ⟨rfl, rfl⟩

set_option maxHeartbeats 400000 in
theorem ope_1 (p f l k : Int) (w : World) (h1 : (dueE p f l 0 == 1) = false) (h : k < 0) :
    Calls Try.prog 20 #[.int .i64 p, .int .i64 f, .int .i64 l, .int .i64 k] w fun e w' => e = .returned (.tuple #[.int .i64 (0), .int .i64 (1)]) ∧ w = w' := by
  go_enter Try.func20, Try.ntmps20
  go_wp2_with ((go_at_call 14; (with_reducible refine (ends_any _ _ _ _).mono ?_); rintro e w1 ⟨rfl, rfl⟩))
  go_ret2
  exact ⟨rfl, rfl⟩

set_option maxHeartbeats 400000 in
theorem ope_2 (p f l k : Int) (w : World) (h1 : (dueE p f l 0 == 1) = false) (h : 0 ≤ k) (h2 : l < k) :
    Calls Try.prog 20 #[.int .i64 p, .int .i64 f, .int .i64 l, .int .i64 k] w fun e w' => e = .returned (.tuple #[.int .i64 (0), .int .i64 (1)]) ∧ w = w' := by
  have h5 : ¬ k < 0 := by omega
  go_enter Try.func20, Try.ntmps20
  go_wp2_with ((go_at_call 14; (with_reducible refine (ends_any _ _ _ _).mono ?_); rintro e w1 ⟨rfl, rfl⟩))
  go_ret2
  exact ⟨rfl, rfl⟩

set_option maxHeartbeats 400000 in
theorem ope_3 (p f l k : Int) (w : World) (h1 : (dueE p f l 0 == 1) = false) (h : 0 ≤ k) (h2 : k ≤ l) (h3 : (dueE p f l 0 != 0) = true) :
    Calls Try.prog 20 #[.int .i64 p, .int .i64 f, .int .i64 l, .int .i64 k] w fun e w' => e = .returned (.tuple #[.int .i64 (0), .int .i64 (dueE p f l 0)]) ∧ w = w' := by
  have h5 : ¬ k < 0 := by omega
  have h6 : ¬ l < k := by omega
  go_enter Try.func20, Try.ntmps20
  go_wp2_with ((go_at_call 14; (with_reducible refine (ends_any _ _ _ _).mono ?_); rintro e w1 ⟨rfl, rfl⟩))
  go_ret2
  exact ⟨rfl, rfl⟩

set_option maxHeartbeats 400000 in
theorem ope_4 (p f l k : Int) (w : World) (h1 : (dueE p f l 0 == 1) = false) (h : 0 ≤ k) (h2 : k ≤ l) (h3 : (dueE p f l 0 != 0) = false) (b0 : 0 ≤ dueV p f l 0) (b1 : dueV p f l 0 ≤ 1048576) (b2 : k ≤ 1048576) :
    Calls Try.prog 20 #[.int .i64 p, .int .i64 f, .int .i64 l, .int .i64 k] w fun e w' => e = .returned (.tuple #[.int .i64 (dueV p f l 0 - k + 1), .int .i64 (0)]) ∧ w = w' := by
  have h5 : ¬ k < 0 := by omega
  have h6 : ¬ l < k := by omega
  go_enter Try.func20, Try.ntmps20
  go_wp2_with ((go_at_call 14; (with_reducible refine (ends_any _ _ _ _).mono ?_); rintro e w1 ⟨rfl, rfl⟩))
  go_ret2
  exact ⟨rfl, rfl⟩

theorem ope_any (p f l k : Int) (w : World) :
    Calls Try.prog 20 #[.int .i64 p, .int .i64 f, .int .i64 l, .int .i64 k] w fun e w' => e = .returned (.tuple #[.int .i64 (opV p f l k), .int .i64 (opE p f l k)]) ∧ w = w' := by
  have c := dueV_bd p f l 0
  rcases dueE_cases p f l 0 with h | h | h
  · by_cases k0 : 0 ≤ k
    case neg => simpa [opV, opE, k0] using ope_1 p f l k w (by rw [h]; decide) (by omega)
    by_cases k1 : k ≤ l
    case neg => simpa [opV, opE, k1] using ope_2 p f l k w (by rw [h]; decide) k0 (by omega)
    have hc : calB f l = true := by
      cases hc : calB f l
      · simp [dueE, shE, hc, dayB_zero] at h
      · rfl
    have cc := calB_iff.1 hc
    simpa [opV, opE, k0, k1, h] using ope_4 p f l k w (by rw [h]; decide) k0 k1 (by rw [h]; decide) c.1 c.2 (by omega)
  · have := ope_0 p f l k w (by rw [h]; decide)
    have e1 : opV p f l k = 0 := by simp [opV, h]
    have e2 : opE p f l k = 1 := by simp [opE, h]
    rw [e1, e2]; exact this
  · by_cases k0 : 0 ≤ k
    case neg => simpa [opV, opE, k0] using ope_1 p f l k w (by rw [h]; decide) (by omega)
    by_cases k1 : k ≤ l
    case neg => simpa [opV, opE, k1] using ope_2 p f l k w (by rw [h]; decide) k0 (by omega)
    simpa [opV, opE, k0, k1, h] using ope_3 p f l k w (by rw [h]; decide) k0 k1 (by rw [h]; decide)

set_option maxHeartbeats 400000 in
theorem rope_0 (p f l k : Int) (w : World) (h1 : (dueE p f l 0 == 1) = true) :
    Calls Try.prog 21 #[.int .i64 p, .int .i64 f, .int .i64 l, .int .i64 k] w fun e w' => e = .returned (.tuple #[.int .i64 (0), .int .i64 (1)]) ∧ w = w' := by
  go_enter Try.func21, Try.ntmps21
  go_wp2_with ((go_at_call 15; (with_reducible refine (rends_0 _ _ _ _).mono ?_); rintro e w1 ⟨rfl, rfl⟩))
  go_ret2
  exact ⟨rfl, rfl⟩

set_option maxHeartbeats 400000 in
theorem rope_1 (p f l k : Int) (w : World) (h1 : (dueE p f l 0 == 1) = false) (h : k < 0) :
    Calls Try.prog 21 #[.int .i64 p, .int .i64 f, .int .i64 l, .int .i64 k] w fun e w' => e = .returned (.tuple #[.int .i64 (0), .int .i64 (1)]) ∧ w = w' := by
  go_enter Try.func21, Try.ntmps21
  go_wp2_with ((go_at_call 15; (with_reducible refine (rends_0 _ _ _ _).mono ?_); rintro e w1 ⟨rfl, rfl⟩))
  go_ret2
  exact ⟨rfl, rfl⟩

set_option maxHeartbeats 400000 in
theorem rope_2 (p f l k : Int) (w : World) (h1 : (dueE p f l 0 == 1) = false) (h : 0 ≤ k) (h2 : l < k) :
    Calls Try.prog 21 #[.int .i64 p, .int .i64 f, .int .i64 l, .int .i64 k] w fun e w' => e = .returned (.tuple #[.int .i64 (0), .int .i64 (1)]) ∧ w = w' := by
  have h5 : ¬ k < 0 := by omega
  go_enter Try.func21, Try.ntmps21
  go_wp2_with ((go_at_call 15; (with_reducible refine (rends_0 _ _ _ _).mono ?_); rintro e w1 ⟨rfl, rfl⟩))
  go_ret2
  exact ⟨rfl, rfl⟩

set_option maxHeartbeats 400000 in
theorem rope_3 (p f l k : Int) (w : World) (h1 : (dueE p f l 0 == 1) = false) (h : 0 ≤ k) (h2 : k ≤ l) (h3 : (dueE p f l 0 != 0) = true) :
    Calls Try.prog 21 #[.int .i64 p, .int .i64 f, .int .i64 l, .int .i64 k] w fun e w' => e = .returned (.tuple #[.int .i64 (0), .int .i64 (dueE p f l 0)]) ∧ w = w' := by
  have h5 : ¬ k < 0 := by omega
  have h6 : ¬ l < k := by omega
  go_enter Try.func21, Try.ntmps21
  go_wp2_with ((go_at_call 15; (with_reducible refine (rends_0 _ _ _ _).mono ?_); rintro e w1 ⟨rfl, rfl⟩))
  go_ret2
  exact ⟨rfl, rfl⟩

set_option maxHeartbeats 400000 in
theorem rope_4 (p f l k : Int) (w : World) (h1 : (dueE p f l 0 == 1) = false) (h : 0 ≤ k) (h2 : k ≤ l) (h3 : (dueE p f l 0 != 0) = false) (b0 : 0 ≤ dueV p f l 0) (b1 : dueV p f l 0 ≤ 1048576) (b2 : k ≤ 1048576) :
    Calls Try.prog 21 #[.int .i64 p, .int .i64 f, .int .i64 l, .int .i64 k] w fun e w' => e = .returned (.tuple #[.int .i64 (dueV p f l 0 - k + 1), .int .i64 (0)]) ∧ w = w' := by
  have h5 : ¬ k < 0 := by omega
  have h6 : ¬ l < k := by omega
  go_enter Try.func21, Try.ntmps21
  go_wp2_with ((go_at_call 15; (with_reducible refine (rends_0 _ _ _ _).mono ?_); rintro e w1 ⟨rfl, rfl⟩))
  go_ret2
  exact ⟨rfl, rfl⟩

theorem rope_any (p f l k : Int) (w : World) :
    Calls Try.prog 21 #[.int .i64 p, .int .i64 f, .int .i64 l, .int .i64 k] w fun e w' => e = .returned (.tuple #[.int .i64 (opV p f l k), .int .i64 (opE p f l k)]) ∧ w = w' := by
  have c := dueV_bd p f l 0
  rcases dueE_cases p f l 0 with h | h | h
  · by_cases k0 : 0 ≤ k
    case neg => simpa [opV, opE, k0] using rope_1 p f l k w (by rw [h]; decide) (by omega)
    by_cases k1 : k ≤ l
    case neg => simpa [opV, opE, k1] using rope_2 p f l k w (by rw [h]; decide) k0 (by omega)
    have hc : calB f l = true := by
      cases hc : calB f l
      · simp [dueE, shE, hc, dayB_zero] at h
      · rfl
    have cc := calB_iff.1 hc
    simpa [opV, opE, k0, k1, h] using rope_4 p f l k w (by rw [h]; decide) k0 k1 (by rw [h]; decide) c.1 c.2 (by omega)
  · have := rope_0 p f l k w (by rw [h]; decide)
    have e1 : opV p f l k = 0 := by simp [opV, h]
    have e2 : opE p f l k = 1 := by simp [opE, h]
    rw [e1, e2]; exact this
  · by_cases k0 : 0 ≤ k
    case neg => simpa [opV, opE, k0] using rope_1 p f l k w (by rw [h]; decide) (by omega)
    by_cases k1 : k ≤ l
    case neg => simpa [opV, opE, k1] using rope_2 p f l k w (by rw [h]; decide) k0 (by omega)
    simpa [opV, opE, k0, k1, h] using rope_3 p f l k w (by rw [h]; decide) k0 k1 (by rw [h]; decide)

set_option maxHeartbeats 400000 in
theorem is_0 (n e k : Int) (w : World) (h : (n == k) = false) :
    Calls Try.prog 22 #[.int .i64 n, .int .i64 e, .int .i64 k] w fun e w' => e = .returned (.bool false) ∧ w = w' := by
  go_enter Try.func22, Try.ntmps22
  go_wp2
  go_ret
  exact ⟨rfl, rfl⟩

set_option maxHeartbeats 400000 in
theorem is_1 (n e k : Int) (w : World) (h : (n == k) = true) (h1 : (e == 0) = false) :
    Calls Try.prog 22 #[.int .i64 n, .int .i64 e, .int .i64 k] w fun e w' => e = .returned (.bool false) ∧ w = w' := by
  go_enter Try.func22, Try.ntmps22
  go_wp2
  go_ret
  exact ⟨rfl, rfl⟩

set_option maxHeartbeats 400000 in
theorem is_2 (n e k : Int) (w : World) (h : (n == k) = true) (h1 : (e == 0) = true) :
    Calls Try.prog 22 #[.int .i64 n, .int .i64 e, .int .i64 k] w fun e w' => e = .returned (.bool true) ∧ w = w' := by
  go_enter Try.func22, Try.ntmps22
  go_wp2
  go_ret
  exact ⟨rfl, rfl⟩

theorem is_any (n e k : Int) (w : World) :
    Calls Try.prog 22 #[.int .i64 n, .int .i64 e, .int .i64 k] w fun r w' => r = .returned (.bool (isB n e k)) ∧ w = w' := by
  cases h : (n == k)
  · rw [show isB n e k = false by simp at h; simp [isB, h]]; exact is_0 n e k w h
  cases h1 : (e == 0)
  · rw [show isB n e k = false by simp at h1; simp [isB, h1]]; exact is_1 n e k w h h1
  · rw [show isB n e k = true by simp at h h1; simp [isB, h, h1]]; exact is_2 n e k w h h1

set_option maxHeartbeats 1000000 in
theorem small_0  (w : World)  :
    Calls Try.prog 7 #[] w fun e w' => e = .returned (.bool true) ∧ w = w' := by
  have k0 : isB (perV 16 2 7) (perE 16 2 7) 2 = true := by decide
  have k1 : isB (shV 2 2 7 0) (shE 2 2 7 0) 16 = true := by decide
  have k2 : isB (dueV 2 2 7 0) (dueE 2 2 7 0) 22 = true := by decide
  have k3 : isB (dueV 2 2 7 3) (dueE 2 2 7 3) 25 = true := by decide
  have k4 : isB (lateV 27 2 2 7 3) (lateE 27 2 2 7 3) 2 = true := by decide
  have k5 : isB (lateV 25 2 2 7 3) (lateE 25 2 2 7 3) 0 = true := by decide
  have k6 : isB (opV 2 2 7 1) (opE 2 2 7 1) 22 = true := by decide
  have k7 : isB (opV 2 2 7 0) (opE 2 2 7 0) 23 = true := by decide
  have k10 : (perV 1 2 7 == 0) = true := by decide
  have k11 : (perE 1 2 7 == 26) = true := by decide
  have k12 : witB 3 3 3 = true := by decide
  go_enter Try.func7, Try.ntmps7
  go_wp2_with (first | (go_at_call 8; (with_reducible refine (per_any _ _ _ _).mono ?_); rintro e w1 ⟨rfl, rfl⟩) | (go_at_call 10; (with_reducible refine (beg_0 _ _ _ _).mono ?_); rintro e w1 ⟨rfl, rfl⟩) | (go_at_call 14; (with_reducible refine (ends_any _ _ _ _).mono ?_); rintro e w1 ⟨rfl, rfl⟩) | (go_at_call 16; (with_reducible refine (due_any _ _ _ _ _).mono ?_); rintro e w1 ⟨rfl, rfl⟩) | (go_at_call 18; (with_reducible refine (late_any _ _ _ _ _ _).mono ?_); rintro e w1 ⟨rfl, rfl⟩) | (go_at_call 20; (with_reducible refine (ope_any _ _ _ _ _).mono ?_); rintro e w1 ⟨rfl, rfl⟩) | (go_at_call 22; (with_reducible refine (is_any _ _ _ _).mono ?_); rintro e w1 ⟨rfl, rfl⟩) | (go_at_call 12; (with_reducible refine (within_any _ _ _ _).mono ?_); rintro e w1 ⟨rfl, rfl⟩))
  go_ret
  exact ⟨rfl, rfl⟩

end Go.Proofs.Ytnbbjophgebhdaa
