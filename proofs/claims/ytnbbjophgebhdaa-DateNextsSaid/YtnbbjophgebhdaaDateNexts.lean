/- The law DateNexts (stokvellaw10): for every input the call returns true and the arguments read as before; no condition. -/
import Derived.Test.YtnbbjophgebhdaaNextA
import Derived.Test.YtnbbjophgebhdaaNextB
import Derived.Test.YtnbbjophgebhdaaNextC
import Derived.Test.YtnbbjophgebhdaaNextD
import Derived.WalkKit
import Derived.ProofKit
import Derived.OpenShut
import Derived.Lib.Hide
namespace Go.Proofs.Ytnbbjophgebhdaa.dateNexts
open Go.ChangeShapes Go.WideShapes Go.ChangeAt Go.RowKit
set_option linter.unusedVariables false      -- a walk need not use every 'w<i>' (that an integer argument fits its kind)

theorem own : ownKnob Try.prog.godebug = none := by kernel_rfl


theorem ediv_bd {x l : Int} (h : 0 ≤ x) (hl : 1 ≤ l) : x / l * l ≤ x ∧ x < x / l * l + l ∧ 0 ≤ x / l ∧ x / l ≤ x := by
  have h1 := Int.ediv_mul_le x (b := l) (by omega)
  have h2 := Int.lt_ediv_add_one_mul_self x (b := l) (by omega)
  have h3 := Int.ediv_nonneg h (b := l) (by omega)
  have h4 := Int.ediv_le_self l h
  rw [Int.add_mul, Int.one_mul] at h2
  omega
theorem ediv_uniq {x l q : Int} (hl : 1 ≤ l) (h1 : q * l ≤ x) (h2 : x < q * l + l) : x / l = q := by
  apply Int.le_antisymm
  · have : x < (q + 1) * l := by rw [Int.add_mul, Int.one_mul]; exact h2
    have := Int.ediv_lt_of_lt_mul (by omega) this
    omega
  · exact Int.le_ediv_of_mul_le (by omega) h1
theorem perE_cases (day f l : Int) : (perE day f l = 1 ∧ perV day f l = 0) ∨ (perE day f l = 26 ∧ perV day f l = 0 ∧ day < f) ∨
    (perE day f l = 0 ∧ 0 ≤ day ∧ day ≤ 1048576 ∧ calB f l = true ∧ f ≤ day ∧ perV day f l = (day - f) / l) := by
  unfold perE perV
  by_cases h : dayB day = true ∧ calB f l = true
  · have hd := dayB_iff.1 h.1
    by_cases h2 : f ≤ day
    · right; right; simp [h.1, h.2, h2]; omega
    · right; left; simp [h.1, h.2, h2]; omega
  · left
    refine ⟨by simp only [h, if_false], ?_⟩
    rw [if_neg (fun h' => h ⟨h'.1, h'.2.1⟩)]
theorem shE_ok {p f l d : Int} (h : shE p f l d = 0) : 0 ≤ p ∧ calB f l = true ∧ p ≤ 1048576 ∧ f + p * l + d ≤ 1048576 ∧ shV p f l d = f + p * l + d := by
  unfold shE at h
  split at h
  · rename_i h1
    split at h
    · rename_i h2
      exact ⟨h1.1, h1.2, h2.1, h2.2, by simp [shV, h1.1, h1.2, h2.1, h2.2]⟩
    · simp at h
  · simp at h
theorem shE_of {p f l d : Int} (h0 : 0 ≤ p) (hc : calB f l = true) (h1 : p ≤ 1048576) (h2 : f + p * l + d ≤ 1048576) : shE p f l d = 0 ∧ shV p f l d = f + p * l + d := by
  simp [shE, shV, h0, hc, h1, h2]
theorem shE_bad {p f l d : Int} (h : shE p f l d ≠ 0) : shV p f l d = 0 := by
  unfold shV
  split
  · rename_i h'
    exact (h (shE_of h'.1 h'.2.1 h'.2.2.1 h'.2.2.2).1).elim
  · rfl
theorem due0V (p f l : Int) : dueV p f l 0 = shV p f l (l - 1) := by simp [dueV, dayB_zero]
theorem due0E (p f l : Int) : dueE p f l 0 = shE p f l (l - 1) := by simp [dueE, dayB_zero]

theorem walk (a0 : Int) (a1 : Int) (a2 : Int) (a3 : Int) (a4 : Int) (w0 : (Lit.int .i64 a0).wf = true) (w1 : (Lit.int .i64 a1).wf = true) (w2 : (Lit.int .i64 a2).wf = true) (w3 : (Lit.int .i64 a3).wf = true) (w4 : (Lit.int .i64 a4).wf = true) (w : World) :
    Calls Try.prog 5 #[.int .i64 a0, .int .i64 a1, .int .i64 a2, .int .i64 a3, .int .i64 a4] w fun e w' => e = .returned (.bool true) ∧ Grown w w' := by
  generalize a0 = day, a1 = f, a2 = l, a3 = p, a4 = g
  by_cases h : 0 ≤ p
  case neg => exact n_0 day f l p g w (by omega)
  by_cases h1 : p ≤ 1048576
  case neg => exact n_1 day f l p g w h (by omega)
  by_cases h2 : 0 ≤ day
  case neg => exact n_2 day f l p g w h h1 (by omega)
  by_cases h3 : day < 1048576
  case neg => exact n_3 day f l p g w h h1 h2 (by omega)
  have bv := dueV_bd p f l 0
  have bd := dueV_bd p f l g
  have hday : dayB day = true := dayB_iff.2 (by omega)
  have hday1 : dayB (day + 1) = true := dayB_iff.2 (by omega)
  have hA : lateE day p f l g = dueE p f l g := by simp [lateE, hday]
  have hB : lateE (day + 1) p f l g = dueE p f l g := by simp [lateE, hday1]
  have x0 : (lateE day p f l g != lateE (day + 1) p f l g) = false := by rw [hA, hB]; simp
  have x1 : (lateE day p f l g != dueE p f l g) = false := by rw [hA]; simp
  have la : lateV day p f l g = if dueE p f l g = 0 then max 0 (day - dueV p f l g) else 0 := by simp [lateV, hday]
  have lb : lateV (day + 1) p f l g = if dueE p f l g = 0 then max 0 (day + 1 - dueV p f l g) else 0 := by simp [lateV, hday1]
  have bl : 0 ≤ lateV day p f l g ∧ lateV day p f l g ≤ 1048576 := by rw [la]; split <;> omega
  cases hc : calB f l
  · have hE : dueE p f l 0 = 1 := by rw [due0E]; simp [shE, hc]
    have hF : shE (p + 1) f l 0 = 1 := by simp [shE, hc]
    have hG : dueE p f l g = 1 := by unfold dueE; split <;> simp [shE, hc]
    have hK : perE day f l = 1 := by simp [perE, hc]
    have e0 : (dueE p f l 0 == 0) = false := by rw [hE]; decide
    have e1 : (dueE p f l 0 == 1) = true := by rw [hE]; decide
    have f1 : (shE (p + 1) f l 0 == 1) = true := by rw [hF]; decide
    have g0 : (dueE p f l g == 0) = false := by rw [hG]; decide
    have k0 : (perE day f l != 0) = true := by rw [hK]; decide
    by_cases z0 : 1 ≤ l
    case neg => exact n_11ns day f l p g w h h1 h2 h3 bv.1 bv.2 bd.1 bd.2 bl.1 bl.2 x0 x1 e0 e1 f1 g0 (by omega)
    by_cases z1 : l ≤ 1048576
    case neg => exact n_11nm day f l p g w h h1 h2 h3 bv.1 bv.2 bd.1 bd.2 bl.1 bl.2 x0 x1 e0 e1 f1 g0 z0 (by omega)
    by_cases z2 : day + l ≤ 1048576
    · exact n_11nk day f l p g w h h1 h2 h3 bv.1 bv.2 bd.1 bd.2 bl.1 bl.2 x0 x1 e0 e1 f1 g0 z0 z1 z2 k0
    · exact n_11no day f l p g w h h1 h2 h3 bv.1 bv.2 bd.1 bd.2 bl.1 bl.2 x0 x1 e0 e1 f1 g0 z0 z1 (by omega)
  have c := calB_iff.1 hc
  have z0 := c.2.2.1
  have z1 := c.2.2.2
  have pl : (p + 1) * l = p * l + l := by rw [Int.add_mul, Int.one_mul]
  have hE : dueE p f l 0 = 0 ∧ dueV p f l 0 = f + p * l + (l - 1) ∨ dueE p f l 0 = 3 ∧ 1048576 < f + p * l + (l - 1) := by
    rw [due0E, due0V]
    by_cases x : f + p * l + (l - 1) ≤ 1048576
    · left; exact shE_of h hc h1 x
    · right; simp [shE, h, hc, h1, x]; omega
  have hF : shE (p + 1) f l 0 = 0 ∧ shV (p + 1) f l 0 = f + (p * l + l) ∧ f + (p * l + l) ≤ 1048576 ∨ shE (p + 1) f l 0 = 3 := by
    by_cases x : p + 1 ≤ 1048576 ∧ f + (p + 1) * l + 0 ≤ 1048576
    · left
      have := shE_of (p := p + 1) (f := f) (l := l) (d := 0) (by omega) hc x.1 x.2
      rw [pl] at this x
      omega
    · right; simp only [shE, hc, x, if_false]; rw [if_pos ⟨by omega, trivial⟩]
  have hg : dueE p f l g ≠ 0 ∨ dueE p f l g = 0 := by omega
  have hp : perE day f l ≠ 0 ∨ perE day f l = 0 ∧ 0 ≤ perV day f l ∧ perV day f l ≤ 1048576 ∧ (day + l ≤ 1048576 → perE (day + l) f l = 0 ∧ perV (day + l) f l = perV day f l + 1) := by
    rcases perE_cases day f l with ⟨y, _⟩ | ⟨y, _, _⟩ | ⟨y, hd0, hd1, _, hfd, hV⟩
    · left; omega
    · left; omega
    right
    have eb := ediv_bd (x := day - f) (l := l) (by omega) z0
    refine ⟨y, by omega, by omega, fun z => ?_⟩
    have hd : dayB (day + l) = true := dayB_iff.2 (by omega)
    have e1 : perE (day + l) f l = 0 := by simp [perE, hd, hc]; omega
    have e2 : perV (day + l) f l = (day + l - f) / l := by simp [perV, hd, hc]; omega
    refine ⟨e1, ?_⟩
    rw [e2, hV]
    exact ediv_uniq z0 (by rw [Int.add_mul, Int.one_mul]; omega) (by rw [Int.add_mul, Int.one_mul]; omega)
  rcases hE with ⟨hE, hEv⟩ | ⟨hE, hEv⟩
  · have e0 : (dueE p f l 0 == 0) = true := by rw [hE]; decide
    have e1 : (dueE p f l 0 == 1) = false := by rw [hE]; decide
    rcases hF with ⟨hF, hFv, _⟩ | hF
    · have f0 : (shE (p + 1) f l 0 == 0) = true := by rw [hF]; decide
      have f1 : (shE (p + 1) f l 0 == 1) = false := by rw [hF]; decide
      have nx : (shV (p + 1) f l 0 != dueV p f l 0 + 1) = false := by rw [hFv, hEv]; simp; omega
      rcases hg with hg | hg
      · have g0 : (dueE p f l g == 0) = false := by simpa using hg
        by_cases z2 : day + l ≤ 1048576
        case neg => exact n_00no day f l p g w h h1 h2 h3 bv.1 bv.2 bd.1 bd.2 bl.1 bl.2 x0 x1 e0 f0 nx e1 f1 g0 z0 z1 (by omega)
        rcases hp with hp | ⟨hp, k3, k4, kk⟩
        · exact n_00nk day f l p g w h h1 h2 h3 bv.1 bv.2 bd.1 bd.2 bl.1 bl.2 x0 x1 e0 f0 nx e1 f1 g0 z0 z1 z2 (by simpa using hp)
        · exact n_00nq day f l p g w h h1 h2 h3 bv.1 bv.2 bd.1 bd.2 bl.1 bl.2 x0 x1 e0 f0 nx e1 f1 g0 z0 z1 z2 (by rw [hp]; decide) (by rw [(kk z2).1]; decide) (by rw [(kk z2).2]; simp) k3 k4
      · have g0 : (dueE p f l g == 0) = true := by simpa using hg
        rw [if_pos hg] at la lb
        by_cases o0 : day < dueV p f l g
        · have o2 : (lateV day p f l g != 0) = false := by rw [la]; simp; omega
          have o1 : (lateV (day + 1) p f l g != lateV day p f l g) = false := by rw [la, lb]; simp; omega
          have o3 : (lateV (day + 1) p f l g != lateV day p f l g + 1) = true := by rw [la, lb]; simp; omega
          by_cases z2 : day + l ≤ 1048576
          case neg => exact n_00bo day f l p g w h h1 h2 h3 bv.1 bv.2 bd.1 bd.2 bl.1 bl.2 x0 x1 e0 f0 nx e1 f1 g0 o0 o2 o1 o3 z0 z1 (by omega)
          rcases hp with hp | ⟨hp, k3, k4, kk⟩
          · exact n_00bk day f l p g w h h1 h2 h3 bv.1 bv.2 bd.1 bd.2 bl.1 bl.2 x0 x1 e0 f0 nx e1 f1 g0 o0 o2 o1 o3 z0 z1 z2 (by simpa using hp)
          · exact n_00bq day f l p g w h h1 h2 h3 bv.1 bv.2 bd.1 bd.2 bl.1 bl.2 x0 x1 e0 f0 nx e1 f1 g0 o0 o2 o1 o3 z0 z1 z2 (by rw [hp]; decide) (by rw [(kk z2).1]; decide) (by rw [(kk z2).2]; simp) k3 k4
        have o1 : (lateV (day + 1) p f l g != lateV day p f l g) = true := by rw [la, lb]; simp; omega
        have o3 : (lateV (day + 1) p f l g != lateV day p f l g + 1) = false := by rw [la, lb]; simp; omega
        by_cases o4 : day ≤ dueV p f l g
        · have o2 : (lateV day p f l g != 0) = false := by rw [la]; simp; omega
          by_cases z2 : day + l ≤ 1048576
          case neg => exact n_00co day f l p g w h h1 h2 h3 bv.1 bv.2 bd.1 bd.2 bl.1 bl.2 x0 x1 e0 f0 nx e1 f1 g0 (by omega) o4 o2 o1 o3 z0 z1 (by omega)
          rcases hp with hp | ⟨hp, k3, k4, kk⟩
          · exact n_00ck day f l p g w h h1 h2 h3 bv.1 bv.2 bd.1 bd.2 bl.1 bl.2 x0 x1 e0 f0 nx e1 f1 g0 (by omega) o4 o2 o1 o3 z0 z1 z2 (by simpa using hp)
          · exact n_00cq day f l p g w h h1 h2 h3 bv.1 bv.2 bd.1 bd.2 bl.1 bl.2 x0 x1 e0 f0 nx e1 f1 g0 (by omega) o4 o2 o1 o3 z0 z1 z2 (by rw [hp]; decide) (by rw [(kk z2).1]; decide) (by rw [(kk z2).2]; simp) k3 k4
        · have o2 : (lateV day p f l g != day - dueV p f l g) = false := by rw [la]; simp; omega
          by_cases z2 : day + l ≤ 1048576
          case neg => exact n_00ao day f l p g w h h1 h2 h3 bv.1 bv.2 bd.1 bd.2 bl.1 bl.2 x0 x1 e0 f0 nx e1 f1 g0 (by omega) o2 o1 o3 z0 z1 (by omega)
          rcases hp with hp | ⟨hp, k3, k4, kk⟩
          · exact n_00ak day f l p g w h h1 h2 h3 bv.1 bv.2 bd.1 bd.2 bl.1 bl.2 x0 x1 e0 f0 nx e1 f1 g0 (by omega) o2 o1 o3 z0 z1 z2 (by simpa using hp)
          · exact n_00aq day f l p g w h h1 h2 h3 bv.1 bv.2 bd.1 bd.2 bl.1 bl.2 x0 x1 e0 f0 nx e1 f1 g0 (by omega) o2 o1 o3 z0 z1 z2 (by rw [hp]; decide) (by rw [(kk z2).1]; decide) (by rw [(kk z2).2]; simp) k3 k4
    · have f0 : (shE (p + 1) f l 0 == 0) = false := by rw [hF]; decide
      have f1 : (shE (p + 1) f l 0 == 1) = false := by rw [hF]; decide
      rcases hg with hg | hg
      · have g0 : (dueE p f l g == 0) = false := by simpa using hg
        by_cases z2 : day + l ≤ 1048576
        case neg => exact n_03no day f l p g w h h1 h2 h3 bv.1 bv.2 bd.1 bd.2 bl.1 bl.2 x0 x1 e0 f0 e1 f1 g0 z0 z1 (by omega)
        rcases hp with hp | ⟨hp, k3, k4, kk⟩
        · exact n_03nk day f l p g w h h1 h2 h3 bv.1 bv.2 bd.1 bd.2 bl.1 bl.2 x0 x1 e0 f0 e1 f1 g0 z0 z1 z2 (by simpa using hp)
        · exact n_03nq day f l p g w h h1 h2 h3 bv.1 bv.2 bd.1 bd.2 bl.1 bl.2 x0 x1 e0 f0 e1 f1 g0 z0 z1 z2 (by rw [hp]; decide) (by rw [(kk z2).1]; decide) (by rw [(kk z2).2]; simp) k3 k4
      · have g0 : (dueE p f l g == 0) = true := by simpa using hg
        rw [if_pos hg] at la lb
        by_cases o0 : day < dueV p f l g
        · have o2 : (lateV day p f l g != 0) = false := by rw [la]; simp; omega
          have o1 : (lateV (day + 1) p f l g != lateV day p f l g) = false := by rw [la, lb]; simp; omega
          have o3 : (lateV (day + 1) p f l g != lateV day p f l g + 1) = true := by rw [la, lb]; simp; omega
          by_cases z2 : day + l ≤ 1048576
          case neg => exact n_03bo day f l p g w h h1 h2 h3 bv.1 bv.2 bd.1 bd.2 bl.1 bl.2 x0 x1 e0 f0 e1 f1 g0 o0 o2 o1 o3 z0 z1 (by omega)
          rcases hp with hp | ⟨hp, k3, k4, kk⟩
          · exact n_03bk day f l p g w h h1 h2 h3 bv.1 bv.2 bd.1 bd.2 bl.1 bl.2 x0 x1 e0 f0 e1 f1 g0 o0 o2 o1 o3 z0 z1 z2 (by simpa using hp)
          · exact n_03bq day f l p g w h h1 h2 h3 bv.1 bv.2 bd.1 bd.2 bl.1 bl.2 x0 x1 e0 f0 e1 f1 g0 o0 o2 o1 o3 z0 z1 z2 (by rw [hp]; decide) (by rw [(kk z2).1]; decide) (by rw [(kk z2).2]; simp) k3 k4
        have o1 : (lateV (day + 1) p f l g != lateV day p f l g) = true := by rw [la, lb]; simp; omega
        have o3 : (lateV (day + 1) p f l g != lateV day p f l g + 1) = false := by rw [la, lb]; simp; omega
        by_cases o4 : day ≤ dueV p f l g
        · have o2 : (lateV day p f l g != 0) = false := by rw [la]; simp; omega
          by_cases z2 : day + l ≤ 1048576
          case neg => exact n_03co day f l p g w h h1 h2 h3 bv.1 bv.2 bd.1 bd.2 bl.1 bl.2 x0 x1 e0 f0 e1 f1 g0 (by omega) o4 o2 o1 o3 z0 z1 (by omega)
          rcases hp with hp | ⟨hp, k3, k4, kk⟩
          · exact n_03ck day f l p g w h h1 h2 h3 bv.1 bv.2 bd.1 bd.2 bl.1 bl.2 x0 x1 e0 f0 e1 f1 g0 (by omega) o4 o2 o1 o3 z0 z1 z2 (by simpa using hp)
          · exact n_03cq day f l p g w h h1 h2 h3 bv.1 bv.2 bd.1 bd.2 bl.1 bl.2 x0 x1 e0 f0 e1 f1 g0 (by omega) o4 o2 o1 o3 z0 z1 z2 (by rw [hp]; decide) (by rw [(kk z2).1]; decide) (by rw [(kk z2).2]; simp) k3 k4
        · have o2 : (lateV day p f l g != day - dueV p f l g) = false := by rw [la]; simp; omega
          by_cases z2 : day + l ≤ 1048576
          case neg => exact n_03ao day f l p g w h h1 h2 h3 bv.1 bv.2 bd.1 bd.2 bl.1 bl.2 x0 x1 e0 f0 e1 f1 g0 (by omega) o2 o1 o3 z0 z1 (by omega)
          rcases hp with hp | ⟨hp, k3, k4, kk⟩
          · exact n_03ak day f l p g w h h1 h2 h3 bv.1 bv.2 bd.1 bd.2 bl.1 bl.2 x0 x1 e0 f0 e1 f1 g0 (by omega) o2 o1 o3 z0 z1 z2 (by simpa using hp)
          · exact n_03aq day f l p g w h h1 h2 h3 bv.1 bv.2 bd.1 bd.2 bl.1 bl.2 x0 x1 e0 f0 e1 f1 g0 (by omega) o2 o1 o3 z0 z1 z2 (by rw [hp]; decide) (by rw [(kk z2).1]; decide) (by rw [(kk z2).2]; simp) k3 k4
  · have e0 : (dueE p f l 0 == 0) = false := by rw [hE]; decide
    have e1 : (dueE p f l 0 == 1) = false := by rw [hE]; decide
    rcases hF with ⟨hF, hFv, hFb⟩ | hF
    · exfalso; omega
    · have f1 : (shE (p + 1) f l 0 == 1) = false := by rw [hF]; decide
      rcases hg with hg | hg
      · have g0 : (dueE p f l g == 0) = false := by simpa using hg
        by_cases z2 : day + l ≤ 1048576
        case neg => exact n_33no day f l p g w h h1 h2 h3 bv.1 bv.2 bd.1 bd.2 bl.1 bl.2 x0 x1 e0 e1 f1 g0 z0 z1 (by omega)
        rcases hp with hp | ⟨hp, k3, k4, kk⟩
        · exact n_33nk day f l p g w h h1 h2 h3 bv.1 bv.2 bd.1 bd.2 bl.1 bl.2 x0 x1 e0 e1 f1 g0 z0 z1 z2 (by simpa using hp)
        · exact n_33nq day f l p g w h h1 h2 h3 bv.1 bv.2 bd.1 bd.2 bl.1 bl.2 x0 x1 e0 e1 f1 g0 z0 z1 z2 (by rw [hp]; decide) (by rw [(kk z2).1]; decide) (by rw [(kk z2).2]; simp) k3 k4
      · have g0 : (dueE p f l g == 0) = true := by simpa using hg
        rw [if_pos hg] at la lb
        by_cases o0 : day < dueV p f l g
        · have o2 : (lateV day p f l g != 0) = false := by rw [la]; simp; omega
          have o1 : (lateV (day + 1) p f l g != lateV day p f l g) = false := by rw [la, lb]; simp; omega
          have o3 : (lateV (day + 1) p f l g != lateV day p f l g + 1) = true := by rw [la, lb]; simp; omega
          by_cases z2 : day + l ≤ 1048576
          case neg => exact n_33bo day f l p g w h h1 h2 h3 bv.1 bv.2 bd.1 bd.2 bl.1 bl.2 x0 x1 e0 e1 f1 g0 o0 o2 o1 o3 z0 z1 (by omega)
          rcases hp with hp | ⟨hp, k3, k4, kk⟩
          · exact n_33bk day f l p g w h h1 h2 h3 bv.1 bv.2 bd.1 bd.2 bl.1 bl.2 x0 x1 e0 e1 f1 g0 o0 o2 o1 o3 z0 z1 z2 (by simpa using hp)
          · exact n_33bq day f l p g w h h1 h2 h3 bv.1 bv.2 bd.1 bd.2 bl.1 bl.2 x0 x1 e0 e1 f1 g0 o0 o2 o1 o3 z0 z1 z2 (by rw [hp]; decide) (by rw [(kk z2).1]; decide) (by rw [(kk z2).2]; simp) k3 k4
        have o1 : (lateV (day + 1) p f l g != lateV day p f l g) = true := by rw [la, lb]; simp; omega
        have o3 : (lateV (day + 1) p f l g != lateV day p f l g + 1) = false := by rw [la, lb]; simp; omega
        by_cases o4 : day ≤ dueV p f l g
        · have o2 : (lateV day p f l g != 0) = false := by rw [la]; simp; omega
          by_cases z2 : day + l ≤ 1048576
          case neg => exact n_33co day f l p g w h h1 h2 h3 bv.1 bv.2 bd.1 bd.2 bl.1 bl.2 x0 x1 e0 e1 f1 g0 (by omega) o4 o2 o1 o3 z0 z1 (by omega)
          rcases hp with hp | ⟨hp, k3, k4, kk⟩
          · exact n_33ck day f l p g w h h1 h2 h3 bv.1 bv.2 bd.1 bd.2 bl.1 bl.2 x0 x1 e0 e1 f1 g0 (by omega) o4 o2 o1 o3 z0 z1 z2 (by simpa using hp)
          · exact n_33cq day f l p g w h h1 h2 h3 bv.1 bv.2 bd.1 bd.2 bl.1 bl.2 x0 x1 e0 e1 f1 g0 (by omega) o4 o2 o1 o3 z0 z1 z2 (by rw [hp]; decide) (by rw [(kk z2).1]; decide) (by rw [(kk z2).2]; simp) k3 k4
        · have o2 : (lateV day p f l g != day - dueV p f l g) = false := by rw [la]; simp; omega
          by_cases z2 : day + l ≤ 1048576
          case neg => exact n_33ao day f l p g w h h1 h2 h3 bv.1 bv.2 bd.1 bd.2 bl.1 bl.2 x0 x1 e0 e1 f1 g0 (by omega) o2 o1 o3 z0 z1 (by omega)
          rcases hp with hp | ⟨hp, k3, k4, kk⟩
          · exact n_33ak day f l p g w h h1 h2 h3 bv.1 bv.2 bd.1 bd.2 bl.1 bl.2 x0 x1 e0 e1 f1 g0 (by omega) o2 o1 o3 z0 z1 z2 (by simpa using hp)
          · exact n_33aq day f l p g w h h1 h2 h3 bv.1 bv.2 bd.1 bd.2 bl.1 bl.2 x0 x1 e0 e1 f1 g0 (by omega) o2 o1 o3 z0 z1 z2 (by rw [hp]; decide) (by rw [(kk z2).1]; decide) (by rw [(kk z2).2]; simp) k3 k4

/-! ### THE ROW's STEP: WRITTEN OUT: LEAVE IT -/
set_option maxRecDepth 100000 in
theorem lifted (os : Os) (started : os.Started) (H : Type) (enc : TypeId × Value → H) :
    ReturnsInHanded {} Try.checked os 5 .any (Rows.dateNextsSpec.pre6 enc Try.prog Try.f5 Rows.dateNextsRow.domain false) (Rows.dateNextsSpec.post enc Try.prog Try.f5 false true false false) := by
  refine returnsInHanded_of_change (C := Try.checked) own started (by kernel_rfl) Try.func5
    (ChangeSpec.witness6 (enc := enc) (C := Try.checked) false ⟨#[], #[.int .i64 0, .int .i64 0, .int .i64 0, .int .i64 0, .int .i64 0], []⟩ 8 (by kernel_rfl) (by kernel_rfl) (by kernel_rfl) (by kernel_rfl)) ?_
  intro W base args ds gs before hval0 hW hcnd _
  have hval : ∀ (j : Nat) t v, Try.f5.params[j]? = some t → args[j]? = some v → Value.okWide Try.prog W .any base t v := hval0
  have hW' := hW
  obtain ⟨p, q, hA0, hV, rfl, hfz, hnd⟩ := hW
  have hA : DataW.TrodAll enc Try.prog W 0 (fun _ => true) true Try.f5.params.toList args.toList ds p := hA0
  rw [Try.params5] at hA hval
  obtain ⟨v0, vs0, d0, ds0, p0, q0, hargs, rfl, rfl, h0, r0⟩ := trodAll_cons hA
  obtain ⟨v1, vs1, d1, ds1, p1, q1, rfl, rfl, rfl, h1, r1⟩ := trodAll_cons r0
  obtain ⟨v2, vs2, d2, ds2, p2, q2, rfl, rfl, rfl, h2, r2⟩ := trodAll_cons r1
  obtain ⟨v3, vs3, d3, ds3, p3, q3, rfl, rfl, rfl, h3, r3⟩ := trodAll_cons r2
  obtain ⟨v4, vs4, d4, ds4, p4, q4, rfl, rfl, rfl, h4, r4⟩ := trodAll_cons r3
  obtain ⟨rfl, rfl, rfl⟩ := trodAll_nil r4
  obtain rfl : args = #[v0, v1, v2, v3, v4] := by cases args; simp_all
  obtain ⟨rfl, rfl⟩ := trodVars_none hV
  obtain ⟨a0, rfl, rfl, rfl, w0⟩ := open_int Try.underlying3 (hval 0 3 v0 rfl rfl) h0
  obtain ⟨a1, rfl, rfl, rfl, w1⟩ := open_int Try.underlying3 (hval 1 3 v1 rfl rfl) h1
  obtain ⟨a2, rfl, rfl, rfl, w2⟩ := open_int Try.underlying3 (hval 2 3 v2 rfl rfl) h2
  obtain ⟨a3, rfl, rfl, rfl, w3⟩ := open_int Try.underlying3 (hval 3 3 v3 rfl rfl) h3
  obtain ⟨a4, rfl, rfl, rfl, w4⟩ := open_int Try.underlying3 (hval 4 3 v4 rfl rfl) h4
  clear hA0 hval0
  simp only [List.append_nil] at hW'
  refine (walk a0 a1 a2 a3 a4 w0 w1 w2 w3 w4 W).mono fun e W' ⟨he, hg⟩ => ?_
  subst he
  exact ⟨_, rfl, post_of_same (pa := []) (pv := []) hW' (fun _ _ _ => (trodAll_cons_mk (shut_bool Try.underlying4 _) trodAll_mk0)) (fun sp _ => (trodAll_cons_mk (shut_int Try.underlying3 w0) (trodAll_cons_mk (shut_int Try.underlying3 w1) (trodAll_cons_mk (shut_int Try.underlying3 w2) (trodAll_cons_mk (shut_int Try.underlying3 w3) (trodAll_cons_mk (shut_int Try.underlying3 w4) trodAll_mk0)))))) (fun _ _ => rfl) rfl
    (hg.frame _) hg.2.1 (ok_one (by kernel_rfl) rfl (okWide_bool_mk Try.underlying4 _))⟩

theorem over : Rows.dateNextsRow.holds Try.pinned (OpenSpec.ofChange Rows.dateNextsSpec) :=
  OpenClaim.holds_of_wide 5 Try.f5 rfl rfl rfl rfl rfl rfl rfl ⟨rfl, rfl, rfl, rfl, rfl⟩ rfl rfl rfl rfl rfl (by kernel_rfl) Try.func5 (by kernel_rfl)
    (of_decide_eq_true (by kernel_rfl)) (by unfold Func.isWrapper; first | (rw [if_pos (by decide +kernel)]; kernel_rfl) | (rw [if_neg (by decide +kernel)]; exact ⟨rfl, rfl⟩))
    (fun os started H enc _ => lifted os started H enc)

/-- ████ THE STATEMENT ████ -/
theorem proved : Rows.DateNextsSaid :=
  over
#print axioms proved
end Go.Proofs.Ytnbbjophgebhdaa.dateNexts
