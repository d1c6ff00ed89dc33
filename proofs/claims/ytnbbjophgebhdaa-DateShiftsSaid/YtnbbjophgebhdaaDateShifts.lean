/- The law DateShifts (stokvellaw10): for every input the call returns true and the arguments read as before; no condition. -/
import Derived.Test.YtnbbjophgebhdaaShiftA
import Derived.Test.YtnbbjophgebhdaaShiftB
import Derived.WalkKit
import Derived.ProofKit
import Derived.OpenShut
import Derived.Lib.Hide
namespace Go.Proofs.Ytnbbjophgebhdaa.dateShifts
open Go.ChangeShapes Go.WideShapes Go.ChangeAt Go.RowKit
set_option linter.unusedVariables false      -- a walk need not use every 'w<i>' (that an integer argument fits its kind)

theorem own : ownKnob Try.prog.godebug = none := by kernel_rfl


theorem ediv_bd {x l : Int} (h : 0 ≤ x) (hl : 1 ≤ l) : x / l * l ≤ x ∧ x < x / l * l + l ∧ 0 ≤ x / l ∧ x / l ≤ x := by
  have h1 := Int.ediv_mul_le x (b := l) (by omega)
  have h2 := Int.lt_ediv_add_one_mul_self x (b := l) (by omega)
  have h3 := Int.ediv_nonneg h (b := l) (by omega)
  have h4 := Int.ediv_le_self l h
  rw [Int.add_mul, Int.one_mul] at h2
  omega
theorem ediv_uniq {x l q : Int} (hl : 1 ≤ l) (h1 : q * l ≤ x) (h2 : x < q * l + l) : x / l = q := by
  apply Int.le_antisymm
  · have : x < (q + 1) * l := by rw [Int.add_mul, Int.one_mul]; exact h2
    have := Int.ediv_lt_of_lt_mul (by omega) this
    omega
  · exact Int.le_ediv_of_mul_le (by omega) h1
theorem perE_cases (day f l : Int) : (perE day f l = 1 ∧ perV day f l = 0) ∨ (perE day f l = 26 ∧ perV day f l = 0 ∧ day < f) ∨
    (perE day f l = 0 ∧ 0 ≤ day ∧ day ≤ 1048576 ∧ calB f l = true ∧ f ≤ day ∧ perV day f l = (day - f) / l) := by
  unfold perE perV
  by_cases h : dayB day = true ∧ calB f l = true
  · have hd := dayB_iff.1 h.1
    by_cases h2 : f ≤ day
    · right; right; simp [h.1, h.2, h2]; omega
    · right; left; simp [h.1, h.2, h2]; omega
  · left
    refine ⟨by simp only [h, if_false], ?_⟩
    rw [if_neg (fun h' => h ⟨h'.1, h'.2.1⟩)]
theorem shE_ok {p f l d : Int} (h : shE p f l d = 0) : 0 ≤ p ∧ calB f l = true ∧ p ≤ 1048576 ∧ f + p * l + d ≤ 1048576 ∧ shV p f l d = f + p * l + d := by
  unfold shE at h
  split at h
  · rename_i h1
    split at h
    · rename_i h2
      exact ⟨h1.1, h1.2, h2.1, h2.2, by simp [shV, h1.1, h1.2, h2.1, h2.2]⟩
    · simp at h
  · simp at h
theorem shE_of {p f l d : Int} (h0 : 0 ≤ p) (hc : calB f l = true) (h1 : p ≤ 1048576) (h2 : f + p * l + d ≤ 1048576) : shE p f l d = 0 ∧ shV p f l d = f + p * l + d := by
  simp [shE, shV, h0, hc, h1, h2]
theorem shE_bad {p f l d : Int} (h : shE p f l d ≠ 0) : shV p f l d = 0 := by
  unfold shV
  split
  · rename_i h'
    exact (h (shE_of h'.1 h'.2.1 h'.2.2.1 h'.2.2.2).1).elim
  · rfl
theorem due0V (p f l : Int) : dueV p f l 0 = shV p f l (l - 1) := by simp [dueV, dayB_zero]
theorem due0E (p f l : Int) : dueE p f l 0 = shE p f l (l - 1) := by simp [dueE, dayB_zero]

theorem walk (a0 : Int) (a1 : Int) (a2 : Int) (a3 : Int) (a4 : Int) (a5 : Int) (w0 : (Lit.int .i64 a0).wf = true) (w1 : (Lit.int .i64 a1).wf = true) (w2 : (Lit.int .i64 a2).wf = true) (w3 : (Lit.int .i64 a3).wf = true) (w4 : (Lit.int .i64 a4).wf = true) (w5 : (Lit.int .i64 a5).wf = true) (w : World) :
    Calls Try.prog 6 #[.int .i64 a0, .int .i64 a1, .int .i64 a2, .int .i64 a3, .int .i64 a4, .int .i64 a5] w fun e w' => e = .returned (.bool true) ∧ Grown w w' := by
  generalize a0 = day, a1 = f, a2 = l, a3 = p, a4 = k, a5 = y
  by_cases h0 : 0 ≤ y
  case neg => exact s_0 day f l p k y w  (by omega)
  by_cases h1 : y ≤ 1048576
  case neg => exact s_1 day f l p k y w h0 (by omega)
  by_cases h2 : 0 ≤ f
  case neg => exact s_2 day f l p k y w h0 h1 (by omega)
  by_cases h3 : f ≤ 1048576
  case neg => exact s_3 day f l p k y w h0 h1 h2 (by omega)
  by_cases h4 : 0 ≤ day
  case neg => exact s_4 day f l p k y w h0 h1 h2 h3 (by omega)
  by_cases h5 : day ≤ 1048576
  case neg => exact s_5 day f l p k y w h0 h1 h2 h3 h4 (by omega)
  by_cases h6 : f + y ≤ 1048576
  case neg => exact s_6 day f l p k y w h0 h1 h2 h3 h4 h5 (by omega)
  have bv := dueV_bd p f l 0
  have bo : -1048576 ≤ opV p f l k ∧ opV p f l k ≤ 1048577 := by
    unfold opV
    split
    · rename_i x
      have hc : calB f l = true := by
        cases hc : calB f l
        · have := x.1; rw [due0E] at this; simp [shE, hc] at this
        · rfl
      have := calB_iff.1 hc
      omega
    · omega
  have hp : day + y ≤ 1048576 → perV day f l = perV (day + y) (f + y) l ∧ perE day f l = perE (day + y) (f + y) l := by
    intro z
    have d0 : dayB day = true := dayB_iff.2 (by omega)
    have d1 : dayB (day + y) = true := dayB_iff.2 (by omega)
    have cc : calB (f + y) l = calB f l := by
      unfold calB; rw [decide_eq_decide]; omega
    unfold perV perE
    rw [d0, d1, cc, show day + y - (f + y) = day - f by omega]
    by_cases x : f ≤ day
    · have x' : f + y ≤ day + y := by omega
      simp only [x, x', and_self]
    · have x' : ¬ f + y ≤ day + y := by omega
      simp only [x, x', and_self]
  have hef : (dueE p f l 0 = 1 ∧ dueE p (f + y) l 0 = 1) ∨ (dueE p f l 0 = 0 ∧ dueE p (f + y) l 0 = 0 ∧ dueV p (f + y) l 0 = dueV p f l 0 + y) ∨
      (dueE p f l 0 ≠ 1 ∧ dueE p (f + y) l 0 = 3) := by
    rw [due0E, due0E, due0V, due0V]
    cases hc : calB f l
    · left
      have hc' : calB (f + y) l = false := calB_no.2 (by have := calB_no.1 hc; omega)
      simp [shE, hc, hc']
    have c := calB_iff.1 hc
    have hc' : calB (f + y) l = true := calB_iff.2 (by omega)
    by_cases x : 0 ≤ p
    case neg => left; simp [shE, x]
    right
    by_cases x1 : p ≤ 1048576 ∧ f + y + p * l + (l - 1) ≤ 1048576
    · left
      have a := shE_of x hc' x1.1 x1.2
      have b := shE_of (f := f) (l := l) (d := l - 1) x hc x1.1 (by omega)
      refine ⟨b.1, a.1, ?_⟩
      rw [a.2, b.2]; omega
    · right
      refine ⟨?_, by simp only [shE, hc', x, x1, if_false]; simp⟩
      unfold shE; rw [if_pos ⟨x, hc⟩]; split <;> omega
  have hg : opE p f l k ≠ 0 ∨ (opE p f l k = 0 ∧ dueV p f l 0 - opV p f l k + 1 = k ∧ f ≤ opV p f l k ∧ k ≤ l ∧ dueE p f l 0 = 0) := by
    by_cases x : opE p f l k = 0
    case neg => exact .inl x
    right
    refine ⟨x, ?_⟩
    unfold opE at x
    split at x
    · rename_i h
      have h0 := x
      rw [due0E] at x
      have s := shE_ok x
      have c := calB_iff.1 s.2.1
      have m := mul_bd s.1 s.2.2.1 c.2.2.1 c.2.2.2
      have e : opV p f l k = dueV p f l 0 - k + 1 := by simp [opV, h0, h.1, h.2]
      rw [e, due0V, s.2.2.2.2]
      omega
    · simp at x
  rcases hef with ⟨hE, hF⟩ | ⟨hE, hF, hX⟩ | ⟨hE, hF⟩
  · have f0 : (dueE p (f + y) l 0 == 0) = false := by rw [hF]; decide
    have e1 : (dueE p f l 0 == 1) = true := by rw [hE]; decide
    have f1 : (dueE p (f + y) l 0 == 1) = true := by rw [hF]; decide
    rcases hg with hg | ⟨_, _, _, _, hg⟩
    case inr => omega
    have g0 : (opE p f l k == 0) = false := by simpa using hg
    by_cases z : day + y ≤ 1048576
    · exact s_11nk day f l p k y w h0 h1 h2 h3 h4 h5 h6 bv.1 bv.2 bo.1 bo.2 f0 e1 f1 g0 z (by simpa using (hp z).1) (by simpa using (hp z).2)
    · exact s_11no day f l p k y w h0 h1 h2 h3 h4 h5 h6 bv.1 bv.2 bo.1 bo.2 f0 e1 f1 g0 (by omega)
  · have f0 : (dueE p (f + y) l 0 == 0) = true := by rw [hF]; decide
    have e0 : (dueE p f l 0 != 0) = false := by rw [hE]; decide
    have nx : (dueV p (f + y) l 0 != dueV p f l 0 + y) = false := by rw [hX]; simp
    have e1 : (dueE p f l 0 == 1) = false := by rw [hE]; decide
    have f1 : (dueE p (f + y) l 0 == 1) = false := by rw [hF]; decide
    rcases hg with hg | ⟨hg, g1, g2, g3, _⟩
    · have g0 : (opE p f l k == 0) = false := by simpa using hg
      by_cases z : day + y ≤ 1048576
      · exact s_00nk day f l p k y w h0 h1 h2 h3 h4 h5 h6 bv.1 bv.2 bo.1 bo.2 f0 e0 nx e1 f1 g0 z (by simpa using (hp z).1) (by simpa using (hp z).2)
      · exact s_00no day f l p k y w h0 h1 h2 h3 h4 h5 h6 bv.1 bv.2 bo.1 bo.2 f0 e0 nx e1 f1 g0 (by omega)
    · have g0 : (opE p f l k == 0) = true := by simpa using hg
      by_cases z : day + y ≤ 1048576
      · exact s_00yk day f l p k y w h0 h1 h2 h3 h4 h5 h6 bv.1 bv.2 bo.1 bo.2 f0 e0 nx e1 f1 g0 (by simpa using g1) g2 g3 z (by simpa using (hp z).1) (by simpa using (hp z).2)
      · exact s_00yo day f l p k y w h0 h1 h2 h3 h4 h5 h6 bv.1 bv.2 bo.1 bo.2 f0 e0 nx e1 f1 g0 (by simpa using g1) g2 g3 (by omega)
  · have f0 : (dueE p (f + y) l 0 == 0) = false := by rw [hF]; decide
    have e1 : (dueE p f l 0 == 1) = false := by simpa using hE
    have f1 : (dueE p (f + y) l 0 == 1) = false := by rw [hF]; decide
    rcases hg with hg | ⟨hg, g1, g2, g3, _⟩
    · have g0 : (opE p f l k == 0) = false := by simpa using hg
      by_cases z : day + y ≤ 1048576
      · exact s_33nk day f l p k y w h0 h1 h2 h3 h4 h5 h6 bv.1 bv.2 bo.1 bo.2 f0 e1 f1 g0 z (by simpa using (hp z).1) (by simpa using (hp z).2)
      · exact s_33no day f l p k y w h0 h1 h2 h3 h4 h5 h6 bv.1 bv.2 bo.1 bo.2 f0 e1 f1 g0 (by omega)
    · have g0 : (opE p f l k == 0) = true := by simpa using hg
      by_cases z : day + y ≤ 1048576
      · exact s_33yk day f l p k y w h0 h1 h2 h3 h4 h5 h6 bv.1 bv.2 bo.1 bo.2 f0 e1 f1 g0 (by simpa using g1) g2 g3 z (by simpa using (hp z).1) (by simpa using (hp z).2)
      · exact s_33yo day f l p k y w h0 h1 h2 h3 h4 h5 h6 bv.1 bv.2 bo.1 bo.2 f0 e1 f1 g0 (by simpa using g1) g2 g3 (by omega)

/-! ### THE ROW's STEP: WRITTEN OUT: LEAVE IT -/
set_option maxRecDepth 100000 in
theorem lifted (os : Os) (started : os.Started) (H : Type) (enc : TypeId × Value → H) :
    ReturnsInHanded {} Try.checked os 6 .any (Rows.dateShiftsSpec.pre6 enc Try.prog Try.f6 Rows.dateShiftsRow.domain false) (Rows.dateShiftsSpec.post enc Try.prog Try.f6 false true false false) := by
  refine returnsInHanded_of_change (C := Try.checked) own started (by kernel_rfl) Try.func6
    (ChangeSpec.witness6 (enc := enc) (C := Try.checked) false ⟨#[], #[.int .i64 0, .int .i64 0, .int .i64 0, .int .i64 0, .int .i64 0, .int .i64 0], []⟩ 8 (by kernel_rfl) (by kernel_rfl) (by kernel_rfl) (by kernel_rfl)) ?_
  intro W base args ds gs before hval0 hW hcnd _
  have hval : ∀ (j : Nat) t v, Try.f6.params[j]? = some t → args[j]? = some v → Value.okWide Try.prog W .any base t v := hval0
  have hW' := hW
  obtain ⟨p, q, hA0, hV, rfl, hfz, hnd⟩ := hW
  have hA : DataW.TrodAll enc Try.prog W 0 (fun _ => true) true Try.f6.params.toList args.toList ds p := hA0
  rw [Try.params6] at hA hval
  obtain ⟨v0, vs0, d0, ds0, p0, q0, hargs, rfl, rfl, h0, r0⟩ := trodAll_cons hA
  obtain ⟨v1, vs1, d1, ds1, p1, q1, rfl, rfl, rfl, h1, r1⟩ := trodAll_cons r0
  obtain ⟨v2, vs2, d2, ds2, p2, q2, rfl, rfl, rfl, h2, r2⟩ := trodAll_cons r1
  obtain ⟨v3, vs3, d3, ds3, p3, q3, rfl, rfl, rfl, h3, r3⟩ := trodAll_cons r2
  obtain ⟨v4, vs4, d4, ds4, p4, q4, rfl, rfl, rfl, h4, r4⟩ := trodAll_cons r3
  obtain ⟨v5, vs5, d5, ds5, p5, q5, rfl, rfl, rfl, h5, r5⟩ := trodAll_cons r4
  obtain ⟨rfl, rfl, rfl⟩ := trodAll_nil r5
  obtain rfl : args = #[v0, v1, v2, v3, v4, v5] := by cases args; simp_all
  obtain ⟨rfl, rfl⟩ := trodVars_none hV
  obtain ⟨a0, rfl, rfl, rfl, w0⟩ := open_int Try.underlying3 (hval 0 3 v0 rfl rfl) h0
  obtain ⟨a1, rfl, rfl, rfl, w1⟩ := open_int Try.underlying3 (hval 1 3 v1 rfl rfl) h1
  obtain ⟨a2, rfl, rfl, rfl, w2⟩ := open_int Try.underlying3 (hval 2 3 v2 rfl rfl) h2
  obtain ⟨a3, rfl, rfl, rfl, w3⟩ := open_int Try.underlying3 (hval 3 3 v3 rfl rfl) h3
  obtain ⟨a4, rfl, rfl, rfl, w4⟩ := open_int Try.underlying3 (hval 4 3 v4 rfl rfl) h4
  obtain ⟨a5, rfl, rfl, rfl, w5⟩ := open_int Try.underlying3 (hval 5 3 v5 rfl rfl) h5
  clear hA0 hval0
  simp only [List.append_nil] at hW'
  refine (walk a0 a1 a2 a3 a4 a5 w0 w1 w2 w3 w4 w5 W).mono fun e W' ⟨he, hg⟩ => ?_
  subst he
  exact ⟨_, rfl, post_of_same (pa := []) (pv := []) hW' (fun _ _ _ => (trodAll_cons_mk (shut_bool Try.underlying4 _) trodAll_mk0)) (fun sp _ => (trodAll_cons_mk (shut_int Try.underlying3 w0) (trodAll_cons_mk (shut_int Try.underlying3 w1) (trodAll_cons_mk (shut_int Try.underlying3 w2) (trodAll_cons_mk (shut_int Try.underlying3 w3) (trodAll_cons_mk (shut_int Try.underlying3 w4) (trodAll_cons_mk (shut_int Try.underlying3 w5) trodAll_mk0))))))) (fun _ _ => rfl) rfl
    (hg.frame _) hg.2.1 (ok_one (by kernel_rfl) rfl (okWide_bool_mk Try.underlying4 _))⟩

theorem over : Rows.dateShiftsRow.holds Try.pinned (OpenSpec.ofChange Rows.dateShiftsSpec) :=
  OpenClaim.holds_of_wide 6 Try.f6 rfl rfl rfl rfl rfl rfl rfl ⟨rfl, rfl, rfl, rfl, rfl⟩ rfl rfl rfl rfl rfl (by kernel_rfl) Try.func6 (by kernel_rfl)
    (of_decide_eq_true (by kernel_rfl)) (by unfold Func.isWrapper; first | (rw [if_pos (by decide +kernel)]; kernel_rfl) | (rw [if_neg (by decide +kernel)]; exact ⟨rfl, rfl⟩))
    (fun os started H enc _ => lifted os started H enc)

/-- ████ THE STATEMENT ████ -/
theorem proved : Rows.DateShiftsSaid :=
  over
#print axioms proved
end Go.Proofs.Ytnbbjophgebhdaa.dateShifts
