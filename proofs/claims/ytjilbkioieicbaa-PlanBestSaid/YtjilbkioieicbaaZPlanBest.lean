/- The law PlanBest: for every input the call returns true and the arguments read as before; no condition. -/
import Derived.Test.YtjilbkioieicbaaMO
import Derived.Test.YtjilbkioieicbaaRows
import Derived.WalkKit
import Derived.ProofKit
import Derived.OpenShut
import Derived.Carry
/- The law PlanBest: its call. -/
namespace Go.Proofs.Ytjilbkioieicbaa
open Go.Vc Rt
set_option linter.unusedVariables false
set_option linter.unusedSimpArgs false
theorem few3_spec {a b c : Nat} (h : few3 a b c = true) : a ≤ 6 ∧ b ≤ 8 ∧ c ≤ 8 := by
  simp only [few3, Bool.and_eq_true, decide_eq_true_eq] at h; omega
theorem few6_spec {a b c d e f : Nat} (h : few6 a b c d e f = true) : (a ≤ 6 ∧ b ≤ 8 ∧ c ≤ 8) ∧ d ≤ 8 ∧ e ≤ 8 ∧ f ≤ 40 := by
  simp only [few6, Bool.and_eq_true, decide_eq_true_eq] at h
  exact ⟨few3_spec h.1.1.1, h.1.1.2, h.1.2, h.2⟩
theorem check_iff {St : List Int} {M : List Pl.Meet} {W : List Pl.Want} {P P0 : List Pl.Pass} {X X0 r : List Int} {c0 : List Bool} (h0 : Pl.checkE St M W P0 X0 c0 = 0) (hr : Pl.runAll St M W P X = (0, r)) : Pl.checkE St M W P X c0 = 0 ↔ Pl.sumI X = Pl.sumI X0 := by
  unfold Pl.checkE at h0 ⊢
  rw [hr]
  split at h0
  · split at h0
    · rename_i hc
      simp only [if_true]
      constructor
      · intro h
        split at h
        · rename_i hc2; omega
        · simp at h
      · intro h
        rw [if_pos ⟨hc.1, hc.2.1, hc.2.2.1, by omega⟩]
    · simp at h0
  · rename_i h1; exact (h1 h0).elim
theorem pbest_c (St : List Int) (M : List Pl.Meet) (W : List Pl.Want) (P : List Pl.Pass) (X : List Int) (c : List Bool) (v1 v2 v3 v4 v5 v6 : Value) (w : World) (h1 : SlOf intT [] w v1 St) (h2 : SlOf meT [] w v2 M) (h3 : SlOf waT [] w v3 W) (h4 : SlOf paT [] w v4 P) (h5 : SlOf intT [] w v5 X) (h6 : SlOf boolT [] w v6 c) :
    Ans Try.prog 3 [v1, v2, v3, v4, v5, v6] (.b true) w := by
  refine calls_plainB [.x v1, .x v2, .x v3, .x v4, .x v5, .x v6] Try.func3 rfl rfl (Nat.le_of_ble_eq_true rfl) rfl fun B hB => ?_
  repeat refine At.seq ?_
  refine At.region tab_ok ?_
  conv => whnf
  repeat refine At.seq ?_
  refine At.region tab_ok ?_
  conv => whnf
  refine ans_call b17 rfl (fun w' hw => small30_c w') ?_
  conv => whnf
  repeat refine At.seq ?_
  refine At.regionG tab_ok ?_
  conv => whnf
  refine ans_call b18 rfl (fun w' hw => few6_c St M W P X c v1 v2 v3 v4 v5 v6 w' (h1.fr hw.fr) (h2.fr hw.fr) (h3.fr hw.fr) (h4.fr hw.fr) (h5.fr hw.fr) (h6.fr hw.fr)) ?_
  conv => whnf
  cases hfew : few6 St.length M.length W.length P.length X.length c.length
  · conv => whnf
    repeat refine At.seq ?_
    refine At.cond (t := true) rfl (fun hq => ?_) (fun hq => by cases hq)
    repeat refine At.seq ?_
    refine At.region tab_ok ?_
    conv => whnf
    repeat refine At.seq ?_
    refine At.ret (At.doneB tab_ok hB _ rfl fun w' hw => ⟨rfl, hw.fr⟩)
  obtain ⟨⟨f1, f2, f3⟩, f4, f5, f6⟩ := few6_spec hfew
  conv => whnf
  refine ans_call b19 rfl (fun w' hw => right_pc St M W [] v1 v2 v3 w' (h1.fr hw.fr) (h2.fr hw.fr) (h3.fr hw.fr)) ?_
  conv => whnf
  cases hR : Pl.rightB St M W
  · conv => whnf
    repeat refine At.seq ?_
    refine At.cond (t := true) rfl (fun hq => ?_) (fun hq => by cases hq)
    repeat refine At.seq ?_
    refine At.region tab_ok ?_
    conv => whnf
    repeat refine At.seq ?_
    refine At.ret (At.doneB tab_ok hB _ rfl fun w' hw => ⟨rfl, hw.fr⟩)
  conv => whnf
  repeat refine At.seq ?_
  refine At.cond (t := false) rfl (fun hq => by cases hq) (fun hq => At.skip ?_)
  repeat refine At.seq ?_
  refine At.region tab_ok ?_
  conv => whnf
  refine ansE_call b20 planG_rd (fun w' hw => plan_e St M W [] v1 v2 v3 w' (h1.fr hw.fr) (h2.fr hw.fr) (h3.fr hw.fr)) ?_
  rintro rds ⟨P0, X0, c0, er0, hp0, rfl⟩
  obtain ⟨hch, rfl⟩ := plan_ok1 hp0 hR
  have hm0 := check_met hch
  have hc0 := check_cut hch
  have hc0l : c0.length ≤ 1000000 := by unfold Pl.nodesN at hc0; omega
  obtain ⟨r0, hr0⟩ := Pl.check_run hch
  have hP0 : P0.length ≤ 1000000 := by
    obtain ⟨_, hf, _⟩ := Pl.runAll_ok hr0
    simp only [Pl.formedB, Bool.and_eq_true] at hf
    have key : ∀ (Q : List Pl.Pass) (last : Int), Pl.formP M last Q = true → -1 ≤ last → last < M.length → (Q.length : Int) ≤ M.length - last := by
      intro Q
      induction Q with
      | nil => intro last _ h0 h1; simp; omega
      | cons x Q ih =>
        intro last h h0 h1
        simp only [Pl.formP, Bool.and_eq_true, decide_eq_true_eq] at h
        have := ih x.meet h.2 (by omega) (by omega)
        simp only [List.length_cons]; omega
    have := key P0 (-1) hf.2 (by omega) (by omega)
    omega
  conv => whnf
  intro vp
  conv => whnf
  intro vx
  conv => whnf
  intro vc
  conv => whnf
  repeat refine At.seq ?_
  refine At.regionG tab_ok ?_
  conv => whnf
  refine ans_call b21 (r := .i 0) rfl (fun w' hw => by
    have := check_c St M W P0 X0 c0 [] v1 v2 v3 vp vx vc w' (h1.fr hw.fr) (h2.fr hw.fr) (h3.fr hw.fr) (slP _ (hw.row (id := 0) rfl) hP0) (slN _ (hw.row (id := 1) rfl) (by rw [hm0.1]; omega)) (slB _ (hw.row (id := 2) rfl) hc0l) (by omega)
    rw [hch] at this
    exact this) ?_
  conv => whnf
  repeat refine At.seq ?_
  refine At.cond (t := false) rfl (fun hq => by cases hq) (fun hq => At.skip ?_)
  repeat refine At.seq ?_
  refine At.region tab_ok ?_
  conv => whnf
  refine ansR_call b22 (rdIP _ _) (fun w' hw => run_c St M W P X [] v1 v2 v3 v4 v5 w' (h1.fr hw.fr) (h2.fr hw.fr) (h3.fr hw.fr) (h4.fr hw.fr) (h5.fr hw.fr) (by omega)) ?_
  intro vr
  conv => whnf
  repeat refine At.seq ?_
  refine At.region tab_ok ?_
  conv => whnf
  repeat refine At.seq ?_
  refine At.cond rfl (fun hq => ?_) (fun hq => ?_)
  · repeat refine At.seq ?_
    refine At.region tab_ok ?_
    conv => whnf
    repeat refine At.seq ?_
    refine At.ret (At.doneB tab_ok hB _ rfl fun w' hw => ⟨rfl, hw.fr⟩)
  have hz : (Pl.runAll St M W P X).1 = 0 := by simpa using hq
  obtain ⟨r, hr⟩ := Pl.runAll_zero hz
  have hXb : X.length = W.length ∧ ∀ x ∈ X, 0 ≤ x ∧ x ≤ 1099511627776 := by
    obtain ⟨_, hf, _⟩ := Pl.runAll_ok hr
    have R := Pl.rightB_iff.1 hR
    simp only [Pl.formedB, Bool.and_eq_true] at hf
    have hl := (Pl.metB_iff.1 hf.1).1
    refine ⟨hl, fun x hx => ?_⟩
    obtain ⟨i, hi, e⟩ := List.getElem_of_mem hx
    obtain ⟨y, hy⟩ : ∃ y, W[i]? = some y := ⟨_, List.getElem?_eq_getElem (by omega)⟩
    have a1 := (Pl.metB_iff.1 hf.1).2 i y x hy (by rw [List.getElem?_eq_getElem hi, e])
    have a2 := (R.want y (List.mem_of_getElem? hy)).2.2
    unfold Pl.maxC at a2
    omega
  have hle := Pl.best hch hr
  have hiff := check_iff hch hr
  have hsX : ∀ w', Ext w w' → Ans Try.prog 23 [v5] (.i (Pl.sumI X)) w' := fun w' hx => sum30_c X [] v5 w' (h5.fr hx) (by omega) hXb.2
  refine At.skip ?_
  repeat refine At.seq ?_
  refine At.region tab_ok ?_
  conv => whnf
  refine ans_call b21 rfl (fun w' hw => check_c St M W P X c [] v1 v2 v3 v4 v5 v6 w' (h1.fr hw.fr) (h2.fr hw.fr) (h3.fr hw.fr) (h4.fr hw.fr) (h5.fr hw.fr) (h6.fr hw.fr) (by omega)) ?_
  conv => whnf
  repeat refine At.seq ?_
  refine At.regionG tab_ok ?_
  conv => whnf
  refine ans_call b23 rfl (fun w' hw => hsX w' hw.fr) ?_
  conv => whnf
  refine ans_call b23 rfl (fun w' hw => sum30_c X0 [] vx w' (slN _ (hw.row (id := 1) rfl) (by rw [hm0.1]; omega)) (by rw [hm0.1]; omega) hm0.2) ?_
  conv => whnf
  rw [decide_eq_true hle]
  conv => whnf
  by_cases hacc : Pl.checkE St M W P X c = 0
  · have heq : Pl.sumI X = Pl.sumI X0 := by
      have := Pl.best hacc hr0
      omega
    rw [decide_eq_true hacc]
    conv => whnf
    refine ans_call b23 rfl (fun w' hw => hsX w' hw.fr) ?_
    conv => whnf
    refine ans_call b23 rfl (fun w' hw => sum30_c X0 [] vx w' (slN _ (hw.row (id := 1) rfl) (by rw [hm0.1]; omega)) (by rw [hm0.1]; omega) hm0.2) ?_
    conv => whnf
    rw [decide_eq_true heq]
    conv => whnf
    refine ans_call b21 rfl (fun w' hw => check_c St M W P X c0 [] v1 v2 v3 v4 v5 vc w' (h1.fr hw.fr) (h2.fr hw.fr) (h3.fr hw.fr) (h4.fr hw.fr) (h5.fr hw.fr) (slB _ (hw.row (id := 2) rfl) hc0l) (by omega)) ?_
    conv => whnf
    refine ans_call b23 rfl (fun w' hw => hsX w' hw.fr) ?_
    conv => whnf
    refine ans_call b23 rfl (fun w' hw => sum30_c X0 [] vx w' (slN _ (hw.row (id := 1) rfl) (by rw [hm0.1]; omega)) (by rw [hm0.1]; omega) hm0.2) ?_
    conv => whnf
    repeat refine At.seq ?_
    refine At.ret (At.doneB tab_ok hB _ rfl fun w' hw => ⟨?_, hw.fr⟩)
    have e : decide (Pl.checkE St M W P X c0 = 0) = decide (Pl.sumI X = Pl.sumI X0) := by rw [Bool.eq_iff_iff]; simpa using hiff
    simp only [RV.den, SV.den, CV.den, e, beq_self_eq_true]
    rfl
  · rw [decide_eq_false hacc]
    conv => whnf
    refine ans_call b21 rfl (fun w' hw => check_c St M W P X c0 [] v1 v2 v3 v4 v5 vc w' (h1.fr hw.fr) (h2.fr hw.fr) (h3.fr hw.fr) (h4.fr hw.fr) (h5.fr hw.fr) (slB _ (hw.row (id := 2) rfl) hc0l) (by omega)) ?_
    conv => whnf
    refine ans_call b23 rfl (fun w' hw => hsX w' hw.fr) ?_
    conv => whnf
    refine ans_call b23 rfl (fun w' hw => sum30_c X0 [] vx w' (slN _ (hw.row (id := 1) rfl) (by rw [hm0.1]; omega)) (by rw [hm0.1]; omega) hm0.2) ?_
    conv => whnf
    repeat refine At.seq ?_
    refine At.ret (At.doneB tab_ok hB _ rfl fun w' hw => ⟨?_, hw.fr⟩)
    have e : decide (Pl.checkE St M W P X c0 = 0) = decide (Pl.sumI X = Pl.sumI X0) := by rw [Bool.eq_iff_iff]; simpa using hiff
    simp only [RV.den, SV.den, CV.den, e, beq_self_eq_true]
    rfl
end Go.Proofs.Ytjilbkioieicbaa


namespace Go.Proofs.Ytjilbkioieicbaa.planBest
open Go.ChangeShapes Go.WideShapes Go.ChangeAt Go.RowKit
set_option linter.unusedVariables false
theorem own : ownKnob Try.prog.godebug = none := by kernel_rfl
set_option maxRecDepth 100000 in
theorem lifted (os : Os) (started : os.Started) (H : Type) (enc : TypeId × Value → H) :
    ReturnsInHanded {} Try.checked os 3 .any (Rows.planBestSpec.pre6 enc Try.prog Try.f3 Rows.planBestRow.domain false) (Rows.planBestSpec.post enc Try.prog Try.f3 false true false false) := by
  refine returnsInHanded_of_change (C := Try.checked) own started (by kernel_rfl) Try.func3
    (ChangeSpec.witness6 (enc := enc) (C := Try.checked) false ⟨#[], #[.slice none 0 0, .slice none 0 0, .slice none 0 0, .slice none 0 0, .slice none 0 0, .slice none 0 0], []⟩ 8 (by kernel_rfl) (by kernel_rfl) (by kernel_rfl) (by kernel_rfl)) ?_
  intro W base args ds gs before hval0 hW hcnd _
  have hval : ∀ (j : Nat) t v, Try.f3.params[j]? = some t → args[j]? = some v → Value.okWide Try.prog W .any base t v := hval0
  have hW' := hW
  obtain ⟨p, q, hA0, hV, rfl, hfz, hnd⟩ := hW
  have hA : DataW.TrodAll enc Try.prog W 0 (fun _ => true) true Try.f3.params.toList args.toList ds p := hA0
  rw [Try.params3] at hA hval
  obtain ⟨v0, vs0, d0, ds0, p0, q0, hargs, rfl, rfl, h0, r0⟩ := trodAll_cons hA
  obtain ⟨v1, vs1, d1, ds1, p1, q1, rfl, rfl, rfl, h1, r1⟩ := trodAll_cons r0
  obtain ⟨v2, vs2, d2, ds2, p2, q2, rfl, rfl, rfl, h2, r2⟩ := trodAll_cons r1
  obtain ⟨v3, vs3, d3, ds3, p3, q3, rfl, rfl, rfl, h3, r3⟩ := trodAll_cons r2
  obtain ⟨v4, vs4, d4, ds4, p4, q4, rfl, rfl, rfl, h4, r4⟩ := trodAll_cons r3
  obtain ⟨v5, vs5, d5, ds5, p5, q5, rfl, rfl, rfl, h5, r5⟩ := trodAll_cons r4
  obtain ⟨rfl, rfl, rfl⟩ := trodAll_nil r5
  obtain rfl : args = #[v0, v1, v2, v3, v4, v5] := by cases args; simp_all
  obtain ⟨rfl, rfl⟩ := trodVars_none hV
  have k0 := h0
  have lt0 : ∀ x ∈ p0, x.block < W.heap.size := fun x hx => hW'.lt x (by simp [hx])
  obtain ⟨l0, s0⟩ := ints30_open (okWide_slice u22 (hval 0 22 v0 rfl rfl)) h0
  have k1 := h1
  have lt1 : ∀ x ∈ p1, x.block < W.heap.size := fun x hx => hW'.lt x (by simp [hx])
  obtain ⟨l1, s1⟩ := meets30_open (okWide_slice u23 (hval 1 23 v1 rfl rfl)) h1
  have k2 := h2
  have lt2 : ∀ x ∈ p2, x.block < W.heap.size := fun x hx => hW'.lt x (by simp [hx])
  obtain ⟨l2, s2⟩ := wants30_open (okWide_slice u24 (hval 2 24 v2 rfl rfl)) h2
  have k3 := h3
  have lt3 : ∀ x ∈ p3, x.block < W.heap.size := fun x hx => hW'.lt x (by simp [hx])
  obtain ⟨l3, s3⟩ := passes30_open (okWide_slice u25 (hval 3 25 v3 rfl rfl)) h3
  have k4 := h4
  have lt4 : ∀ x ∈ p4, x.block < W.heap.size := fun x hx => hW'.lt x (by simp [hx])
  obtain ⟨l4, s4⟩ := ints30_open (okWide_slice u22 (hval 4 22 v4 rfl rfl)) h4
  have k5 := h5
  have lt5 : ∀ x ∈ p5, x.block < W.heap.size := fun x hx => hW'.lt x (by simp [hx])
  obtain ⟨l5, s5⟩ := bools30_open (okWide_slice u26 (hval 5 26 v5 rfl rfl)) h5
  clear hA0 hval0
  simp only [List.append_nil] at hW'
  refine (pbest_c l0 l1 l2 l3 l4 l5 v0 v1 v2 v3 v4 v5 W s0 s1 s2 s3 s4 s5).mono fun e W' ⟨he, hx⟩ => ?_
  subst he
  exact ⟨_, rfl, _, _, _, [], _, [], hW', trodAll_cons_mk (shut_bool u4 _) trodAll_mk0, (trodAll_cons_mk (Below.trod laid (by kernel_rfl) (of_decide_eq_true (by kernel_rfl)) k0 hx.below lt0) (trodAll_cons_mk (Below.trod laid (by kernel_rfl) (of_decide_eq_true (by kernel_rfl)) k1 hx.below lt1) (trodAll_cons_mk (Below.trod laid (by kernel_rfl) (of_decide_eq_true (by kernel_rfl)) k2 hx.below lt2) (trodAll_cons_mk (Below.trod laid (by kernel_rfl) (of_decide_eq_true (by kernel_rfl)) k3 hx.below lt3) (trodAll_cons_mk (Below.trod laid (by kernel_rfl) (of_decide_eq_true (by kernel_rfl)) k4 hx.below lt4) (trodAll_cons_mk (Below.trod laid (by kernel_rfl) (of_decide_eq_true (by kernel_rfl)) k5 hx.below lt5) trodAll_mk0)))))), rfl, hx.below.frame _, fun h => by cases h⟩

theorem over : Rows.planBestRow.holds Try.pinned (OpenSpec.ofChange Rows.planBestSpec) :=
  OpenClaim.holds_of_wide 3 Try.f3 rfl rfl rfl rfl rfl rfl rfl ⟨rfl, rfl, rfl, rfl, rfl⟩ rfl rfl rfl rfl rfl (by kernel_rfl) Try.func3 (by kernel_rfl)
    (of_decide_eq_true (by kernel_rfl)) (by unfold Func.isWrapper; first | (rw [if_pos (by decide +kernel)]; kernel_rfl) | (rw [if_neg (by decide +kernel)]; exact ⟨rfl, rfl⟩))
    (fun os started H enc _ => lifted os started H enc)

/-- The statement. -/
theorem proved : Rows.PlanBestSaid :=
  over
#print axioms proved
end Go.Proofs.Ytjilbkioieicbaa.planBest

