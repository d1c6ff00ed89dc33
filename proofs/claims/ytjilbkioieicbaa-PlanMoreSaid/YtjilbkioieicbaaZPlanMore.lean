/- The law PlanMore: for every input the call returns true and the arguments read as before; no condition. -/
import Derived.Test.YtjilbkioieicbaaMO
import Derived.Test.YtjilbkioieicbaaMP
import Derived.Test.YtjilbkioieicbaaRows
import Derived.WalkKit
import Derived.ProofKit
import Derived.OpenShut
import Derived.Carry
/- The law PlanBest: its call. -/
namespace Go.Proofs.Ytjilbkioieicbaa
open Go.Vc Rt
set_option linter.unusedVariables false
set_option linter.unusedSimpArgs false
theorem few3_spec {a b c : Nat} (h : few3 a b c = true) : a ≤ 6 ∧ b ≤ 8 ∧ c ≤ 8 := by
  simp only [few3, Bool.and_eq_true, decide_eq_true_eq] at h; omega
theorem few6_spec {a b c d e f : Nat} (h : few6 a b c d e f = true) : (a ≤ 6 ∧ b ≤ 8 ∧ c ≤ 8) ∧ d ≤ 8 ∧ e ≤ 8 ∧ f ≤ 40 := by
  simp only [few6, Bool.and_eq_true, decide_eq_true_eq] at h
  exact ⟨few3_spec h.1.1.1, h.1.1.2, h.1.2, h.2⟩
theorem check_iff {St : List Int} {M : List Pl.Meet} {W : List Pl.Want} {P P0 : List Pl.Pass} {X X0 r : List Int} {c0 : List Bool} (h0 : Pl.checkE St M W P0 X0 c0 = 0) (hr : Pl.runAll St M W P X = (0, r)) : Pl.checkE St M W P X c0 = 0 ↔ Pl.sumI X = Pl.sumI X0 := by
  unfold Pl.checkE at h0 ⊢
  rw [hr]
  split at h0
  · split at h0
    · rename_i hc
      simp only [if_true]
      constructor
      · intro h
        split at h
        · rename_i hc2; omega
        · simp at h
      · intro h
        rw [if_pos ⟨hc.1, hc.2.1, hc.2.2.1, by omega⟩]
    · simp at h0
  · rename_i h1; exact (h1 h0).elim
theorem pbest_c (St : List Int) (M : List Pl.Meet) (W : List Pl.Want) (P : List Pl.Pass) (X : List Int) (c : List Bool) (v1 v2 v3 v4 v5 v6 : Value) (w : World) (h1 : SlOf intT [] w v1 St) (h2 : SlOf meT [] w v2 M) (h3 : SlOf waT [] w v3 W) (h4 : SlOf paT [] w v4 P) (h5 : SlOf intT [] w v5 X) (h6 : SlOf boolT [] w v6 c) :
    Ans Try.prog 3 [v1, v2, v3, v4, v5, v6] (.b true) w := by
  refine calls_plainB [.x v1, .x v2, .x v3, .x v4, .x v5, .x v6] Try.func3 rfl rfl (Nat.le_of_ble_eq_true rfl) rfl fun B hB => ?_
  repeat refine At.seq ?_
  refine At.region tab_ok ?_
  conv => whnf
  repeat refine At.seq ?_
  refine At.region tab_ok ?_
  conv => whnf
  refine ans_call b17 rfl (fun w' hw => small30_c w') ?_
  conv => whnf
  repeat refine At.seq ?_
  refine At.regionG tab_ok ?_
  conv => whnf
  refine ans_call b18 rfl (fun w' hw => few6_c St M W P X c v1 v2 v3 v4 v5 v6 w' (h1.fr hw.fr) (h2.fr hw.fr) (h3.fr hw.fr) (h4.fr hw.fr) (h5.fr hw.fr) (h6.fr hw.fr)) ?_
  conv => whnf
  cases hfew : few6 St.length M.length W.length P.length X.length c.length
  · conv => whnf
    repeat refine At.seq ?_
    refine At.cond (t := true) rfl (fun hq => ?_) (fun hq => by cases hq)
    repeat refine At.seq ?_
    refine At.region tab_ok ?_
    conv => whnf
    repeat refine At.seq ?_
    refine At.ret (At.doneB tab_ok hB _ rfl fun w' hw => ⟨rfl, hw.fr⟩)
  obtain ⟨⟨f1, f2, f3⟩, f4, f5, f6⟩ := few6_spec hfew
  conv => whnf
  refine ans_call b19 rfl (fun w' hw => right_pc St M W [] v1 v2 v3 w' (h1.fr hw.fr) (h2.fr hw.fr) (h3.fr hw.fr)) ?_
  conv => whnf
  cases hR : Pl.rightB St M W
  · conv => whnf
    repeat refine At.seq ?_
    refine At.cond (t := true) rfl (fun hq => ?_) (fun hq => by cases hq)
    repeat refine At.seq ?_
    refine At.region tab_ok ?_
    conv => whnf
    repeat refine At.seq ?_
    refine At.ret (At.doneB tab_ok hB _ rfl fun w' hw => ⟨rfl, hw.fr⟩)
  conv => whnf
  repeat refine At.seq ?_
  refine At.cond (t := false) rfl (fun hq => by cases hq) (fun hq => At.skip ?_)
  repeat refine At.seq ?_
  refine At.region tab_ok ?_
  conv => whnf
  refine ansE_call b20 planG_rd (fun w' hw => plan_e St M W [] v1 v2 v3 w' (h1.fr hw.fr) (h2.fr hw.fr) (h3.fr hw.fr)) ?_
  rintro rds ⟨P0, X0, c0, er0, hp0, rfl⟩
  obtain ⟨hch, rfl⟩ := plan_ok1 hp0 hR
  have hm0 := check_met hch
  have hc0 := check_cut hch
  have hc0l : c0.length ≤ 1000000 := by unfold Pl.nodesN at hc0; omega
  obtain ⟨r0, hr0⟩ := Pl.check_run hch
  have hP0 : P0.length ≤ 1000000 := by
    obtain ⟨_, hf, _⟩ := Pl.runAll_ok hr0
    simp only [Pl.formedB, Bool.and_eq_true] at hf
    have key : ∀ (Q : List Pl.Pass) (last : Int), Pl.formP M last Q = true → -1 ≤ last → last < M.length → (Q.length : Int) ≤ M.length - last := by
      intro Q
      induction Q with
      | nil => intro last _ h0 h1; simp; omega
      | cons x Q ih =>
        intro last h h0 h1
        simp only [Pl.formP, Bool.and_eq_true, decide_eq_true_eq] at h
        have := ih x.meet h.2 (by omega) (by omega)
        simp only [List.length_cons]; omega
    have := key P0 (-1) hf.2 (by omega) (by omega)
    omega
  conv => whnf
  intro vp
  conv => whnf
  intro vx
  conv => whnf
  intro vc
  conv => whnf
  repeat refine At.seq ?_
  refine At.regionG tab_ok ?_
  conv => whnf
  refine ans_call b21 (r := .i 0) rfl (fun w' hw => by
    have := check_c St M W P0 X0 c0 [] v1 v2 v3 vp vx vc w' (h1.fr hw.fr) (h2.fr hw.fr) (h3.fr hw.fr) (slP _ (hw.row (id := 0) rfl) hP0) (slN _ (hw.row (id := 1) rfl) (by rw [hm0.1]; omega)) (slB _ (hw.row (id := 2) rfl) hc0l) (by omega)
    rw [hch] at this
    exact this) ?_
  conv => whnf
  repeat refine At.seq ?_
  refine At.cond (t := false) rfl (fun hq => by cases hq) (fun hq => At.skip ?_)
  repeat refine At.seq ?_
  refine At.region tab_ok ?_
  conv => whnf
  refine ansR_call b22 (rdIP _ _) (fun w' hw => run_c St M W P X [] v1 v2 v3 v4 v5 w' (h1.fr hw.fr) (h2.fr hw.fr) (h3.fr hw.fr) (h4.fr hw.fr) (h5.fr hw.fr) (by omega)) ?_
  intro vr
  conv => whnf
  repeat refine At.seq ?_
  refine At.region tab_ok ?_
  conv => whnf
  repeat refine At.seq ?_
  refine At.cond rfl (fun hq => ?_) (fun hq => ?_)
  · repeat refine At.seq ?_
    refine At.region tab_ok ?_
    conv => whnf
    repeat refine At.seq ?_
    refine At.ret (At.doneB tab_ok hB _ rfl fun w' hw => ⟨rfl, hw.fr⟩)
  have hz : (Pl.runAll St M W P X).1 = 0 := by simpa using hq
  obtain ⟨r, hr⟩ := Pl.runAll_zero hz
  have hXb : X.length = W.length ∧ ∀ x ∈ X, 0 ≤ x ∧ x ≤ 1099511627776 := by
    obtain ⟨_, hf, _⟩ := Pl.runAll_ok hr
    have R := Pl.rightB_iff.1 hR
    simp only [Pl.formedB, Bool.and_eq_true] at hf
    have hl := (Pl.metB_iff.1 hf.1).1
    refine ⟨hl, fun x hx => ?_⟩
    obtain ⟨i, hi, e⟩ := List.getElem_of_mem hx
    obtain ⟨y, hy⟩ : ∃ y, W[i]? = some y := ⟨_, List.getElem?_eq_getElem (by omega)⟩
    have a1 := (Pl.metB_iff.1 hf.1).2 i y x hy (by rw [List.getElem?_eq_getElem hi, e])
    have a2 := (R.want y (List.mem_of_getElem? hy)).2.2
    unfold Pl.maxC at a2
    omega
  have hle := Pl.best hch hr
  have hiff := check_iff hch hr
  have hsX : ∀ w', Ext w w' → Ans Try.prog 23 [v5] (.i (Pl.sumI X)) w' := fun w' hx => sum30_c X [] v5 w' (h5.fr hx) (by omega) hXb.2
  refine At.skip ?_
  repeat refine At.seq ?_
  refine At.region tab_ok ?_
  conv => whnf
  refine ans_call b21 rfl (fun w' hw => check_c St M W P X c [] v1 v2 v3 v4 v5 v6 w' (h1.fr hw.fr) (h2.fr hw.fr) (h3.fr hw.fr) (h4.fr hw.fr) (h5.fr hw.fr) (h6.fr hw.fr) (by omega)) ?_
  conv => whnf
  repeat refine At.seq ?_
  refine At.regionG tab_ok ?_
  conv => whnf
  refine ans_call b23 rfl (fun w' hw => hsX w' hw.fr) ?_
  conv => whnf
  refine ans_call b23 rfl (fun w' hw => sum30_c X0 [] vx w' (slN _ (hw.row (id := 1) rfl) (by rw [hm0.1]; omega)) (by rw [hm0.1]; omega) hm0.2) ?_
  conv => whnf
  rw [decide_eq_true hle]
  conv => whnf
  by_cases hacc : Pl.checkE St M W P X c = 0
  · have heq : Pl.sumI X = Pl.sumI X0 := by
      have := Pl.best hacc hr0
      omega
    rw [decide_eq_true hacc]
    conv => whnf
    refine ans_call b23 rfl (fun w' hw => hsX w' hw.fr) ?_
    conv => whnf
    refine ans_call b23 rfl (fun w' hw => sum30_c X0 [] vx w' (slN _ (hw.row (id := 1) rfl) (by rw [hm0.1]; omega)) (by rw [hm0.1]; omega) hm0.2) ?_
    conv => whnf
    rw [decide_eq_true heq]
    conv => whnf
    refine ans_call b21 rfl (fun w' hw => check_c St M W P X c0 [] v1 v2 v3 v4 v5 vc w' (h1.fr hw.fr) (h2.fr hw.fr) (h3.fr hw.fr) (h4.fr hw.fr) (h5.fr hw.fr) (slB _ (hw.row (id := 2) rfl) hc0l) (by omega)) ?_
    conv => whnf
    refine ans_call b23 rfl (fun w' hw => hsX w' hw.fr) ?_
    conv => whnf
    refine ans_call b23 rfl (fun w' hw => sum30_c X0 [] vx w' (slN _ (hw.row (id := 1) rfl) (by rw [hm0.1]; omega)) (by rw [hm0.1]; omega) hm0.2) ?_
    conv => whnf
    repeat refine At.seq ?_
    refine At.ret (At.doneB tab_ok hB _ rfl fun w' hw => ⟨?_, hw.fr⟩)
    have e : decide (Pl.checkE St M W P X c0 = 0) = decide (Pl.sumI X = Pl.sumI X0) := by rw [Bool.eq_iff_iff]; simpa using hiff
    simp only [RV.den, SV.den, CV.den, e, beq_self_eq_true]
    rfl
  · rw [decide_eq_false hacc]
    conv => whnf
    refine ans_call b21 rfl (fun w' hw => check_c St M W P X c0 [] v1 v2 v3 v4 v5 vc w' (h1.fr hw.fr) (h2.fr hw.fr) (h3.fr hw.fr) (h4.fr hw.fr) (h5.fr hw.fr) (slB _ (hw.row (id := 2) rfl) hc0l) (by omega)) ?_
    conv => whnf
    refine ans_call b23 rfl (fun w' hw => hsX w' hw.fr) ?_
    conv => whnf
    refine ans_call b23 rfl (fun w' hw => sum30_c X0 [] vx w' (slN _ (hw.row (id := 1) rfl) (by rw [hm0.1]; omega)) (by rw [hm0.1]; omega) hm0.2) ?_
    conv => whnf
    repeat refine At.seq ?_
    refine At.ret (At.doneB tab_ok hB _ rfl fun w' hw => ⟨?_, hw.fr⟩)
    have e : decide (Pl.checkE St M W P X c0 = 0) = decide (Pl.sumI X = Pl.sumI X0) := by rw [Bool.eq_iff_iff]; simpa using hiff
    simp only [RV.den, SV.den, CV.den, e, beq_self_eq_true]
    rfl
end Go.Proofs.Ytjilbkioieicbaa

/- The law PlanRuns: its call. -/
namespace Pl
theorem runAll_err {S : List Int} {M : List Meet} {W : List Want} {P : List Pass} {X : List Int} (h : (runAll S M W P X).1 ≠ 0) : (runAll S M W P X).2 = [] ∧ ((runAll S M W P X).1 = 1 ↔ rightB S M W = false) := by
  unfold runAll at h ⊢
  cases h1 : rightB S M W
  · simp
  · cases h2 : formedB M W P X
    · simp
    · simp only [h1, h2, cond_true] at h ⊢
      split at h
      · simp
      · simp at h
theorem lessX_append {k : Nat} {M : List Meet} : ∀ {A : List Want} {B : List Int} {w : Want} {x : Int}, B.length = A.length → lessX k M (A ++ [w]) (B ++ [x]) = lessX k M A B ++ [match M[k]? with | some m => if m.day ≤ w.day then 0 else x | none => x]
  | [], [], w, x, _ => rfl
  | [], _ :: _, w, x, h => by simp at h
  | _ :: _, [], w, x, h => by simp at h
  | a :: A, b :: B, w, x, h => by simp only [List.cons_append, lessX, lessX_append (A := A) (B := B) (by simpa using h)]
end Pl
namespace Go.Proofs.Ytjilbkioieicbaa
open Go.Vc Rt
set_option linter.unusedVariables false
set_option linter.unusedSimpArgs false
theorem byte30 {n : Int} (h : (Lit.int .u8 n).wf = true) : 0 ≤ n ∧ n ≤ 255 := by
  simp only [Lit.wf, Bool.and_eq_true, decide_eq_true_eq] at h
  exact ⟨h.1, h.2⟩
theorem slNil {α : Type} {T : Ty α} {w : World} : SlOf T [] w (.slice none 0 0) [] :=
  ⟨⟨none, 0, 0, rfl, fun _ => ⟨rfl, rfl⟩, Nat.le_refl _⟩, rfl, by simp, fun a n c e => (by cases e), fun i x hx => (by simp at hx)⟩
theorem run_met {St : List Int} {M : List Pl.Meet} {W : List Pl.Want} {P : List Pl.Pass} {X r : List Int} (hr : Pl.runAll St M W P X = (0, r)) : X.length = W.length ∧ ∀ x ∈ X, 0 ≤ x ∧ x ≤ 1099511627776 := by
  obtain ⟨hR, hf, _⟩ := Pl.runAll_ok hr
  have R := Pl.rightB_iff.1 hR
  simp only [Pl.formedB, Bool.and_eq_true] at hf
  have hl := (Pl.metB_iff.1 hf.1).1
  refine ⟨hl, fun x hx => ?_⟩
  obtain ⟨i, hi, e⟩ := List.getElem_of_mem hx
  obtain ⟨y, hy⟩ : ∃ y, W[i]? = some y := ⟨_, List.getElem?_eq_getElem (by omega)⟩
  have a1 := (Pl.metB_iff.1 hf.1).2 i y x hy (by rw [List.getElem?_eq_getElem hi, e])
  have a2 := (R.want y (List.mem_of_getElem? hy)).2.2
  unfold Pl.maxC at a2
  omega
theorem sumI_ge {l : List Int} (h : ∀ x ∈ l, 0 ≤ x) : ∀ x ∈ l, x ≤ Pl.sumI l := by
  induction l with
  | nil => intro x hx; cases hx
  | cons y l ih =>
    intro x hx
    have h1 := Pl.sumI_nonneg (S := l) fun z hz => h z (by simp [hz])
    have h2 := h y (by simp)
    simp only [Pl.sumI]
    rcases List.mem_cons.1 hx with rfl | hx
    · omega
    · have := ih (fun z hz => h z (by simp [hz])) x hx; omega
theorem set_same {α : Type} {l : List α} {i : Nat} {x : α} (h : l[i]? = some x) : l.set i x = l := by
  obtain ⟨hi, e⟩ := List.getElem?_eq_some_iff.1 h
  rw [← e, List.set_getElem_self]
theorem runs_c (St : List Int) (M : List Pl.Meet) (W : List Pl.Want) (P : List Pl.Pass) (X : List Int) (n : Int) (v1 v2 v3 v4 v5 : Value) (w : World) (h1 : SlOf intT [] w v1 St) (h2 : SlOf meT [] w v2 M) (h3 : SlOf waT [] w v3 W) (h4 : SlOf paT [] w v4 P) (h5 : SlOf intT [] w v5 X) (hn : 0 ≤ n ∧ n ≤ 255) :
    Ans Try.prog 4 [v1, v2, v3, v4, v5, .int .u8 n] (.b true) w := by
  have l1 := h1.len
  have l2 := h2.len
  have l3 := h3.len
  have l4 := h4.len
  have l5 := h5.len
  refine calls_plainB [.x v1, .x v2, .x v3, .x v4, .x v5, .x (.int .u8 n)] Try.func4 rfl rfl (Nat.le_of_ble_eq_true rfl) rfl fun B hB => ?_
  repeat refine At.seq ?_
  refine At.region tab_ok ?_
  conv => whnf
  repeat refine At.seq ?_
  refine At.region tab_ok ?_
  conv => whnf
  refine ans_call b17 rfl (fun w' hw => small30_c w') ?_
  conv => whnf
  repeat refine At.seq ?_
  refine At.region tab_ok ?_
  conv => whnf
  refine ans_call b18 rfl (fun w' hw => few6_c St M W P X [] v1 v2 v3 v4 v5 (.slice none 0 0) w' (h1.fr hw.fr) (h2.fr hw.fr) (h3.fr hw.fr) (h4.fr hw.fr) (h5.fr hw.fr) slNil) ?_
  conv => whnf
  repeat refine At.seq ?_
  refine At.cond rfl (fun hq => ?_) (fun hq => ?_)
  · repeat refine At.seq ?_
    refine At.region tab_ok ?_
    conv => whnf
    repeat refine At.seq ?_
    refine At.ret (At.doneB tab_ok hB _ rfl fun w' hw => ⟨rfl, hw.fr⟩)
  have hfew : few6 St.length M.length W.length P.length X.length 0 = true := by simpa using hq
  obtain ⟨⟨f1, f2, f3⟩, f4, f5, f6⟩ := few6_spec hfew
  refine At.skip ?_
  repeat refine At.seq ?_
  refine At.region tab_ok ?_
  conv => whnf
  refine ansR_call b22 (rdIP _ _) (fun w' hw => run_c St M W P X [] v1 v2 v3 v4 v5 w' (h1.fr hw.fr) (h2.fr hw.fr) (h3.fr hw.fr) (h4.fr hw.fr) (h5.fr hw.fr) (by omega)) ?_
  intro vl
  conv => whnf
  repeat refine At.seq ?_
  refine At.region tab_ok ?_
  conv => whnf
  repeat refine At.seq ?_
  refine At.cond rfl (fun hq => ?_) (fun hq => ?_)
  · have hne : (Pl.runAll St M W P X).1 ≠ 0 := by simpa using hq
    obtain ⟨e2, e1⟩ := Pl.runAll_err hne
    rw [e2]
    repeat refine At.seq ?_
    refine At.regionG tab_ok ?_
    conv => whnf
    refine ⟨rfl, ?_⟩
    conv => whnf
    refine ans_call b19 rfl (fun w' hw => right_pc St M W [] v1 v2 v3 w' (h1.fr hw.fr) (h2.fr hw.fr) (h3.fr hw.fr)) ?_
    conv => whnf
    repeat refine At.seq ?_
    refine At.ret (At.doneB tab_ok hB _ rfl fun w' hw => ⟨?_, hw.fr⟩)
    have e : decide ((Pl.runAll St M W P X).1 = 1) = !Pl.rightB St M W := by rw [Bool.eq_iff_iff]; simpa using e1
    simp only [RV.den, SV.den, CV.den, e, beq_self_eq_true]
    rfl
  have hz : (Pl.runAll St M W P X).1 = 0 := by simpa using hq
  obtain ⟨r, hr⟩ := Pl.runAll_zero hz
  have hr2 : (Pl.runAll St M W P X).2 = r := by rw [hr]
  rw [hr2]
  obtain ⟨hR, _, _⟩ := Pl.runAll_ok hr
  have R := Pl.rightB_iff.1 hR
  obtain ⟨hrl, hrs, hrn⟩ := Pl.run_left hr
  have hXb := run_met hr
  have hsum := R.sum
  unfold Pl.maxC at hsum
  have hX0 := Pl.sumI_nonneg (S := X) fun x hx => (hXb.2 x hx).1
  have hr0 := Pl.sumI_nonneg hrn
  have hSb : ∀ x ∈ St, 0 ≤ x ∧ x ≤ 1099511627776 := fun x hx => ⟨R.s0 x hx, by have := sumI_ge R.s0 x hx; omega⟩
  have hrb : ∀ x ∈ r, 0 ≤ x ∧ x ≤ 1099511627776 := fun x hx => ⟨hrn x hx, by have := sumI_ge hrn x hx; omega⟩
  refine At.skip ?_
  repeat refine At.seq ?_
  refine At.regionG tab_ok ?_
  conv => whnf
  refine ⟨rfl, ?_⟩
  conv => whnf
  refine ⟨h1.sl, ?_⟩
  conv => whnf
  rw [decide_eq_true (show (((r.map encI).length : Nat) : Int) = slen v1 by rw [List.length_map]; omega)]
  conv => whnf
  refine ans_call b23 rfl (fun w' hw => sum30_c r [] vl w' (slN _ (hw.row (id := 0) rfl) (by omega)) (by omega) hrb) ?_
  conv => whnf
  refine ans_call b23 rfl (fun w' hw => sum30_c X [] v5 w' (h5.fr hw.fr) (by omega) hXb.2) ?_
  conv => whnf
  refine ⟨⟨by omega, by omega⟩, ?_⟩
  conv => whnf
  refine ans_call b23 rfl (fun w' hw => sum30_c St [] v1 w' (h1.fr hw.fr) (by omega) hSb) ?_
  conv => whnf
  rw [decide_eq_true hrs]
  conv => whnf
  repeat refine At.seq ?_
  refine At.cond (t := false) rfl (fun hq => by cases hq) (fun hq => At.skip ?_)
  repeat refine At.seq ?_
  refine At.region tab_ok ?_
  conv => whnf
  repeat refine At.seq ?_
  refine At.block ?_
  refine At.loopH (fun i : Nat => { N := Try.f4.ntmps, sl := [(0, some (.x v1)), (1, some (.x v2)), (2, some (.x v3)), (3, some (.x v4)), (4, some (.x v5)), (5, some (.x ((.int .u8 n)))), (13, some (.b true)), (14, some (.s (.c (.o 0 vl)))), (16, some (.i i))], gl := [], hp := [(0, .row vl 3 1 (r.map encI))], S := [], ws := w }) (fun i : Nat => i ≤ r.length) (fun i : Nat => r.length - i)
    (fun w' hw => ⟨0, Nat.zero_le _, Le.of rfl rfl ⟨rfl, rfl, rfl, rfl, rfl, rfl, rfl, rfl, rfl, trivial⟩, hw.keep [0] rfl rfl rfl, ⟨⟨_, _, _, rfl⟩, trivial⟩, ⟨(nopI _).okH, trivial⟩⟩) ?_
  intro i hi
  repeat refine At.seq ?_
  refine At.region tab_ok ?_
  conv => whnf
  refine ⟨rfl, ?_⟩
  conv => whnf
  repeat refine At.seq ?_
  refine At.cond rfl (fun hc => At.skip ?_) (fun hc => At.exit ?_)
  · have hlt : i < r.length := by have := of_decide_eq_true hc; (try simp only [List.length_map] at this); omega
    obtain ⟨x, hx⟩ : ∃ x, r[i]? = some x := ⟨_, List.getElem?_eq_getElem hlt⟩
    have hx0 := hrn x (List.mem_of_getElem? hx)
    repeat refine At.seq ?_
    refine At.block ?_
    repeat refine At.seq ?_
    refine At.region tab_ok ?_
    conv => whnf
    refine ⟨rfl, ?_⟩
    conv => whnf
    refine ⟨by omega, ?_⟩
    conv => whnf
    refine ⟨by (try simp only [List.length_map]); omega, ?_⟩
    conv => whnf
    refine ⟨encI x, ⟨rfl, rfl, by omega, by rw [Int.toNat_natCast, List.getElem?_map, hx]; rfl⟩, ?_⟩
    conv => whnf
    repeat refine At.seq ?_
    refine At.cond rfl (fun hq => by have := of_decide_eq_true hq; omega) (fun hq => At.skip ?_)
    repeat refine At.seq ?_
    refine At.region tab_ok ?_
    conv => whnf
    refine ⟨⟨by omega, by omega⟩, ?_⟩
    conv => whnf
    refine At.nextH fun w' hw => ⟨i + 1, by omega, by omega, Le.of rfl rfl ⟨rfl, rfl, rfl, rfl, rfl, rfl, rfl, rfl, rfl, trivial⟩, hw.keep [0] rfl rfl rfl, ⟨⟨_, _, _, rfl⟩, trivial⟩, ⟨(nopI _).okH, trivial⟩⟩
  have hMr := R.m
  obtain ⟨k, hk⟩ : ∃ k : Nat, n % ((M.length : Int) + 1) = k := ⟨(n % ((M.length : Int) + 1)).toNat, by have := Int.emod_nonneg n (show ((M.length : Int) + 1) ≠ 0 by omega); omega⟩
  have hkM : k ≤ M.length := by have := Int.emod_lt_of_pos n (show (0 : Int) < (M.length : Int) + 1 by omega); omega
  repeat refine At.seq ?_
  refine At.region tab_ok ?_
  conv => whnf
  refine ⟨⟨by omega, by omega⟩, ?_⟩
  conv => whnf
  refine ⟨h2.sl, ?_⟩
  conv => whnf
  rw [l2]
  conv => whnf
  refine ⟨⟨by omega, by omega⟩, ?_⟩
  conv => whnf
  refine ⟨by omega, ?_⟩
  conv => whnf
  refine ⟨by omega, ?_⟩
  conv => whnf
  rw [hk]
  repeat refine At.seq ?_
  refine At.region tab_ok ?_
  conv => whnf
  repeat refine At.seq ?_
  refine At.region tab_ok ?_
  conv => whnf
  repeat refine At.seq ?_
  refine At.block ?_
  refine At.loopH (fun p : Nat × Value => { N := Try.f4.ntmps, sl := [(0, some (.x v1)), (1, some (.x v2)), (2, some (.x v3)), (3, some (.x v4)), (4, some (.x v5)), (5, some (.x ((.int .u8 n)))), (13, some (.b true)), (17, some (.i ((k : Int)))), (18, some (.s (.c (.o 1 p.2)))), (19, some (.i p.1))], gl := [], hp := [(1, .row p.2 38 4 ((Pl.early k (P.take p.1)).map encP)), (0, .row vl 3 1 (r.map encI))], S := [], ws := w }) (fun p : Nat × Value => p.1 ≤ P.length) (fun p : Nat × Value => P.length - p.1)
    (fun w' hw => ⟨(0, nilV), Nat.zero_le _, Le.of rfl rfl ⟨rfl, rfl, rfl, rfl, rfl, rfl, rfl, rfl, rfl, rfl, trivial⟩, hw.nil rfl rfl rfl, ⟨⟨_, _, _, rfl⟩, trivial⟩, ⟨(nopP _).okH, (nopI _).okH, trivial⟩⟩) ?_
  rintro ⟨i, vp⟩ hi
  simp only at hi ⊢
  have hel : (Pl.early k (P.take i)).length ≤ i := by
    have := List.length_filter_le (fun x : Pl.Pass => decide (x.meet < (k : Int))) (P.take i)
    rw [List.length_take] at this
    unfold Pl.early
    omega
  repeat refine At.seq ?_
  refine At.region tab_ok ?_
  conv => whnf
  refine ⟨h4.sl, ?_⟩
  conv => whnf
  repeat refine At.seq ?_
  refine At.cond rfl (fun hc => At.skip ?_) (fun hc => At.exit ?_)
  · have hlt : i < P.length := by have := of_decide_eq_true hc; (try simp only [List.length_map] at this); omega
    obtain ⟨x, hx⟩ : ∃ x, P[i]? = some x := ⟨_, List.getElem?_eq_getElem hlt⟩
    have hsn : Pl.early k (P.take (i + 1)) = Pl.early k (P.take i) ++ (if x.meet < (k : Int) then [x] else []) := by
      unfold Pl.early
      rw [List.take_add_one, hx, List.filter_append]
      congr 1
      simp only [Option.toList, List.filter_cons, List.filter_nil, decide_eq_true_eq]
    repeat refine At.seq ?_
    refine At.block ?_
    repeat refine At.seq ?_
    refine At.region tab_ok ?_
    conv => whnf
    refine ⟨by omega, ?_⟩
    conv => whnf
    refine ⟨by omega, ?_⟩
    conv => whnf
    refine ⟨[.i x.meet], fun w' hw => h4.load (n := 1) hw.fr hx rfl, ?_⟩
    conv => whnf
    repeat refine At.seq ?_
    refine At.cond rfl (fun hq => ?_) (fun hq => ?_)
    · have hlt' : x.meet < (k : Int) := of_decide_eq_true hq
      rw [if_pos hlt'] at hsn
      repeat refine At.seq ?_
      refine At.region tab_ok ?_
      conv => whnf
      refine ⟨by omega, ?_⟩
      conv => whnf
      refine ⟨by omega, ?_⟩
      conv => whnf
      refine ⟨encP x, fun w' hw => h4.load (n := 4) hw.fr hx rfl, ?_⟩
      conv => whnf
      intro u1
      conv => whnf
      refine ⟨rfl, ?_⟩
      conv => whnf
      refine ⟨⟨rfl, by rw [List.length_map]; show (_ + 1) * 32 ≤ _; omega⟩, ?_⟩
      conv => whnf
      intro v7
      conv => whnf
      have hsm : (Pl.early k (P.take i)).map encP ++ [encP x] = (Pl.early k (P.take (i + 1))).map encP := by rw [hsn, List.map_append]; rfl
      rw [show [CV.i x.meet, CV.i x.fr, CV.i x.to, CV.i x.n] = encP x from rfl, hsm]
      repeat refine At.seq ?_
      refine At.region tab_ok ?_
      conv => whnf
      refine ⟨⟨by omega, by omega⟩, ?_⟩
      conv => whnf
      refine At.nextH fun w' hw => ⟨(i + 1, v7), by simp only; omega, by simp only; omega, Le.of rfl rfl ⟨rfl, rfl, rfl, rfl, rfl, rfl, rfl, rfl, rfl, rfl, trivial⟩, hw.keep [1, 0] rfl rfl rfl, ⟨⟨_, _, _, rfl⟩, trivial⟩, ⟨(nopP _).okH, (nopI _).okH, trivial⟩⟩
    · have hlt' : ¬ x.meet < (k : Int) := of_decide_eq_false hq
      rw [if_neg hlt', List.append_nil] at hsn
      rw [← hsn]
      refine At.skip ?_
      repeat refine At.seq ?_
      refine At.region tab_ok ?_
      conv => whnf
      refine ⟨⟨by omega, by omega⟩, ?_⟩
      conv => whnf
      refine At.nextH fun w' hw => ⟨(i + 1, vp), by simp only; omega, by simp only; omega, Le.of rfl rfl ⟨rfl, rfl, rfl, rfl, rfl, rfl, rfl, rfl, rfl, rfl, trivial⟩, hw.keep [1, 0] rfl rfl rfl, ⟨⟨_, _, _, rfl⟩, trivial⟩, ⟨(nopP _).okH, (nopI _).okH, trivial⟩⟩
  have hke : i = P.length := by have := of_decide_eq_false hc; omega
  subst hke
  rw [List.take_length] at hel ⊢
  repeat refine At.seq ?_
  refine At.region tab_ok ?_
  conv => whnf
  intro u2
  conv => whnf
  refine ⟨X.map encI, ⟨fun w' hw => (h5.fr hw.fr).src (fun _ => rfl), nopI X⟩, ?_⟩
  conv => whnf
  refine ⟨⟨rfl, by simp; omega⟩, ?_⟩
  conv => whnf
  intro vs
  conv => whnf
  repeat refine At.seq ?_
  refine At.region tab_ok ?_
  conv => whnf
  have hXW : X.length = W.length := hXb.1
  obtain ⟨dk, hdk⟩ : ∃ d : Int, ∀ m, M[k]? = some m → m.day = d := by
    cases h : M[k]? with
    | none => exact ⟨0, fun m e => by cases e⟩
    | some m => exact ⟨m.day, fun m' e => by cases e; rfl⟩
  repeat refine At.seq ?_
  refine At.block ?_
  refine At.loopH (fun i : Nat => { N := Try.f4.ntmps, sl := [(0, some (.x v1)), (1, some (.x v2)), (2, some (.x v3)), (3, some (.x v4)), (4, some (.x v5)), (5, some (.x ((.int .u8 n)))), (13, some (.b true)), (17, some (.i ((k : Int)))), (18, some (.s (.c (.o 1 vp)))), (20, some (.s (.c (.o 2 vs)))), (21, some (.i i))], gl := [], hp := [(2, .row vs 3 1 ((Pl.lessX k M (W.take i) (X.take i) ++ X.drop i).map encI)), (1, .row vp 38 4 ((Pl.early k P).map encP)), (0, .row vl 3 1 (r.map encI))], S := [], ws := w }) (fun i : Nat => i ≤ W.length) (fun i : Nat => W.length - i)
    (fun w' hw => ⟨0, Nat.zero_le _, Le.of rfl rfl ⟨rfl, rfl, rfl, rfl, rfl, rfl, rfl, rfl, rfl, rfl, rfl, trivial⟩, hw.keep [2, 1, 0] rfl rfl rfl, ⟨⟨_, _, _, rfl⟩, ⟨_, _, _, rfl⟩, trivial⟩, ⟨(nopI _).okH, (nopP _).okH, (nopI _).okH, trivial⟩⟩) ?_
  intro i hi
  repeat refine At.seq ?_
  refine At.region tab_ok ?_
  conv => whnf
  refine ⟨h3.sl, ?_⟩
  conv => whnf
  repeat refine At.seq ?_
  refine At.cond rfl (fun hc => At.skip ?_) (fun hc => At.exit ?_)
  · have hlty : i < W.length := by have := of_decide_eq_true hc; (try simp only [List.length_map] at this); omega
    obtain ⟨y, hy⟩ : ∃ x, W[i]? = some x := ⟨_, List.getElem?_eq_getElem hlty⟩
    have hlt : i < X.length := by omega
    obtain ⟨x, hx⟩ : ∃ x, X[i]? = some x := ⟨_, List.getElem?_eq_getElem hlt⟩
    have hll : (Pl.lessX k M (W.take i) (X.take i)).length = i := by rw [Pl.lessX_len (by simp; omega)]; simp; omega
    have hsn : ∀ z, (match M[k]? with | some m => if m.day ≤ y.day then 0 else x | none => x) = z → (Pl.lessX k M (W.take i) (X.take i) ++ X.drop i).set i z = Pl.lessX k M (W.take (i + 1)) (X.take (i + 1)) ++ X.drop (i + 1) := by
      intro z hz
      rw [List.take_add_one, hy, List.take_add_one, hx]
      simp only [Option.toList]
      rw [Pl.lessX_append (by simp; omega), hz, List.set_append_right _ _ (by omega), hll, drop_cons' hx]
      simp
    repeat refine At.seq ?_
    refine At.block ?_
    repeat refine At.seq ?_
    refine At.draw tab_ok mixed (by kernel_rfl) ?_
    conv => whnf
    refine ⟨h2.sl, ?_⟩
    conv => whnf
    rw [l2]
    refine ⟨by simp only [gimp]; intro _; omega, ?_⟩
    conv => whnf
    refine ⟨by simp only [gimp]; intro _; omega, ?_⟩
    conv => whnf
    refine ⟨[.i y.day], by simp only [gimp]; intro _ w' hw; exact h3.load (n := 1) hw.fr hy rfl, ?_⟩
    conv => whnf
    refine ⟨by simp only [gimp]; intro _; omega, ?_⟩
    conv => whnf
    refine ⟨by simp only [gimp]; intro hq; have := of_decide_eq_true hq; omega, ?_⟩
    conv => whnf
    refine ⟨[.i dk], by
      simp only [gimp]
      intro hq w' hw
      have := of_decide_eq_true hq
      obtain ⟨m, hm⟩ : ∃ m, M[k]? = some m := ⟨_, List.getElem?_eq_getElem (by omega)⟩
      rw [← hdk m hm]
      exact h2.load (n := 1) hw.fr hm rfl, ?_⟩
    conv => whnf
    have hgx : (Pl.lessX k M (W.take i) (X.take i) ++ X.drop i)[i]? = some x := by rw [List.getElem?_append_right (by omega), hll, drop_cons' hx]; simp
    repeat refine At.seq ?_
    refine At.cond rfl (fun hq => ?_) (fun hq => ?_)
    · have hz : (match M[k]? with | some m => if m.day ≤ y.day then 0 else x | none => x) = 0 := by
        have hq2 : k < M.length ∧ dk ≤ y.day := by simpa using hq
        obtain ⟨m, hm⟩ : ∃ m, M[k]? = some m := ⟨_, List.getElem?_eq_getElem hq2.1⟩
        rw [hm]
        have := hdk m hm
        exact if_pos (by omega)
      repeat refine At.seq ?_
      refine At.region tab_ok ?_
      conv => whnf
      refine ⟨rfl, ?_⟩
      conv => whnf
      refine ⟨by omega, ?_⟩
      conv => whnf
      refine ⟨by rw [List.length_map, List.length_append, hll, List.length_drop]; omega, ?_⟩
      conv => whnf
      refine ⟨encI x, ⟨rfl, rfl, by omega, by rw [Int.toNat_natCast, List.getElem?_map, hgx]; rfl⟩, ?_⟩
      conv => whnf
      rw [map_set', Int.toNat_natCast, hsn 0 hz]
      repeat refine At.seq ?_
      refine At.region tab_ok ?_
      conv => whnf
      refine ⟨⟨by omega, by omega⟩, ?_⟩
      conv => whnf
      refine At.nextH fun w' hw => ⟨i + 1, by omega, by omega, Le.of rfl rfl ⟨rfl, rfl, rfl, rfl, rfl, rfl, rfl, rfl, rfl, rfl, rfl, trivial⟩, hw.keep [2, 1, 0] rfl rfl rfl, ⟨⟨_, _, _, rfl⟩, ⟨_, _, _, rfl⟩, trivial⟩, ⟨(nopI _).okH, (nopP _).okH, (nopI _).okH, trivial⟩⟩
    · have hz : (match M[k]? with | some m => if m.day ≤ y.day then 0 else x | none => x) = x := by
        cases hm : M[k]? with
        | none => rfl
        | some m =>
          have := hdk m hm
          have hkl := (List.getElem?_eq_some_iff.1 hm).1
          exact if_neg fun h => by
            have : ¬ (k < M.length ∧ dk ≤ y.day) := by simpa using hq
            exact this ⟨hkl, by omega⟩
      have hse := hsn x hz
      rw [set_same hgx] at hse
      rw [hse]
      refine At.skip ?_
      repeat refine At.seq ?_
      refine At.region tab_ok ?_
      conv => whnf
      refine ⟨⟨by omega, by omega⟩, ?_⟩
      conv => whnf
      refine At.nextH fun w' hw => ⟨i + 1, by omega, by omega, Le.of rfl rfl ⟨rfl, rfl, rfl, rfl, rfl, rfl, rfl, rfl, rfl, rfl, rfl, trivial⟩, hw.keep [2, 1, 0] rfl rfl rfl, ⟨⟨_, _, _, rfl⟩, ⟨_, _, _, rfl⟩, trivial⟩, ⟨(nopI _).okH, (nopP _).okH, (nopI _).okH, trivial⟩⟩
  have hie : i = W.length := by have := of_decide_eq_false hc; omega
  subst hie
  rw [List.take_length, show X.take W.length = X by rw [← hXW, List.take_length], show X.drop W.length = [] by rw [← hXW, List.drop_length], List.append_nil]
  obtain ⟨r1, hr1⟩ := Pl.runs_first hr hkM
  have hlx := Pl.lessX_len (k := k) (M := M) hXW
  repeat refine At.seq ?_
  refine At.region tab_ok ?_
  conv => whnf
  refine ⟨h2.sl, ?_⟩
  conv => whnf
  refine ⟨by omega, ?_⟩
  conv => whnf
  refine ⟨by omega, ?_⟩
  conv => whnf
  refine ⟨by omega, ?_⟩
  conv => whnf
  refine ansR_call b22 (rdIP _ _) (fun w' hw => run_c St (M.take k) W (Pl.early k P) (Pl.lessX k M W X) [] v1 _ v3 vp vs w' (h1.fr hw.fr) ((h2.fr hw.fr).begin rfl hkM) (h3.fr hw.fr) (slP _ (hw.row (id := 1) rfl) (by omega)) (slN _ (hw.row (id := 2) rfl) (by omega)) (by rw [List.length_take]; omega)) ?_
  intro vl2
  conv => whnf
  rw [hr1]
  repeat refine At.seq ?_
  refine At.region tab_ok ?_
  conv => whnf
  repeat refine At.seq ?_
  refine At.cond (t := false) rfl (fun hq => by cases hq) (fun hq => At.skip ?_)
  repeat refine At.seq ?_
  refine At.region tab_ok ?_
  conv => whnf
  refine ⟨h4.sl, ?_⟩
  conv => whnf
  repeat refine At.seq ?_
  refine At.cond rfl (fun hq => ?_) (fun hq => ?_)
  · repeat refine At.seq ?_
    refine At.region tab_ok ?_
    conv => whnf
    repeat refine At.seq ?_
    refine At.ret (At.doneB tab_ok hB _ rfl fun w' hw => ⟨rfl, hw.fr⟩)
  have hP0 : 0 < P.length := by
    have : ¬ slen v4 = 0 := by simpa using hq
    omega
  refine At.skip ?_
  repeat refine At.seq ?_
  refine At.region tab_ok ?_
  conv => whnf
  intro u3
  conv => whnf
  refine ⟨P.map encP, ⟨fun w' hw => (h4.fr hw.fr).src (fun _ => rfl), nopP P⟩, ?_⟩
  conv => whnf
  refine ⟨⟨rfl, by simp; omega⟩, ?_⟩
  conv => whnf
  intro vm
  conv => whnf
  obtain ⟨j, hj⟩ : ∃ j : Nat, n % (P.length : Int) = j := ⟨(n % (P.length : Int)).toNat, by have := Int.emod_nonneg n (show (P.length : Int) ≠ 0 by omega); omega⟩
  have hjP : j < P.length := by have := Int.emod_lt_of_pos n (show (0 : Int) < (P.length : Int) by omega); omega
  have hlt : j < P.length := hjP
  obtain ⟨x, hx⟩ : ∃ x, P[j]? = some x := ⟨_, List.getElem?_eq_getElem hlt⟩
  repeat refine At.seq ?_
  refine At.region tab_ok ?_
  conv => whnf
  refine ⟨⟨by omega, by omega⟩, ?_⟩
  conv => whnf
  refine ⟨h4.sl, ?_⟩
  conv => whnf
  rw [l4]
  conv => whnf
  refine ⟨by omega, ?_⟩
  conv => whnf
  refine ⟨by omega, ?_⟩
  conv => whnf
  rw [hj]
  repeat refine At.seq ?_
  refine At.region tab_ok ?_
  conv => whnf
  refine ans_call b23 rfl (fun w' hw => sum30_c St [] v1 w' (h1.fr hw.fr) (by omega) hSb) ?_
  conv => whnf
  refine ⟨⟨by omega, by omega⟩, ?_⟩
  conv => whnf
  refine ⟨rfl, ?_⟩
  conv => whnf
  refine ⟨by omega, ?_⟩
  conv => whnf
  refine ⟨by simp only [List.nil_append, List.length_map]; omega, ?_⟩
  conv => whnf
  refine ⟨encP x, ⟨rfl, rfl, by omega, by rw [List.nil_append, Int.toNat_natCast, List.getElem?_map, hx]; rfl⟩, ?_⟩
  conv => whnf
  have hst : ([] ++ P.map encP).set (j : Int).toNat [CV.i x.meet, CV.i x.fr, CV.i x.to, CV.i (Pl.sumI St + 1)] = (P.set j { x with n := Pl.sumI St + 1 }).map encP := by rw [List.nil_append, Int.toNat_natCast, List.map_set]; rfl
  rw [hst]
  have hgr := Pl.runs_great hr hx
  repeat refine At.seq ?_
  refine At.region tab_ok ?_
  conv => whnf
  refine ansR_call b22 (rdIP _ _) (fun w' hw => run_c St M W (P.set j { x with n := Pl.sumI St + 1 }) X [] v1 v2 v3 vm v5 w' (h1.fr hw.fr) (h2.fr hw.fr) (h3.fr hw.fr) (slP _ (hw.row (id := 4) rfl) (by rw [List.length_set]; omega)) (h5.fr hw.fr) (by omega)) ?_
  intro vl3
  conv => whnf
  generalize Pl.runAll St M W (P.set j { x with n := Pl.sumI St + 1 }) X = q at *
  obtain ⟨qe, ql⟩ := q
  simp only at hgr ⊢
  rcases hgr with rfl | rfl
  · repeat refine At.seq ?_
    refine At.regionG tab_ok ?_
    conv => whnf
    repeat refine At.seq ?_
    refine At.ret (At.doneB tab_ok hB _ rfl fun w' hw => ⟨rfl, hw.fr⟩)
  · repeat refine At.seq ?_
    refine At.regionG tab_ok ?_
    conv => whnf
    repeat refine At.seq ?_
    refine At.ret (At.doneB tab_ok hB _ rfl fun w' hw => ⟨rfl, hw.fr⟩)
end Go.Proofs.Ytjilbkioieicbaa

/- The law PlanMore: its call. -/
namespace Pl
theorem Wide.refl : ∀ M : List Meet, Wide M M
  | [] => .nil
  | _ :: M => .cons ⟨rfl, rfl, rfl, Int.le_refl _⟩ (Wide.refl M)
theorem Wide.set : ∀ {M : List Meet} {j : Nat} {m m' : Meet}, M[j]? = some m → Wider m m' → Wide M (M.set j m')
  | [], j, m, m', h, _ => by simp at h
  | x :: M, 0, m, m', h, hw => by simp at h; subst h; exact .cons hw (Wide.refl M)
  | x :: M, j + 1, m, m', h, hw => .cons ⟨rfl, rfl, rfl, Int.le_refl _⟩ (Wide.set (by simpa using h) hw)
theorem Wide.sorted {M M' : List Meet} (h : Wide M M') : sortedB M' = sortedB M := by
  induction h with
  | nil => rfl
  | cons h1 h2 ih =>
    cases h2 with
    | nil => rfl
    | cons h3 h4 =>
      simp only [sortedB] at ih ⊢
      rw [ih, h1.day, h3.day]
theorem right_wide {S : List Int} {M : List Meet} {W : List Want} {j : Nat} {m : Meet} {y : Int} (h : rightB S M W = true) (hm : M[j]? = some m) (hy : 0 ≤ y) : rightB S (M.set j { m with cap := min (m.cap + y) maxC }) W = true ∧ Wide M (M.set j { m with cap := min (m.cap + y) maxC }) := by
  have R := rightB_iff.1 h
  have hmo := R.meet m (List.mem_of_getElem? hm)
  have hw : Wide M (M.set j { m with cap := min (m.cap + y) maxC }) := Wide.set hm ⟨rfl, rfl, rfl, by have := hmo.1.c1; have := hmo.1.c0; simp only; omega⟩
  refine ⟨rightB_iff.2 ⟨R.p1, R.p2, by rw [hw.len]; exact R.m, R.w, R.s0, R.sum, fun x hx => ?_, R.want, by rw [hw.sorted]; exact R.sorted⟩, hw⟩
  rcases List.mem_or_eq_of_mem_set hx with hx | rfl
  · exact R.meet x hx
  · have := hmo.1.c0
    have : 0 ≤ maxC := by decide
    exact ⟨⟨hmo.1.a0, hmo.1.a1, hmo.1.b0, hmo.1.b1, hmo.1.ne, by simp only; omega, by simp only; omega⟩, hmo.2⟩
theorem right_nil {S : List Int} {M : List Meet} {W : List Want} (h : rightB S M W = true) : rightB S [] W = true := by
  have R := rightB_iff.1 h
  exact rightB_iff.2 ⟨R.p1, R.p2, by simp, R.w, R.s0, R.sum, fun x hx => (by cases hx), R.want, rfl⟩
end Pl
namespace Go.Proofs.Ytjilbkioieicbaa
open Go.Vc Rt
set_option linter.unusedVariables false
set_option linter.unusedSimpArgs false
theorem more_c (St : List Int) (M : List Pl.Meet) (W : List Pl.Want) (n y : Int) (la : Pl.Meet) (wa : Pl.Want) (v1 v2 v3 : Value) (w : World) (h1 : SlOf intT [] w v1 St) (h2 : SlOf meT [] w v2 M) (h3 : SlOf waT [] w v3 W) (hn : 0 ≤ n ∧ n ≤ 255) :
    Ans Try.prog 5 [v1, v2, v3, .int .u8 n, .int .i64 y, (RV.s (.agg (encM la))).den, (RV.s (.agg (encW wa))).den] (.b true) w := by
  have l1 := h1.len
  have l2 := h2.len
  have l3 := h3.len
  refine calls_plainB [.x v1, .x v2, .x v3, .x (.int .u8 n), .i y, .s (.agg (encM la)), .s (.agg (encW wa))] Try.func5 rfl rfl (Nat.le_of_ble_eq_true rfl) rfl fun B hB => ?_
  repeat refine At.seq ?_
  refine At.region tab_ok ?_
  conv => whnf
  intro b1
  conv => whnf
  intro b2
  conv => whnf
  repeat refine At.seq ?_
  refine At.region tab_ok ?_
  conv => whnf
  refine ans_call b17 rfl (fun w' hw => small30_c w') ?_
  conv => whnf
  repeat refine At.seq ?_
  refine At.regionG tab_ok ?_
  conv => whnf
  refine ⟨h1.sl, ?_⟩
  conv => whnf
  rw [l1]
  by_cases q1 : (5 : Int) < St.length
  · rw [decide_eq_true q1]
    conv => whnf
    repeat refine At.seq ?_
    refine At.cond (t := true) rfl (fun hq => ?_) (fun hq => by cases hq)
    repeat refine At.seq ?_
    refine At.region tab_ok ?_
    conv => whnf
    repeat refine At.seq ?_
    refine At.ret (At.doneB tab_ok hB _ rfl fun w' hw => ⟨rfl, hw.fr⟩)
  rw [decide_eq_false q1]
  conv => whnf
  refine ⟨h2.sl, ?_⟩
  conv => whnf
  rw [l2]
  by_cases q2 : (7 : Int) < M.length
  · rw [decide_eq_true q2]
    conv => whnf
    repeat refine At.seq ?_
    refine At.cond (t := true) rfl (fun hq => ?_) (fun hq => by cases hq)
    repeat refine At.seq ?_
    refine At.region tab_ok ?_
    conv => whnf
    repeat refine At.seq ?_
    refine At.ret (At.doneB tab_ok hB _ rfl fun w' hw => ⟨rfl, hw.fr⟩)
  rw [decide_eq_false q2]
  conv => whnf
  refine ⟨h3.sl, ?_⟩
  conv => whnf
  rw [l3]
  by_cases q3 : (7 : Int) < W.length
  · rw [decide_eq_true q3]
    conv => whnf
    repeat refine At.seq ?_
    refine At.cond (t := true) rfl (fun hq => ?_) (fun hq => by cases hq)
    repeat refine At.seq ?_
    refine At.region tab_ok ?_
    conv => whnf
    repeat refine At.seq ?_
    refine At.ret (At.doneB tab_ok hB _ rfl fun w' hw => ⟨rfl, hw.fr⟩)
  rw [decide_eq_false q3]
  conv => whnf
  by_cases q4 : y < 0
  · rw [decide_eq_true q4]
    conv => whnf
    repeat refine At.seq ?_
    refine At.cond (t := true) rfl (fun hq => ?_) (fun hq => by cases hq)
    repeat refine At.seq ?_
    refine At.region tab_ok ?_
    conv => whnf
    repeat refine At.seq ?_
    refine At.ret (At.doneB tab_ok hB _ rfl fun w' hw => ⟨rfl, hw.fr⟩)
  rw [decide_eq_false q4]
  conv => whnf
  by_cases q5 : (1000 : Int) < y
  · rw [decide_eq_true q5]
    conv => whnf
    repeat refine At.seq ?_
    refine At.cond (t := true) rfl (fun hq => ?_) (fun hq => by cases hq)
    repeat refine At.seq ?_
    refine At.region tab_ok ?_
    conv => whnf
    repeat refine At.seq ?_
    refine At.ret (At.doneB tab_ok hB _ rfl fun w' hw => ⟨rfl, hw.fr⟩)
  rw [decide_eq_false q5]
  conv => whnf
  refine ans_call b19 rfl (fun w' hw => right_pc St M W [] v1 v2 v3 w' (h1.fr hw.fr) (h2.fr hw.fr) (h3.fr hw.fr)) ?_
  conv => whnf
  cases hR : Pl.rightB St M W
  · conv => whnf
    repeat refine At.seq ?_
    refine At.cond (t := true) rfl (fun hq => ?_) (fun hq => by cases hq)
    repeat refine At.seq ?_
    refine At.region tab_ok ?_
    conv => whnf
    repeat refine At.seq ?_
    refine At.ret (At.doneB tab_ok hB _ rfl fun w' hw => ⟨rfl, hw.fr⟩)
  conv => whnf
  repeat refine At.seq ?_
  refine At.cond (t := false) rfl (fun hq => by cases hq) (fun hq => At.skip ?_)
  have R := Pl.rightB_iff.1 hR
  have hy : 0 ≤ y := by omega
  repeat refine At.seq ?_
  refine At.region tab_ok ?_
  conv => whnf
  refine ansE_call b20 planG_rd (fun w' hw => plan_e St M W [] v1 v2 v3 w' (h1.fr hw.fr) (h2.fr hw.fr) (h3.fr hw.fr)) ?_
  rintro rds ⟨P0, X0, c0, er0, hp0, rfl⟩
  obtain ⟨hch, rfl⟩ := plan_ok1 hp0 hR
  have hm0 := check_met hch
  conv => whnf
  intro vp
  conv => whnf
  intro vx
  conv => whnf
  intro vc
  conv => whnf
  repeat refine At.seq ?_
  refine At.region tab_ok ?_
  conv => whnf
  repeat refine At.seq ?_
  refine At.cond (t := false) rfl (fun hq => by cases hq) (fun hq => At.skip ?_)
  repeat refine At.seq ?_
  refine At.region tab_ok ?_
  conv => whnf
  intro u1
  conv => whnf
  refine ⟨St.map encI, ⟨fun w' hw => (h1.fr hw.fr).src (fun _ => rfl), nopI St⟩, ?_⟩
  conv => whnf
  refine ⟨⟨rfl, by simp; omega⟩, ?_⟩
  conv => whnf
  intro vr
  conv => whnf
  obtain ⟨k, hk⟩ : ∃ k : Nat, n % (St.length : Int) = k := ⟨(n % (St.length : Int)).toNat, by have := R.p1; have := Int.emod_nonneg n (show (St.length : Int) ≠ 0 by omega); omega⟩
  have hkS : k < St.length := by have := R.p1; have := Int.emod_lt_of_pos n (show (0 : Int) < (St.length : Int) by omega); omega
  have hlt : k < St.length := hkS
  obtain ⟨x, hx⟩ : ∃ x, St[k]? = some x := ⟨_, List.getElem?_eq_getElem hlt⟩
  have hlr : (([] ++ St.map encI).length : Int) = St.length := by simp
  have hS0 : (0 : Int) < St.length := by have := R.p1; omega
  have hk2 : (n % (([] ++ St.map encI).length : Int)).toNat = k := by rw [hlr, hk]; omega
  have hk3 : 0 ≤ n % (([] ++ St.map encI).length : Int) ∧ n % (([] ++ St.map encI).length : Int) < ([] ++ St.map encI).length := by rw [hlr, hk]; omega
  have hxb : x ≤ 1099511627776 ∧ 0 ≤ x := by
    have h1 := R.s0 x (List.mem_of_getElem? hx)
    have h2 := sumI_ge R.s0 x (List.mem_of_getElem? hx)
    have h3 := R.sum
    unfold Pl.maxC at h3
    omega
  have hst : ([] ++ St.map encI).set (n % (([] ++ St.map encI).length : Int)).toNat [CV.i (x + y)] = (St.set k (x + y)).map encI := by rw [hk2, List.nil_append, List.map_set]; rfl
  repeat refine At.seq ?_
  refine At.join (fun u : Unit => { N := Try.f5.ntmps, sl := [(0, some (.x v1)), (1, some (.x v2)), (2, some (.x v3)), (3, some (.x ((.int .u8 n)))), (4, some (.i y)), (12, some (.s (.c (.p 0 b1 0)))), (13, some (.s (.c (.p 1 b2 0)))), (15, some (.b true)), (17, some (.s (.c (.o 3 vx)))), (20, some (.s (.c (.o 5 vr))))], gl := [], hp := [(5, .row vr 3 1 ((St.set k (x + y)).map encI)), (3, .row vx 3 1 (X0.map encI)), (1, .box b2 40 (encW wa)), (0, .box b1 42 (encM la))], S := [], ws := w }) (fun u : Unit => True) ?_ ?_
  · repeat refine At.seq ?_
    refine At.planG tab_ok mixed [] (.take 0 (.take 1 (.take 2 (.take 3 (.take 6 (.take 7 (.take 8 (.take 9 (.take 14 (.br 4 (.take 5 (.br 10 (.take 11 (.br 12 (.br 13 (.take 15 (.br 16 (.br 17 (.done) (.nob)) (.nob))) (.nob)) (.nob))) (.nob))) (.br 10 (.take 11 (.br 4 (.take 5 (.br 12 (.br 13 (.take 15 (.br 16 (.br 17 (.done) (.nob)) (.nob))) (.nob)) (.nob))) (.br 12 (.br 4 (.take 5 (.br 13 (.take 15 (.br 16 (.br 17 (.done) (.nob)) (.nob))) (.nob))) (.br 13 (.take 15 (.br 4 (.take 5 (.br 16 (.br 17 (.done) (.nob)) (.nob))) (.nob))) (.nob))) (.nob)))) (.nob)))))))))))) (by kernel_rfl) (by kernel_rfl) trivial ?_
    conv => whnf
    refine ⟨⟨by omega, by omega⟩, ?_⟩
    conv => whnf
    refine ⟨⟨by omega, by omega⟩, ?_⟩
    conv => whnf
    refine ⟨?_, ?_, trivial⟩
    · conv => whnf
      refine ⟨rfl, ?_⟩
      conv => whnf
      refine ⟨⟨trivial, fun w' hw => hw.fr⟩, ?_⟩
      conv => whnf
      refine ⟨by omega, ?_⟩
      conv => whnf
      refine ⟨by omega, ?_⟩
      conv => whnf
      refine ⟨?_, trivial⟩
      conv => whnf
      refine ⟨rfl, ?_⟩
      conv => whnf
      refine ⟨⟨trivial, fun w' hw => hw.fr⟩, ?_⟩
      conv => whnf
      refine ⟨by omega, ?_⟩
      conv => whnf
      refine ⟨by omega, ?_⟩
      conv => whnf
      refine ⟨?_, trivial⟩
      conv => whnf
      refine ⟨rfl, ?_⟩
      conv => whnf
      refine ⟨by omega, ?_⟩
      conv => whnf
      refine ⟨by omega, ?_⟩
      conv => whnf
      refine ⟨⟨trivial, fun w' hw => hw.fr⟩, ?_⟩
      conv => whnf
      refine ⟨?_, trivial⟩
      conv => whnf
      refine ⟨encI x, ⟨rfl, rfl, by omega, by rw [hk2, List.nil_append, List.getElem?_map, hx]; rfl⟩, ?_⟩
      conv => whnf
      refine ⟨⟨trivial, fun w' hw => hw.fr⟩, ?_⟩
      conv => whnf
      refine ⟨⟨by omega, by omega⟩, ?_⟩
      conv => whnf
      refine ⟨?_, trivial⟩
      conv => whnf
      refine ⟨rfl, ?_⟩
      conv => whnf
      refine ⟨by omega, ?_⟩
      conv => whnf
      refine ⟨by omega, ?_⟩
      conv => whnf
      refine ⟨⟨trivial, fun w' hw => hw.fr⟩, ?_⟩
      conv => whnf
      refine ⟨?_, trivial⟩
      conv => whnf
      refine ⟨encI x, ⟨rfl, rfl, by omega, by rw [hk2, List.nil_append, List.getElem?_map, hx]; rfl⟩, ?_⟩
      conv => whnf
      refine ⟨⟨trivial, fun w' hw => hw.fr⟩, ?_⟩
      conv => whnf
      rw [hst]
      refine At.meet fun w' hw => ⟨(), trivial, Le.of rfl rfl ⟨rfl, rfl, rfl, rfl, rfl, rfl, rfl, rfl, rfl, rfl, trivial⟩, hw.keep [5, 3, 1, 0] rfl rfl rfl, ⟨⟨_, _, rfl⟩, ⟨_, _, rfl⟩, ⟨_, _, _, rfl⟩, ⟨_, _, _, rfl⟩, trivial⟩, ⟨(nopI _).okH, (nopI _).okH, trivial⟩⟩
    · conv => whnf
      refine ⟨rfl, ?_⟩
      conv => whnf
      refine ⟨⟨trivial, fun w' hw => hw.fr⟩, ?_⟩
      conv => whnf
      refine ⟨by omega, ?_⟩
      conv => whnf
      refine ⟨by omega, ?_⟩
      conv => whnf
      refine ⟨?_, ?_, trivial⟩
      · conv => whnf
        refine ⟨rfl, ?_⟩
        conv => whnf
        refine ⟨⟨trivial, fun w' hw => hw.fr⟩, ?_⟩
        conv => whnf
        refine ⟨by omega, ?_⟩
        conv => whnf
        refine ⟨by omega, ?_⟩
        conv => whnf
        refine ⟨?_, trivial⟩
        conv => whnf
        refine ⟨rfl, ?_⟩
        conv => whnf
        refine ⟨by omega, ?_⟩
        conv => whnf
        refine ⟨by omega, ?_⟩
        conv => whnf
        refine ⟨⟨trivial, fun w' hw => hw.fr⟩, ?_⟩
        conv => whnf
        refine ⟨?_, trivial⟩
        conv => whnf
        refine ⟨encI x, ⟨rfl, rfl, by omega, by rw [hk2, List.nil_append, List.getElem?_map, hx]; rfl⟩, ?_⟩
        conv => whnf
        refine ⟨⟨trivial, fun w' hw => hw.fr⟩, ?_⟩
        conv => whnf
        refine ⟨⟨by omega, by omega⟩, ?_⟩
        conv => whnf
        refine ⟨?_, trivial⟩
        conv => whnf
        refine ⟨rfl, ?_⟩
        conv => whnf
        refine ⟨by omega, ?_⟩
        conv => whnf
        refine ⟨by omega, ?_⟩
        conv => whnf
        refine ⟨⟨trivial, fun w' hw => hw.fr⟩, ?_⟩
        conv => whnf
        refine ⟨?_, trivial⟩
        conv => whnf
        refine ⟨encI x, ⟨rfl, rfl, by omega, by rw [hk2, List.nil_append, List.getElem?_map, hx]; rfl⟩, ?_⟩
        conv => whnf
        refine ⟨⟨trivial, fun w' hw => hw.fr⟩, ?_⟩
        conv => whnf
        rw [hst]
        refine At.meet fun w' hw => ⟨(), trivial, Le.of rfl rfl ⟨rfl, rfl, rfl, rfl, rfl, rfl, rfl, rfl, rfl, rfl, trivial⟩, hw.keep [5, 3, 1, 0] rfl rfl rfl, ⟨⟨_, _, rfl⟩, ⟨_, _, rfl⟩, ⟨_, _, _, rfl⟩, ⟨_, _, _, rfl⟩, trivial⟩, ⟨(nopI _).okH, (nopI _).okH, trivial⟩⟩
      · conv => whnf
        refine ⟨rfl, ?_⟩
        conv => whnf
        refine ⟨by omega, ?_⟩
        conv => whnf
        refine ⟨by omega, ?_⟩
        conv => whnf
        refine ⟨⟨trivial, fun w' hw => hw.fr⟩, ?_⟩
        conv => whnf
        refine ⟨?_, ?_, trivial⟩
        · conv => whnf
          refine ⟨rfl, ?_⟩
          conv => whnf
          refine ⟨⟨trivial, fun w' hw => hw.fr⟩, ?_⟩
          conv => whnf
          refine ⟨by omega, ?_⟩
          conv => whnf
          refine ⟨by omega, ?_⟩
          conv => whnf
          refine ⟨?_, trivial⟩
          conv => whnf
          refine ⟨encI x, ⟨rfl, rfl, by omega, by rw [hk2, List.nil_append, List.getElem?_map, hx]; rfl⟩, ?_⟩
          conv => whnf
          refine ⟨⟨trivial, fun w' hw => hw.fr⟩, ?_⟩
          conv => whnf
          refine ⟨⟨by omega, by omega⟩, ?_⟩
          conv => whnf
          refine ⟨?_, trivial⟩
          conv => whnf
          refine ⟨rfl, ?_⟩
          conv => whnf
          refine ⟨by omega, ?_⟩
          conv => whnf
          refine ⟨by omega, ?_⟩
          conv => whnf
          refine ⟨⟨trivial, fun w' hw => hw.fr⟩, ?_⟩
          conv => whnf
          refine ⟨?_, trivial⟩
          conv => whnf
          refine ⟨encI x, ⟨rfl, rfl, by omega, by rw [hk2, List.nil_append, List.getElem?_map, hx]; rfl⟩, ?_⟩
          conv => whnf
          refine ⟨⟨trivial, fun w' hw => hw.fr⟩, ?_⟩
          conv => whnf
          rw [hst]
          refine At.meet fun w' hw => ⟨(), trivial, Le.of rfl rfl ⟨rfl, rfl, rfl, rfl, rfl, rfl, rfl, rfl, rfl, rfl, trivial⟩, hw.keep [5, 3, 1, 0] rfl rfl rfl, ⟨⟨_, _, rfl⟩, ⟨_, _, rfl⟩, ⟨_, _, _, rfl⟩, ⟨_, _, _, rfl⟩, trivial⟩, ⟨(nopI _).okH, (nopI _).okH, trivial⟩⟩
        · conv => whnf
          refine ⟨encI x, ⟨rfl, rfl, by omega, by rw [hk2, List.nil_append, List.getElem?_map, hx]; rfl⟩, ?_⟩
          conv => whnf
          refine ⟨⟨trivial, fun w' hw => hw.fr⟩, ?_⟩
          conv => whnf
          refine ⟨⟨by omega, by omega⟩, ?_⟩
          conv => whnf
          refine ⟨?_, trivial⟩
          conv => whnf
          refine ⟨rfl, ?_⟩
          conv => whnf
          refine ⟨⟨trivial, fun w' hw => hw.fr⟩, ?_⟩
          conv => whnf
          refine ⟨by omega, ?_⟩
          conv => whnf
          refine ⟨by omega, ?_⟩
          conv => whnf
          refine ⟨?_, trivial⟩
          conv => whnf
          refine ⟨rfl, ?_⟩
          conv => whnf
          refine ⟨by omega, ?_⟩
          conv => whnf
          refine ⟨by omega, ?_⟩
          conv => whnf
          refine ⟨⟨trivial, fun w' hw => hw.fr⟩, ?_⟩
          conv => whnf
          refine ⟨?_, trivial⟩
          conv => whnf
          refine ⟨encI x, ⟨rfl, rfl, by omega, by rw [hk2, List.nil_append, List.getElem?_map, hx]; rfl⟩, ?_⟩
          conv => whnf
          refine ⟨⟨trivial, fun w' hw => hw.fr⟩, ?_⟩
          conv => whnf
          rw [hst]
          refine At.meet fun w' hw => ⟨(), trivial, Le.of rfl rfl ⟨rfl, rfl, rfl, rfl, rfl, rfl, rfl, rfl, rfl, rfl, trivial⟩, hw.keep [5, 3, 1, 0] rfl rfl rfl, ⟨⟨_, _, rfl⟩, ⟨_, _, rfl⟩, ⟨_, _, _, rfl⟩, ⟨_, _, _, rfl⟩, trivial⟩, ⟨(nopI _).okH, (nopI _).okH, trivial⟩⟩
  rintro ⟨⟩ -
  have hlS : (St.set k (x + y)).length = St.length := List.length_set ..
  repeat refine At.seq ?_
  refine At.region tab_ok ?_
  conv => whnf
  refine ansE_call b20 planG_rd (fun w' hw => plan_e (St.set k (x + y)) M W [] vr v2 v3 w' (slN _ (hw.row (id := 5) rfl) (by omega)) (h2.fr hw.fr) (h3.fr hw.fr)) ?_
  rintro rds ⟨P1, X1, c1, er1, hp1, rfl⟩
  conv => whnf
  intro vp1
  conv => whnf
  intro vx1
  conv => whnf
  intro vc1
  conv => whnf
  repeat refine At.seq ?_
  refine At.join (fun u : Unit => { N := Try.f5.ntmps, sl := [(0, some (.x v1)), (1, some (.x v2)), (2, some (.x v3)), (3, some (.x ((.int .u8 n)))), (4, some (.i y)), (12, some (.s (.c (.p 0 b1 0)))), (13, some (.s (.c (.p 1 b2 0)))), (15, some (.b true)), (17, some (.s (.c (.o 3 vx)))), (125, some (.b false))], gl := [], hp := [(3, .row vx 3 1 (X0.map encI)), (1, .box b2 40 (encW wa)), (0, .box b1 42 (encM la))], S := [], ws := w }) (fun u : Unit => True) ?_ ?_
  · rcases hp1 with ⟨hR1, hch1, rfl⟩ | ⟨hR1, rfl, rfl, rfl, rfl⟩
    · have hm1 := check_met hch1
      have hle1 : Pl.sumI X0 ≤ Pl.sumI X1 := Pl.more_rich hch hch1 hlS (fun q h0 h1 => by
        unfold Pl.at'
        by_cases e : q.toNat = k
        · rw [e, List.getElem?_set_self (by omega), hx]; simp only [Option.getD_some]; omega
        · rw [List.getElem?_set_ne (fun h => e h.symm)]; exact Int.le_refl _)
      repeat refine At.seq ?_
      refine At.regionG tab_ok ?_
      conv => whnf
      refine ans_call b23 rfl (fun w' hw => sum30_c X1 [] vx1 w' (slN _ (hw.row (id := 7) rfl) (by rw [hm1.1]; omega)) (by rw [hm1.1]; omega) hm1.2) ?_
      conv => whnf
      refine ans_call b23 rfl (fun w' hw => sum30_c X0 [] vx w' (slN _ (hw.row (id := 3) rfl) (by rw [hm0.1]; omega)) (by rw [hm0.1]; omega) hm0.2) ?_
      conv => whnf
      rw [decide_eq_false (show ¬ Pl.sumI X1 < Pl.sumI X0 by omega)]
      refine At.meet fun w' hw => ⟨(), trivial, Le.of rfl rfl ⟨rfl, rfl, rfl, rfl, rfl, rfl, rfl, rfl, rfl, rfl, trivial⟩, hw.keep [3, 1, 0] rfl rfl rfl, ⟨⟨_, _, rfl⟩, ⟨_, _, rfl⟩, ⟨_, _, _, rfl⟩, trivial⟩, ⟨(nopI _).okH, trivial⟩⟩
    · repeat refine At.seq ?_
      refine At.regionG tab_ok ?_
      conv => whnf
      refine At.meet fun w' hw => ⟨(), trivial, Le.of rfl rfl ⟨rfl, rfl, rfl, rfl, rfl, rfl, rfl, rfl, rfl, rfl, trivial⟩, hw.keep [3, 1, 0] rfl rfl rfl, ⟨⟨_, _, rfl⟩, ⟨_, _, rfl⟩, ⟨_, _, _, rfl⟩, trivial⟩, ⟨(nopI _).okH, trivial⟩⟩
  rintro ⟨⟩ -
  repeat refine At.seq ?_
  refine At.cond (t := false) rfl (fun hq => by cases hq) (fun hq => At.skip ?_)
  repeat refine At.seq ?_
  refine At.region tab_ok ?_
  conv => whnf
  intro u2
  conv => whnf
  refine ⟨M.map encM, ⟨fun w' hw => (h2.fr hw.fr).src (fun _ => rfl), nopM M⟩, ?_⟩
  conv => whnf
  refine ⟨⟨rfl, by simp; omega⟩, ?_⟩
  conv => whnf
  intro vw
  conv => whnf
  repeat refine At.seq ?_
  refine At.region tab_ok ?_
  conv => whnf
  refine ⟨rfl, ?_⟩
  conv => whnf
  repeat refine At.seq ?_
  refine At.join (fun p : Value × List Pl.Meet => { N := Try.f5.ntmps, sl := [(0, some (.x v1)), (1, some (.x v2)), (2, some (.x v3)), (12, some (.s (.c (.p 0 b1 0)))), (13, some (.s (.c (.p 1 b2 0)))), (15, some (.b true)), (17, some (.s (.c (.o 3 vx)))), (25, some (.s (.c (.o 4 p.1))))], gl := [], hp := [(4, .row p.1 42 4 (p.2.map encM)), (3, .row vx 3 1 (X0.map encI)), (1, .box b2 40 (encW wa)), (0, .box b1 42 (encM la))], S := [], ws := w }) (fun p : Value × List Pl.Meet => Pl.rightB St p.2 W = true ∧ Pl.Wide M p.2) ?_ ?_
  · repeat refine At.seq ?_
    refine At.cond rfl (fun hq => ?_) (fun hq => ?_)
    · have hM0 : 0 < M.length := by have := of_decide_eq_true hq; simp at this; omega
      have hlm : (([] ++ M.map encM).length : Int) = M.length := by simp
      obtain ⟨j, hj⟩ : ∃ j : Nat, n % (([] ++ M.map encM).length : Int) = j := ⟨(n % (([] ++ M.map encM).length : Int)).toNat, by have := Int.emod_nonneg n (show (([] ++ M.map encM).length : Int) ≠ 0 by omega); omega⟩
      have hjM : j < M.length := by have := Int.emod_lt_of_pos n (show (0 : Int) < (([] ++ M.map encM).length : Int) by omega); omega
      have hltm : j < M.length := hjM
      obtain ⟨m, hm⟩ : ∃ x, M[j]? = some x := ⟨_, List.getElem?_eq_getElem hltm⟩
      have hmo := (R.meet m (List.mem_of_getElem? hm)).1
      have hc1 := hmo.c1
      have hc0 := hmo.c0
      have hmc : Pl.maxC = 1099511627776 := rfl
      repeat refine At.seq ?_
      refine At.region tab_ok ?_
      conv => whnf
      refine ⟨⟨by omega, by omega⟩, ?_⟩
      conv => whnf
      refine ⟨rfl, ?_⟩
      conv => whnf
      refine ⟨by omega, ?_⟩
      conv => whnf
      refine ⟨by omega, ?_⟩
      conv => whnf
      rw [hj]
      repeat refine At.seq ?_
      refine At.region tab_ok ?_
      conv => whnf
      refine ⟨rfl, ?_⟩
      conv => whnf
      refine ⟨by omega, ?_⟩
      conv => whnf
      refine ⟨by omega, ?_⟩
      conv => whnf
      refine ⟨encM m, ⟨rfl, rfl, by omega, by rw [List.nil_append, Int.toNat_natCast, List.getElem?_map, hm]; rfl⟩, ?_⟩
      conv => whnf
      refine ⟨⟨by omega, by omega⟩, ?_⟩
      conv => whnf
      refine ⟨rfl, ?_⟩
      conv => whnf
      refine ⟨by omega, ?_⟩
      conv => whnf
      refine ⟨by omega, ?_⟩
      conv => whnf
      refine ⟨encM m, ⟨rfl, rfl, by omega, by rw [List.nil_append, Int.toNat_natCast, List.getElem?_map, hm]; rfl⟩, ?_⟩
      conv => whnf
      have hrw := Pl.right_wide hR hm hy
      have hst2 : ([] ++ M.map encM).set (j : Int).toNat [CV.i m.day, CV.i m.a, CV.i m.b, CV.i (min (m.cap + y) 1099511627776)] = (M.set j { m with cap := min (m.cap + y) Pl.maxC }).map encM := by rw [List.nil_append, Int.toNat_natCast, List.map_set]; rfl
      rw [hst2]
      refine At.meet fun w' hw => ⟨(vw, M.set j { m with cap := min (m.cap + y) Pl.maxC }), hrw, Le.of rfl rfl ⟨rfl, rfl, rfl, rfl, rfl, rfl, rfl, rfl, trivial⟩, hw.keep [4, 3, 1, 0] rfl rfl rfl, ⟨⟨_, _, rfl⟩, ⟨_, _, rfl⟩, ⟨_, _, _, rfl⟩, ⟨_, _, _, rfl⟩, trivial⟩, ⟨(nopM _).okH, (nopI _).okH, trivial⟩⟩
    · have hM0 : M = [] := by have := of_decide_eq_false hq; simpa using this
      refine At.skip ?_
      refine At.meet fun w' hw => ⟨(vw, M), ⟨hR, Pl.Wide.refl M⟩, Le.of rfl rfl ⟨rfl, rfl, rfl, rfl, rfl, rfl, rfl, rfl, trivial⟩, hw.keep [4, 3, 1, 0] rfl rfl rfl, ⟨⟨_, _, rfl⟩, ⟨_, _, rfl⟩, ⟨_, _, _, rfl⟩, ⟨_, _, _, rfl⟩, trivial⟩, ⟨(nopM _).okH, (nopI _).okH, trivial⟩⟩
  rintro ⟨vw, Mw⟩ ⟨hRw, hWd⟩
  simp only at hRw hWd ⊢
  have hlw := hWd.len
  repeat refine At.seq ?_
  refine At.region tab_ok ?_
  conv => whnf
  refine ansE_call b20 planG_rd (fun w' hw => plan_e St Mw W [] v1 vw v3 w' (h1.fr hw.fr) (slM _ (hw.row (id := 4) rfl) (by omega)) (h3.fr hw.fr)) ?_
  rintro rds ⟨P3, X3, c3, er3, hp3, rfl⟩
  obtain ⟨hch3, rfl⟩ := plan_ok1 hp3 hRw
  have hm3 := check_met hch3
  have hle3 := Pl.more_wide hch hch3 hWd
  conv => whnf
  intro vp3
  conv => whnf
  intro vx3
  conv => whnf
  intro vc3
  conv => whnf
  have hml : ([] ++ M.map encM) ++ [[CV.i la.day, CV.i la.a, CV.i la.b, CV.i la.cap]] = (M ++ [la]).map encM := by simp [encM]
  have hwl : ([] ++ W.map encW) ++ [[CV.i wa.key, CV.i wa.day, CV.i wa.n]] = (W ++ [wa]).map encW := by simp [encW]
  have hin4 : ∀ {P X c er}, PlanR St (M ++ [la]) W P X c er → er = 0 → Pl.sumI X0 ≤ Pl.sumI X ∧ X.length ≤ 1000 ∧ ∀ x ∈ X, 0 ≤ x ∧ x ≤ 1099511627776 := by
    intro P X c er hp e
    rcases hp with ⟨hR4, hch4, _⟩ | ⟨_, _, _, _, h⟩
    · have hm4 := check_met hch4
      exact ⟨Pl.more_last hch hch4, by rw [hm4.1]; omega, hm4.2⟩
    · omega
  have hin5 : ∀ {P X c er}, PlanR St M (W ++ [wa]) P X c er → er = 0 → Pl.sumI X0 ≤ Pl.sumI X ∧ X.length ≤ 1000 ∧ ∀ x ∈ X, 0 ≤ x ∧ x ≤ 1099511627776 := by
    intro P X c er hp e
    rcases hp with ⟨hR4, hch4, _⟩ | ⟨_, _, _, _, h⟩
    · have hm4 := check_met hch4
      exact ⟨Pl.more_want hch hch4, by rw [hm4.1]; simp; omega, hm4.2⟩
    · omega
  repeat refine At.seq ?_
  refine At.join (fun q : Value × List Int × Int => { N := Try.f5.ntmps, sl := [(0, some (.x v1)), (1, some (.x v2)), (2, some (.x v3)), (13, some (.s (.c (.p 1 b2 0)))), (15, some (.b true)), (17, some (.s (.c (.o 3 vx)))), (28, some (.s (.c (.o 6 vx3)))), (30, some (.i 0)), (32, some (.s (.c (.o 7 q.1)))), (34, some (.i q.2.2))], gl := [], hp := [(7, .row q.1 3 1 (q.2.1.map encI)), (6, .row vx3 3 1 (X3.map encI)), (3, .row vx 3 1 (X0.map encI)), (1, .box b2 40 (encW wa))], S := [], ws := w }) (fun q : Value × List Int × Int => q.2.2 = 0 → Pl.sumI X0 ≤ Pl.sumI q.2.1 ∧ q.2.1.length ≤ 1000 ∧ ∀ x ∈ q.2.1, 0 ≤ x ∧ x ≤ 1099511627776) ?_ ?_
  · repeat refine At.seq ?_
    refine At.planG tab_ok mixed [(6, .row vx3 3 1 (X3.map encI)), (3, .row vx 3 1 (X0.map encI)), (1, .box b2 40 (encW wa)), (0, .box b1 42 (encM la))] (.take 0 (.take 2 (.take 4 (.take 7 (.br 1 (.br 3 (.br 5 (.br 6 (.br 8 (.take 9 (.take 10 (.take 11 (.take 12 (.take 13 (.take 14 (.take 15 (.take 16 (.take 17 (.done)))))))))) (.nob)) (.nob)) (.nob)) (.br 5 (.br 3 (.br 6 (.br 8 (.take 9 (.take 10 (.take 11 (.take 12 (.take 13 (.take 14 (.take 15 (.take 16 (.take 17 (.done)))))))))) (.nob)) (.nob)) (.nob)) (.nob))) (.br 5 (.br 1 (.br 3 (.br 6 (.br 8 (.take 9 (.take 10 (.take 11 (.take 12 (.take 13 (.take 14 (.take 15 (.take 16 (.take 17 (.done)))))))))) (.nob)) (.nob)) (.nob)) (.nob)) (.nob))))))) (by kernel_rfl) (by kernel_rfl) ⟨rfl, rfl, rfl, rfl, trivial⟩ ?_
    conv => whnf
    refine ⟨?_, ?_, trivial⟩
    · conv => whnf
      intro r0
      conv => whnf
      refine ⟨⟨⟨rfl, rfl, rfl, rfl, trivial⟩, fun w' hw => hw.fr⟩, ?_⟩
      conv => whnf
      refine ⟨?_, ?_, trivial⟩
      · conv => whnf
        refine ⟨M.map encM, ⟨fun w' hw => (h2.fr hw.fr).src (fun _ => rfl), nopM M⟩, ?_⟩
        conv => whnf
        refine ⟨⟨rfl, by simp; omega⟩, ?_⟩
        conv => whnf
        intro r1
        conv => whnf
        refine ⟨⟨⟨rfl, rfl, rfl, rfl, trivial⟩, fun w' hw => hw.fr⟩, ?_⟩
        conv => whnf
        refine ⟨?_, trivial⟩
        conv => whnf
        intro r2
        conv => whnf
        refine ⟨⟨⟨rfl, rfl, rfl, rfl, trivial⟩, fun w' hw => hw.fr⟩, ?_⟩
        conv => whnf
        refine ⟨?_, trivial⟩
        conv => whnf
        refine ⟨rfl, ?_⟩
        conv => whnf
        refine ⟨⟨rfl, by simp; omega⟩, ?_⟩
        conv => whnf
        intro r3
        conv => whnf
        refine ⟨⟨⟨rfl, rfl, rfl, rfl, trivial⟩, fun w' hw => hw.fr⟩, ?_⟩
        conv => whnf
        refine ⟨?_, trivial⟩
        conv => whnf
        refine ansE_call b20 planG_rd (fun w' hw => plan_e St (M ++ [la]) W [] v1 r3 v3 w' (h1.fr hw.fr) (slM (M ++ [la]) (by have := hw.row (id := 8) rfl; rw [hml] at this; exact this) (by simp; omega)) (h3.fr hw.fr)) ?_
        rintro rds ⟨P4, X4, c4, er4, hp4, rfl⟩
        conv => whnf
        intro vp4
        conv => whnf
        intro vx4
        conv => whnf
        intro vc4
        conv => whnf
        refine ⟨⟨⟨rfl, rfl, rfl, rfl, trivial⟩, fun w' hw => hw.fr⟩, ?_⟩
        conv => whnf
        refine At.meet fun w' hw => ⟨(vx4, X4, er4), hin4 hp4, Le.of rfl rfl ⟨rfl, rfl, rfl, rfl, rfl, rfl, rfl, rfl, rfl, rfl, trivial⟩, hw.ren [11,6,3,1] rfl rfl rfl, ⟨⟨_, _, rfl⟩, ⟨_, _, _, rfl⟩, ⟨_, _, _, rfl⟩, ⟨_, _, _, rfl⟩, trivial⟩, ⟨(nopI _).okH, (nopI _).okH, (nopI _).okH, trivial⟩⟩
      · conv => whnf
        intro r2
        conv => whnf
        refine ⟨⟨⟨rfl, rfl, rfl, rfl, trivial⟩, fun w' hw => hw.fr⟩, ?_⟩
        conv => whnf
        refine ⟨?_, trivial⟩
        conv => whnf
        refine ⟨M.map encM, ⟨fun w' hw => (h2.fr hw.fr).src (fun _ => rfl), nopM M⟩, ?_⟩
        conv => whnf
        refine ⟨⟨rfl, by simp; omega⟩, ?_⟩
        conv => whnf
        intro r1
        conv => whnf
        refine ⟨⟨⟨rfl, rfl, rfl, rfl, trivial⟩, fun w' hw => hw.fr⟩, ?_⟩
        conv => whnf
        refine ⟨?_, trivial⟩
        conv => whnf
        refine ⟨rfl, ?_⟩
        conv => whnf
        refine ⟨⟨rfl, by simp; omega⟩, ?_⟩
        conv => whnf
        intro r3
        conv => whnf
        refine ⟨⟨⟨rfl, rfl, rfl, rfl, trivial⟩, fun w' hw => hw.fr⟩, ?_⟩
        conv => whnf
        refine ⟨?_, trivial⟩
        conv => whnf
        refine ansE_call b20 planG_rd (fun w' hw => plan_e St (M ++ [la]) W [] v1 r3 v3 w' (h1.fr hw.fr) (slM (M ++ [la]) (by have := hw.row (id := 8) rfl; rw [hml] at this; exact this) (by simp; omega)) (h3.fr hw.fr)) ?_
        rintro rds ⟨P4, X4, c4, er4, hp4, rfl⟩
        conv => whnf
        intro vp4
        conv => whnf
        intro vx4
        conv => whnf
        intro vc4
        conv => whnf
        refine ⟨⟨⟨rfl, rfl, rfl, rfl, trivial⟩, fun w' hw => hw.fr⟩, ?_⟩
        conv => whnf
        refine At.meet fun w' hw => ⟨(vx4, X4, er4), hin4 hp4, Le.of rfl rfl ⟨rfl, rfl, rfl, rfl, rfl, rfl, rfl, rfl, rfl, rfl, trivial⟩, hw.ren [11,6,3,1] rfl rfl rfl, ⟨⟨_, _, rfl⟩, ⟨_, _, _, rfl⟩, ⟨_, _, _, rfl⟩, ⟨_, _, _, rfl⟩, trivial⟩, ⟨(nopI _).okH, (nopI _).okH, (nopI _).okH, trivial⟩⟩
    · conv => whnf
      intro r2
      conv => whnf
      refine ⟨⟨⟨rfl, rfl, rfl, rfl, trivial⟩, fun w' hw => hw.fr⟩, ?_⟩
      conv => whnf
      refine ⟨?_, trivial⟩
      conv => whnf
      intro r0
      conv => whnf
      refine ⟨⟨⟨rfl, rfl, rfl, rfl, trivial⟩, fun w' hw => hw.fr⟩, ?_⟩
      conv => whnf
      refine ⟨?_, trivial⟩
      conv => whnf
      refine ⟨M.map encM, ⟨fun w' hw => (h2.fr hw.fr).src (fun _ => rfl), nopM M⟩, ?_⟩
      conv => whnf
      refine ⟨⟨rfl, by simp; omega⟩, ?_⟩
      conv => whnf
      intro r1
      conv => whnf
      refine ⟨⟨⟨rfl, rfl, rfl, rfl, trivial⟩, fun w' hw => hw.fr⟩, ?_⟩
      conv => whnf
      refine ⟨?_, trivial⟩
      conv => whnf
      refine ⟨rfl, ?_⟩
      conv => whnf
      refine ⟨⟨rfl, by simp; omega⟩, ?_⟩
      conv => whnf
      intro r3
      conv => whnf
      refine ⟨⟨⟨rfl, rfl, rfl, rfl, trivial⟩, fun w' hw => hw.fr⟩, ?_⟩
      conv => whnf
      refine ⟨?_, trivial⟩
      conv => whnf
      refine ansE_call b20 planG_rd (fun w' hw => plan_e St (M ++ [la]) W [] v1 r3 v3 w' (h1.fr hw.fr) (slM (M ++ [la]) (by have := hw.row (id := 9) rfl; rw [hml] at this; exact this) (by simp; omega)) (h3.fr hw.fr)) ?_
      rintro rds ⟨P4, X4, c4, er4, hp4, rfl⟩
      conv => whnf
      intro vp4
      conv => whnf
      intro vx4
      conv => whnf
      intro vc4
      conv => whnf
      refine ⟨⟨⟨rfl, rfl, rfl, rfl, trivial⟩, fun w' hw => hw.fr⟩, ?_⟩
      conv => whnf
      refine At.meet fun w' hw => ⟨(vx4, X4, er4), hin4 hp4, Le.of rfl rfl ⟨rfl, rfl, rfl, rfl, rfl, rfl, rfl, rfl, rfl, rfl, trivial⟩, hw.ren [11,6,3,1] rfl rfl rfl, ⟨⟨_, _, rfl⟩, ⟨_, _, _, rfl⟩, ⟨_, _, _, rfl⟩, ⟨_, _, _, rfl⟩, trivial⟩, ⟨(nopI _).okH, (nopI _).okH, (nopI _).okH, trivial⟩⟩
  rintro ⟨vx4, X4, er4⟩ hi4
  simp only at hi4 ⊢
  repeat refine At.seq ?_
  refine At.join (fun q : Value × List Int × Int => { N := Try.f5.ntmps, sl := [(0, some (.x v1)), (2, some (.x v3)), (15, some (.b true)), (17, some (.s (.c (.o 3 vx)))), (28, some (.s (.c (.o 6 vx3)))), (30, some (.i 0)), (32, some (.s (.c (.o 7 vx4)))), (34, some (.i er4)), (36, some (.s (.c (.o 8 q.1)))), (38, some (.i q.2.2))], gl := [], hp := [(8, .row q.1 3 1 (q.2.1.map encI)), (7, .row vx4 3 1 (X4.map encI)), (6, .row vx3 3 1 (X3.map encI)), (3, .row vx 3 1 (X0.map encI))], S := [], ws := w }) (fun q : Value × List Int × Int => q.2.2 = 0 → Pl.sumI X0 ≤ Pl.sumI q.2.1 ∧ q.2.1.length ≤ 1000 ∧ ∀ x ∈ q.2.1, 0 ≤ x ∧ x ≤ 1099511627776) ?_ ?_
  · repeat refine At.seq ?_
    refine At.planG tab_ok mixed [(7, .row vx4 3 1 (X4.map encI)), (6, .row vx3 3 1 (X3.map encI)), (3, .row vx 3 1 (X0.map encI)), (1, .box b2 40 (encW wa))] (.take 0 (.take 1 (.take 3 (.take 5 (.br 2 (.br 4 (.br 6 (.br 7 (.br 8 (.take 9 (.take 10 (.take 11 (.take 12 (.take 13 (.take 14 (.take 15 (.take 16 (.take 17 (.done)))))))))) (.nob)) (.nob)) (.nob)) (.br 6 (.br 4 (.br 7 (.br 8 (.take 9 (.take 10 (.take 11 (.take 12 (.take 13 (.take 14 (.take 15 (.take 16 (.take 17 (.done)))))))))) (.nob)) (.nob)) (.nob)) (.nob))) (.br 6 (.br 2 (.br 4 (.br 7 (.br 8 (.take 9 (.take 10 (.take 11 (.take 12 (.take 13 (.take 14 (.take 15 (.take 16 (.take 17 (.done)))))))))) (.nob)) (.nob)) (.nob)) (.nob)) (.nob))))))) (by kernel_rfl) (by kernel_rfl) ⟨rfl, rfl, rfl, rfl, trivial⟩ ?_
    conv => whnf
    refine ⟨?_, ?_, trivial⟩
    · conv => whnf
      intro r0
      conv => whnf
      refine ⟨⟨⟨rfl, rfl, rfl, rfl, trivial⟩, fun w' hw => hw.fr⟩, ?_⟩
      conv => whnf
      refine ⟨?_, ?_, trivial⟩
      · conv => whnf
        refine ⟨W.map encW, ⟨fun w' hw => (h3.fr hw.fr).src (fun _ => rfl), nopW W⟩, ?_⟩
        conv => whnf
        refine ⟨⟨rfl, by simp; omega⟩, ?_⟩
        conv => whnf
        intro r1
        conv => whnf
        refine ⟨⟨⟨rfl, rfl, rfl, rfl, trivial⟩, fun w' hw => hw.fr⟩, ?_⟩
        conv => whnf
        refine ⟨?_, trivial⟩
        conv => whnf
        intro r2
        conv => whnf
        refine ⟨⟨⟨rfl, rfl, rfl, rfl, trivial⟩, fun w' hw => hw.fr⟩, ?_⟩
        conv => whnf
        refine ⟨?_, trivial⟩
        conv => whnf
        refine ⟨rfl, ?_⟩
        conv => whnf
        refine ⟨⟨rfl, by simp; omega⟩, ?_⟩
        conv => whnf
        intro r3
        conv => whnf
        refine ⟨⟨⟨rfl, rfl, rfl, rfl, trivial⟩, fun w' hw => hw.fr⟩, ?_⟩
        conv => whnf
        refine ⟨?_, trivial⟩
        conv => whnf
        refine ansE_call b20 planG_rd (fun w' hw => plan_e St M (W ++ [wa]) [] v1 v2 r3 w' (h1.fr hw.fr) (h2.fr hw.fr) (slW (W ++ [wa]) (by have := hw.row (id := 8) rfl; rw [hwl] at this; exact this) (by simp; omega))) ?_
        rintro rds ⟨P5, X5, c5, er5, hp5, rfl⟩
        conv => whnf
        intro vp5
        conv => whnf
        intro vx5
        conv => whnf
        intro vc5
        conv => whnf
        refine ⟨⟨⟨rfl, rfl, rfl, rfl, trivial⟩, fun w' hw => hw.fr⟩, ?_⟩
        conv => whnf
        refine At.meet fun w' hw => ⟨(vx5, X5, er5), hin5 hp5, Le.of rfl rfl ⟨rfl, rfl, rfl, rfl, rfl, rfl, rfl, rfl, rfl, rfl, trivial⟩, hw.ren [11,7,6,3] rfl rfl rfl, ⟨⟨_, _, _, rfl⟩, ⟨_, _, _, rfl⟩, ⟨_, _, _, rfl⟩, ⟨_, _, _, rfl⟩, trivial⟩, ⟨(nopI _).okH, (nopI _).okH, (nopI _).okH, (nopI _).okH, trivial⟩⟩
      · conv => whnf
        intro r2
        conv => whnf
        refine ⟨⟨⟨rfl, rfl, rfl, rfl, trivial⟩, fun w' hw => hw.fr⟩, ?_⟩
        conv => whnf
        refine ⟨?_, trivial⟩
        conv => whnf
        refine ⟨W.map encW, ⟨fun w' hw => (h3.fr hw.fr).src (fun _ => rfl), nopW W⟩, ?_⟩
        conv => whnf
        refine ⟨⟨rfl, by simp; omega⟩, ?_⟩
        conv => whnf
        intro r1
        conv => whnf
        refine ⟨⟨⟨rfl, rfl, rfl, rfl, trivial⟩, fun w' hw => hw.fr⟩, ?_⟩
        conv => whnf
        refine ⟨?_, trivial⟩
        conv => whnf
        refine ⟨rfl, ?_⟩
        conv => whnf
        refine ⟨⟨rfl, by simp; omega⟩, ?_⟩
        conv => whnf
        intro r3
        conv => whnf
        refine ⟨⟨⟨rfl, rfl, rfl, rfl, trivial⟩, fun w' hw => hw.fr⟩, ?_⟩
        conv => whnf
        refine ⟨?_, trivial⟩
        conv => whnf
        refine ansE_call b20 planG_rd (fun w' hw => plan_e St M (W ++ [wa]) [] v1 v2 r3 w' (h1.fr hw.fr) (h2.fr hw.fr) (slW (W ++ [wa]) (by have := hw.row (id := 8) rfl; rw [hwl] at this; exact this) (by simp; omega))) ?_
        rintro rds ⟨P5, X5, c5, er5, hp5, rfl⟩
        conv => whnf
        intro vp5
        conv => whnf
        intro vx5
        conv => whnf
        intro vc5
        conv => whnf
        refine ⟨⟨⟨rfl, rfl, rfl, rfl, trivial⟩, fun w' hw => hw.fr⟩, ?_⟩
        conv => whnf
        refine At.meet fun w' hw => ⟨(vx5, X5, er5), hin5 hp5, Le.of rfl rfl ⟨rfl, rfl, rfl, rfl, rfl, rfl, rfl, rfl, rfl, rfl, trivial⟩, hw.ren [11,7,6,3] rfl rfl rfl, ⟨⟨_, _, _, rfl⟩, ⟨_, _, _, rfl⟩, ⟨_, _, _, rfl⟩, ⟨_, _, _, rfl⟩, trivial⟩, ⟨(nopI _).okH, (nopI _).okH, (nopI _).okH, (nopI _).okH, trivial⟩⟩
    · conv => whnf
      intro r2
      conv => whnf
      refine ⟨⟨⟨rfl, rfl, rfl, rfl, trivial⟩, fun w' hw => hw.fr⟩, ?_⟩
      conv => whnf
      refine ⟨?_, trivial⟩
      conv => whnf
      intro r0
      conv => whnf
      refine ⟨⟨⟨rfl, rfl, rfl, rfl, trivial⟩, fun w' hw => hw.fr⟩, ?_⟩
      conv => whnf
      refine ⟨?_, trivial⟩
      conv => whnf
      refine ⟨W.map encW, ⟨fun w' hw => (h3.fr hw.fr).src (fun _ => rfl), nopW W⟩, ?_⟩
      conv => whnf
      refine ⟨⟨rfl, by simp; omega⟩, ?_⟩
      conv => whnf
      intro r1
      conv => whnf
      refine ⟨⟨⟨rfl, rfl, rfl, rfl, trivial⟩, fun w' hw => hw.fr⟩, ?_⟩
      conv => whnf
      refine ⟨?_, trivial⟩
      conv => whnf
      refine ⟨rfl, ?_⟩
      conv => whnf
      refine ⟨⟨rfl, by simp; omega⟩, ?_⟩
      conv => whnf
      intro r3
      conv => whnf
      refine ⟨⟨⟨rfl, rfl, rfl, rfl, trivial⟩, fun w' hw => hw.fr⟩, ?_⟩
      conv => whnf
      refine ⟨?_, trivial⟩
      conv => whnf
      refine ansE_call b20 planG_rd (fun w' hw => plan_e St M (W ++ [wa]) [] v1 v2 r3 w' (h1.fr hw.fr) (h2.fr hw.fr) (slW (W ++ [wa]) (by have := hw.row (id := 9) rfl; rw [hwl] at this; exact this) (by simp; omega))) ?_
      rintro rds ⟨P5, X5, c5, er5, hp5, rfl⟩
      conv => whnf
      intro vp5
      conv => whnf
      intro vx5
      conv => whnf
      intro vc5
      conv => whnf
      refine ⟨⟨⟨rfl, rfl, rfl, rfl, trivial⟩, fun w' hw => hw.fr⟩, ?_⟩
      conv => whnf
      refine At.meet fun w' hw => ⟨(vx5, X5, er5), hin5 hp5, Le.of rfl rfl ⟨rfl, rfl, rfl, rfl, rfl, rfl, rfl, rfl, rfl, rfl, trivial⟩, hw.ren [11,7,6,3] rfl rfl rfl, ⟨⟨_, _, _, rfl⟩, ⟨_, _, _, rfl⟩, ⟨_, _, _, rfl⟩, ⟨_, _, _, rfl⟩, trivial⟩, ⟨(nopI _).okH, (nopI _).okH, (nopI _).okH, (nopI _).okH, trivial⟩⟩
  rintro ⟨vx5, X5, er5⟩ hi5
  simp only at hi5 ⊢
  have S0 : ∀ {st : Vc.St} {w' : World} (h : Holds st w') {E}, (LO.row vx E 1 (X0.map encI)).holds w' → Ans Try.prog 23 [vx] (.i (Pl.sumI X0)) w' := fun {st w'} h {E} hr => sum30_c X0 [] vx w' (slN _ hr (by rw [hm0.1]; omega)) (by rw [hm0.1]; omega) hm0.2
  repeat refine At.seq ?_
  refine At.join (fun u : Unit => { N := Try.f5.ntmps, sl := [(0, some (.x v1)), (2, some (.x v3)), (15, some (.b true)), (17, some (.s (.c (.o 3 vx)))), (216, some (.b false))], gl := [], hp := [(3, .row vx 3 1 (X0.map encI))], S := [], ws := w }) (fun u : Unit => True) ?_ ?_
  · repeat refine At.seq ?_
    refine At.regionG tab_ok ?_
    conv => whnf
    refine ans_call b23 rfl (fun w' hw => sum30_c X3 [] vx3 w' (slN _ (hw.row (id := 6) rfl) (by rw [hm3.1]; omega)) (by rw [hm3.1]; omega) hm3.2) ?_
    conv => whnf
    refine ans_call b23 rfl (fun w' hw => S0 hw (hw.row (id := 3) rfl)) ?_
    conv => whnf
    rw [decide_eq_false (show ¬ Pl.sumI X3 < Pl.sumI X0 by omega)]
    conv => whnf
    by_cases he4 : er4 = 0
    · obtain ⟨hs4, hl4, hb4⟩ := hi4 he4
      rw [decide_eq_true he4]
      conv => whnf
      refine ans_call b23 rfl (fun w' hw => sum30_c X4 [] vx4 w' (slN _ (hw.row (id := 7) rfl) (by omega)) (by omega) hb4) ?_
      conv => whnf
      refine ans_call b23 rfl (fun w' hw => S0 hw (hw.row (id := 3) rfl)) ?_
      conv => whnf
      rw [decide_eq_false (show ¬ Pl.sumI X4 < Pl.sumI X0 by omega)]
      conv => whnf
      by_cases he5 : er5 = 0
      · obtain ⟨hs5, hl5, hb5⟩ := hi5 he5
        rw [decide_eq_true he5]
        conv => whnf
        refine ans_call b23 rfl (fun w' hw => sum30_c X5 [] vx5 w' (slN _ (hw.row (id := 8) rfl) (by omega)) (by omega) hb5) ?_
        conv => whnf
        refine ans_call b23 rfl (fun w' hw => S0 hw (hw.row (id := 3) rfl)) ?_
        conv => whnf
        rw [decide_eq_false (show ¬ Pl.sumI X5 < Pl.sumI X0 by omega)]
        refine At.meet fun w' hw => ⟨(), trivial, Le.of rfl rfl ⟨rfl, rfl, rfl, rfl, rfl, trivial⟩, hw.keep [3] rfl rfl rfl, ⟨⟨_, _, _, rfl⟩, trivial⟩, ⟨(nopI _).okH, trivial⟩⟩
      · rw [decide_eq_false he5]
        refine At.meet fun w' hw => ⟨(), trivial, Le.of rfl rfl ⟨rfl, rfl, rfl, rfl, rfl, trivial⟩, hw.keep [3] rfl rfl rfl, ⟨⟨_, _, _, rfl⟩, trivial⟩, ⟨(nopI _).okH, trivial⟩⟩
    · rw [decide_eq_false he4]
      conv => whnf
      by_cases he5 : er5 = 0
      · obtain ⟨hs5, hl5, hb5⟩ := hi5 he5
        rw [decide_eq_true he5]
        conv => whnf
        refine ans_call b23 rfl (fun w' hw => sum30_c X5 [] vx5 w' (slN _ (hw.row (id := 8) rfl) (by omega)) (by omega) hb5) ?_
        conv => whnf
        refine ans_call b23 rfl (fun w' hw => S0 hw (hw.row (id := 3) rfl)) ?_
        conv => whnf
        rw [decide_eq_false (show ¬ Pl.sumI X5 < Pl.sumI X0 by omega)]
        refine At.meet fun w' hw => ⟨(), trivial, Le.of rfl rfl ⟨rfl, rfl, rfl, rfl, rfl, trivial⟩, hw.keep [3] rfl rfl rfl, ⟨⟨_, _, _, rfl⟩, trivial⟩, ⟨(nopI _).okH, trivial⟩⟩
      · rw [decide_eq_false he5]
        refine At.meet fun w' hw => ⟨(), trivial, Le.of rfl rfl ⟨rfl, rfl, rfl, rfl, rfl, trivial⟩, hw.keep [3] rfl rfl rfl, ⟨⟨_, _, _, rfl⟩, trivial⟩, ⟨(nopI _).okH, trivial⟩⟩
  rintro ⟨⟩ -
  repeat refine At.seq ?_
  refine At.cond (t := false) rfl (fun hq => by cases hq) (fun hq => At.skip ?_)
  repeat refine At.seq ?_
  refine At.region tab_ok ?_
  conv => whnf
  refine ansE_call b20 planG_rd (fun w' hw => plan_e St [] W [] v1 (.slice none 0 0) v3 w' (h1.fr hw.fr) slNil (h3.fr hw.fr)) ?_
  rintro rds ⟨P6, X6, c6, er6, hp6, rfl⟩
  obtain ⟨hch6, rfl⟩ := plan_ok1 hp6 (Pl.right_nil hR)
  have hm6 := check_met hch6
  have ho6 := Pl.none_own hch6
  have hl6 := Pl.none_le hch6 hch
  conv => whnf
  intro vp6
  conv => whnf
  intro vx6
  conv => whnf
  intro vc6
  conv => whnf
  have hneed : ∀ (q : Int) (V : List Pl.Want), (∀ w ∈ V, 0 ≤ w.n ∧ w.n ≤ 1099511627776) → 0 ≤ Pl.needs q V ∧ Pl.needs q V ≤ 1099511627776 * V.length := by
    intro q V
    induction V with
    | nil => intro _; simp [Pl.needs]
    | cons v V ih =>
      intro h
      have h1 := h v (by simp)
      have h2 := ih fun u hu => h u (by simp [hu])
      simp only [Pl.needs, List.length_cons]
      have e : (1099511627776 : Int) * ((V.length + 1 : Nat) : Int) = 1099511627776 * (V.length : Int) + 1099511627776 := by omega
      split <;> omega
  have hwn : ∀ w ∈ W, 0 ≤ w.n ∧ w.n ≤ 1099511627776 := fun w hw => (R.want w hw).2.2
  have hSb : ∀ x ∈ St, 0 ≤ x ∧ x ≤ 1099511627776 := fun x hx => ⟨R.s0 x hx, by have h3 := R.sum; unfold Pl.maxC at h3; have := sumI_ge R.s0 x hx; omega⟩
  repeat refine At.seq ?_
  refine At.region tab_ok ?_
  conv => whnf
  repeat refine At.seq ?_
  refine At.region tab_ok ?_
  conv => whnf
  repeat refine At.seq ?_
  refine At.block ?_
  refine At.loopH (fun p : Nat => { N := Try.f5.ntmps, sl := [(0, some (.x v1)), (2, some (.x v3)), (15, some (.b true)), (17, some (.s (.c (.o 3 vx)))), (40, some (.s (.c (.o 5 vx6)))), (42, some (.i 0)), (43, some (.i ((Pl.sumN p (fun q => min (Pl.needs q W) (Pl.at' St q)))))), (44, some (.i p))], gl := [], hp := [(5, .row vx6 3 1 (X6.map encI)), (3, .row vx 3 1 (X0.map encI))], S := [], ws := w }) (fun p : Nat => p ≤ St.length ∧ 0 ≤ Pl.sumN p (fun q => min (Pl.needs q W) (Pl.at' St q)) ∧ Pl.sumN p (fun q => min (Pl.needs q W) (Pl.at' St q)) ≤ 1099511627776 * p) (fun p : Nat => St.length - p)
    (fun w' hw => ⟨0, ⟨Nat.zero_le _, Int.le_refl _, Int.le_refl _⟩, Le.of rfl rfl ⟨rfl, rfl, rfl, rfl, rfl, rfl, rfl, rfl, trivial⟩, hw.keep [5, 3] rfl rfl rfl, ⟨⟨_, _, _, rfl⟩, ⟨_, _, _, rfl⟩, trivial⟩, ⟨(nopI _).okH, (nopI _).okH, trivial⟩⟩) ?_
  rintro p ⟨hp, hs0, hs1⟩
  repeat refine At.seq ?_
  refine At.region tab_ok ?_
  conv => whnf
  refine ⟨h1.sl, ?_⟩
  conv => whnf
  repeat refine At.seq ?_
  refine At.cond rfl (fun hc => At.skip ?_) (fun hc => At.exit ?_)
  · have hltz : p < St.length := by have := of_decide_eq_true hc; (try simp only [List.length_map] at this); omega
    obtain ⟨z, hz⟩ : ∃ x, St[p]? = some x := ⟨_, List.getElem?_eq_getElem hltz⟩
    have hzb := hSb z (List.mem_of_getElem? hz)
    have hat : Pl.at' St (p : Int) = z := by unfold Pl.at'; rw [Int.toNat_natCast, hz]; rfl
    have hnp := hneed p W hwn
    repeat refine At.seq ?_
    refine At.block ?_
    repeat refine At.seq ?_
    refine At.region tab_ok ?_
    conv => whnf
    repeat refine At.seq ?_
    refine At.region tab_ok ?_
    conv => whnf
    repeat refine At.seq ?_
    refine At.block ?_
    refine At.loopH (fun j : Nat => { N := Try.f5.ntmps, sl := [(0, some (.x v1)), (2, some (.x v3)), (15, some (.b true)), (17, some (.s (.c (.o 3 vx)))), (40, some (.s (.c (.o 5 vx6)))), (42, some (.i 0)), (43, some (.i ((Pl.sumN p (fun q => min (Pl.needs q W) (Pl.at' St q)))))), (44, some (.i p)), (45, some (.i ((Pl.needs p (W.take j))))), (46, some (.i j))], gl := [], hp := [(5, .row vx6 3 1 (X6.map encI)), (3, .row vx 3 1 (X0.map encI))], S := [], ws := w }) (fun j : Nat => j ≤ W.length) (fun j : Nat => W.length - j)
      (fun w' hw => ⟨0, Nat.zero_le _, Le.of rfl rfl ⟨rfl, rfl, rfl, rfl, rfl, rfl, rfl, rfl, rfl, rfl, trivial⟩, hw.keep [5, 3] rfl rfl rfl, ⟨⟨_, _, _, rfl⟩, ⟨_, _, _, rfl⟩, trivial⟩, ⟨(nopI _).okH, (nopI _).okH, trivial⟩⟩) ?_
    intro j hj
    repeat refine At.seq ?_
    refine At.region tab_ok ?_
    conv => whnf
    refine ⟨h3.sl, ?_⟩
    conv => whnf
    repeat refine At.seq ?_
    refine At.cond rfl (fun hc => At.skip ?_) (fun hc => At.exit ?_)
    · have hltu : j < W.length := by have := of_decide_eq_true hc; (try simp only [List.length_map] at this); omega
      obtain ⟨u, hu⟩ : ∃ x, W[j]? = some x := ⟨_, List.getElem?_eq_getElem hltu⟩
      have hub := hwn u (List.mem_of_getElem? hu)
      have hnj := hneed p (W.take j) fun w hw => hwn w (List.mem_of_mem_take hw)
      have hlj : (W.take j).length = j := by rw [List.length_take]; omega
      have hsn : Pl.needs p (W.take (j + 1)) = Pl.needs p (W.take j) + (if u.key = p then u.n else 0) := by
        have key : ∀ (A : List Pl.Want), Pl.needs p (A ++ [u]) = Pl.needs p A + (if u.key = p then u.n else 0) := by
          intro A
          induction A with
          | nil => simp [Pl.needs]
          | cons a A ih => simp only [List.cons_append, Pl.needs, ih]; omega
        rw [List.take_add_one, hu]; exact key _
      repeat refine At.seq ?_
      refine At.block ?_
      repeat refine At.seq ?_
      refine At.region tab_ok ?_
      conv => whnf
      refine ⟨by omega, ?_⟩
      conv => whnf
      refine ⟨by omega, ?_⟩
      conv => whnf
      refine ⟨[.i u.key], fun w' hw => h3.load (n := 1) hw.fr hu rfl, ?_⟩
      conv => whnf
      repeat refine At.seq ?_
      refine At.cond rfl (fun hq => ?_) (fun hq => ?_)
      · have hk : u.key = p := of_decide_eq_true hq
        rw [if_pos hk] at hsn
        repeat refine At.seq ?_
        refine At.region tab_ok ?_
        conv => whnf
        refine ⟨by omega, ?_⟩
        conv => whnf
        refine ⟨by omega, ?_⟩
        conv => whnf
        refine ⟨[.i u.n], fun w' hw => h3.load (n := 1) hw.fr hu rfl, ?_⟩
        conv => whnf
        refine ⟨⟨by omega, by omega⟩, ?_⟩
        conv => whnf
        rw [← hsn]
        repeat refine At.seq ?_
        refine At.region tab_ok ?_
        conv => whnf
        refine ⟨⟨by omega, by omega⟩, ?_⟩
        conv => whnf
        refine At.nextH fun w' hw => ⟨j + 1, by omega, by omega, Le.of rfl rfl ⟨rfl, rfl, rfl, rfl, rfl, rfl, rfl, rfl, rfl, rfl, trivial⟩, hw.keep [5, 3] rfl rfl rfl, ⟨⟨_, _, _, rfl⟩, ⟨_, _, _, rfl⟩, trivial⟩, ⟨(nopI _).okH, (nopI _).okH, trivial⟩⟩
      · have hk : ¬ u.key = p := of_decide_eq_false hq
        rw [if_neg hk, Int.add_zero] at hsn
        rw [← hsn]
        refine At.skip ?_
        repeat refine At.seq ?_
        refine At.region tab_ok ?_
        conv => whnf
        refine ⟨⟨by omega, by omega⟩, ?_⟩
        conv => whnf
        refine At.nextH fun w' hw => ⟨j + 1, by omega, by omega, Le.of rfl rfl ⟨rfl, rfl, rfl, rfl, rfl, rfl, rfl, rfl, rfl, rfl, trivial⟩, hw.keep [5, 3] rfl rfl rfl, ⟨⟨_, _, _, rfl⟩, ⟨_, _, _, rfl⟩, trivial⟩, ⟨(nopI _).okH, (nopI _).okH, trivial⟩⟩
    have hje : j = W.length := by have := of_decide_eq_false hc; omega
    subst hje
    rw [List.take_length]
    repeat refine At.seq ?_
    refine At.region tab_ok ?_
    conv => whnf
    refine ⟨by omega, ?_⟩
    conv => whnf
    refine ⟨by omega, ?_⟩
    conv => whnf
    refine ⟨encI z, fun w' hw => h1.load (n := 1) hw.fr hz rfl, ?_⟩
    conv => whnf
    have hsN : Pl.sumN (p + 1) (fun q => min (Pl.needs q W) (Pl.at' St q)) = Pl.sumN p (fun q => min (Pl.needs q W) (Pl.at' St q)) + min (Pl.needs p W) z := by simp only [Pl.sumN]; rw [hat]
    refine ⟨⟨by omega, by omega⟩, ?_⟩
    conv => whnf
    rw [← hsN]
    repeat refine At.seq ?_
    refine At.region tab_ok ?_
    conv => whnf
    refine ⟨⟨by omega, by omega⟩, ?_⟩
    conv => whnf
    have hmul : (1099511627776 : Int) * ((p + 1 : Nat) : Int) = 1099511627776 * (p : Int) + 1099511627776 := by omega
    refine At.nextH fun w' hw => ⟨p + 1, ⟨by omega, by omega, by omega⟩, by omega, Le.of rfl rfl ⟨rfl, rfl, rfl, rfl, rfl, rfl, rfl, rfl, trivial⟩, hw.keep [5, 3] rfl rfl rfl, ⟨⟨_, _, _, rfl⟩, ⟨_, _, _, rfl⟩, trivial⟩, ⟨(nopI _).okH, (nopI _).okH, trivial⟩⟩
  have hpe : p = St.length := by have := of_decide_eq_false hc; omega
  subst hpe
  have how : Pl.sumN St.length (fun q => min (Pl.needs q W) (Pl.at' St q)) = Pl.sumI X6 := by rw [ho6]; rfl
  rw [how]
  repeat refine At.seq ?_
  refine At.regionG tab_ok ?_
  conv => whnf
  refine ans_call b23 rfl (fun w' hw => sum30_c X6 [] vx6 w' (slN _ (hw.row (id := 5) rfl) (by rw [hm6.1]; omega)) (by rw [hm6.1]; omega) hm6.2) ?_
  conv => whnf
  rw [decide_eq_true (show Pl.sumI X6 = Pl.sumI X6 from rfl)]
  conv => whnf
  refine ans_call b23 rfl (fun w' hw => S0 hw (hw.row (id := 3) rfl)) ?_
  conv => whnf
  repeat refine At.seq ?_
  refine At.ret (At.doneB tab_ok hB _ rfl fun w' hw => ⟨?_, hw.fr⟩)
  rw [decide_eq_true hl6]
  rfl
section
variable {H : Type} {enc : TypeId × Value → H} {w : World} {spare : Nat → Bool} {held : Bool}
theorem okWide_struct30 {P : Program} {r : Reach} {base : Nat} {t : TypeId} {fs : Array Field} {v : Value} (hu : P.underlying t = some (.struct fs)) (hv : Value.okWide P w r base t v) : ∃ cs, v = .agg cs := by
  unfold Value.okWide at hv
  rw [hu] at hv
  obtain ⟨cs, e, _⟩ := hv
  exact ⟨cs, e⟩
set_option maxRecDepth 100000 in
theorem meet_arg {base : Nat} {v : Value} {d : DataW H} {ps : List MemPlace} (hv : Value.okWide Try.prog w .any base 42 v) (h : DataW.Trod enc Try.prog w 0 spare held 42 v d ps) : ∃ m : Pl.Meet, v = (RV.s (.agg (encM m))).den := by
  have hcs : ∃ cs, v = .agg cs := by
    have q := u42
    generalize Try.prog.fieldsOf 42 = fs at q
    generalize Try.prog = P at q hv
    exact okWide_struct30 q hv
  obtain ⟨cs, rfl⟩ := hcs
  obtain ⟨fuel, hf⟩ := h
  obtain ⟨m, l, rfl, e⟩ := meet30_open hf
  refine ⟨m, ?_⟩
  have e' : cs.toList = dens (encM m) := e.symm
  show Value.agg cs = Value.agg (dens (encM m)).toArray
  rw [← e']
set_option maxRecDepth 100000 in
theorem want_arg {base : Nat} {v : Value} {d : DataW H} {ps : List MemPlace} (hv : Value.okWide Try.prog w .any base 40 v) (h : DataW.Trod enc Try.prog w 0 spare held 40 v d ps) : ∃ m : Pl.Want, v = (RV.s (.agg (encW m))).den := by
  have hcs : ∃ cs, v = .agg cs := by
    have q := u40
    generalize Try.prog.fieldsOf 40 = fs at q
    generalize Try.prog = P at q hv
    exact okWide_struct30 q hv
  obtain ⟨cs, rfl⟩ := hcs
  obtain ⟨fuel, hf⟩ := h
  obtain ⟨m, l, rfl, e⟩ := want30_open hf
  refine ⟨m, ?_⟩
  have e' : cs.toList = dens (encW m) := e.symm
  show Value.agg cs = Value.agg (dens (encW m)).toArray
  rw [← e']
end
end Go.Proofs.Ytjilbkioieicbaa


namespace Go.Proofs.Ytjilbkioieicbaa.planMore
open Go.ChangeShapes Go.WideShapes Go.ChangeAt Go.RowKit
set_option linter.unusedVariables false
theorem own : ownKnob Try.prog.godebug = none := by kernel_rfl
set_option maxRecDepth 100000 in
theorem lifted (os : Os) (started : os.Started) (H : Type) (enc : TypeId × Value → H) :
    ReturnsInHanded {} Try.checked os 5 .any (Rows.planMoreSpec.pre6 enc Try.prog Try.f5 Rows.planMoreRow.domain false) (Rows.planMoreSpec.post enc Try.prog Try.f5 false true false false) := by
  refine returnsInHanded_of_change (C := Try.checked) own started (by kernel_rfl) Try.func5
    (ChangeSpec.witness6 (enc := enc) (C := Try.checked) false ⟨#[], #[.slice none 0 0, .slice none 0 0, .slice none 0 0, .int .u8 0, .int .i64 0, .agg #[.int .i64 0, .int .i64 0, .int .i64 0, .int .i64 0], .agg #[.int .i64 0, .int .i64 0, .int .i64 0]], []⟩ 8 (by kernel_rfl) (by kernel_rfl) (by kernel_rfl) (by kernel_rfl)) ?_
  intro W base args ds gs before hval0 hW hcnd _
  have hval : ∀ (j : Nat) t v, Try.f5.params[j]? = some t → args[j]? = some v → Value.okWide Try.prog W .any base t v := hval0
  have hW' := hW
  obtain ⟨p, q, hA0, hV, rfl, hfz, hnd⟩ := hW
  have hA : DataW.TrodAll enc Try.prog W 0 (fun _ => true) true Try.f5.params.toList args.toList ds p := hA0
  rw [Try.params5] at hA hval
  obtain ⟨v0, vs0, d0, ds0, p0, q0, hargs, rfl, rfl, h0, r0⟩ := trodAll_cons hA
  obtain ⟨v1, vs1, d1, ds1, p1, q1, rfl, rfl, rfl, h1, r1⟩ := trodAll_cons r0
  obtain ⟨v2, vs2, d2, ds2, p2, q2, rfl, rfl, rfl, h2, r2⟩ := trodAll_cons r1
  obtain ⟨v3, vs3, d3, ds3, p3, q3, rfl, rfl, rfl, h3, r3⟩ := trodAll_cons r2
  obtain ⟨v4, vs4, d4, ds4, p4, q4, rfl, rfl, rfl, h4, r4⟩ := trodAll_cons r3
  obtain ⟨v5, vs5, d5, ds5, p5, q5, rfl, rfl, rfl, h5, r5⟩ := trodAll_cons r4
  obtain ⟨v6, vs6, d6, ds6, p6, q6, rfl, rfl, rfl, h6, r6⟩ := trodAll_cons r5
  obtain ⟨rfl, rfl, rfl⟩ := trodAll_nil r6
  obtain rfl : args = #[v0, v1, v2, v3, v4, v5, v6] := by cases args; simp_all
  obtain ⟨rfl, rfl⟩ := trodVars_none hV
  have k0 := h0
  have lt0 : ∀ x ∈ p0, x.block < W.heap.size := fun x hx => hW'.lt x (by simp [hx])
  obtain ⟨l0, s0⟩ := ints30_open (okWide_slice u22 (hval 0 22 v0 rfl rfl)) h0
  have k1 := h1
  have lt1 : ∀ x ∈ p1, x.block < W.heap.size := fun x hx => hW'.lt x (by simp [hx])
  obtain ⟨l1, s1⟩ := meets30_open (okWide_slice u23 (hval 1 23 v1 rfl rfl)) h1
  have k2 := h2
  have lt2 : ∀ x ∈ p2, x.block < W.heap.size := fun x hx => hW'.lt x (by simp [hx])
  obtain ⟨l2, s2⟩ := wants30_open (okWide_slice u24 (hval 2 24 v2 rfl rfl)) h2
  obtain ⟨a3, rfl, rfl, rfl, w3⟩ := open_int u5 (hval 3 5 v3 rfl rfl) h3
  obtain ⟨a4, rfl, rfl, rfl, w4⟩ := open_int u3 (hval 4 3 v4 rfl rfl) h4
  have k5 := h5
  have lt5 : ∀ x ∈ p5, x.block < W.heap.size := fun x hx => hW'.lt x (by simp [hx])
  obtain ⟨l5, e5⟩ := meet_arg (hval 5 42 v5 rfl rfl) h5
  subst e5
  have k6 := h6
  have lt6 : ∀ x ∈ p6, x.block < W.heap.size := fun x hx => hW'.lt x (by simp [hx])
  obtain ⟨l6, e6⟩ := want_arg (hval 6 40 v6 rfl rfl) h6
  subst e6
  clear hA0 hval0
  simp only [List.append_nil] at hW'
  refine (more_c l0 l1 l2 a3 a4 l5 l6 v0 v1 v2 W s0 s1 s2 (byte30 w3)).mono fun e W' ⟨he, hx⟩ => ?_
  subst he
  exact ⟨_, rfl, _, _, _, [], _, [], hW', trodAll_cons_mk (shut_bool u4 _) trodAll_mk0, (trodAll_cons_mk (Below.trod laid (by kernel_rfl) (of_decide_eq_true (by kernel_rfl)) k0 hx.below lt0) (trodAll_cons_mk (Below.trod laid (by kernel_rfl) (of_decide_eq_true (by kernel_rfl)) k1 hx.below lt1) (trodAll_cons_mk (Below.trod laid (by kernel_rfl) (of_decide_eq_true (by kernel_rfl)) k2 hx.below lt2) (trodAll_cons_mk (shut_int u5 w3) (trodAll_cons_mk (shut_int u3 w4) (trodAll_cons_mk (Below.trod laid (by kernel_rfl) (of_decide_eq_true (by kernel_rfl)) k5 hx.below lt5) (trodAll_cons_mk (Below.trod laid (by kernel_rfl) (of_decide_eq_true (by kernel_rfl)) k6 hx.below lt6) trodAll_mk0))))))), rfl, hx.below.frame _, fun h => by cases h⟩

theorem over : Rows.planMoreRow.holds Try.pinned (OpenSpec.ofChange Rows.planMoreSpec) :=
  OpenClaim.holds_of_wide 5 Try.f5 rfl rfl rfl rfl rfl rfl rfl ⟨rfl, rfl, rfl, rfl, rfl⟩ rfl rfl rfl rfl rfl (by kernel_rfl) Try.func5 (by kernel_rfl)
    (of_decide_eq_true (by kernel_rfl)) (by unfold Func.isWrapper; first | (rw [if_pos (by decide +kernel)]; kernel_rfl) | (rw [if_neg (by decide +kernel)]; exact ⟨rfl, rfl⟩))
    (fun os started H enc _ => lifted os started H enc)

/-- The statement. -/
theorem proved : Rows.PlanMoreSaid :=
  over
#print axioms proved
end Go.Proofs.Ytjilbkioieicbaa.planMore

