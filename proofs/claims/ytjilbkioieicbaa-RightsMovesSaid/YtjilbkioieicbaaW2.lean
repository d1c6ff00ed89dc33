/- Walks: spans. -/
import Derived.Test.YtjilbkioieicbaaW1
namespace Go.Proofs.Ytjilbkioieicbaa
open Go.Vc Rt
set_option linter.unusedVariables false
set_option linter.unusedSimpArgs false
theorem normal_false {xs : List Span} {k : Nat} (hk : k < xs.length) (h : okAt xs k = false) : normal xs = false := by
  unfold normal
  rw [List.all_eq_false]
  exact ⟨k, List.mem_range.2 hk, by simp [h]⟩
theorem normal_true {xs : List Span} (h : ∀ j, j < xs.length → okAt xs j = true) : normal xs = true := by
  unfold normal
  rw [List.all_eq_true]
  intro k hk
  exact h k (List.mem_range.1 hk)
theorem normal_c (xs : List Span) (S : List Nat) (v : Value) (w : World) (h : SlOf spT S w v xs) : Ans Try.prog 46 [v] (.b (normal xs)) w := by
  replace h := h.avoid (S' := []) (fun b hb => by cases hb)
  have hsm := h.small
  refine calls_plainB [.x v] Try.func46 rfl rfl (Nat.le_of_ble_eq_true rfl) rfl fun B hB => ?_
  repeat refine At.seq ?_
  refine At.region tab_ok ?_
  conv => whnf
  repeat refine At.seq ?_
  refine At.region tab_ok ?_
  conv => whnf
  refine ⟨h.sl, ?_⟩
  conv => whnf
  repeat refine At.seq ?_
  refine At.block ?_
  refine At.loopF (fun k : Nat => { N := Try.f46.ntmps, sl := [(0, some (.x v)), (5, some (.x v)), (6, some (.i xs.length)), (7, some (.i k))], gl := [], hp := [], S := [], ws := w }) (fun k => k ≤ xs.length ∧ ∀ j, j < k → okAt xs j = true) (fun k => xs.length - k)
    (fun w' hw => ⟨0, ⟨Nat.zero_le _, fun j hj => by omega⟩, Le.of rfl rfl ⟨rfl, rfl, congrArg (Value.int .i64) h.len, rfl, trivial⟩, WF.plain rfl, hw.same rfl rfl rfl⟩) ?_
  intro k ⟨hk, hall⟩
  repeat refine At.seq ?_
  refine At.region tab_ok ?_
  conv => whnf
  repeat refine At.seq ?_
  refine At.cond rfl (fun hc => At.skip ?_) (fun hc => At.exit ?_)
  · have hlt : k < xs.length := by simpa using hc
    obtain ⟨x, hx⟩ : ∃ x, xs[k]? = some x := ⟨_, List.getElem?_eq_getElem hlt⟩
    obtain ⟨y, hy⟩ : ∃ y, xs[k - 1]? = some y := ⟨_, List.getElem?_eq_getElem (by omega)⟩
    have hy' : ∀ {q : Int}, q = k - 1 → 0 < (k : Int) → xs[q.toNat]? = some y := fun e h0 => by rw [← hy]; congr 1; omega
    have hln := h.len
    repeat refine At.seq ?_
    refine At.block ?_
    repeat refine At.seq ?_
    refine At.region tab_ok ?_
    conv => whnf
    refine ⟨by omega, ?_⟩
    conv => whnf
    refine ⟨by rw [h.len]; omega, ?_⟩
    conv => whnf
    refine ⟨encS x, fun w' hw => h.load (n := 3) hw.fr hx rfl, ?_⟩
    conv => whnf
    intro b
    conv => whnf
    repeat refine At.seq ?_
    refine At.draw tab_ok mixed (by kernel_rfl) ?_
    conv => whnf
    refine ⟨.b (valid x), ans_quiet b80 (fun w _ => valid_c x w), ?_⟩
    conv => whnf
    refine ⟨by simp only [gimp]; intro h1; have := of_decide_eq_true h1; exact fun _ => ⟨by omega, by omega⟩, ?_⟩
    conv => whnf
    refine ⟨by simp only [gimp]; intro h1; have := of_decide_eq_true h1; exact fun _ => by omega, ?_⟩
    conv => whnf
    refine ⟨by simp only [gimp]; intro h1; have := of_decide_eq_true h1; exact fun _ => by omega, ?_⟩
    conv => whnf
    refine ⟨[.i y.m], by simp only [gimp]; intro h1 _ w' hw; have := of_decide_eq_true h1; exact h.loadI (n := 1) hw.fr (by omega) (hy' rfl (by omega)) rfl, ?_⟩
    conv => whnf
    refine ⟨by simp only [gimp]; intro _ h1; have := of_decide_eq_true h1; exact fun _ => ⟨by omega, by omega⟩, ?_⟩
    conv => whnf
    refine ⟨by simp only [gimp]; intro _ h1; have := of_decide_eq_true h1; exact fun _ => by omega, ?_⟩
    conv => whnf
    refine ⟨by simp only [gimp]; intro _ h1; have := of_decide_eq_true h1; exact fun _ => by omega, ?_⟩
    conv => whnf
    refine ⟨[.i y.m], by simp only [gimp]; intro _ h1 _ w' hw; have := of_decide_eq_true h1; exact h.loadI (n := 1) hw.fr (by omega) (hy' rfl (by omega)) rfl, ?_⟩
    conv => whnf
    refine ⟨by simp only [gimp]; intro _ _ h1; have := of_decide_eq_true h1; exact fun _ => ⟨by omega, by omega⟩, ?_⟩
    conv => whnf
    refine ⟨by simp only [gimp]; intro _ _ h1; have := of_decide_eq_true h1; exact fun _ => by omega, ?_⟩
    conv => whnf
    refine ⟨by simp only [gimp]; intro _ _ h1; have := of_decide_eq_true h1; exact fun _ => by omega, ?_⟩
    conv => whnf
    refine ⟨[.i y.t], by simp only [gimp]; intro _ _ h1 _ w' hw; have := of_decide_eq_true h1; exact h.loadI (n := 1) hw.fr (by omega) (hy' rfl (by omega)) rfl, ?_⟩
    conv => whnf
    have hok : okAt xs k = (valid x && (k == 0 || !(decide (x.m < y.m) || (decide (y.m = x.m) && decide (x.f ≤ y.t))))) := by
      unfold okAt; rw [hx]; simp only [hy]
    repeat refine At.seq ?_
    refine At.cond rfl (fun hq => ?_) (fun hq => ?_)
    · repeat refine At.seq ?_
      refine At.region tab_ok ?_
      conv => whnf
      repeat refine At.seq ?_
      refine At.ret (At.doneB tab_ok hB _ rfl fun w' hw => ⟨?_, hw.fr⟩)
      rw [normal_false hlt]
      rw [hok]
      simp only [band, bor] at hq
      revert hq
      cases valid x <;> cases decide (x.m < y.m) <;> cases decide (y.m = x.m) <;> cases decide (x.f ≤ y.t) <;> simp <;> try omega
    · refine At.skip ?_
      repeat refine At.seq ?_
      refine At.region tab_ok ?_
      conv => whnf
      refine ⟨⟨by omega, by omega⟩, ?_⟩
      conv => whnf
      refine At.next fun w' hw => ⟨k + 1, ⟨by omega, fun j hj => ?_⟩, by omega, Le.of rfl rfl ⟨rfl, rfl, rfl, rfl, trivial⟩, WF.plain rfl, hw.keep [] rfl rfl rfl⟩
      rcases Nat.lt_or_ge j k with hj' | hj'
      · exact hall j hj'
      · obtain rfl : j = k := by omega
        rw [hok]
        simp only [band, bor] at hq
        revert hq
        cases valid x <;> cases decide (x.m < y.m) <;> cases decide (y.m = x.m) <;> cases decide (x.f ≤ y.t) <;> simp <;> try omega
  · have hge : k = xs.length := by simp at hc; omega
    subst hge
    repeat refine At.seq ?_
    refine At.region tab_ok ?_
    conv => whnf
    repeat refine At.seq ?_
    refine At.ret (At.doneB tab_ok hB _ rfl fun w' hw => ⟨?_, hw.fr⟩)
    rw [normal_true hall]
end Go.Proofs.Ytjilbkioieicbaa
