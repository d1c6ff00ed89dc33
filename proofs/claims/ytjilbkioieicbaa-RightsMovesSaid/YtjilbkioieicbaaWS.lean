/- Walks: two slices are compared. -/
import Derived.Test.YtjilbkioieicbaaB0
namespace Go.Proofs.Ytjilbkioieicbaa
open Go.Vc Rt
set_option linter.unusedVariables false
set_option linter.unusedSimpArgs false

theorem sameErrs_c (xs ys : List Int) (S S' : List Nat) (v u : Value) (w : World) (h : SlOf intT S w v xs) (h' : SlOf intT S' w u ys) : Ans Try.prog 34 [v, u] (.b (decide (xs = ys))) w := by
  replace h := h.avoid (S' := []) (fun b hb => by cases hb)
  replace h' := h'.avoid (S' := []) (fun b hb => by cases hb)
  have hsm := h.small
  have hsm' := h'.small
  have hl := h.len
  have hl' := h'.len
  refine calls_plainB [.x v, .x u] Try.func34 rfl rfl (Nat.le_of_ble_eq_true rfl) rfl fun B hB => ?_
  repeat refine At.seq ?_
  refine At.region tab_ok ?_
  conv => whnf
  repeat refine At.seq ?_
  refine At.region tab_ok ?_
  conv => whnf
  refine ⟨h.sl, ?_⟩
  conv => whnf
  refine ⟨h'.sl, ?_⟩
  conv => whnf
  repeat refine At.seq ?_
  refine At.cond rfl (fun hq => ?_) (fun hq => ?_)
  · repeat refine At.seq ?_
    refine At.region tab_ok ?_
    conv => whnf
    repeat refine At.seq ?_
    refine At.ret (At.doneB tab_ok hB _ rfl fun w' hw => ⟨?_, hw.fr⟩)
    have hne : xs ≠ ys := fun e => by subst e; rw [hl, hl'] at hq; simp at hq
    simp [hne, RV.den, SV.den, CV.den, ofConst]
  · have hll : xs.length = ys.length := by rw [hl, hl'] at hq; simp at hq; omega
    refine At.skip ?_
    repeat refine At.seq ?_
    refine At.region tab_ok ?_
    conv => whnf
    repeat refine At.seq ?_
    refine At.block ?_
    refine At.loopF (fun k : Nat => { N := Try.f34.ntmps, sl := [(0, some (.x v)), (1, some (.x u)), (5, some (.i k))], gl := [], hp := [], S := [], ws := w }) (fun k => k ≤ xs.length ∧ ∀ j, j < k → xs[j]? = ys[j]?) (fun k => xs.length - k)
      (fun w' hw => ⟨0, ⟨Nat.zero_le _, fun j hj => by omega⟩, Le.of rfl rfl ⟨rfl, rfl, rfl, trivial⟩, WF.plain rfl, hw.same rfl rfl rfl⟩) ?_
    intro k ⟨hk, hall⟩
    repeat refine At.seq ?_
    refine At.region tab_ok ?_
    conv => whnf
    refine ⟨h.sl, ?_⟩
    conv => whnf
    repeat refine At.seq ?_
    refine At.cond rfl (fun hc => At.skip ?_) (fun hc => At.exit ?_)
    · have hlt : k < xs.length := by have := of_decide_eq_true hc; omega
      obtain ⟨x, hx⟩ : ∃ x, xs[k]? = some x := ⟨_, List.getElem?_eq_getElem hlt⟩
      obtain ⟨y, hy⟩ : ∃ y, ys[k]? = some y := ⟨_, List.getElem?_eq_getElem (by omega)⟩
      repeat refine At.seq ?_
      refine At.block ?_
      repeat refine At.seq ?_
      refine At.draw tab_ok mixed (by kernel_rfl) ?_
      conv => whnf
      refine ⟨by omega, ?_⟩
      conv => whnf
      refine ⟨by omega, ?_⟩
      conv => whnf
      refine ⟨encI x, fun w' hw => h.load (n := 1) hw.fr hx rfl, ?_⟩
      conv => whnf
      refine ⟨by omega, ?_⟩
      conv => whnf
      refine ⟨by omega, ?_⟩
      conv => whnf
      refine ⟨encI y, fun w' hw => h'.load (n := 1) hw.fr hy rfl, ?_⟩
      conv => whnf
      repeat refine At.seq ?_
      refine At.cond rfl (fun hq => ?_) (fun hq => ?_)
      · repeat refine At.seq ?_
        refine At.region tab_ok ?_
        conv => whnf
        repeat refine At.seq ?_
        refine At.ret (At.doneB tab_ok hB _ rfl fun w' hw => ⟨?_, hw.fr⟩)
        have hxy : x ≠ y := fun e => by subst e; simp at hq
        have hne : xs ≠ ys := fun e => by subst e; rw [hx] at hy; exact hxy (Option.some.inj hy)
        simp [hne, RV.den, SV.den, CV.den, ofConst]
      · have hxy : x = y := by simpa using hq
        subst hxy
        refine At.skip ?_
        repeat refine At.seq ?_
        refine At.region tab_ok ?_
        conv => whnf
        refine ⟨⟨by omega, by omega⟩, ?_⟩
        conv => whnf
        refine At.next fun w' hw => ⟨k + 1, ⟨by omega, fun j hj => ?_⟩, by omega, Le.of rfl rfl ⟨rfl, rfl, rfl, trivial⟩, WF.plain rfl, hw.keep [] rfl rfl rfl⟩
        rcases Nat.lt_or_ge j k with hj' | hj'
        · exact hall j hj'
        · obtain rfl : j = k := by omega
          rw [hx, hy]
    · have hge : k = xs.length := by have := of_decide_eq_false hc; omega
      subst hge
      repeat refine At.seq ?_
      refine At.region tab_ok ?_
      conv => whnf
      repeat refine At.seq ?_
      refine At.ret (At.doneB tab_ok hB _ rfl fun w' hw => ⟨?_, hw.fr⟩)
      have he : xs = ys := List.ext_getElem? fun j => by
        rcases Nat.lt_or_ge j xs.length with hj | hj
        · exact hall j hj
        · rw [List.getElem?_eq_none hj, List.getElem?_eq_none (by omega)]
      simp [he, RV.den, SV.den, CV.den, ofConst]

theorem sameSpans_c (xs ys : List Span) (S S' : List Nat) (v u : Value) (w : World) (h : SlOf spT S w v xs) (h' : SlOf spT S' w u ys) : Ans Try.prog 35 [v, u] (.b (decide (xs = ys))) w := by
  replace h := h.avoid (S' := []) (fun b hb => by cases hb)
  replace h' := h'.avoid (S' := []) (fun b hb => by cases hb)
  have hsm := h.small
  have hsm' := h'.small
  have hl := h.len
  have hl' := h'.len
  refine calls_plainB [.x v, .x u] Try.func35 rfl rfl (Nat.le_of_ble_eq_true rfl) rfl fun B hB => ?_
  repeat refine At.seq ?_
  refine At.region tab_ok ?_
  conv => whnf
  repeat refine At.seq ?_
  refine At.region tab_ok ?_
  conv => whnf
  refine ⟨h.sl, ?_⟩
  conv => whnf
  refine ⟨h'.sl, ?_⟩
  conv => whnf
  repeat refine At.seq ?_
  refine At.cond rfl (fun hq => ?_) (fun hq => ?_)
  · repeat refine At.seq ?_
    refine At.region tab_ok ?_
    conv => whnf
    repeat refine At.seq ?_
    refine At.ret (At.doneB tab_ok hB _ rfl fun w' hw => ⟨?_, hw.fr⟩)
    have hne : xs ≠ ys := fun e => by subst e; rw [hl, hl'] at hq; simp at hq
    simp [hne, RV.den, SV.den, CV.den, ofConst]
  · have hll : xs.length = ys.length := by rw [hl, hl'] at hq; simp at hq; omega
    refine At.skip ?_
    repeat refine At.seq ?_
    refine At.region tab_ok ?_
    conv => whnf
    repeat refine At.seq ?_
    refine At.block ?_
    refine At.loopF (fun k : Nat => { N := Try.f35.ntmps, sl := [(0, some (.x v)), (1, some (.x u)), (5, some (.i k))], gl := [], hp := [], S := [], ws := w }) (fun k => k ≤ xs.length ∧ ∀ j, j < k → xs[j]? = ys[j]?) (fun k => xs.length - k)
      (fun w' hw => ⟨0, ⟨Nat.zero_le _, fun j hj => by omega⟩, Le.of rfl rfl ⟨rfl, rfl, rfl, trivial⟩, WF.plain rfl, hw.same rfl rfl rfl⟩) ?_
    intro k ⟨hk, hall⟩
    repeat refine At.seq ?_
    refine At.region tab_ok ?_
    conv => whnf
    refine ⟨h.sl, ?_⟩
    conv => whnf
    repeat refine At.seq ?_
    refine At.cond rfl (fun hc => At.skip ?_) (fun hc => At.exit ?_)
    · have hlt : k < xs.length := by have := of_decide_eq_true hc; omega
      obtain ⟨x, hx⟩ : ∃ x, xs[k]? = some x := ⟨_, List.getElem?_eq_getElem hlt⟩
      obtain ⟨y, hy⟩ : ∃ y, ys[k]? = some y := ⟨_, List.getElem?_eq_getElem (by omega)⟩
      repeat refine At.seq ?_
      refine At.block ?_
      repeat refine At.seq ?_
      refine At.draw tab_ok mixed (by kernel_rfl) ?_
      conv => whnf
      refine ⟨by omega, ?_⟩
      conv => whnf
      refine ⟨by omega, ?_⟩
      conv => whnf
      refine ⟨encS x, fun w' hw => h.load (n := 3) hw.fr hx rfl, ?_⟩
      conv => whnf
      refine ⟨by omega, ?_⟩
      conv => whnf
      refine ⟨by omega, ?_⟩
      conv => whnf
      refine ⟨encS y, fun w' hw => h'.load (n := 3) hw.fr hy rfl, ?_⟩
      conv => whnf
      repeat refine At.seq ?_
      refine At.cond rfl (fun hq => ?_) (fun hq => ?_)
      · repeat refine At.seq ?_
        refine At.region tab_ok ?_
        conv => whnf
        repeat refine At.seq ?_
        refine At.ret (At.doneB tab_ok hB _ rfl fun w' hw => ⟨?_, hw.fr⟩)
        have hxy : x ≠ y := fun e => by subst e; simp at hq
        have hne : xs ≠ ys := fun e => by subst e; rw [hx] at hy; exact hxy (Option.some.inj hy)
        simp [hne, RV.den, SV.den, CV.den, ofConst]
      · have hxy : x = y := by simp at hq; exact Span.ext' hq.1 hq.2.1 hq.2.2
        subst hxy
        refine At.skip ?_
        repeat refine At.seq ?_
        refine At.region tab_ok ?_
        conv => whnf
        refine ⟨⟨by omega, by omega⟩, ?_⟩
        conv => whnf
        refine At.next fun w' hw => ⟨k + 1, ⟨by omega, fun j hj => ?_⟩, by omega, Le.of rfl rfl ⟨rfl, rfl, rfl, trivial⟩, WF.plain rfl, hw.keep [] rfl rfl rfl⟩
        rcases Nat.lt_or_ge j k with hj' | hj'
        · exact hall j hj'
        · obtain rfl : j = k := by omega
          rw [hx, hy]
    · have hge : k = xs.length := by have := of_decide_eq_false hc; omega
      subst hge
      repeat refine At.seq ?_
      refine At.region tab_ok ?_
      conv => whnf
      repeat refine At.seq ?_
      refine At.ret (At.doneB tab_ok hB _ rfl fun w' hw => ⟨?_, hw.fr⟩)
      have he : xs = ys := List.ext_getElem? fun j => by
        rcases Nat.lt_or_ge j xs.length with hj | hj
        · exact hall j hj
        · rw [List.getElem?_eq_none hj, List.getElem?_eq_none (by omega)]
      simp [he, RV.den, SV.den, CV.den, ofConst]

theorem sameLots_c (xs ys : List Lot) (S S' : List Nat) (v u : Value) (w : World) (h : SlOf loT S w v xs) (h' : SlOf loT S' w u ys) : Ans Try.prog 31 [v, u] (.b (decide (xs = ys))) w := by
  replace h := h.avoid (S' := []) (fun b hb => by cases hb)
  replace h' := h'.avoid (S' := []) (fun b hb => by cases hb)
  have hsm := h.small
  have hsm' := h'.small
  have hl := h.len
  have hl' := h'.len
  refine calls_plainB [.x v, .x u] Try.func31 rfl rfl (Nat.le_of_ble_eq_true rfl) rfl fun B hB => ?_
  repeat refine At.seq ?_
  refine At.region tab_ok ?_
  conv => whnf
  repeat refine At.seq ?_
  refine At.region tab_ok ?_
  conv => whnf
  refine ⟨h.sl, ?_⟩
  conv => whnf
  refine ⟨h'.sl, ?_⟩
  conv => whnf
  repeat refine At.seq ?_
  refine At.cond rfl (fun hq => ?_) (fun hq => ?_)
  · repeat refine At.seq ?_
    refine At.region tab_ok ?_
    conv => whnf
    repeat refine At.seq ?_
    refine At.ret (At.doneB tab_ok hB _ rfl fun w' hw => ⟨?_, hw.fr⟩)
    have hne : xs ≠ ys := fun e => by subst e; rw [hl, hl'] at hq; simp at hq
    simp [hne, RV.den, SV.den, CV.den, ofConst]
  · have hll : xs.length = ys.length := by rw [hl, hl'] at hq; simp at hq; omega
    refine At.skip ?_
    repeat refine At.seq ?_
    refine At.region tab_ok ?_
    conv => whnf
    repeat refine At.seq ?_
    refine At.block ?_
    refine At.loopF (fun k : Nat => { N := Try.f31.ntmps, sl := [(0, some (.x v)), (1, some (.x u)), (5, some (.i k))], gl := [], hp := [], S := [], ws := w }) (fun k => k ≤ xs.length ∧ ∀ j, j < k → xs[j]? = ys[j]?) (fun k => xs.length - k)
      (fun w' hw => ⟨0, ⟨Nat.zero_le _, fun j hj => by omega⟩, Le.of rfl rfl ⟨rfl, rfl, rfl, trivial⟩, WF.plain rfl, hw.same rfl rfl rfl⟩) ?_
    intro k ⟨hk, hall⟩
    repeat refine At.seq ?_
    refine At.region tab_ok ?_
    conv => whnf
    refine ⟨h.sl, ?_⟩
    conv => whnf
    repeat refine At.seq ?_
    refine At.cond rfl (fun hc => At.skip ?_) (fun hc => At.exit ?_)
    · have hlt : k < xs.length := by have := of_decide_eq_true hc; omega
      obtain ⟨x, hx⟩ : ∃ x, xs[k]? = some x := ⟨_, List.getElem?_eq_getElem hlt⟩
      obtain ⟨y, hy⟩ : ∃ y, ys[k]? = some y := ⟨_, List.getElem?_eq_getElem (by omega)⟩
      repeat refine At.seq ?_
      refine At.block ?_
      repeat refine At.seq ?_
      refine At.draw tab_ok mixed (by kernel_rfl) ?_
      conv => whnf
      refine ⟨by omega, ?_⟩
      conv => whnf
      refine ⟨by omega, ?_⟩
      conv => whnf
      refine ⟨encL x, fun w' hw => h.load (n := 7) hw.fr hx rfl, ?_⟩
      conv => whnf
      refine ⟨by omega, ?_⟩
      conv => whnf
      refine ⟨by omega, ?_⟩
      conv => whnf
      refine ⟨encL y, fun w' hw => h'.load (n := 7) hw.fr hy rfl, ?_⟩
      conv => whnf
      repeat refine At.seq ?_
      refine At.cond rfl (fun hq => ?_) (fun hq => ?_)
      · repeat refine At.seq ?_
        refine At.region tab_ok ?_
        conv => whnf
        repeat refine At.seq ?_
        refine At.ret (At.doneB tab_ok hB _ rfl fun w' hw => ⟨?_, hw.fr⟩)
        have hxy : x ≠ y := fun e => by subst e; simp at hq
        have hne : xs ≠ ys := fun e => by subst e; rw [hx] at hy; exact hxy (Option.some.inj hy)
        simp [hne, RV.den, SV.den, CV.den, ofConst]
      · have hxy : x = y := by simp at hq; exact Lot.ext' (Span.ext' hq.1 hq.2.1 hq.2.2.1) hq.2.2.2.1 hq.2.2.2.2.1 hq.2.2.2.2.2.1 hq.2.2.2.2.2.2
        subst hxy
        refine At.skip ?_
        repeat refine At.seq ?_
        refine At.region tab_ok ?_
        conv => whnf
        refine ⟨⟨by omega, by omega⟩, ?_⟩
        conv => whnf
        refine At.next fun w' hw => ⟨k + 1, ⟨by omega, fun j hj => ?_⟩, by omega, Le.of rfl rfl ⟨rfl, rfl, rfl, trivial⟩, WF.plain rfl, hw.keep [] rfl rfl rfl⟩
        rcases Nat.lt_or_ge j k with hj' | hj'
        · exact hall j hj'
        · obtain rfl : j = k := by omega
          rw [hx, hy]
    · have hge : k = xs.length := by have := of_decide_eq_false hc; omega
      subst hge
      repeat refine At.seq ?_
      refine At.region tab_ok ?_
      conv => whnf
      repeat refine At.seq ?_
      refine At.ret (At.doneB tab_ok hB _ rfl fun w' hw => ⟨?_, hw.fr⟩)
      have he : xs = ys := List.ext_getElem? fun j => by
        rcases Nat.lt_or_ge j xs.length with hj | hj
        · exact hall j hj
        · rw [List.getElem?_eq_none hj, List.getElem?_eq_none (by omega)]
      simp [he, RV.den, SV.den, CV.den, ofConst]

end Go.Proofs.Ytjilbkioieicbaa
