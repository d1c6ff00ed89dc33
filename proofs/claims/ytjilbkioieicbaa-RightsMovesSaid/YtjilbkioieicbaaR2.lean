/- Walks: rights, small functions. -/
import Derived.Test.YtjilbkioieicbaaR1
import Derived.Test.YtjilbkioieicbaaW8
namespace Go.Proofs.Ytjilbkioieicbaa
open Go.Vc Rt
set_option linter.unusedVariables false
set_option linter.unusedSimpArgs false
theorem span_c (f t : Int) (w : World) : AnsR Try.prog 65 [vI f, vI t] [.row 56 3 ([⟨0, f, t⟩].map encS)] w := by
  refine calls_plainB [.i f, .i t] Try.func65 rfl rfl (Nat.le_of_ble_eq_true rfl) rfl fun B hB => ?_
  repeat refine At.seq ?_
  refine At.region tab_ok ?_
  conv => whnf
  repeat refine At.seq ?_
  refine At.region tab_ok ?_
  conv => whnf
  intro v1
  conv => whnf
  repeat refine At.seq ?_
  refine At.ret (At.doneB tab_ok hB _ rfl fun w' hw => ansR_row (id := 0) hw rfl rfl rfl)
theorem worse_eq (a b : Int) : worse a b = (([29, 27, 28] : List Int).find? (fun e => decide (a = e) || decide (b = e))).getD 0 := by
  unfold worse
  by_cases h1 : a = 29 ∨ b = 29
  · have : (decide (a = 29) || decide (b = 29)) = true := by simpa using h1
    simp [h1, this, List.find?]
  · have e1 : (decide (a = 29) || decide (b = 29)) = false := by simpa using h1
    by_cases h2 : a = 27 ∨ b = 27
    · have : (decide (a = 27) || decide (b = 27)) = true := by simpa using h2
      simp [h1, e1, h2, this, List.find?]
    · have e2 : (decide (a = 27) || decide (b = 27)) = false := by simpa using h2
      by_cases h3 : a = 28 ∨ b = 28
      · have : (decide (a = 28) || decide (b = 28)) = true := by simpa using h3
        simp [h1, e1, h2, e2, h3, this, List.find?]
      · have e3 : (decide (a = 28) || decide (b = 28)) = false := by simpa using h3
        simp [h1, e1, h2, e2, h3, e3, List.find?]
theorem worse_c (a b : Int) (w : World) : Ans Try.prog 126 [vI a, vI b] (.i (worse a b)) w := by
  rw [worse_eq]
  refine calls_plainB [.i a, .i b] Try.func126 rfl rfl (Nat.le_of_ble_eq_true rfl) rfl fun B hB => ?_
  repeat refine At.seq ?_
  refine At.region tab_ok ?_
  conv => whnf
  repeat refine At.seq ?_
  refine At.region tab_ok ?_
  conv => whnf
  intro v1
  conv => whnf
  refine ⟨rfl, ?_⟩
  conv => whnf
  repeat refine At.seq ?_
  refine At.block ?_
  refine At.loopH (fun k : Nat => { N := Try.f126.ntmps, sl := [(0, some (.i a)), (1, some (.i b)), (7, some (.s (.c (.o 0 v1)))), (8, some (.i 3)), (9, some (.i k))], gl := [], hp := [(0, .row v1 30 1 (([29, 27, 28] : List Int).map encI))], S := [], ws := w }) (fun k => k ≤ 3 ∧ (([29, 27, 28] : List Int).find? (fun e => decide (a = e) || decide (b = e))) = ((([29, 27, 28] : List Int).drop k).find? (fun e => decide (a = e) || decide (b = e)))) (fun k => 3 - k)
    (fun w' hw => ⟨0, ⟨by omega, rfl⟩, Le.of rfl rfl ⟨rfl, rfl, rfl, rfl, rfl, trivial⟩, hw.same rfl rfl rfl, ⟨⟨_, _, _, rfl⟩, trivial⟩, ⟨(nopI _).okH, trivial⟩⟩) ?_
  intro k ⟨hk, hfind⟩
  repeat refine At.seq ?_
  refine At.region tab_ok ?_
  conv => whnf
  repeat refine At.seq ?_
  refine At.cond rfl (fun hc => At.skip ?_) (fun hc => At.exit ?_)
  · have hlt : k < 3 := by have := of_decide_eq_true hc; omega
    obtain ⟨x, hx⟩ : ∃ x, ([29, 27, 28] : List Int)[k]? = some x := ⟨_, List.getElem?_eq_getElem hlt⟩
    have hd : ([29, 27, 28] : List Int).drop k = x :: ([29, 27, 28] : List Int).drop (k + 1) := by
      obtain ⟨h1, h2⟩ := List.getElem?_eq_some_iff.1 hx
      rw [List.drop_eq_getElem_cons h1, h2]
    rw [hd] at hfind
    repeat refine At.seq ?_
    refine At.block ?_
    repeat refine At.seq ?_
    refine At.region tab_ok ?_
    conv => whnf
    refine ⟨rfl, ?_⟩
    conv => whnf
    refine ⟨by omega, ?_⟩
    conv => whnf
    refine ⟨by simp; omega, ?_⟩
    conv => whnf
    refine ⟨encI x, ⟨rfl, rfl, by omega, by rw [Int.toNat_natCast, List.getElem?_map, hx]; rfl⟩, ?_⟩
    conv => whnf
    repeat refine At.seq ?_
    refine At.region tab_ok ?_
    conv => whnf
    repeat refine At.seq ?_
    refine At.cond rfl (fun hq => ?_) (fun hq => ?_)
    · repeat refine At.seq ?_
      refine At.region tab_ok ?_
      conv => whnf
      repeat refine At.seq ?_
      refine At.ret (At.doneB tab_ok hB _ rfl fun w' hw => ⟨?_, hw.fr⟩)
      simp only [bor] at hq
      rw [hfind, List.find?_cons_of_pos (by exact hq)]
      rfl
    · refine At.skip ?_
      repeat refine At.seq ?_
      refine At.region tab_ok ?_
      conv => whnf
      refine ⟨⟨by omega, by omega⟩, ?_⟩
      conv => whnf
      refine At.nextH fun w' hw => ⟨k + 1, ⟨by omega, ?_⟩, by omega, Le.of rfl rfl ⟨rfl, rfl, rfl, rfl, rfl, trivial⟩, hw.keep [0] rfl rfl rfl, ⟨⟨_, _, _, rfl⟩, trivial⟩, ⟨(nopI _).okH, trivial⟩⟩
      simp only [bor] at hq
      rw [hfind, List.find?_cons_of_neg (by rw [hq]; simp)]
  · have hge : k = 3 := by have := of_decide_eq_false hc; omega
    subst hge
    repeat refine At.seq ?_
    refine At.region tab_ok ?_
    conv => whnf
    repeat refine At.seq ?_
    refine At.ret (At.doneB tab_ok hB _ rfl fun w' hw => ⟨?_, hw.fr⟩)
    rw [hfind]; rfl
theorem right_c (d : Deed) (S : List Nat) (v : Value) (w : World) (h : SlOf spT S w v d.spans) : Ans Try.prog 92 [vD d v] (.b (right d)) w := by
  replace h := h.avoid (S' := []) (fun b hb => by cases hb)
  have hl := h.len
  refine calls_plainB [.s (.agg (encD d v))] Try.func92 rfl rfl (Nat.le_of_ble_eq_true rfl) rfl fun B hB => ?_
  repeat refine At.seq ?_
  refine At.region tab_ok ?_
  conv => whnf
  refine ⟨h.sl.one, ?_⟩
  conv => whnf
  intro b1
  conv => whnf
  repeat refine At.seq ?_
  refine At.region tab_ok ?_
  conv => whnf
  refine ⟨.b (isKey d.author), by simp only [gimp]; intro _; exact ans_quiet b121 (fun w _ => key_c d.author w), ?_⟩
  conv => whnf
  refine ⟨by simp only [gimp]; intro _; exact h.sl, ?_⟩
  conv => whnf
  refine ⟨.b (normal d.spans), by simp only [gimp]; intro _; exact ans_quiet b46 (fun w' hw => normal_c d.spans [] v w' (h.fr hw.fr)), ?_⟩
  conv => whnf
  repeat refine At.seq ?_
  refine At.cond rfl (fun hq => ?_) (fun hq => ?_)
  · repeat refine At.seq ?_
    refine At.region tab_ok ?_
    conv => whnf
    repeat refine At.seq ?_
    refine At.ret (At.doneB tab_ok hB _ rfl fun w' hw => ⟨?_, hw.fr⟩)
    simp only [bor, Bool.or_eq_true, Bool.not_eq_true', decide_eq_true_eq, hl] at hq
    have : d.mark < 0 ∨ 1073741824 < d.mark ∨ isKey d.author = false ∨ d.spans.length = 0 ∨ normal d.spans = false := by
      rcases hq with (((hq | hq) | hq) | hq) | hq
      · exact .inl hq
      · exact .inr (.inl hq)
      · exact .inr (.inr (.inl hq))
      · exact .inr (.inr (.inr (.inl (by omega))))
      · exact .inr (.inr (.inr (.inr hq)))
    unfold right; rw [if_pos this]
  · have hno : ¬ (d.mark < 0 ∨ 1073741824 < d.mark ∨ isKey d.author = false ∨ d.spans.length = 0 ∨ normal d.spans = false) := by
      simp only [bor, Bool.or_eq_false_iff, Bool.not_eq_false', decide_eq_false_iff_not, hl] at hq
      obtain ⟨⟨⟨⟨q1, q2⟩, q3⟩, q4⟩, q5⟩ := hq
      rintro (h | h | h | h | h)
      · omega
      · omega
      · rw [q3] at h; cases h
      · omega
      · rw [q5] at h; cases h
    obtain ⟨s0, hs0⟩ : ∃ s, d.spans[0]? = some s := ⟨_, List.getElem?_eq_getElem (by omega)⟩
    refine At.skip ?_
    repeat refine At.seq ?_
    refine At.region tab_ok ?_
    conv => whnf
    repeat refine At.seq ?_
    refine At.block ?_
    repeat refine At.seq ?_
    refine At.region tab_ok ?_
    conv => whnf
    repeat refine At.seq ?_
    refine At.cond rfl (fun hq => ?_) (fun hq => ?_)
    · have hk : d.kind = 0 := of_decide_eq_true hq
      repeat refine At.seq ?_
      refine At.draw tab_ok mixed (by kernel_rfl) ?_
      conv => whnf
      refine ⟨h.sl, ?_⟩
      conv => whnf
      refine ⟨by simp only [gimp]; intro _; omega, ?_⟩
      conv => whnf
      refine ⟨by simp only [gimp]; intro _; omega, ?_⟩
      conv => whnf
      refine ⟨[.i s0.m], by simp only [gimp]; intro _ w' hw; exact h.load (i := 0) (n := 1) hw.fr hs0 rfl, ?_⟩
      conv => whnf
      refine ⟨by simp only [gimp]; intro _; omega, ?_⟩
      conv => whnf
      refine ⟨by simp only [gimp]; intro _; omega, ?_⟩
      conv => whnf
      refine ⟨[.i s0.f], by simp only [gimp]; intro _ w' hw; exact h.load (i := 0) (n := 1) hw.fr hs0 rfl, ?_⟩
      conv => whnf
      repeat refine At.seq ?_
      refine At.ret (At.doneB tab_ok hB _ rfl fun w' hw => ⟨?_, hw.fr⟩)
      unfold right
      rw [if_neg hno, if_pos hk]
      simp only [band, RV.den, SV.den, CV.den, hl]
      match hsp : d.spans, hs0 with
      | [s], hs0 => simp at hs0; subst hs0; simp
      | s :: s' :: r, hs0 => simp; omega
    · have hk0 : ¬ d.kind = 0 := of_decide_eq_false hq
      repeat refine At.seq ?_
      refine At.region tab_ok ?_
      conv => whnf
      repeat refine At.seq ?_
      refine At.cond rfl (fun hq => ?_) (fun hq => ?_)
      · have hk : d.kind = 1 := of_decide_eq_true hq
        repeat refine At.seq ?_
        refine At.region tab_ok ?_
        conv => whnf
        refine ans_call b121 rfl (fun w _ => key_c d.who w) ?_
        conv => whnf
        repeat refine At.seq ?_
        refine At.ret (At.doneB tab_ok hB _ rfl fun w' hw => ⟨?_, hw.fr⟩)
        unfold right
        rw [if_neg hno, if_neg hk0, if_pos hk]
        simp only [band]
      · have hk1 : ¬ d.kind = 1 := of_decide_eq_false hq
        repeat refine At.seq ?_
        refine At.region tab_ok ?_
        conv => whnf
        repeat refine At.seq ?_
        refine At.cond rfl (fun hq => ?_) (fun hq => ?_)
        · have hk : d.kind = 2 := of_decide_eq_true hq
          repeat refine At.seq ?_
          refine At.region tab_ok ?_
          conv => whnf
          refine ans_call b121 rfl (fun w _ => key_c d.who w) ?_
          conv => whnf
          repeat refine At.seq ?_
          refine At.ret (At.doneB tab_ok hB _ rfl fun w' hw => ⟨?_, hw.fr⟩)
          unfold right
          rw [if_neg hno, if_neg hk0, if_neg hk1, if_pos hk]
          simp only [band, Bool.and_assoc]
        · have hk2 : ¬ d.kind = 2 := of_decide_eq_false hq
          refine At.skip ?_
          repeat refine At.seq ?_
          refine At.region tab_ok ?_
          conv => whnf
          repeat refine At.seq ?_
          refine At.ret (At.doneB tab_ok hB _ rfl fun w' hw => ⟨?_, hw.fr⟩)
          unfold right
          rw [if_neg hno, if_neg hk0, if_neg hk1, if_neg hk2]
end Go.Proofs.Ytjilbkioieicbaa
