/- Texts that the law uses: R1 R2 R3 R4 R5 R6 R7 R8 R9 R10 R11. -/
import Derived.Test.YtjilbkioieicbaaGreatMC
import Derived.Lib.Overlaps
import Derived.Laws.Externs
import Derived.Defers
/- Walks: rights, small functions. -/
namespace Go.Proofs.YtjilbkioieicbaaGreat
open Go.Vc Rt
set_option linter.unusedVariables false
set_option linter.unusedSimpArgs false
theorem key_c (n : Int) (w : World) : Ans Tryz.prog 78 [vI n] (.b (isKey n)) w := isKey_c n w
def ptr (b : Nat) : Value := .pointer (some ⟨b, 0, none⟩)
/-- A function that looks into one box. -/
theorem owned1_c (l : Lot) (key : Int) (b : Nat) (w : World) (hb : (LO.box b 3 [.i key]).holds w) : Ans Tryz.prog 36 [vL l, ptr b] (.b (decide (l.o = key))) w := by
  have hh : Holds (St.enter Tryz.f36.ntmps [.s (.agg (encL l)), .s (.c (.p 0 b 0))] [(0, .box b 3 [.i key])] [b] w) w := enter_objs (fun o ho => by simp at ho; subst ho; exact hb) (by simp [LO.blks])
  refine calls_atB _ _ _ Tryz.func36 rfl rfl (Nat.le_of_ble_eq_true rfl) (WF.objs hh ⟨⟨_, _, rfl⟩, trivial⟩ trivial) hh fun B hB => ?_
  repeat refine At.seq ?_
  refine At.region tab_ok ?_
  conv => whnf
  intro b1
  conv => whnf
  repeat refine At.seq ?_
  refine At.region tab_ok ?_
  conv => whnf
  repeat refine At.seq ?_
  refine At.ret (At.doneB tab_ok hB _ rfl fun w' hw => ⟨rfl, hw.fr.ext fun c hc => ?_⟩)
  rw [List.mem_singleton.1 hc]; exact (hw.box (id := 0) rfl).trans hb.symm
theorem sum1_c (l : Lot) (w : World) : Ans Tryz.prog 37 [vL l] (.b true) w := by
  refine calls_plainB [.s (.agg (encL l))] Tryz.func37 rfl rfl (Nat.le_of_ble_eq_true rfl) rfl fun B hB => ?_
  repeat refine At.seq ?_
  refine At.region tab_ok ?_
  conv => whnf
  intro b1
  conv => whnf
  repeat refine At.seq ?_
  refine At.region tab_ok ?_
  conv => whnf
  repeat refine At.seq ?_
  refine At.ret (At.doneB tab_ok hB _ rfl fun w' hw => ⟨rfl, hw.fr⟩)
theorem take1_c (l : Lot) (mark : Int) (w : World) (h : inR (l.s.m - mark)) : Ans Tryz.prog 81 [vL l, vI mark] (.i (l.s.m - mark)) w := by
  refine calls_plainB [.s (.agg (encL l)), .i mark] Tryz.func81 rfl rfl (Nat.le_of_ble_eq_true rfl) rfl fun B hB => ?_
  repeat refine At.seq ?_
  refine At.region tab_ok ?_
  conv => whnf
  intro b1
  conv => whnf
  repeat refine At.seq ?_
  refine At.region tab_ok ?_
  conv => whnf
  refine ⟨h, ?_⟩
  conv => whnf
  repeat refine At.seq ?_
  refine At.ret (At.doneB tab_ok hB _ rfl fun w' hw => ⟨rfl, hw.fr⟩)
theorem cut11_c (l : Lot) (s : Span) (n : Int) (bs bn : Nat) (w : World) (hs : (LO.box bs 25 (encS s)).holds w) (hn : (LO.box bn 3 [.i n]).holds w) (hne : bs ≠ bn) : Ans Tryz.prog 101 [vL l, ptr bs, ptr bn] (.b (inLot s.m n l)) w := by
  have hh : Holds (St.enter Tryz.f101.ntmps [.s (.agg (encL l)), .s (.c (.p 0 bs 0)), .s (.c (.p 1 bn 0))] [(0, .box bs 25 (encS s)), (1, .box bn 3 [.i n])] [bs, bn] w) w := enter_objs (fun o ho => by simp at ho; rcases ho with rfl | rfl; exact hs; exact hn) (by simp [LO.blks, hne])
  refine calls_atB _ _ _ Tryz.func101 rfl rfl (Nat.le_of_ble_eq_true rfl) (WF.objs hh ⟨⟨_, _, rfl⟩, ⟨_, _, rfl⟩, trivial⟩ trivial) hh fun B hB => ?_
  repeat refine At.seq ?_
  refine At.region tab_ok ?_
  conv => whnf
  intro b1
  conv => whnf
  repeat refine At.seq ?_
  refine At.region tab_ok ?_
  conv => whnf
  repeat refine At.seq ?_
  refine At.ret (At.doneB tab_ok hB _ rfl fun w' hw => ⟨?_, hw.fr.ext fun c hc => ?_⟩)
  · simp only [RV.den, SV.den, CV.den, band, inLot, Bool.and_assoc]
  · rcases List.mem_cons.1 hc with rfl | hc
    · exact (hw.box (id := 0) rfl).trans hs.symm
    · rw [List.mem_singleton.1 hc]; exact (hw.box (id := 1) rfl).trans hn.symm
theorem may_c (l : Lot) (d : Deed) (v : Value) (w : World) (hv : isSl v) : Ans Tryz.prog 85 [vL l, vD d v] (.i (may l d)) w := by
  refine calls_plainB [.s (.agg (encL l)), .s (.agg (encD d v))] Tryz.func85 rfl rfl (Nat.le_of_ble_eq_true rfl) rfl fun B hB => ?_
  repeat refine At.seq ?_
  refine At.region tab_ok ?_
  conv => whnf
  intro b1
  conv => whnf
  refine ⟨hv.one, ?_⟩
  conv => whnf
  intro b2
  conv => whnf
  repeat refine At.seq ?_
  refine At.block ?_
  repeat refine At.seq ?_
  refine At.region tab_ok ?_
  conv => whnf
  repeat refine At.seq ?_
  refine At.cond rfl (fun hq => ?_) (fun hq => ?_)
  · repeat refine At.seq ?_
    refine At.region tab_ok ?_
    conv => whnf
    repeat refine At.seq ?_
    refine At.ret (At.doneB tab_ok hB _ rfl fun w' hw => ⟨?_, hw.fr⟩)
    simp at hq
    simp [may, hq, RV.den, SV.den, CV.den, ofConst]
  · have h1 : l.p = -1 := by simpa using hq
    repeat refine At.seq ?_
    refine At.region tab_ok ?_
    conv => whnf
    repeat refine At.seq ?_
    refine At.cond rfl (fun hq => ?_) (fun hq => ?_)
    · repeat refine At.seq ?_
      refine At.region tab_ok ?_
      conv => whnf
      repeat refine At.seq ?_
      refine At.ret (At.doneB tab_ok hB _ rfl fun w' hw => ⟨?_, hw.fr⟩)
      simp only [band, Bool.and_eq_true, Bool.not_eq_true', decide_eq_false_iff_not] at hq
      simp [may, h1, hq, RV.den, SV.den, CV.den, ofConst]
    · have h2 : ¬ (l.o ≠ d.author ∧ l.h ≠ d.author) := by
        intro h; simp [h.1, h.2] at hq
      repeat refine At.seq ?_
      refine At.region tab_ok ?_
      conv => whnf
      repeat refine At.seq ?_
      refine At.cond rfl (fun hq => ?_) (fun hq => ?_)
      · repeat refine At.seq ?_
        refine At.region tab_ok ?_
        conv => whnf
        repeat refine At.seq ?_
        refine At.ret (At.doneB tab_ok hB _ rfl fun w' hw => ⟨?_, hw.fr⟩)
        have h3 : l.h ≠ d.author := by simpa using hq
        simp [may, h1, if_neg h2, h3, RV.den, SV.den, CV.den, ofConst]
        exact Decidable.byContradiction fun h => h2 ⟨h, h3⟩
      · have h3 : l.h = d.author := by simpa using hq
        repeat refine At.seq ?_
        refine At.region tab_ok ?_
        conv => whnf
        repeat refine At.seq ?_
        refine At.cond rfl (fun hq => ?_) (fun hq => ?_)
        · repeat refine At.seq ?_
          refine At.region tab_ok ?_
          conv => whnf
          repeat refine At.seq ?_
          refine At.ret (At.doneB tab_ok hB _ rfl fun w' hw => ⟨?_, hw.fr⟩)
          simp only [band, bor, Bool.and_eq_true, Bool.or_eq_true, Bool.not_eq_true', decide_eq_false_iff_not] at hq
          have h4 : l.o ≠ d.author ∧ d.kind ≠ 3 ∧ (d.kind ≠ 1 ∨ d.who ≠ l.o) := ⟨hq.1.1, hq.1.2, hq.2⟩
          unfold may
          rw [if_neg (by simpa using h1), if_neg h2, if_neg (by simpa using h3), if_pos h4]
        · refine At.skip ?_
          repeat refine At.seq ?_
          refine At.region tab_ok ?_
          conv => whnf
          repeat refine At.seq ?_
          refine At.ret (At.doneB tab_ok hB _ rfl fun w' hw => ⟨?_, hw.fr⟩)
          have h4 : ¬ (l.o ≠ d.author ∧ d.kind ≠ 3 ∧ (d.kind ≠ 1 ∨ d.who ≠ l.o)) := by
            rintro ⟨a, b, c⟩
            simp only [band, bor] at hq
            rcases c with c | c <;> simp [a, b, c] at hq
          unfold may
          rw [if_neg (by simpa using h1), if_neg h2, if_neg (by simpa using h3), if_neg h4]
theorem indexL_c (xs : List Lot) (S : List Nat) (v : Value) (w : World) (h : SlOf loT S w v xs) (g : Nat) (caps : Array Value) (p : Lot → Bool) (hg : Body Tryz.prog g)
    (hf : ∀ x ∈ xs, ∀ w', Ext w w' → Ans Tryz.prog g (vL x :: caps.toList) (.b (p x)) w') : Ans Tryz.prog 100 [v, .func (.func g) #[] caps] (.i (idxOf p xs)) w := by
  replace h := h.avoid (S' := []) (fun b hb => by cases hb)
  have hsm := h.small
  refine calls_plainB [.x v, .x (.func (.func g) #[] caps)] Tryz.func100 rfl rfl (Nat.le_of_ble_eq_true rfl) rfl fun B hB => ?_
  repeat refine At.seq ?_
  refine At.region tab_ok ?_
  conv => whnf
  repeat refine At.seq ?_
  refine At.region tab_ok ?_
  conv => whnf
  refine ⟨h.sl, ?_⟩
  conv => whnf
  repeat refine At.seq ?_
  refine At.block ?_
  refine At.loopF (fun k : Nat => { N := Tryz.f100.ntmps, sl := [(0, some (.x v)), (1, some (.x (.func (.func g) #[] caps))), (7, some (.i xs.length)), (8, some (.i k))], gl := [], hp := [], S := [], ws := w }) (fun k => k ≤ xs.length ∧ ∀ j y, j < k → xs[j]? = some y → p y = false) (fun k => xs.length - k)
    (fun w' hw => ⟨0, ⟨Nat.zero_le _, fun j y hj => by omega⟩, Le.of rfl rfl ⟨rfl, rfl, congrArg (Value.int .i64) h.len, rfl, trivial⟩, WF.plain rfl, hw.same rfl rfl rfl⟩) ?_
  intro k ⟨hk, hall⟩
  repeat refine At.seq ?_
  refine At.region tab_ok ?_
  conv => whnf
  repeat refine At.seq ?_
  refine At.cond rfl (fun hc => At.skip ?_) (fun hc => At.exit ?_)
  · have hlt : k < xs.length := by simpa using hc
    obtain ⟨x, hx⟩ : ∃ x, xs[k]? = some x := ⟨_, List.getElem?_eq_getElem hlt⟩
    repeat refine At.seq ?_
    refine At.block ?_
    repeat refine At.seq ?_
    refine At.region tab_ok ?_
    conv => whnf
    repeat refine At.seq ?_
    refine At.region tab_ok ?_
    conv => whnf
    refine ⟨by omega, ?_⟩
    conv => whnf
    refine ⟨by rw [h.len]; omega, ?_⟩
    conv => whnf
    refine ⟨encL x, fun w' hw => h.load (n := 7) hw.fr hx rfl, ?_⟩
    conv => whnf
    refine ans_call hg rfl (fun w' hw => hf x (List.mem_of_getElem? hx) w' hw.fr) ?_
    conv => whnf
    repeat refine At.seq ?_
    refine At.cond rfl (fun hq => ?_) (fun hq => ?_)
    · repeat refine At.seq ?_
      refine At.region tab_ok ?_
      conv => whnf
      repeat refine At.seq ?_
      refine At.ret (At.doneB tab_ok hB _ rfl fun w' hw => ⟨?_, hw.fr⟩)
      rw [idx_some hx hq hall]
    · refine At.skip ?_
      repeat refine At.seq ?_
      refine At.region tab_ok ?_
      conv => whnf
      refine ⟨⟨by omega, by omega⟩, ?_⟩
      conv => whnf
      refine At.next fun w' hw => ⟨k + 1, ⟨by omega, fun j y hj hy => ?_⟩, by omega, Le.of rfl rfl ⟨rfl, rfl, rfl, rfl, trivial⟩, WF.plain rfl, hw.keep [] rfl rfl rfl⟩
      rcases Nat.lt_or_ge j k with hj' | hj'
      · exact hall j y hj' hy
      · obtain rfl : j = k := by omega
        rw [hx] at hy; cases hy; exact hq
  · have hge : k = xs.length := by simp at hc; omega
    subst hge
    repeat refine At.seq ?_
    refine At.region tab_ok ?_
    conv => whnf
    repeat refine At.seq ?_
    refine At.ret (At.doneB tab_ok hB _ rfl fun w' hw => ⟨?_, hw.fr⟩)
    rw [idx_none (fun j y hy => hall j y (List.getElem?_eq_some_iff.1 hy).1 hy)]
end Go.Proofs.YtjilbkioieicbaaGreat

/- Walks: rights, small functions. -/
namespace Go.Proofs.YtjilbkioieicbaaGreat
open Go.Vc Rt
set_option linter.unusedVariables false
set_option linter.unusedSimpArgs false
theorem worse_eq (a b : Int) : worse a b = (([29, 27, 28] : List Int).find? (fun e => decide (a = e) || decide (b = e))).getD 0 := by
  unfold worse
  by_cases h1 : a = 29 ∨ b = 29
  · have : (decide (a = 29) || decide (b = 29)) = true := by simpa using h1
    simp [h1, this, List.find?]
  · have e1 : (decide (a = 29) || decide (b = 29)) = false := by simpa using h1
    by_cases h2 : a = 27 ∨ b = 27
    · have : (decide (a = 27) || decide (b = 27)) = true := by simpa using h2
      simp [h1, e1, h2, this, List.find?]
    · have e2 : (decide (a = 27) || decide (b = 27)) = false := by simpa using h2
      by_cases h3 : a = 28 ∨ b = 28
      · have : (decide (a = 28) || decide (b = 28)) = true := by simpa using h3
        simp [h1, e1, h2, e2, h3, this, List.find?]
      · have e3 : (decide (a = 28) || decide (b = 28)) = false := by simpa using h3
        simp [h1, e1, h2, e2, h3, e3, List.find?]
theorem worse_c (a b : Int) (w : World) : Ans Tryz.prog 84 [vI a, vI b] (.i (worse a b)) w := by
  rw [worse_eq]
  refine calls_plainB [.i a, .i b] Tryz.func84 rfl rfl (Nat.le_of_ble_eq_true rfl) rfl fun B hB => ?_
  repeat refine At.seq ?_
  refine At.region tab_ok ?_
  conv => whnf
  repeat refine At.seq ?_
  refine At.region tab_ok ?_
  conv => whnf
  intro v1
  conv => whnf
  refine ⟨rfl, ?_⟩
  conv => whnf
  repeat refine At.seq ?_
  refine At.block ?_
  refine At.loopH (fun k : Nat => { N := Tryz.f84.ntmps, sl := [(0, some (.i a)), (1, some (.i b)), (7, some (.s (.c (.o 0 v1)))), (8, some (.i 3)), (9, some (.i k))], gl := [], hp := [(0, .row v1 38 1 (([29, 27, 28] : List Int).map encI))], S := [], ws := w }) (fun k => k ≤ 3 ∧ (([29, 27, 28] : List Int).find? (fun e => decide (a = e) || decide (b = e))) = ((([29, 27, 28] : List Int).drop k).find? (fun e => decide (a = e) || decide (b = e)))) (fun k => 3 - k)
    (fun w' hw => ⟨0, ⟨by omega, rfl⟩, Le.of rfl rfl ⟨rfl, rfl, rfl, rfl, rfl, trivial⟩, hw.same rfl rfl rfl, ⟨⟨_, _, _, rfl⟩, trivial⟩, ⟨(nopI _).okH, trivial⟩⟩) ?_
  intro k ⟨hk, hfind⟩
  repeat refine At.seq ?_
  refine At.region tab_ok ?_
  conv => whnf
  repeat refine At.seq ?_
  refine At.cond rfl (fun hc => At.skip ?_) (fun hc => At.exit ?_)
  · have hlt : k < 3 := by have := of_decide_eq_true hc; omega
    obtain ⟨x, hx⟩ : ∃ x, ([29, 27, 28] : List Int)[k]? = some x := ⟨_, List.getElem?_eq_getElem hlt⟩
    have hd : ([29, 27, 28] : List Int).drop k = x :: ([29, 27, 28] : List Int).drop (k + 1) := by
      obtain ⟨h1, h2⟩ := List.getElem?_eq_some_iff.1 hx
      rw [List.drop_eq_getElem_cons h1, h2]
    rw [hd] at hfind
    repeat refine At.seq ?_
    refine At.block ?_
    repeat refine At.seq ?_
    refine At.region tab_ok ?_
    conv => whnf
    refine ⟨rfl, ?_⟩
    conv => whnf
    refine ⟨by omega, ?_⟩
    conv => whnf
    refine ⟨by simp; omega, ?_⟩
    conv => whnf
    refine ⟨encI x, ⟨rfl, rfl, by omega, by rw [Int.toNat_natCast, List.getElem?_map, hx]; rfl⟩, ?_⟩
    conv => whnf
    repeat refine At.seq ?_
    refine At.region tab_ok ?_
    conv => whnf
    repeat refine At.seq ?_
    refine At.cond rfl (fun hq => ?_) (fun hq => ?_)
    · repeat refine At.seq ?_
      refine At.region tab_ok ?_
      conv => whnf
      repeat refine At.seq ?_
      refine At.ret (At.doneB tab_ok hB _ rfl fun w' hw => ⟨?_, hw.fr⟩)
      simp only [bor] at hq
      rw [hfind, List.find?_cons_of_pos (by exact hq)]
      rfl
    · refine At.skip ?_
      repeat refine At.seq ?_
      refine At.region tab_ok ?_
      conv => whnf
      refine ⟨⟨by omega, by omega⟩, ?_⟩
      conv => whnf
      refine At.nextH fun w' hw => ⟨k + 1, ⟨by omega, ?_⟩, by omega, Le.of rfl rfl ⟨rfl, rfl, rfl, rfl, rfl, trivial⟩, hw.keep [0] rfl rfl rfl, ⟨⟨_, _, _, rfl⟩, trivial⟩, ⟨(nopI _).okH, trivial⟩⟩
      simp only [bor] at hq
      rw [hfind, List.find?_cons_of_neg (by rw [hq]; simp)]
  · have hge : k = 3 := by have := of_decide_eq_false hc; omega
    subst hge
    repeat refine At.seq ?_
    refine At.region tab_ok ?_
    conv => whnf
    repeat refine At.seq ?_
    refine At.ret (At.doneB tab_ok hB _ rfl fun w' hw => ⟨?_, hw.fr⟩)
    rw [hfind]; rfl
theorem right_c (d : Deed) (S : List Nat) (v : Value) (w : World) (h : SlOf spT S w v d.spans) : Ans Tryz.prog 65 [vD d v] (.b (right d)) w := by
  replace h := h.avoid (S' := []) (fun b hb => by cases hb)
  have hl := h.len
  refine calls_plainB [.s (.agg (encD d v))] Tryz.func65 rfl rfl (Nat.le_of_ble_eq_true rfl) rfl fun B hB => ?_
  repeat refine At.seq ?_
  refine At.region tab_ok ?_
  conv => whnf
  refine ⟨h.sl.one, ?_⟩
  conv => whnf
  intro b1
  conv => whnf
  repeat refine At.seq ?_
  refine At.region tab_ok ?_
  conv => whnf
  refine ⟨.b (isKey d.author), by simp only [gimp]; intro _; exact ans_quiet b121 (fun w _ => key_c d.author w), ?_⟩
  conv => whnf
  refine ⟨by simp only [gimp]; intro _; exact h.sl, ?_⟩
  conv => whnf
  refine ⟨.b (normal d.spans), by simp only [gimp]; intro _; exact ans_quiet b46 (fun w' hw => normal_c d.spans [] v w' (h.fr hw.fr)), ?_⟩
  conv => whnf
  repeat refine At.seq ?_
  refine At.cond rfl (fun hq => ?_) (fun hq => ?_)
  · repeat refine At.seq ?_
    refine At.region tab_ok ?_
    conv => whnf
    repeat refine At.seq ?_
    refine At.ret (At.doneB tab_ok hB _ rfl fun w' hw => ⟨?_, hw.fr⟩)
    simp only [bor, Bool.or_eq_true, Bool.not_eq_true', decide_eq_true_eq, hl] at hq
    have : d.mark < 0 ∨ 1073741824 < d.mark ∨ isKey d.author = false ∨ d.spans.length = 0 ∨ normal d.spans = false := by
      rcases hq with (((hq | hq) | hq) | hq) | hq
      · exact .inl hq
      · exact .inr (.inl hq)
      · exact .inr (.inr (.inl hq))
      · exact .inr (.inr (.inr (.inl (by omega))))
      · exact .inr (.inr (.inr (.inr hq)))
    unfold right; rw [if_pos this]
  · have hno : ¬ (d.mark < 0 ∨ 1073741824 < d.mark ∨ isKey d.author = false ∨ d.spans.length = 0 ∨ normal d.spans = false) := by
      simp only [bor, Bool.or_eq_false_iff, Bool.not_eq_false', decide_eq_false_iff_not, hl] at hq
      obtain ⟨⟨⟨⟨q1, q2⟩, q3⟩, q4⟩, q5⟩ := hq
      rintro (h | h | h | h | h)
      · omega
      · omega
      · rw [q3] at h; cases h
      · omega
      · rw [q5] at h; cases h
    obtain ⟨s0, hs0⟩ : ∃ s, d.spans[0]? = some s := ⟨_, List.getElem?_eq_getElem (by omega)⟩
    refine At.skip ?_
    repeat refine At.seq ?_
    refine At.region tab_ok ?_
    conv => whnf
    repeat refine At.seq ?_
    refine At.block ?_
    repeat refine At.seq ?_
    refine At.region tab_ok ?_
    conv => whnf
    repeat refine At.seq ?_
    refine At.cond rfl (fun hq => ?_) (fun hq => ?_)
    · have hk : d.kind = 0 := of_decide_eq_true hq
      repeat refine At.seq ?_
      refine At.draw tab_ok mixed (by kernel_rfl) ?_
      conv => whnf
      refine ⟨h.sl, ?_⟩
      conv => whnf
      refine ⟨by simp only [gimp]; intro _; omega, ?_⟩
      conv => whnf
      refine ⟨by simp only [gimp]; intro _; omega, ?_⟩
      conv => whnf
      refine ⟨[.i s0.m], by simp only [gimp]; intro _ w' hw; exact h.load (i := 0) (n := 1) hw.fr hs0 rfl, ?_⟩
      conv => whnf
      refine ⟨by simp only [gimp]; intro _; omega, ?_⟩
      conv => whnf
      refine ⟨by simp only [gimp]; intro _; omega, ?_⟩
      conv => whnf
      refine ⟨[.i s0.f], by simp only [gimp]; intro _ w' hw; exact h.load (i := 0) (n := 1) hw.fr hs0 rfl, ?_⟩
      conv => whnf
      repeat refine At.seq ?_
      refine At.ret (At.doneB tab_ok hB _ rfl fun w' hw => ⟨?_, hw.fr⟩)
      unfold right
      rw [if_neg hno, if_pos hk]
      simp only [band, RV.den, SV.den, CV.den, hl]
      match hsp : d.spans, hs0 with
      | [s], hs0 => simp at hs0; subst hs0; simp
      | s :: s' :: r, hs0 => simp; omega
    · have hk0 : ¬ d.kind = 0 := of_decide_eq_false hq
      repeat refine At.seq ?_
      refine At.region tab_ok ?_
      conv => whnf
      repeat refine At.seq ?_
      refine At.cond rfl (fun hq => ?_) (fun hq => ?_)
      · have hk : d.kind = 1 := of_decide_eq_true hq
        repeat refine At.seq ?_
        refine At.region tab_ok ?_
        conv => whnf
        refine ans_call b121 rfl (fun w _ => key_c d.who w) ?_
        conv => whnf
        repeat refine At.seq ?_
        refine At.ret (At.doneB tab_ok hB _ rfl fun w' hw => ⟨?_, hw.fr⟩)
        unfold right
        rw [if_neg hno, if_neg hk0, if_pos hk]
        simp only [band]
      · have hk1 : ¬ d.kind = 1 := of_decide_eq_false hq
        repeat refine At.seq ?_
        refine At.region tab_ok ?_
        conv => whnf
        repeat refine At.seq ?_
        refine At.cond rfl (fun hq => ?_) (fun hq => ?_)
        · have hk : d.kind = 2 := of_decide_eq_true hq
          repeat refine At.seq ?_
          refine At.region tab_ok ?_
          conv => whnf
          refine ans_call b121 rfl (fun w _ => key_c d.who w) ?_
          conv => whnf
          repeat refine At.seq ?_
          refine At.ret (At.doneB tab_ok hB _ rfl fun w' hw => ⟨?_, hw.fr⟩)
          unfold right
          rw [if_neg hno, if_neg hk0, if_neg hk1, if_pos hk]
          simp only [band, Bool.and_assoc]
        · have hk2 : ¬ d.kind = 2 := of_decide_eq_false hq
          refine At.skip ?_
          repeat refine At.seq ?_
          refine At.region tab_ok ?_
          conv => whnf
          repeat refine At.seq ?_
          refine At.ret (At.doneB tab_ok hB _ rfl fun w' hw => ⟨?_, hw.fr⟩)
          unfold right
          rw [if_neg hno, if_neg hk0, if_neg hk1, if_neg hk2]
end Go.Proofs.YtjilbkioieicbaaGreat

/- Walks: what keys own and hold. -/
namespace Go.Proofs.YtjilbkioieicbaaGreat
open Go.Vc Rt
set_option linter.unusedVariables false
set_option linter.unusedSimpArgs false
def openL (p : Lot → Bool) (xs : List Lot) : List Span := (xs.filter (fun l => decide (l.p = -1) && p l)).map (·.s)
theorem openL_take {p : Lot → Bool} {xs : List Lot} {k : Nat} {x : Lot} (hx : xs[k]? = some x) : openL p (xs.take (k + 1)) = openL p (xs.take k) ++ (if decide (x.p = -1) && p x then [x.s] else []) := by
  unfold openL
  rw [List.take_add_one, hx, List.filter_append, List.map_append]
  congr 1
  simp only [Option.toList_some, List.filter_cons, List.filter_nil]
  split <;> rfl
theorem openL_len (p : Lot → Bool) (xs : List Lot) : (openL p xs).length ≤ xs.length := by
  unfold openL; rw [List.length_map]; exact List.length_filter_le _ _
theorem open_c (xs : List Lot) (S : List Nat) (v : Value) (w : World) (h : SlOf loT S w v xs) (hN : xs.length ≤ 1000000) (g : Nat) (caps : Array Value) (p : Lot → Bool) (hg : Body Tryz.prog g)
    (hf : ∀ x ∈ xs, ∀ w', Ext w w' → Ans Tryz.prog g (vL x :: caps.toList) (.b (p x)) w') : AnsR Tryz.prog 35 [v, .func (.func g) #[] caps] [.row 25 3 ((norm (openL p xs)).map encS)] w := by
  replace h := h.avoid (S' := []) (fun b hb => by cases hb)
  have hl := h.len
  refine calls_plainB [.x v, .x (.func (.func g) #[] caps)] Tryz.func35 rfl rfl (Nat.le_of_ble_eq_true rfl) rfl fun B hB => ?_
  repeat refine At.seq ?_
  refine At.region tab_ok ?_
  conv => whnf
  repeat refine At.seq ?_
  refine At.region tab_ok ?_
  conv => whnf
  repeat refine At.seq ?_
  refine At.region tab_ok ?_
  conv => whnf
  refine ⟨h.sl, ?_⟩
  conv => whnf
  repeat refine At.seq ?_
  refine At.block ?_
  refine At.loopH (fun p' : Nat × Value => { N := Tryz.f35.ntmps, sl := [(1, some (.x (.func (.func g) #[] caps))), (5, some (.s (.c (.o 0 p'.2)))), (8, some (.x v)), (9, some (.i xs.length)), (10, some (.i p'.1))], gl := [], hp := [(0, .row p'.2 25 3 ((openL p (xs.take p'.1)).map encS))], S := [], ws := w }) (fun p' => p'.1 ≤ xs.length) (fun p' => xs.length - p'.1)
    (fun w' hw => ⟨(0, .slice none 0 0), Nat.zero_le _, Le.of rfl rfl ⟨rfl, rfl, rfl, congrArg (Value.int .i64) h.len, rfl, trivial⟩, hw.nil rfl rfl rfl, ⟨⟨_, _, _, rfl⟩, trivial⟩, ⟨(nopS _).okH, trivial⟩⟩) ?_
  rintro ⟨k, vo⟩ hk
  simp only at hk ⊢
  repeat refine At.seq ?_
  refine At.region tab_ok ?_
  conv => whnf
  repeat refine At.seq ?_
  refine At.cond rfl (fun hc => At.skip ?_) (fun hc => At.exit ?_)
  · have hlt : k < xs.length := by have := of_decide_eq_true hc; omega
    obtain ⟨x, hx⟩ : ∃ x, xs[k]? = some x := ⟨_, List.getElem?_eq_getElem hlt⟩
    have hol := openL_len p (xs.take k)
    have hnx := openL_take (p := p) hx
    generalize openL p (xs.take k) = out at hol hnx ⊢
    simp only [List.length_take] at hol
    repeat refine At.seq ?_
    refine At.block ?_
    repeat refine At.seq ?_
    refine At.region tab_ok ?_
    conv => whnf
    refine ⟨by omega, ?_⟩
    conv => whnf
    refine ⟨by omega, ?_⟩
    conv => whnf
    refine ⟨encL x, fun w' hw => h.load (n := 7) hw.fr hx rfl, ?_⟩
    conv => whnf
    intro b
    conv => whnf
    repeat refine At.seq ?_
    refine At.region tab_ok ?_
    conv => whnf
    refine ⟨.b (p x), by simp only [gimp]; intro _; exact ans_quiet hg (fun w' hw => hf x (List.mem_of_getElem? hx) w' hw.fr), ?_⟩
    conv => whnf
    repeat refine At.seq ?_
    refine At.cond rfl (fun hq => ?_) (fun hq => ?_)
    · repeat refine At.seq ?_
      refine At.region tab_ok ?_
      conv => whnf
      intro v1
      conv => whnf
      refine ⟨rfl, ?_⟩
      conv => whnf
      refine ⟨⟨rfl, by simp; omega⟩, ?_⟩
      conv => whnf
      intro v2
      conv => whnf
      repeat refine At.seq ?_
      refine At.region tab_ok ?_
      conv => whnf
      refine ⟨⟨by omega, by omega⟩, ?_⟩
      conv => whnf
      refine At.nextH fun w' hw => ⟨(k + 1, v2), by simp only; omega, by simp only; omega, Le.of rfl rfl ⟨rfl, rfl, rfl, rfl, rfl, trivial⟩, hw.keep [0] ?_ rfl rfl, ⟨⟨_, _, _, rfl⟩, trivial⟩, ⟨(nopS _).okH, trivial⟩⟩
      show [(0, LO.row v2 25 3 _)] = [(0, LO.row v2 25 3 _)]
      simp only [band] at hq
      rw [hnx, if_pos hq, List.map_append]
      rfl
    · refine At.skip ?_
      repeat refine At.seq ?_
      refine At.region tab_ok ?_
      conv => whnf
      refine ⟨⟨by omega, by omega⟩, ?_⟩
      conv => whnf
      refine At.nextH fun w' hw => ⟨(k + 1, vo), by simp only; omega, by simp only; omega, Le.of rfl rfl ⟨rfl, rfl, rfl, rfl, rfl, trivial⟩, hw.keep [0] ?_ rfl rfl, ⟨⟨_, _, _, rfl⟩, trivial⟩, ⟨(nopS _).okH, trivial⟩⟩
      show [(0, LO.row vo 25 3 _)] = [(0, LO.row vo 25 3 _)]
      simp only [band] at hq
      rw [hnx, if_neg (by rw [hq]; simp), List.append_nil]
  · have hge : k = xs.length := by have := of_decide_eq_false hc; omega
    subst hge
    rw [List.take_length]
    have hol := openL_len p xs
    repeat refine At.seq ?_
    refine At.region tab_ok ?_
    conv => whnf
    refine ansR_call b67 (rd1 (nopS _)) (fun w' hw => norm_c (openL p xs) [] vo w' (SlOf.of_row (hw.row (id := 0) rfl) (fun b hb hb' => by cases hb') (by omega)) (by omega)) ?_
    intro v3
    conv => whnf
    repeat refine At.seq ?_
    refine At.ret (At.doneB tab_ok hB _ rfl fun w' hw => ansR_row (id := 1) hw rfl rfl rfl)
theorem owned_c (xs : List Lot) (key : Int) (S : List Nat) (v : Value) (w : World) (h : SlOf loT S w v xs) (hN : xs.length ≤ 1000000) : AnsR Tryz.prog 20 [v, vI key] [.row 25 3 ((norm (openL (fun l => decide (l.o = key)) xs)).map encS)] w := by
  replace h := h.avoid (S' := []) (fun b hb => by cases hb)
  refine calls_plainB [.x v, .i key] Tryz.func20 rfl rfl (Nat.le_of_ble_eq_true rfl) rfl fun B hB => ?_
  repeat refine At.seq ?_
  refine At.region tab_ok ?_
  conv => whnf
  intro b
  conv => whnf
  repeat refine At.seq ?_
  refine At.region tab_ok ?_
  conv => whnf
  refine ansR_call b68 (rd1 (nopS _)) (fun w' hw => open_c xs [] v w' (h.fr hw.fr) hN 36 #[ptr b] (fun l => decide (l.o = key)) b69 (fun x _ w'' hx => owned1_c x key b w'' (LO.holds_ext hx (hw.objs (0, .box b 3 [.i key]) (by simp))))) ?_
  intro v1
  conv => whnf
  repeat refine At.seq ?_
  refine At.ret (At.doneB tab_ok hB _ rfl fun w' hw => ansR_row (id := 1) hw rfl rfl rfl)
theorem sum_c (xs : List Lot) (S : List Nat) (v : Value) (w : World) (h : SlOf loT S w v xs) (hN : xs.length ≤ 1000000) : Ans Tryz.prog 21 [v] (.i (count (norm (openL (fun _ => true) xs)))) w := by
  replace h := h.avoid (S' := []) (fun b hb => by cases hb)
  have hol := openL_len (fun _ => true) xs
  have hnl := norm_len (openL (fun _ => true) xs)
  refine calls_plainB [.x v] Tryz.func21 rfl rfl (Nat.le_of_ble_eq_true rfl) rfl fun B hB => ?_
  repeat refine At.seq ?_
  refine At.region tab_ok ?_
  conv => whnf
  repeat refine At.seq ?_
  refine At.region tab_ok ?_
  conv => whnf
  refine ansR_call b68 (rd1 (nopS _)) (fun w' hw => open_c xs [] v w' (h.fr hw.fr) hN 37 #[] (fun _ => true) b71 (fun x _ w'' hx => sum1_c x w'')) ?_
  intro v1
  conv => whnf
  refine ans_call b27 rfl (fun w' hw => count_c _ [] v1 w' (SlOf.of_row (hw.row (id := 0) rfl) (fun b hb hb' => by cases hb') (by omega)) (by omega)) ?_
  conv => whnf
  repeat refine At.seq ?_
  refine At.ret (At.doneB tab_ok hB _ rfl fun w' hw => ⟨rfl, hw.fr⟩)
theorem few_c (l : List Deed) (n : Int) (S : List Nat) (v : Value) (w : World) (h : SlOf deT S w v l) : Ans Tryz.prog 5 [v, vI n] (.b (few l n)) w := by
  replace h := h.avoid (S' := []) (fun b hb => by cases hb)
  have hl := h.len
  have hsm := h.small
  refine calls_plainB [.x v, .i n] Tryz.func5 rfl rfl (Nat.le_of_ble_eq_true rfl) rfl fun B hB => ?_
  repeat refine At.seq ?_
  refine At.region tab_ok ?_
  conv => whnf
  repeat refine At.seq ?_
  refine At.region tab_ok ?_
  conv => whnf
  repeat refine At.seq ?_
  refine At.block ?_
  refine At.loopF (fun k : Nat => { N := Tryz.f5.ntmps, sl := [(0, some (.x v)), (1, some (.i n)), (5, some (.i k))], gl := [], hp := [], S := [], ws := w }) (fun k => k ≤ l.length ∧ ∀ (j : Nat) d, j < k → l[j]? = some d → d.spans.length ≤ 8) (fun k => l.length - k)
    (fun w' hw => ⟨0, ⟨Nat.zero_le _, fun j y hj => by omega⟩, Le.of rfl rfl ⟨rfl, rfl, rfl, trivial⟩, WF.plain rfl, hw.same rfl rfl rfl⟩) ?_
  intro k ⟨hk, hall⟩
  repeat refine At.seq ?_
  refine At.region tab_ok ?_
  conv => whnf
  refine ⟨h.sl, ?_⟩
  conv => whnf
  repeat refine At.seq ?_
  refine At.cond rfl (fun hc => At.skip ?_) (fun hc => At.exit ?_)
  · simp only [band, Bool.and_eq_true, decide_eq_true_eq] at hc
    have hlt : k < l.length := by omega
    obtain ⟨d, hd⟩ : ∃ d, l[k]? = some d := ⟨_, List.getElem?_eq_getElem hlt⟩
    obtain ⟨_, ⟨u, rfl, hu⟩, hcells⟩ := h.at hd
    have hul := hu.len
    repeat refine At.seq ?_
    refine At.block ?_
    repeat refine At.seq ?_
    refine At.region tab_ok ?_
    conv => whnf
    refine ⟨by omega, ?_⟩
    conv => whnf
    refine ⟨by omega, ?_⟩
    conv => whnf
    refine ⟨[.x u], fun w' hw => (hcells w' hw.fr).part (n := 1) rfl, ?_⟩
    conv => whnf
    refine ⟨hu.sl, ?_⟩
    conv => whnf
    repeat refine At.seq ?_
    refine At.cond rfl (fun hq => ?_) (fun hq => ?_)
    · repeat refine At.seq ?_
      refine At.region tab_ok ?_
      conv => whnf
      repeat refine At.seq ?_
      refine At.ret (At.doneB tab_ok hB _ rfl fun w' hw => ⟨?_, hw.fr⟩)
      have h8 : ¬ d.spans.length ≤ 8 := by have := of_decide_eq_true hq; omega
      have : few l n = false := by
        unfold few
        rw [Bool.and_eq_false_iff]
        right
        rw [List.all_eq_false]
        exact ⟨d, List.mem_of_getElem? hd, by simpa using h8⟩
      rw [this]
    · refine At.skip ?_
      repeat refine At.seq ?_
      refine At.region tab_ok ?_
      conv => whnf
      refine ⟨⟨by omega, by omega⟩, ?_⟩
      conv => whnf
      refine At.next fun w' hw => ⟨k + 1, ⟨by omega, fun j y hj hy => ?_⟩, by omega, Le.of rfl rfl ⟨rfl, rfl, rfl, trivial⟩, WF.plain rfl, hw.keep [] rfl rfl rfl⟩
      rcases Nat.lt_or_ge j k with hj' | hj'
      · exact hall j y hj' hy
      · obtain rfl : j = k := by omega
        rw [hd] at hy; cases hy
        have := of_decide_eq_false hq; omega
  · simp only [band, Bool.and_eq_false_iff, decide_eq_false_iff_not] at hc
    repeat refine At.seq ?_
    refine At.region tab_ok ?_
    conv => whnf
    refine ⟨h.sl, ?_⟩
    conv => whnf
    repeat refine At.seq ?_
    refine At.ret (At.doneB tab_ok hB _ rfl fun w' hw => ⟨?_, hw.fr⟩)
    unfold few
    rw [hl]
    by_cases hn : (l.length : Int) ≤ n
    · have hkl : k = l.length := by omega
      have : l.all (fun d => decide (d.spans.length ≤ 8)) = true := by
        rw [List.all_eq_true]
        intro d hd
        obtain ⟨j, hj, e⟩ := List.getElem_of_mem hd
        have := hall j d (by omega) (by rw [List.getElem?_eq_getElem hj, e])
        simpa using this
      rw [this]; simp
    · simp [hn]
end Go.Proofs.YtjilbkioieicbaaGreat

/- Walks: the book. -/
namespace Go.Proofs.YtjilbkioieicbaaGreat
open Go.Vc Rt
set_option linter.unusedVariables false
set_option linter.unusedSimpArgs false
/-- The book at a block, its slice, its lots. -/
structure Bk (w : World) (b : Nat) (v : Value) (L : List Lot) : Prop where
  box : (LO.box b 66 [.o 1 v]).holds w
  row : (LO.row v 27 7 (L.map encL)).holds w
  ne : b ∉ blkOf v
def BkHp (b : Nat) (v : Value) (L : List Lot) : List (Nat × LO) := [(0, .box b 66 [.o 1 v]), (1, .row v 27 7 (L.map encL))]
def bkPost (b : Nat) (v : Value) (L' : List Lot) (r : RV) (w : World) : Ending → World → Prop := fun e w' =>
  e = .returned r.den ∧ ∃ v', Bk w' b v' L' ∧ Fr (b :: blkOf v) w w' ∧ ∀ c ∈ blkOf v', c ∈ blkOf v ∨ w.heap.size ≤ c
def BkC (f : FuncId) (args : List Value) (b : Nat) (v : Value) (L' : List Lot) (r : RV) (w : World) : Prop := Calls Tryz.prog f args.toArray w (bkPost b v L' r w)
theorem enter_bk {N : Nat} {l : List RV} {b : Nat} {v : Value} {L : List Lot} {w : World} (h : Bk w b v L) : Holds (St.enter N l (BkHp b v L) (b :: blkOf v) w) w := by
  have := enter_objs (N := N) (l := l) (hp := BkHp b v L) (w := w) (fun o ho => by
    simp only [BkHp, List.mem_cons, List.not_mem_nil, or_false] at ho
    rcases ho with rfl | rfl
    · exact h.box
    · exact h.row) (by
    simp only [BkHp, List.flatMap_cons, List.flatMap_nil, LO.blks, List.append_nil, List.singleton_append, List.nodup_cons]
    exact ⟨h.ne, LO.nodup (o := .row v 27 7 [])⟩)
  simpa [BkHp, LO.blks] using this
theorem disj_of {hp : List (Nat × LO)} (hn : (hp.flatMap fun o => o.2.blks).Nodup) : ∀ {i j : Nat} {o o' : LO}, Vc.look hp i = some o → Vc.look hp j = some o' → i ≠ j → ∀ c ∈ o.blks, c ∉ o'.blks := by
  induction hp with
  | nil => intro i j o o' h; cases h
  | cons x r ih =>
    obtain ⟨t, u⟩ := x
    rw [List.flatMap_cons, List.nodup_append] at hn
    intro i j o o' h1 h2 hne c hc hc'
    simp only [Vc.look] at h1 h2
    split at h1
    · rename_i hb1
      cases h1
      split at h2
      · rename_i hb2
        exact hne ((Nat.eq_of_beq_eq_true hb1).symm.trans (Nat.eq_of_beq_eq_true hb2))
      · exact hn.2.2 c hc c (List.mem_flatMap.2 ⟨_, look_mem h2, hc'⟩) rfl
    · split at h2
      · cases h2
        exact hn.2.2 c hc' c (List.mem_flatMap.2 ⟨_, look_mem h1, hc⟩) rfl
      · exact ih hn.2.1 h1 h2 hne c hc hc'
theorem bk_of {st : St} {w : World} (hw : Holds st w) {i0 i1 b : Nat} {v : Value} {L : List Lot} (h0 : Vc.look st.hp i0 = some (.box b 66 [.o i1 v])) (h1 : Vc.look st.hp i1 = some (.row v 27 7 (L.map encL))) (hne : i0 ≠ i1) : Bk w b v L :=
  ⟨hw.objs _ (look_mem h0), hw.row h1, disj_of hw.nodup h0 h1 hne b (by simp [LO.blks])⟩
theorem bk_done {st : St} {w w' : World} (hw : Holds st w') {i0 i1 b : Nat} {v v' : Value} {L' : List Lot} {r : RV} (h0 : Vc.look st.hp i0 = some (.box b 66 [.o i1 v'])) (h1 : Vc.look st.hp i1 = some (.row v' 27 7 (L'.map encL))) (hne : i0 ≠ i1)
    (hS : st.S = b :: blkOf v) (hws : st.ws = w) : bkPost b v L' r w (.returned r.den) w' := by
  subst hws
  have hb := bk_of hw h0 h1 hne
  refine ⟨rfl, v', hb, by have := hw.fr; rw [hS] at this; exact this, fun c hc => ?_⟩
  rcases hw.fresh h1 c hc with h | h
  · rw [hS] at h
    rcases List.mem_cons.1 h with rfl | h
    · exact (hb.ne hc).elim
    · exact .inl h
  · exact .inr h
/-- A call with the book. -/
theorem bk_call {f : FuncId} {args : List Value} {st : St} {d : Option Nat} {K : St → Prop} {i0 i1 b : Nat} {v : Value} {L L' : List Lot} {r : RV} (hb : Body Tryz.prog f) (h0 : Vc.look st.hp i0 = some (.box b 66 [.o i1 v])) (h1 : Vc.look st.hp i1 = some (.row v 27 7 (L.map encL))) (hne : i0 ≠ i1)
    (hr : noPr r = true) (h : ∀ w, Holds st w → Bk w b v L → BkC f args b v L' r w)
    (hk : ∀ v' : Value, (∃ a n c, v' = .slice a n c) → hpSetK st.hp i1 (.row v' 27 7 (L'.map encL)) (fun hp => hpSetK hp i0 (.box b 66 [.o i1 v']) (fun hp' => st.withHp hp' (fun st' => goPut st' d r K)))) : UCall Tryz.prog st f args d K :=
  .inl ⟨hb, fun hwf w hw => (h w hw (bk_of hw h0 h1 hne)).mono fun e w' ⟨he, v', hbk, hf, hbl⟩ => by
    have hsl := ownsAt_slice hbk.row.1
    have hk' := hk v' hsl
    rw [hpSetK_eq, hpSetK_eq] at hk'
    have hl0' : Vc.look (hpSet st.hp i1 (.row v' 27 7 (L'.map encL))) i0 = some (.box b 66 [.o i1 v]) := by rw [look_hpSet_other hne]; exact h0
    have hwf1 := hwf.setO h1 (o' := .row v' 27 7 (L'.map encL)) (fun _ _ _ e => by cases e) ⟨rows_some hbk.row, (nopL L').ok⟩
    have hwf2 := hwf1.setO (id := i0) (o := .box b 66 [.o i1 v]) (o' := .box b 66 [.o i1 v']) hl0' (fun blk T cells e => by cases e; exact ⟨_, _, rfl⟩) (fun c hc => by simp at hc; subst hc; exact hsl)
    refine ⟨r, st.setHp (hpSet (hpSet st.hp i1 (.row v' 27 7 (L'.map encL))) i0 (.box b 66 [.o i1 v'])), he, ⟨rfl, rfl, rfl, rfl⟩, hwf2, noPr_ok hr, ?_, hk'⟩
    exact hw.set2 h1 h0 hne (hf.mono fun c hc => .inl (by simp only [LO.blks, List.mem_append, List.mem_singleton]; rcases List.mem_cons.1 hc with rfl | hc; exact .inr rfl; exact .inl hc)) hbk.row (show (LO.box b 66 [.o i1 v']).holds w' from hbk.box) hbl (fun c hc => hc)⟩
theorem joinL_snoc (out : List Lot) (r l : Lot) : joinL (out ++ [r]) l = if alike r l then out ++ [lotTo r l.s.t] else out ++ [r] ++ [l] := by
  unfold joinL
  simp [List.getLast?_append]
theorem joinL_set {out : List Lot} {r x : Lot} (h0 : 0 < out.length) (hr : out[out.length - 1]? = some r) (h1 : alike r x = true) : joinL out x = out.set (out.length - 1) (lotTo r x.s.t) := by
  rcases List.eq_nil_or_concat out with rfl | ⟨o, r', rfl⟩
  · simp at h0
  · simp only [List.concat_eq_append] at *
    simp at hr
    subst hr
    rw [joinL_snoc, if_pos h1]
    simp
theorem joinL_app {out : List Lot} {r x : Lot} (hr : 0 < out.length → out[out.length - 1]? = some r) (h : 0 < out.length → alike r x = false) : joinL out x = out ++ [x] := by
  rcases List.eq_nil_or_concat out with rfl | ⟨o, r', rfl⟩
  · rfl
  · simp only [List.concat_eq_append] at *
    have hr := hr (by simp)
    simp at hr
    subst hr
    rw [joinL_snoc, if_neg (by rw [h (by simp)]; simp)]
theorem joinL_len (out : List Lot) (x : Lot) : (joinL out x).length ≤ out.length + 1 := by
  rcases List.eq_nil_or_concat out with rfl | ⟨o, r', rfl⟩
  · simp [joinL]
  · simp only [List.concat_eq_append]
    rw [joinL_snoc]
    split <;> simp
theorem joinsL_len : ∀ (l out : List Lot), (l.foldl joinL out).length ≤ out.length + l.length
  | [], out => by simp
  | x :: l, out => by
    have := joinsL_len l (joinL out x)
    have := joinL_len out x
    simp only [List.foldl_cons, List.length_cons]; omega
theorem lastL (out : List Lot) : ∃ r, 0 < out.length → out[out.length - 1]? = some r := by
  rcases Nat.eq_zero_or_pos out.length with h | h
  · exact ⟨default, fun h' => by omega⟩
  · exact ⟨out[out.length - 1], fun _ => List.getElem?_eq_getElem (by omega)⟩
theorem merge_at (L : List Lot) (b : Nat) (v : Value) (w : World) (h : Bk w b v L) (hN : L.length ≤ 1000000) (B : Exit → Act → World → Prop) (hB : B = bodyPost Tryz.prog Tryz.f66 (bkPost b v (mergeL L) (.tup []) w)) :
    At (St.enter Tryz.f66.ntmps [.s (.c (.p 0 b 0))] (BkHp b v L) (b :: blkOf v) w) ((Tryz.f66.body.getD .skip).wp Tryz.prog B) := by
  show At _ (Code.wp Tryz.prog _ B)
  repeat refine At.seq ?_
  refine At.region tab_ok ?_
  conv => whnf
  repeat refine At.seq ?_
  refine At.region tab_ok ?_
  conv => whnf
  refine ⟨rfl, ?_⟩
  conv => whnf
  repeat refine At.seq ?_
  refine At.block ?_
  refine At.loopH (fun p : Nat × Value => { N := Tryz.f66.ntmps, sl := [(0, some (.s (.c (.p 0 b 0)))), (2, some (.s (.c (.o 2 p.2)))), (10, some (.s (.c (.o 1 v)))), (11, some (.i L.length)), (12, some (.i p.1))], gl := [], hp := (2, .row p.2 27 7 (((L.take p.1).foldl joinL []).map encL)) :: BkHp b v L, S := b :: blkOf v, ws := w }) (fun p => p.1 ≤ L.length) (fun p => L.length - p.1)
    (fun w' hw => ⟨(0, .slice none 0 0), Nat.zero_le _, Le.of rfl rfl ⟨rfl, rfl, rfl, congrArg (Value.int .i64) (by simp), rfl, trivial⟩, hw.nil rfl rfl rfl, ⟨⟨_, _, rfl⟩, ⟨_, _, _, rfl⟩, ⟨_, _, _, rfl⟩, trivial⟩, ⟨(nopL _).okH, fun c hc => by simp at hc; subst hc; exact ⟨_, _, _, rfl⟩, (nopL _).okH, trivial⟩⟩) ?_
  rintro ⟨k, vo⟩ hk
  simp only at hk ⊢
  repeat refine At.seq ?_
  refine At.region tab_ok ?_
  conv => whnf
  repeat refine At.seq ?_
  refine At.cond rfl (fun hc => At.skip ?_) (fun hc => At.exit ?_)
  · have hlt : k < L.length := by have := of_decide_eq_true hc; omega
    obtain ⟨x, hx⟩ : ∃ x, L[k]? = some x := ⟨_, List.getElem?_eq_getElem hlt⟩
    have hol := joinsL_len (L.take k) []
    have hnx : (L.take (k + 1)).foldl joinL [] = joinL ((L.take k).foldl joinL []) x := by rw [List.take_add_one, hx, List.foldl_append]; rfl
    generalize (L.take k).foldl joinL [] = out at hol hnx ⊢
    simp only [List.length_nil, List.length_take] at hol
    obtain ⟨r, hr⟩ := lastL out
    have hr' : ∀ {q : Int}, q = out.length - 1 → 0 ≤ q → (out.map encL)[q.toNat]? = some (encL r) := fun {q} e h0 => by
      rw [List.getElem?_map, show q.toNat = out.length - 1 by omega, hr (by omega)]; rfl
    have hml : (out.map encL).length = out.length := by simp
    repeat refine At.seq ?_
    refine At.block ?_
    repeat refine At.seq ?_
    refine At.region tab_ok ?_
    conv => whnf
    refine ⟨rfl, ?_⟩
    conv => whnf
    refine ⟨by omega, ?_⟩
    conv => whnf
    refine ⟨by simp; omega, ?_⟩
    conv => whnf
    refine ⟨encL x, ⟨rfl, rfl, by omega, by simp [hx]⟩, ?_⟩
    conv => whnf
    intro b3
    conv => whnf
    repeat refine At.seq ?_
    refine At.region tab_ok ?_
    conv => whnf
    refine ⟨rfl, ?_⟩
    conv => whnf
    refine ⟨by rw [hml]; exact ⟨by omega, by omega⟩, ?_⟩
    conv => whnf
    repeat refine At.seq ?_
    refine At.region tab_ok ?_
    conv => whnf
    repeat refine At.seq ?_
    refine At.cond rfl (fun hq => ?_) (fun hq => ?_)
    · have hq0 := of_decide_eq_true hq
      have h0 : 0 < out.length := by rw [hml] at hq0; omega
      repeat refine At.seq ?_
      refine At.region tab_ok ?_
      conv => whnf
      refine ⟨rfl, ?_⟩
      conv => whnf
      refine ⟨hq0, ?_⟩
      conv => whnf
      refine ⟨by omega, ?_⟩
      conv => whnf
      refine ⟨encL r, ⟨rfl, rfl, hq0, hr' (by rw [hml]) hq0⟩, ?_⟩
      conv => whnf
      intro b4
      conv => whnf
      repeat refine At.seq ?_
      refine At.region tab_ok ?_
      conv => whnf
      repeat refine At.seq ?_
      refine At.draw tab_ok mixed (by kernel_rfl) ?_
      conv => whnf
      refine ⟨by simp only [gimp]; intro _; trivial, ?_⟩
      conv => whnf
      refine ⟨by simp only [gimp]; intro _; exact hq0, ?_⟩
      conv => whnf
      refine ⟨by simp only [gimp]; intro _; omega, ?_⟩
      conv => whnf
      refine ⟨encL r, by simp only [gimp]; intro _; exact ⟨trivial, trivial, hq0, hr' (by rw [hml]) hq0⟩, ?_⟩
      conv => whnf
      refine ⟨by simp only [gimp]; intro _; trivial, ?_⟩
      conv => whnf
      refine ⟨by simp only [gimp]; intro _; exact hq0, ?_⟩
      conv => whnf
      refine ⟨by simp only [gimp]; intro _; omega, ?_⟩
      conv => whnf
      refine ⟨encL r, by simp only [gimp]; intro _; exact ⟨trivial, trivial, hq0, hr' (by rw [hml]) hq0⟩, ?_⟩
      conv => whnf
      have hal : ∀ t : Bool, (bif (bif decide (x.s.m = x.s.m) && (decide (x.s.f = x.s.f) && (decide (x.s.t = x.s.t) && (decide (r.o = x.o) && (decide (r.h = x.h) && (decide (r.u = x.u) && (decide (r.p = x.p) && true)))))) then decide (r.s.m = x.s.m) else false) then decide (r.s.t = x.s.f) else false) = t → alike r x = t := fun t ht => by
        rw [← ht]
        simp only [band, decide_true, Bool.true_and, Bool.and_true, alike, Bool.and_assoc]
      repeat refine At.seq ?_
      refine At.cond rfl (fun hq => ?_) (fun hq => ?_)
      · have hjs := joinL_set h0 (hr h0) (hal _ hq)
        have hidx : (((out.map encL).length : Int) - 1).toNat = out.length - 1 := by rw [hml]; omega
        repeat refine At.seq ?_
        refine At.region tab_ok ?_
        conv => whnf
        refine ⟨rfl, ?_⟩
        conv => whnf
        refine ⟨hq0, ?_⟩
        conv => whnf
        refine ⟨by omega, ?_⟩
        conv => whnf
        refine ⟨encL r, ⟨rfl, rfl, hq0, hr' (by rw [hml]) hq0⟩, ?_⟩
        conv => whnf
        refine At.exit ?_
        repeat refine At.seq ?_
        refine At.region tab_ok ?_
        conv => whnf
        refine ⟨⟨by omega, by omega⟩, ?_⟩
        conv => whnf
        refine At.nextH fun w' hw => ⟨(k + 1, vo), by simp only; omega, by simp only; omega, Le.of rfl rfl ⟨rfl, rfl, rfl, rfl, rfl, trivial⟩, hw.keep [2, 0, 1] ?_ rfl rfl, ⟨⟨_, _, rfl⟩, ⟨_, _, _, rfl⟩, ⟨_, _, _, rfl⟩, trivial⟩, ⟨(nopL _).okH, fun c hc => by simp at hc; subst hc; exact ⟨_, _, _, rfl⟩, (nopL _).okH, trivial⟩⟩
        show (2, LO.row vo 27 7 _) :: BkHp b v L = (2, LO.row vo 27 7 _) :: BkHp b v L
        rw [hnx, hjs, hidx, List.map_set]
        rfl
      · have hja : joinL out x = out ++ [x] := joinL_app hr fun _ => hal _ hq
        refine At.skip ?_
        repeat refine At.seq ?_
        refine At.region tab_ok ?_
        conv => whnf
        intro v4
        conv => whnf
        refine ⟨rfl, ?_⟩
        conv => whnf
        refine ⟨⟨rfl, by simp; omega⟩, ?_⟩
        conv => whnf
        intro v5
        conv => whnf
        repeat refine At.seq ?_
        refine At.region tab_ok ?_
        conv => whnf
        refine ⟨⟨by omega, by omega⟩, ?_⟩
        conv => whnf
        refine At.nextH fun w' hw => ⟨(k + 1, v5), by simp only; omega, by simp only; omega, Le.of rfl rfl ⟨rfl, rfl, rfl, rfl, rfl, trivial⟩, hw.keep [2, 0, 1] ?_ rfl rfl, ⟨⟨_, _, rfl⟩, ⟨_, _, _, rfl⟩, ⟨_, _, _, rfl⟩, trivial⟩, ⟨(nopL _).okH, fun c hc => by simp at hc; subst hc; exact ⟨_, _, _, rfl⟩, (nopL _).okH, trivial⟩⟩
        show (2, LO.row v5 27 7 _) :: BkHp b v L = (2, LO.row v5 27 7 _) :: BkHp b v L
        rw [hnx, hja, List.map_append]
        rfl
    · have hja : joinL out x = out ++ [x] := joinL_app hr fun h0 => by have := of_decide_eq_false hq; rw [hml] at this; omega
      refine At.skip ?_
      repeat refine At.seq ?_
      refine At.region tab_ok ?_
      conv => whnf
      intro v4
      conv => whnf
      refine ⟨rfl, ?_⟩
      conv => whnf
      refine ⟨⟨rfl, by simp; omega⟩, ?_⟩
      conv => whnf
      intro v5
      conv => whnf
      repeat refine At.seq ?_
      refine At.region tab_ok ?_
      conv => whnf
      refine ⟨⟨by omega, by omega⟩, ?_⟩
      conv => whnf
      refine At.nextH fun w' hw => ⟨(k + 1, v5), by simp only; omega, by simp only; omega, Le.of rfl rfl ⟨rfl, rfl, rfl, rfl, rfl, trivial⟩, hw.keep [2, 0, 1] ?_ rfl rfl, ⟨⟨_, _, rfl⟩, ⟨_, _, _, rfl⟩, ⟨_, _, _, rfl⟩, trivial⟩, ⟨(nopL _).okH, fun c hc => by simp at hc; subst hc; exact ⟨_, _, _, rfl⟩, (nopL _).okH, trivial⟩⟩
      show (2, LO.row v5 27 7 _) :: BkHp b v L = (2, LO.row v5 27 7 _) :: BkHp b v L
      rw [hnx, hja, List.map_append]
      rfl
  · have hge : k = L.length := by have := of_decide_eq_false hc; omega
    subst hge
    rw [List.take_length]
    repeat refine At.seq ?_
    refine At.region tab_ok ?_
    conv => whnf
    refine At.doneN tab_ok hB _ rfl fun w' hw => ?_
    exact bk_done (i0 := 0) (i1 := 2) hw rfl rfl (by decide) rfl rfl
end Go.Proofs.YtjilbkioieicbaaGreat

/- Walks: slices.Insert at lots. -/
namespace Go.Proofs.YtjilbkioieicbaaGreat
open Go.Vc Rt
set_option linter.unusedVariables false
set_option linter.unusedSimpArgs false
def insL (L : List Lot) (i : Nat) (x : Lot) : List Lot := L.take i ++ [x] ++ L.drop i
def insPost (v u : Value) (L' : List Lot) (x : Lot) (w : World) : Ending → World → Prop := fun e w' =>
  ∃ v', e = .returned v' ∧ (LO.row v' 27 7 (L'.map encL)).holds w' ∧ (LO.row u 27 7 [encL x]).holds w' ∧ Fr (blkOf v ++ blkOf u) w w' ∧ (∀ c ∈ blkOf v', c ∈ blkOf v ∨ w.heap.size ≤ c)
theorem ins_done {st : St} {w w' : World} (hw : Holds st w') {v u v' : Value} {L' : List Lot} {x : Lot} {id : Nat} (h0 : Vc.look st.hp id = some (.row v' 27 7 (L'.map encL))) (h1 : Vc.look st.hp 1 = some (.row u 27 7 [encL x])) (hne : id ≠ 1)
    (hS : st.S = blkOf v ++ blkOf u) (hws : st.ws = w) : insPost v u L' x w (.returned v') w' := by
  subst hws
  refine ⟨v', rfl, hw.row h0, hw.row h1, by have := hw.fr; rw [hS] at this; exact this, fun c hc => ?_⟩
  rcases hw.fresh h0 c hc with h | h
  · rw [hS] at h
    rcases List.mem_append.1 h with h | h
    · exact .inl h
    · exact (disj_of hw.nodup h0 h1 hne c hc h).elim
  · exact .inr h
theorem srcN_sub {w : World} {v : Value} {E size : Nat} {L rows : List (List CV)} (h : (LO.row v E size L).holds w) {lo hi k : Nat} (h1 : lo ≤ hi) (h2 : hi ≤ L.length) (hk : k ≤ hi - lo) (hr : rows = (L.drop lo).take k) (hone : ∀ l ∈ rows, ∀ c ∈ l, c.den.oneCell' = true) {lo' hi' : Int} (e1 : lo' = lo) (e2 : hi' = hi) :
    SrcN w (subV v size lo' hi') size rows k := by
  subst e1 e2
  obtain ⟨⟨hlen, hv⟩, hL⟩ := h
  have hrl : rows.length = k := by rw [hr]; simp; omega
  refine ⟨fun l hl => hL l (by rw [hr] at hl; exact List.mem_of_mem_drop (List.mem_of_mem_take hl)), hone, ?_⟩
  rcases hv with ⟨rfl, h0⟩ | ⟨g, o, cap, cur, rfl, hg, hnc, hcm, hcs, htake⟩
  · have : lo = 0 := by omega
    have : hi = 0 := by omega
    subst lo hi
    exact .inr ⟨0, by simp [subV], List.eq_nil_of_length_eq_zero (by omega)⟩
  · have hb : ∃ a', (subV (.slice (some ⟨g, o, none⟩) L.length cap) size (lo : Int) (hi : Int)) = .slice (some a') (hi - lo) (cap - lo) ∧ (cap ≠ lo → a' = ⟨g, o + lo * size, none⟩) := by
      simp only [subV, Int.toNat_natCast]
      by_cases hc : cap = lo
      · exact ⟨_, by rw [if_pos hc], fun h => absurd hc h⟩
      · exact ⟨_, by rw [if_neg hc, Option.map_some], fun _ => addr_add _ _ _⟩
    obtain ⟨a', e, ha⟩ := hb
    refine .inl ⟨a', hi - lo, cap - lo, e, by rw [hrl]; exact (Nat.min_eq_right hk).symm, fun j y hy => ?_⟩
    have hj : j < k * size := by
      rcases Nat.lt_or_ge j (k * size) with h' | h'
      · exact h'
      · rw [List.getElem?_eq_none (by simp only [dens, List.length_map]; rw [flatten_len (size := size) (fun l hl => hL l (by rw [hr] at hl; exact List.mem_of_mem_drop (List.mem_of_mem_take hl))), hrl]; exact h')] at hy; cases hy
    have hkpos : 0 < k := Nat.pos_of_ne_zero fun h0 => by subst h0; simp at hj
    rw [ha (by omega), addr_add, cell_of_row w g _ _ _ _ hg]
    have e3 : (dens L.flatten)[lo * size + j]? = some y := by
      rw [hr, flatten_take (size := size) (fun l hl => hL l (List.mem_of_mem_drop hl)), flatten_drop hL] at hy
      simp only [dens, List.map_take, List.map_drop] at hy ⊢
      rw [List.getElem?_take_of_lt hj, List.getElem?_drop] at hy
      exact hy
    have hlt : lo * size + j < L.length * size := by
      have : (lo + k) * size ≤ L.length * size := Nat.mul_le_mul_right _ (by omega)
      rw [Nat.add_mul] at this; omega
    rw [← htake, List.getElem?_take_of_lt hlt, List.getElem?_drop] at e3
    rw [Nat.add_assoc]
    simpa using e3
theorem onesL (xs : List Lot) : ∀ l ∈ xs.map encL, ∀ c ∈ l, c.den.oneCell' = true := fun l hl c hc => by obtain ⟨y, _, rfl⟩ := List.mem_map.1 hl; exact intsOnly_one (encL_ints y) c hc
theorem splice_a {A D R : List (List CV)} {c : List CV} {i : Nat} (hA : A.length = i) (hR : R.length = D.length + 1) : spliceR (spliceR (A ++ R) [c] i) D (i + 1) = A ++ [c] ++ D := by
  subst hA
  have e2 : spliceR (A ++ R) [c] A.length = A ++ [c] ++ R.drop 1 := by
    unfold spliceR
    rw [List.take_left, show A.length + [c].length = A.length + 1 from rfl, List.drop_append, List.drop_eq_nil_of_le (Nat.le_add_right _ _), List.nil_append, Nat.add_sub_cancel_left]
  have e3 : (A ++ [c]).length = A.length + 1 := by simp
  rw [e2]
  unfold spliceR
  have t1 : (A ++ [c] ++ R.drop 1).take (A.length + 1) = A ++ [c] := by rw [← e3]; exact List.take_left
  have t2 : (A ++ [c] ++ R.drop 1).drop (A.length + 1 + D.length) = [] := List.drop_eq_nil_of_le (by rw [List.length_append, e3, List.length_drop]; omega)
  rw [t1, t2, List.append_nil]
theorem ins_splice {L : List Lot} {i : Nat} (hi : i ≤ L.length) {x : Lot} {R : List (List CV)} (hR : R.length = L.length + 1 - i) : spliceR (spliceR ((L.take i).map encL ++ R) [encL x] i) ((L.drop i).map encL) (i + 1) = (insL L i x).map encL := by
  rw [splice_a (by simp; omega) (by simp; omega)]
  simp [insL]
theorem splice_b {X D J : List (List CV)} {c : List CV} {i : Nat} (hi : i ≤ X.length) (hD : D = X.drop i) (hJ : J.length = 1) : spliceR (spliceR (X ++ J) D (i + 1)) [c] i = X.take i ++ [c] ++ D := by
  have hDl : D.length = X.length - i := by rw [hD]; simp
  have hXJ : (X ++ J).length = X.length + 1 := by simp [hJ]
  have e1 : spliceR (X ++ J) D (i + 1) = (X ++ J).take (i + 1) ++ D := by
    unfold spliceR
    have : (X ++ J).drop (i + 1 + D.length) = [] := List.drop_eq_nil_of_le (by omega)
    rw [this, List.append_nil]
  have e2 : ((X ++ J).take (i + 1)).length = i + 1 := by rw [List.length_take, hXJ]; omega
  rw [e1]
  unfold spliceR
  have t1 : ((X ++ J).take (i + 1) ++ D).take i = X.take i := by
    rw [List.take_append_of_le_length (by omega), List.take_take, Nat.min_eq_left (by omega), List.take_append_of_le_length hi]
  have t2 : ((X ++ J).take (i + 1) ++ D).drop (i + [c].length) = D := by
    rw [show i + [c].length = ((X ++ J).take (i + 1)).length by rw [e2]; rfl]
    exact List.drop_left
  rw [t1, t2]
theorem ins_splice2 {L : List Lot} {i : Nat} (hi : i ≤ L.length) {x : Lot} {J : List (List CV)} (hJ : J.length = 1) : spliceR (spliceR (L.map encL ++ J) ((L.drop i).map encL) (i + 1)) [encL x] i = (insL L i x).map encL := by
  rw [splice_b (by simpa using hi) (by rw [List.map_drop]) hJ]
  simp [insL]
theorem ov_run {u : Value} {L2 : List (List CV)} {v : Value} {L : List (List CV)} {w : World} (h0 : (LO.row v 27 7 L).holds w) (h1 : (LO.row u 27 7 L2).holds w) (hpos : 0 < L.length) (hpos2 : 0 < L2.length) (hd : ∀ c ∈ blkOf v, c ∉ blkOf u) {lo hi : Int} :
    (callFunc 96 #[u, subV v 7 lo hi]).run Tryz.prog w = .ok (.value (.bool false)) w := by
  have key : ∀ {v : Value} {L : List (List CV)}, (LO.row v 27 7 L).holds w → (∃ g o n c cur, v = .slice (some ⟨g, o, none⟩) n c ∧ w.heap[g]? = some (.cells cur 27 (0, 0)) ∧ o + c * 7 ≤ cur.size ∧ L.length ≤ c) ∨ (v = .slice none 0 0 ∧ L.length = 0) := by
    intro v L h
    obtain ⟨⟨_, ⟨rfl, h0⟩ | ⟨g, o, cap, cur, rfl, hg, hnc, hcm, hcs, htake⟩⟩, _⟩ := h
    · exact .inr ⟨rfl, h0⟩
    · exact .inl ⟨g, o, _, cap, cur, rfl, hg, hcs, hnc⟩
  rcases key h0 with ⟨g, o, n, c, cur, rfl, hg, hcs, hc⟩ | ⟨_, h⟩
  · obtain ⟨a', ea, hab⟩ : ∃ a', subV (.slice (some ⟨g, o, none⟩) n c) 7 lo hi = .slice (some a') (hi.toNat - lo.toNat) (c - lo.toNat) ∧ a'.block = g := by
      simp only [subV]
      split
      · exact ⟨_, rfl, rfl⟩
      · exact ⟨_, rfl, add_block _ _⟩
    rw [ea, run_callFunc_extern Tryz.func96 (by kernel_rfl) (by kernel_rfl) (by kernel_rfl) (e := Extern.SlicesOverlaps.overlaps #[31, 31] #[4]) (by kernel_rfl)]
    obtain ⟨hu58, j, hj, hj1, _⟩ := chk_slice (tab_ok 31 _ rfl) rfl
    rcases key h1 with ⟨g2, o2, n2, c2, cur2, rfl, hg2, hcs2, _⟩ | ⟨rfl, h⟩
    · have hne : g2 ≠ a'.block := fun e => hd g (by simp [blkOf]) (by simp [blkOf, e, hab])
      rw [Lib.run_overlaps_apart w 31 4 27 hu58 7 (fun w => by have := ok_sizeOf (P := Tryz.prog) hj w; rw [hj1] at this; exact this) ⟨g2, o2, none⟩ a' n2 c2 _ _ hne 27 27 cur2.size cur.size (by simp [World.shape?, hg2]) (by simp [World.shape?, hab, hg]) (by omega) (by simp [World.frozen?, hg2]) (by simp [World.frozen?, hg2])]
      rfl
    · omega
  · omega
theorem insert_c (L : List Lot) (i : Nat) (hi : i ≤ L.length) (x : Lot) (v u : Value) (w : World) (h : (LO.row v 27 7 (L.map encL)).holds w) (hu : (LO.row u 27 7 [encL x]).holds w) (hd : ∀ c ∈ blkOf v, c ∉ blkOf u) (hN : L.length ≤ 1000000) :
    Calls Tryz.prog 82 #[v, vI i, u] w (insPost v u (insL L i x) x w) := by
  have hh : Holds (St.enter Tryz.f82.ntmps [.s (.c (.o 0 v)), .i i, .s (.c (.o 1 u))] [(0, .row v 27 7 (L.map encL)), (1, .row u 27 7 [encL x])] (blkOf v ++ blkOf u) w) w := by
    have := enter_objs (N := Tryz.f82.ntmps) (l := [.s (.c (.o 0 v)), .i i, .s (.c (.o 1 u))]) (hp := [(0, .row v 27 7 (L.map encL)), (1, .row u 27 7 [encL x])]) (w := w) (fun o ho => by
      simp only [List.mem_cons, List.not_mem_nil, or_false] at ho
      rcases ho with rfl | rfl
      · exact h
      · exact hu) (by
      simp only [List.flatMap_cons, List.flatMap_nil, LO.blks, List.append_nil]
      rw [List.nodup_append]
      exact ⟨LO.nodup (o := .row v 27 7 []), LO.nodup (o := .row u 27 7 []), fun a ha b hb e => hd a ha (e ▸ hb)⟩)
    simpa [LO.blks] using this
  have hlm : (L.map encL).length = L.length := by simp
  refine calls_atB _ _ _ Tryz.func82 rfl rfl (Nat.le_of_ble_eq_true rfl) (WF.objs hh ⟨⟨_, _, _, rfl⟩, ⟨_, _, _, rfl⟩, trivial⟩ ⟨(nopL _).okH, (nopL [x]).okH, trivial⟩) hh fun B hB => ?_
  repeat refine At.seq ?_
  refine At.region tab_ok ?_
  conv => whnf
  repeat refine At.seq ?_
  refine At.region tab_ok ?_
  conv => whnf
  refine ⟨rfl, ?_⟩
  conv => whnf
  refine ⟨by omega, ?_⟩
  conv => whnf
  refine ⟨by omega, ?_⟩
  conv => whnf
  refine ⟨Or.inl (by omega), ?_⟩
  conv => whnf
  repeat refine At.seq ?_
  refine At.region tab_ok ?_
  conv => whnf
  refine ⟨rfl, ?_⟩
  conv => whnf
  repeat refine At.seq ?_
  refine At.region tab_ok ?_
  conv => whnf
  repeat refine At.seq ?_
  refine At.cond rfl (fun hq => by simp at hq) (fun _ => At.skip ?_)
  repeat refine At.seq ?_
  refine At.region tab_ok ?_
  conv => whnf
  refine ⟨rfl, ?_⟩
  conv => whnf
  repeat refine At.seq ?_
  refine At.region tab_ok ?_
  conv => whnf
  repeat refine At.seq ?_
  refine At.cond rfl (fun hq => ?_) (fun hq => ?_)
  · have hiL : i = L.length := by have := of_decide_eq_true hq; omega
    repeat refine At.seq ?_
    refine At.region tab_ok ?_
    conv => whnf
    refine ⟨rfl, ?_⟩
    conv => whnf
    refine ⟨⟨rfl, by simp; omega⟩, ?_⟩
    conv => whnf
    intro v1
    conv => whnf
    repeat refine At.seq ?_
    refine At.ret (At.doneB tab_ok hB _ rfl fun w' hw => ins_done (id := 0) hw (by show some (LO.row v1 27 7 _) = some (LO.row v1 27 7 _); subst hiL; simp [insL]) rfl (by decide) rfl rfl)
  · have hiL : i < L.length := by have := of_decide_eq_false hq; omega
    refine At.skip ?_
    repeat refine At.seq ?_
    refine At.region tab_ok ?_
    conv => whnf
    refine ⟨by simp; exact ⟨by omega, by omega⟩, ?_⟩
    conv => whnf
    refine ⟨rfl, ?_⟩
    conv => whnf
    repeat refine At.seq ?_
    refine At.cond rfl (fun hq => ?_) (fun hq => ?_)
    · have hcap := of_decide_eq_true hq
      simp only [List.length_cons, List.length_nil, hlm] at hcap
      repeat refine At.seq ?_
      refine At.region tab_ok ?_
      conv => whnf
      refine ⟨rfl, ?_⟩
      conv => whnf
      refine ⟨by omega, ?_⟩
      conv => whnf
      refine ⟨by omega, ?_⟩
      conv => whnf
      refine ⟨Or.inl (by omega), ?_⟩
      conv => whnf
      refine ⟨by simp; exact ⟨by omega, by omega⟩, ?_⟩
      conv => whnf
      refine ⟨by simp; exact ⟨by omega, by omega⟩, ?_⟩
      conv => whnf
      refine ⟨(L.take i).map encL, ⟨fun w' hw => ?_, nopL _, by simp; omega, ?_, ?_⟩, ?_⟩
      · have := row_prefix (hw.row (id := 0) rfl) (n := i) (by omega)
        rw [← List.map_take] at this
        exact SrcOk.of_row this (fun l hl c hc => by obtain ⟨y, _, rfl⟩ := List.mem_map.1 hl; exact intsOnly_one (encL_ints y) c hc)
      · have e : scap (subV v 7 0 i) = scap v := by
          obtain ⟨a, c, rfl, _, _⟩ := row_slice h
          simp [subV, scap]
        rw [e]; simp; omega
      · simp; omega
      conv => whnf
      intro v2
      conv => whnf
      generalize hR : (List.replicate _ _ : List (List CV)) = R
      have hRl : R.length = L.length + 1 - i := by rw [← hR]; simp <;> omega
      have hNR : NoP R := by rw [← hR]; intro l hl c hc; rw [List.eq_of_mem_replicate hl] at hc; simp at hc; subst hc; rfl
      have hL2 : ((L.take i).map encL ++ R).length = L.length + 1 := by simp [hRl]; omega
      repeat refine At.seq ?_
      refine At.region tab_ok ?_
      conv => whnf
      refine ⟨rfl, ?_⟩
      conv => whnf
      refine ⟨by omega, ?_⟩
      conv => whnf
      refine ⟨by omega, ?_⟩
      conv => whnf
      refine ⟨Or.inl (by omega), ?_⟩
      conv => whnf
      refine ⟨2, i, [encL x], ?_⟩
      conv => whnf
      refine ⟨⟨rfl, by rw [hL2]; simp; omega, fun w' hw => (SrcOk.of_row (hw.row (id := 1) rfl) (onesL [x])).toN (by rw [hL2]; simp; omega), nopL [x]⟩, ?_⟩
      conv => whnf
      have hL3 : (spliceR ((L.take i).map encL ++ R) [encL x] i).length = L.length + 1 := by rw [spliceR_length (by rw [hL2]; simp; omega), hL2]
      repeat refine At.seq ?_
      refine At.plan tab_ok mixed [(0, .row v 27 7 (L.map encL)), (1, .row u 27 7 [encL x])] (.take 0 (.take 1 (.take 2 (.take 3 (.take 5 (.take 6 (.take 7 (.br 4 (.br 8 .done .nob) .nob)))))))) (by kernel_rfl) (by kernel_rfl) ⟨rfl, rfl, trivial⟩ ?_
      conv => whnf
      refine ⟨by simp; exact ⟨by omega, by omega⟩, ?_⟩
      conv => whnf
      refine ⟨rfl, ?_⟩
      conv => whnf
      refine ⟨by omega, ?_⟩
      conv => whnf
      refine ⟨by omega, ?_⟩
      conv => whnf
      refine ⟨Or.inl (by omega), ?_⟩
      conv => whnf
      refine ⟨?_, trivial⟩
      conv => whnf
      refine ⟨rfl, ?_⟩
      conv => whnf
      refine ⟨by simp; omega, ?_⟩
      conv => whnf
      refine ⟨by rw [hL3]; simp; omega, ?_⟩
      conv => whnf
      refine ⟨Or.inl (by omega), ?_⟩
      conv => whnf
      refine ⟨⟨⟨rfl, rfl, trivial⟩, fun w' hw => hw.fr⟩, ?_⟩
      conv => whnf
      refine ⟨⟨2, i + 1, (L.drop i).map encL, ?_⟩, trivial⟩
      conv => whnf
      refine ⟨⟨by simp, by rw [hL3]; simp; omega, fun w' hw => ?_, nopL _⟩, ?_⟩
      · refine srcN_sub (hw.row (id := 0) rfl) (lo := i) (hi := L.length) (by omega) (by omega) (by rw [hL3]; omega) ?_ (onesL _) rfl (by simp)
        rw [hL3, List.take_of_length_le (by simp), List.map_drop]
      conv => whnf
      refine ⟨⟨⟨rfl, rfl, trivial⟩, fun w' hw => hw.fr⟩, ?_⟩
      conv => whnf
      repeat refine At.seq ?_
      refine At.region tab_ok ?_
      conv => whnf
      repeat refine At.seq ?_
      refine At.ret (At.doneB tab_ok hB _ rfl fun w' hw => ins_done (id := 2) hw (by show some (LO.row v2 27 7 _) = some (LO.row v2 27 7 _); rw [ins_splice hi hRl]) rfl (by decide) rfl rfl)
    · have hcap := of_decide_eq_false hq
      simp only [List.length_cons, List.length_nil, hlm] at hcap
      refine At.skip ?_
      repeat refine At.seq ?_
      refine At.region tab_ok ?_
      conv => whnf
      refine ⟨by simp; exact ⟨by omega, by omega⟩, ?_⟩
      conv => whnf
      refine ⟨rfl, ?_⟩
      conv => whnf
      refine ⟨by omega, ?_⟩
      conv => whnf
      refine ⟨by simp; omega, ?_⟩
      conv => whnf
      refine ⟨Or.inr (by simp; omega), ?_⟩
      conv => whnf
      generalize hsv : subV v 7 0 _ = sv
      refine At.reshapeH fun w' hw => ?_
      obtain ⟨J, hJ1, hJ2, hJ3⟩ := row_extend (hw.row (id := 0) rfl) (m := L.length + 1) (by omega) (by omega)
      rw [show subV v 7 0 ((L.length + 1 : Nat) : Int) = sv by rw [← hsv]; congr 1; simp] at hJ3
      rw [hlm] at hJ1
      have hJl : J.length = 1 := by omega
      refine ⟨{ N := Tryz.f82.ntmps, sl := [(0, some (.s (.c (.o 0 sv)))), (1, some (.i i)), (2, some (.s (.c (.o 1 u)))), (7, some (.i 1)), (8, some (.i L.length))], gl := [], hp := [(0, .row sv 27 7 (L.map encL ++ J)), (1, .row u 27 7 [encL x])], S := blkOf v ++ blkOf u, ws := w }, Le.of rfl rfl ⟨rfl, rfl, rfl, rfl, congrArg (Value.int .i64) (by simp), trivial⟩,
        (hw.setG (id := 0) rfl (Fr.refl _ _) hJ3 (fun c hc => .inl (by rw [← hsv] at hc; exact blkOf_sub c hc))).same rfl rfl rfl, ⟨⟨_, _, _, rfl⟩, ⟨_, _, _, rfl⟩, trivial⟩, ⟨(show NoP (L.map encL ++ J) from fun l hl c hc => (List.mem_append.1 hl).elim (fun h => nopL L l h c hc) (fun h => hJ2 l h c hc)).okH, (nopL [x]).okH, trivial⟩, ?_⟩
      have hLJ : (L.map encL ++ J).length = L.length + 1 := by simp [hJl]
      repeat refine At.seq ?_
      refine At.region tab_ok ?_
      conv => whnf
      refine ⟨⟨by omega, by omega⟩, ?_⟩
      conv => whnf
      refine ⟨rfl, ?_⟩
      conv => whnf
      refine ⟨by omega, ?_⟩
      conv => whnf
      refine ⟨by omega, ?_⟩
      conv => whnf
      refine ⟨Or.inl (by omega), ?_⟩
      conv => whnf
      refine .inr ⟨.b false, rfl, fun w' hw => ov_run (hw.row (id := 0) rfl) (hw.row (id := 1) rfl) (by omega) (by simp) (disj_of hw.nodup (i := 0) (j := 1) rfl rfl (by decide)), ?_⟩
      conv => whnf
      repeat refine At.seq ?_
      refine At.cond (t := true) rfl (fun _ => ?_) (fun hq => by cases hq)
      have hsrc : ∀ {st : St} {w' : World}, Holds st w' → Vc.look st.hp 0 = some (.row sv 27 7 (L.map encL ++ J)) → SrcN w' (subV sv 7 i (L.map encL ++ J).length) 7 ((L.drop i).map encL) ((L.map encL ++ J).length - (i + 1)) := fun {st w'} hw hl => by
        refine srcN_sub (hw.row hl) (lo := i) (hi := L.length + 1) (by omega) (by omega) (by omega) ?_ (onesL _) rfl (by rw [hLJ])
        rw [hLJ, List.drop_append_of_le_length (by simp; omega), List.take_append_of_le_length (by simp), List.take_of_length_le (by simp), List.map_drop]
      repeat refine At.seq ?_
      refine At.plan tab_ok mixed [(1, .row u 27 7 [encL x])] (.take 0 (.take 1 (.take 2 (.take 3 (.take 5 (.take 6 (.br 4 (.br 7 (.br 8 .done .nob) .nob) (.br 7 (.br 4 (.br 8 .done .nob) .nob) .nob)))))))) (by kernel_rfl) (by kernel_rfl) ⟨rfl, trivial⟩ ?_
      conv => whnf
      refine ⟨⟨by omega, by omega⟩, ?_⟩
      conv => whnf
      have hL5 : (spliceR (L.map encL ++ J) ((L.drop i).map encL) (i + 1)).length = L.length + 1 := by rw [spliceR_length (by rw [hLJ]; simp; omega), hLJ]
      refine ⟨?_, ⟨?_, trivial⟩⟩
      · conv => whnf
        refine ⟨rfl, ?_⟩
        conv => whnf
        refine ⟨by omega, ?_⟩
        conv => whnf
        refine ⟨by omega, ?_⟩
        conv => whnf
        refine ⟨Or.inl (by omega), ?_⟩
        conv => whnf
        refine ⟨⟨⟨rfl, trivial⟩, fun w' hw => hw.fr⟩, ?_⟩
        conv => whnf
        refine ⟨?_, trivial⟩
        conv => whnf
        refine ⟨rfl, ?_⟩
        conv => whnf
        refine ⟨by omega, ?_⟩
        conv => whnf
        refine ⟨by omega, ?_⟩
        conv => whnf
        refine ⟨Or.inl (by omega), ?_⟩
        conv => whnf
        refine ⟨⟨⟨rfl, trivial⟩, fun w' hw => hw.fr⟩, ?_⟩
        conv => whnf
        refine ⟨⟨0, i + 1, (L.drop i).map encL, ?_⟩, trivial⟩
        conv => whnf
        refine ⟨⟨by simp, by rw [hLJ]; simp; omega, fun w' hw => hsrc hw rfl, nopL _⟩, ?_⟩
        conv => whnf
        refine ⟨⟨⟨rfl, trivial⟩, fun w' hw => hw.fr⟩, ?_⟩
        conv => whnf
        repeat refine At.seq ?_
        refine At.region tab_ok ?_
        conv => whnf
        refine ⟨rfl, ?_⟩
        conv => whnf
        refine ⟨by omega, ?_⟩
        conv => whnf
        refine ⟨by rw [hL5]; omega, ?_⟩
        conv => whnf
        refine ⟨Or.inl (by omega), ?_⟩
        conv => whnf
        refine ⟨0, i, [encL x], ?_⟩
        conv => whnf
        refine ⟨⟨rfl, by rw [hL5]; simp; omega, fun w' hw => (SrcOk.of_row (hw.row (id := 1) rfl) (onesL [x])).toN (by rw [hL5]; simp; omega), nopL [x]⟩, ?_⟩
        conv => whnf
        repeat refine At.seq ?_
        refine At.region tab_ok ?_
        conv => whnf
        repeat refine At.seq ?_
        refine At.ret (At.doneB tab_ok hB _ rfl fun w' hw => ins_done (id := 0) hw (by show some (LO.row sv 27 7 _) = some (LO.row sv 27 7 _); rw [ins_splice2 hi hJl]) rfl (by decide) rfl rfl)
      · conv => whnf
        refine ⟨rfl, ?_⟩
        conv => whnf
        refine ⟨by omega, ?_⟩
        conv => whnf
        refine ⟨by omega, ?_⟩
        conv => whnf
        refine ⟨Or.inl (by omega), ?_⟩
        conv => whnf
        refine ⟨⟨⟨rfl, trivial⟩, fun w' hw => hw.fr⟩, ?_⟩
        conv => whnf
        refine ⟨?_, trivial⟩
        conv => whnf
        refine ⟨rfl, ?_⟩
        conv => whnf
        refine ⟨by omega, ?_⟩
        conv => whnf
        refine ⟨by omega, ?_⟩
        conv => whnf
        refine ⟨Or.inl (by omega), ?_⟩
        conv => whnf
        refine ⟨⟨⟨rfl, trivial⟩, fun w' hw => hw.fr⟩, ?_⟩
        conv => whnf
        refine ⟨⟨0, i + 1, (L.drop i).map encL, ?_⟩, trivial⟩
        conv => whnf
        refine ⟨⟨by simp, by rw [hLJ]; simp; omega, fun w' hw => hsrc hw rfl, nopL _⟩, ?_⟩
        conv => whnf
        refine ⟨⟨⟨rfl, trivial⟩, fun w' hw => hw.fr⟩, ?_⟩
        conv => whnf
        repeat refine At.seq ?_
        refine At.region tab_ok ?_
        conv => whnf
        refine ⟨rfl, ?_⟩
        conv => whnf
        refine ⟨by omega, ?_⟩
        conv => whnf
        refine ⟨by rw [hL5]; omega, ?_⟩
        conv => whnf
        refine ⟨Or.inl (by omega), ?_⟩
        conv => whnf
        refine ⟨0, i, [encL x], ?_⟩
        conv => whnf
        refine ⟨⟨rfl, by rw [hL5]; simp; omega, fun w' hw => (SrcOk.of_row (hw.row (id := 1) rfl) (onesL [x])).toN (by rw [hL5]; simp; omega), nopL [x]⟩, ?_⟩
        conv => whnf
        repeat refine At.seq ?_
        refine At.region tab_ok ?_
        conv => whnf
        repeat refine At.seq ?_
        refine At.ret (At.doneB tab_ok hB _ rfl fun w' hw => ins_done (id := 0) hw (by show some (LO.row sv 27 7 _) = some (LO.row sv 27 7 _); rw [ins_splice2 hi hJl]) rfl (by decide) rfl rfl)
end Go.Proofs.YtjilbkioieicbaaGreat

/- Walks: the book is cut. -/
namespace Go.Proofs.YtjilbkioieicbaaGreat
open Go.Vc Rt
set_option linter.unusedVariables false
set_option linter.unusedSimpArgs false
/-- A call of slices.Insert. -/
theorem ins_call {st : St} {d : Option Nat} {K : St → Prop} {i0 i1 : Nat} {v u : Value} {L : List Lot} {x : Lot} {args : List Value} (i : Nat) (ha : args = [v, vI i, u]) (h0 : Vc.look st.hp i0 = some (.row v 27 7 (L.map encL))) (h1 : Vc.look st.hp i1 = some (.row u 27 7 [encL x])) (hne : i1 ≠ i0)
    (hi : i ≤ L.length) (hN : L.length ≤ 1000000)
    (hk : ∀ v' : Value, hpSetK st.hp i0 (.row v' 27 7 ((insL L i x).map encL)) (fun hp => hpSetK hp i1 (.row u 27 7 [encL x]) (fun hp' => st.withHp hp' (fun st' => goPut st' d (.s (.c (.o i0 v'))) K)))) : UCall Tryz.prog st 82 args d K :=
  .inl ⟨b124, fun hwf w hw => by
    subst ha
    refine (insert_c L i hi x v u w (hw.row h0) (hw.row h1) (disj_of hw.nodup h0 h1 (fun e => hne e.symm)) hN).mono ?_
    rintro e w' ⟨v', he, hr, hru, hf, hbl⟩
    have hk' := hk v'
    rw [hpSetK_eq, hpSetK_eq] at hk'
    have hl1' : Vc.look (hpSet st.hp i0 (.row v' 27 7 ((insL L i x).map encL))) i1 = some (.row u 27 7 [encL x]) := by rw [look_hpSet_other hne]; exact h1
    have hwf1 := hwf.setO h0 (o' := .row v' 27 7 ((insL L i x).map encL)) (fun _ _ _ e => by cases e) ⟨rows_some hr, (nopL _).ok⟩
    have hwf2 := hwf1.setO (id := i1) (o := .row u 27 7 [encL x]) (o' := .row u 27 7 [encL x]) hl1' (fun _ _ _ e => by cases e) ⟨rows_some hru, (nopL [x]).ok⟩
    exact ⟨.s (.c (.o i0 v')), st.setHp (hpSet (hpSet st.hp i0 (.row v' 27 7 ((insL L i x).map encL))) i1 (.row u 27 7 [encL x])), he, ⟨rfl, rfl, rfl, rfl⟩, hwf2, ownsAt_slice hr.1, hw.set2 h0 h1 hne hf hr hru hbl (fun c hc => hc), hk'⟩⟩
theorem split_hit {m n : Int} {l : Lot} : ∀ {L : List Lot} {k : Nat}, L[k]? = some l → cutsIn m n l = true → (∀ j y, j < k → L[j]? = some y → cutsIn m n y = false) → insL (L.set k (lotTo l n)) (k + 1) (lotFrom l n) = split m n L
  | [], k, h, _, _ => by simp at h
  | x :: L, 0, h, hc, _ => by
    simp at h; subst h
    simp [split, hc, insL]
  | x :: L, k + 1, h, hc, hall => by
    have h0 := hall 0 x (by omega) (by simp)
    have ih := split_hit (L := L) (k := k) (by simpa using h) hc (fun j y hj hy => hall (j + 1) y (by omega) (by simpa using hy))
    simp only [split, h0, Bool.false_eq_true, if_false]
    rw [← ih]
    simp [insL]
theorem split_miss {m n : Int} : ∀ {L : List Lot}, (∀ (j : Nat) y, L[j]? = some y → cutsIn m n y = false) → split m n L = L
  | [], _ => rfl
  | x :: L, h => by
    have h0 := h 0 x (by simp)
    simp only [split, h0, Bool.false_eq_true, if_false]
    rw [split_miss fun j y hy => h (j + 1) y (by simpa using hy)]
theorem split_len (m n : Int) : ∀ (L : List Lot), (split m n L).length ≤ L.length + 1
  | [] => by simp [split]
  | x :: L => by
    have := split_len m n L
    simp only [split]
    split <;> simp <;> omega
theorem split_c (L : List Lot) (m n : Int) (b : Nat) (v : Value) (w : World) (h : Bk w b v L) (hN : L.length ≤ 1000000) : BkC 98 [ptr b, vI m, vI n] b v (split m n L) (.tup []) w := by
  have hh := enter_bk (N := Tryz.f98.ntmps) (l := [.s (.c (.p 0 b 0)), .i m, .i n]) h
  have hlm : (L.map encL).length = L.length := by simp
  refine calls_atB _ _ _ Tryz.func98 rfl rfl (Nat.le_of_ble_eq_true rfl) (WF.objs hh ⟨⟨_, _, rfl⟩, trivial⟩ ⟨fun c hc => by simp at hc; subst hc; exact ⟨_, _, _, rfl⟩, (nopL _).okH, trivial⟩) hh fun B hB => ?_
  repeat refine At.seq ?_
  refine At.region tab_ok ?_
  conv => whnf
  refine ⟨rfl, ?_⟩
  conv => whnf
  repeat refine At.seq ?_
  refine At.block ?_
  refine At.loopH (fun k : Nat => { N := Tryz.f98.ntmps, sl := [(0, some (.s (.c (.p 0 b 0)))), (1, some (.i m)), (2, some (.i n)), (12, some (.s (.c (.o 1 v)))), (13, some (.i L.length)), (14, some (.i k))], gl := [], hp := BkHp b v L, S := b :: blkOf v, ws := w }) (fun k => k ≤ L.length ∧ ∀ j y, j < k → L[j]? = some y → cutsIn m n y = false) (fun k => L.length - k)
    (fun w' hw => ⟨0, ⟨Nat.zero_le _, fun j y hj => by omega⟩, Le.of rfl rfl ⟨rfl, rfl, rfl, rfl, congrArg (Value.int .i64) (by simp), rfl, trivial⟩, hw.same rfl rfl rfl, ⟨⟨_, _, rfl⟩, ⟨_, _, _, rfl⟩, trivial⟩, ⟨fun c hc => by simp at hc; subst hc; exact ⟨_, _, _, rfl⟩, (nopL _).okH, trivial⟩⟩) ?_
  intro k ⟨hk, hall⟩
  repeat refine At.seq ?_
  refine At.region tab_ok ?_
  conv => whnf
  repeat refine At.seq ?_
  refine At.cond rfl (fun hc => At.skip ?_) (fun hc => At.exit ?_)
  · have hlt : k < L.length := by have := of_decide_eq_true hc; omega
    obtain ⟨x, hx⟩ : ∃ x, L[k]? = some x := ⟨_, List.getElem?_eq_getElem hlt⟩
    repeat refine At.seq ?_
    refine At.block ?_
    repeat refine At.seq ?_
    refine At.region tab_ok ?_
    conv => whnf
    refine ⟨rfl, ?_⟩
    conv => whnf
    refine ⟨by omega, ?_⟩
    conv => whnf
    refine ⟨by omega, ?_⟩
    conv => whnf
    refine ⟨encL x, ⟨rfl, rfl, by omega, by simp [hx]⟩, ?_⟩
    conv => whnf
    intro b2
    conv => whnf
    repeat refine At.seq ?_
    refine At.region tab_ok ?_
    conv => whnf
    have hcut : ∀ t : Bool, (bif (bif decide (x.s.m = m) then decide (x.s.f < n) else false) then decide (n < x.s.t) else false) = t → cutsIn m n x = t := fun t ht => by
      rw [← ht]; simp only [band, cutsIn, Bool.and_assoc]
    repeat refine At.seq ?_
    refine At.cond rfl (fun hq => ?_) (fun hq => ?_)
    · have hhit := split_hit hx (hcut _ hq) hall
      have hset : (L.map encL).set k (encL (lotTo x n)) = (L.set k (lotTo x n)).map encL := by rw [List.map_set]
      have hsl : (L.set k (lotTo x n)).length = L.length := by simp
      generalize hL1 : L.set k (lotTo x n) = L1 at hhit hset hsl
      repeat refine At.seq ?_
      refine At.region tab_ok ?_
      conv => whnf
      intro b3
      conv => whnf
      repeat refine At.seq ?_
      refine At.region tab_ok ?_
      conv => whnf
      refine ⟨rfl, ?_⟩
      conv => whnf
      refine ⟨by omega, ?_⟩
      conv => whnf
      refine ⟨by omega, ?_⟩
      conv => whnf
      refine ⟨encL x, ⟨rfl, rfl, by omega, by simp [hx]⟩, ?_⟩
      conv => whnf
      refine At.reshapeH fun w' hw => ⟨{ N := Tryz.f98.ntmps, sl := [(0, some (.s (.c (.p 0 b 0)))), (6, some (.i k)), (8, some (.s (.c (.p 3 b3 0))))], gl := [], hp := [(3, .box b3 27 (encL (lotFrom x n))), (0, .box b 66 [.o 1 v]), (1, .row v 27 7 (L1.map encL))], S := b :: blkOf v, ws := w }, Le.of rfl rfl ⟨rfl, rfl, rfl, trivial⟩, hw.keep [3, 0, 1] ?_ rfl rfl, ⟨⟨_, _, rfl⟩, ⟨_, _, rfl⟩, trivial⟩, ⟨fun c hc => by simp at hc; subst hc; exact ⟨_, _, _, rfl⟩, (nopL _).okH, trivial⟩, ?_⟩
      · show [(3, LO.box b3 27 _), (0, LO.box b 66 [.o 1 v]), (1, LO.row v 27 7 _)] = [(3, LO.box b3 27 _), (0, LO.box b 66 [.o 1 v]), (1, LO.row v 27 7 _)]
        rw [← hset, Int.toNat_natCast]
        rfl
      repeat refine At.seq ?_
      refine At.plan tab_ok mixed [(3, .box b3 27 (encL (lotFrom x n)))] (.take 0 (.take 1 (.take 2 (.take 3 (.take 5 (.take 6 (.take 7 (.br 4 (.br 8 (.br 9 (.take 10 (.take 11 (.br 12 .done .nob))) .nob) .nob) (.br 8 (.br 4 (.br 9 (.take 10 (.take 11 (.br 12 .done .nob))) .nob) .nob) .nob))))))))) (by kernel_rfl) (by kernel_rfl) ⟨rfl, trivial⟩ ?_
      conv => whnf
      refine ⟨⟨by omega, by omega⟩, ?_⟩
      conv => whnf
      refine ⟨?_, ?_, trivial⟩
      · refine ⟨⟨⟨rfl, trivial⟩, fun w' hw => hw.fr⟩, ?_⟩
        conv => whnf
        refine ⟨?_, trivial⟩
        intro u
        conv => whnf
        refine ⟨⟨⟨rfl, trivial⟩, fun w' hw => hw.fr⟩, ?_⟩
        conv => whnf
        refine ⟨ins_call (i0 := 1) (i1 := 4) (L := L1) (x := lotFrom x n) (k + 1) rfl rfl rfl (by decide) (by omega) (by omega) ?_, trivial⟩
        intro v'
        conv => whnf
        refine ⟨⟨⟨rfl, trivial⟩, fun w' hw => hw.fr⟩, ?_⟩
        conv => whnf
        refine ⟨⟨⟨⟨rfl, trivial⟩, fun w' hw => hw.fr⟩, ?_⟩, trivial⟩
        conv => whnf
        repeat refine At.seq ?_
        refine At.ret (At.doneB tab_ok hB _ rfl fun w' hw => bk_done (i0 := 0) (i1 := 1) hw rfl (by rw [← hhit]; rfl) (by decide) rfl rfl)
      · intro u
        conv => whnf
        refine ⟨⟨⟨rfl, trivial⟩, fun w' hw => hw.fr⟩, ?_⟩
        conv => whnf
        refine ⟨⟨⟨⟨rfl, trivial⟩, fun w' hw => hw.fr⟩, ?_⟩, trivial⟩
        conv => whnf
        refine ⟨ins_call (i0 := 1) (i1 := 4) (L := L1) (x := lotFrom x n) (k + 1) rfl rfl rfl (by decide) (by omega) (by omega) ?_, trivial⟩
        intro v'
        conv => whnf
        refine ⟨⟨⟨rfl, trivial⟩, fun w' hw => hw.fr⟩, ?_⟩
        conv => whnf
        refine ⟨⟨⟨⟨rfl, trivial⟩, fun w' hw => hw.fr⟩, ?_⟩, trivial⟩
        conv => whnf
        repeat refine At.seq ?_
        refine At.ret (At.doneB tab_ok hB _ rfl fun w' hw => bk_done (i0 := 0) (i1 := 1) hw rfl (by rw [← hhit]; rfl) (by decide) rfl rfl)
    · refine At.skip ?_
      repeat refine At.seq ?_
      refine At.region tab_ok ?_
      conv => whnf
      refine ⟨⟨by omega, by omega⟩, ?_⟩
      conv => whnf
      refine At.nextH fun w' hw => ⟨k + 1, ⟨by omega, fun j y hj hy => ?_⟩, by omega, Le.of rfl rfl ⟨rfl, rfl, rfl, rfl, rfl, rfl, trivial⟩, hw.keep [0, 1] rfl rfl rfl, ⟨⟨_, _, rfl⟩, ⟨_, _, _, rfl⟩, trivial⟩, ⟨fun c hc => by simp at hc; subst hc; exact ⟨_, _, _, rfl⟩, (nopL _).okH, trivial⟩⟩
      rcases Nat.lt_or_ge j k with hj' | hj'
      · exact hall j y hj' hy
      · obtain rfl : j = k := by omega
        rw [hx] at hy; cases hy; exact hcut _ hq
  · have hge : k = L.length := by have := of_decide_eq_false hc; omega
    subst hge
    rw [split_miss (fun j y hy => hall j y (List.getElem?_eq_some_iff.1 hy).1 hy)] at hB
    refine At.doneN tab_ok hB _ rfl fun w' hw => ?_
    exact bk_done (i0 := 0) (i1 := 1) hw rfl rfl (by decide) rfl rfl
end Go.Proofs.YtjilbkioieicbaaGreat

/- Walks: the book is cut at a span. -/
namespace Go.Proofs.YtjilbkioieicbaaGreat
open Go.Vc Rt
set_option linter.unusedVariables false
set_option linter.unusedSimpArgs false
theorem idx_bound {α : Type} (p : α → Bool) (xs : List α) : -1 ≤ idxOf p xs ∧ idxOf p xs < xs.length := by
  unfold idxOf
  split
  · rename_i i h
    rw [List.findIdx?_eq_some_iff_getElem] at h
    have := h.1; omega
  · omega
theorem cut1_c (L : List Lot) (s : Span) (n : Int) (bp bs b : Nat) (v : Value) (w : World) (hp : (LO.box bp 85 [.p 2 b 0]).holds w) (hs : (LO.box bs 25 (encS s)).holds w) (hb : (LO.box b 66 [.o 1 v]).holds w) (hv : SlOf loT [bp, bs, b] w v L)
    (hn : [bp, bs, b].Nodup) : Ans Tryz.prog 99 [vI n, ptr bp, ptr bs] (.i (idxOf (inLot s.m n) L)) w := by
  have hh : Holds (St.enter Tryz.f99.ntmps [.i n, .s (.c (.p 0 bp 0)), .s (.c (.p 1 bs 0))] [(0, .box bp 85 [.p 2 b 0]), (1, .box bs 25 (encS s)), (2, .box b 66 [.x v])] [bp, bs, b] w) w := enter_objs (fun o ho => by
    simp only [List.mem_cons, List.not_mem_nil, or_false] at ho
    rcases ho with rfl | rfl | rfl
    · exact hp
    · exact hs
    · exact hb) (by simpa [LO.blks] using hn)
  refine calls_atB _ _ _ Tryz.func99 rfl rfl (Nat.le_of_ble_eq_true rfl) (WF.objs hh ⟨⟨_, _, rfl⟩, ⟨_, _, rfl⟩, trivial⟩ ⟨fun c hc => by simp at hc; subst hc; exact ⟨_, _, rfl⟩, trivial⟩) hh fun B hB => ?_
  repeat refine At.seq ?_
  refine At.region tab_ok ?_
  conv => whnf
  intro bn
  conv => whnf
  repeat refine At.seq ?_
  refine At.region tab_ok ?_
  conv => whnf
  refine ans_call b146 rfl (fun w' hw => indexL_c L [bp, bs, b] v w' (hv.fr hw.fr) 101 #[ptr bs, ptr bn] (inLot s.m n) b147 (fun x _ w'' hx => cut11_c x s n bs bn w'' (LO.holds_ext hx (hw.objs (1, .box bs 25 (encS s)) (by simp))) (LO.holds_ext hx (hw.objs (3, .box bn 3 [.i n]) (by simp)))
    (fun e => disj_of hw.nodup (i := 1) (j := 3) rfl rfl (by decide) bs (by simp [LO.blks]) (by simp [LO.blks, e])))) ?_
  conv => whnf
  repeat refine At.seq ?_
  refine At.ret (At.doneB tab_ok hB _ rfl fun w' hw => ⟨rfl, hw.fr.ext fun c hc => ?_⟩)
  simp only [List.mem_cons, List.not_mem_nil, or_false] at hc
  rcases hc with rfl | rfl | rfl
  · exact (hw.box (id := 0) rfl).trans hp.symm
  · exact (hw.box (id := 1) rfl).trans hs.symm
  · exact (hw.box (id := 2) rfl).trans hb.symm
def cutI (s : Span) (L : List Lot) : Int := idxOf (inLot s.m s.f) (cutAt s L)
def cutK (s : Span) (L : List Lot) : Int := idxOf (inLot s.m (s.t - 1)) (cutAt s L)
def cutB (s : Span) (L : List Lot) : Bool := decide (0 ≤ cutI s L) && decide (cutI s L ≤ cutK s L)
theorem cut_len (s : Span) (L : List Lot) : (cutAt s L).length ≤ L.length + 2 := by
  unfold cutAt
  have h1 := split_len s.m s.t (split s.m s.f L)
  have h2 := split_len s.m s.f L
  omega
theorem cut_c (L : List Lot) (s : Span) (b : Nat) (v : Value) (w : World) (h : Bk w b v L) (hN : L.length ≤ 900000) (hs : inR (s.t - 1)) : BkC 83 [ptr b, vS s] b v (cutAt s L) (.tup [.c (.i (cutI s L)), .c (.i (cutK s L + 1)), .c (.b (cutB s L))]) w := by
  have hh := enter_bk (N := Tryz.f83.ntmps) (l := [.s (.c (.p 0 b 0)), .s (.agg (encS s))]) h
  have hl1 := split_len s.m s.f L
  have hl2 := cut_len s L
  have hbI := idx_bound (inLot s.m s.f) (cutAt s L)
  have hbK := idx_bound (inLot s.m (s.t - 1)) (cutAt s L)
  refine calls_atB _ _ _ Tryz.func83 rfl rfl (Nat.le_of_ble_eq_true rfl) (WF.objs hh ⟨⟨_, _, rfl⟩, trivial⟩ ⟨fun c hc => by simp at hc; subst hc; exact ⟨_, _, _, rfl⟩, (nopL _).okH, trivial⟩) hh fun B hB => ?_
  repeat refine At.seq ?_
  refine At.region tab_ok ?_
  conv => whnf
  intro bp
  conv => whnf
  intro bs
  conv => whnf
  repeat refine At.seq ?_
  refine At.region tab_ok ?_
  conv => whnf
  refine bk_call (i0 := 0) (i1 := 1) (L := L) (L' := split s.m s.f L) (r := .tup []) b144 rfl rfl (by decide) rfl (fun w' hw hb => split_c L s.m s.f b v w' hb (by omega)) ?_
  rintro v1 hsl1
  conv => whnf
  repeat refine At.seq ?_
  refine At.region tab_ok ?_
  conv => whnf
  refine bk_call (i0 := 0) (i1 := 1) (L := split s.m s.f L) (L' := cutAt s L) (r := .tup []) b144 rfl rfl (by decide) rfl (fun w' hw hb => split_c (split s.m s.f L) s.m s.t b v1 w' hb (by omega)) ?_
  rintro v2 hsl2
  conv => whnf
  repeat refine At.seq ?_
  refine At.region tab_ok ?_
  conv => whnf
  repeat refine At.seq ?_
  refine At.draw tab_ok mixed (by kernel_rfl) ?_
  conv => whnf
  have hat : ∀ {st : St} {w' : World} (n : Int), Holds st w' → Vc.look st.hp 0 = some (.box b 66 [.o 1 v2]) → Vc.look st.hp 1 = some (.row v2 27 7 ((cutAt s L).map encL)) → Vc.look st.hp 2 = some (.box bp 85 [.p 0 b 0]) → Vc.look st.hp 3 = some (.box bs 25 (encS s)) →
      Ans Tryz.prog 99 [vI n, ptr bp, ptr bs] (.i (idxOf (inLot s.m n) (cutAt s L))) w' := fun {st w'} n hw h0 h1 h2 h3 => by
    have d1 := disj_of hw.nodup h2 h3 (by decide)
    have d2 := disj_of hw.nodup h2 h0 (by decide)
    have d3 := disj_of hw.nodup h3 h0 (by decide)
    have r1 := disj_of hw.nodup h1 h0 (by decide)
    have r2 := disj_of hw.nodup h1 h2 (by decide)
    have r3 := disj_of hw.nodup h1 h3 (by decide)
    simp only [LO.blks, List.mem_singleton, forall_eq] at d1 d2 d3 r1 r2 r3
    refine cut1_c (cutAt s L) s n bp bs b v2 w' (hw.objs _ (look_mem h2)) (hw.objs _ (look_mem h3)) (hw.objs _ (look_mem h0)) (SlOf.of_row (hw.row h1) (fun c hc => ?_) (by omega)) (by simp [d1, d2, d3])
    simp only [List.mem_cons, List.not_mem_nil, or_false, not_or]
    exact ⟨fun e => r2 c hc e, fun e => r3 c hc e, fun e => r1 c hc e⟩
  refine ⟨.i (cutI s L), ans_quiet b145 (fun w' hw => hat s.f hw rfl rfl rfl rfl), ?_⟩
  conv => whnf
  refine ⟨hs, ?_⟩
  conv => whnf
  refine ⟨.i (cutK s L), ans_quiet b145 (fun w' hw => hat (s.t - 1) hw rfl rfl rfl rfl), ?_⟩
  conv => whnf
  repeat refine At.seq ?_
  refine At.region tab_ok ?_
  conv => whnf
  refine ⟨by unfold cutK; exact ⟨by omega, by omega⟩, ?_⟩
  conv => whnf
  repeat refine At.seq ?_
  refine At.ret (At.doneB tab_ok hB _ rfl fun w' hw => by rw [band]; exact bk_done (i0 := 0) (i1 := 1) (L' := cutAt s L) (r := .tup [.c (.i (cutI s L)), .c (.i (cutK s L + 1)), .c (.b (cutB s L))]) hw rfl rfl (by decide) rfl rfl)
end Go.Proofs.YtjilbkioieicbaaGreat

/- Walks: coins come to be. -/
namespace Go.Proofs.YtjilbkioieicbaaGreat
open Go.Vc Rt
set_option linter.unusedVariables false
set_option linter.unusedSimpArgs false
/-- The number of lots of receipts before a mark. -/
def before (L : List Lot) (m : Int) : Nat := (L.takeWhile (fun l => decide (l.s.m < m))).length
def there (L : List Lot) (m : Int) : Bool := match L[before L m]? with | some l => decide (l.s.m = m) | none => false
theorem before_eq {m : Int} : ∀ {L : List Lot} {i : Nat}, i ≤ L.length → (∀ k l, k < i → L[k]? = some l → l.s.m < m) → (∀ l, L[i]? = some l → ¬ l.s.m < m) → before L m = i
  | [], i, h, _, _ => by simp at h; subst h; rfl
  | x :: L, 0, _, _, h2 => by have := h2 x (by simp); simp [before, this]
  | x :: L, i + 1, h, h1, h2 => by
    have hx := h1 0 x (by omega) (by simp)
    have ih := before_eq (m := m) (L := L) (i := i) (by simpa using h) (fun k l hk hl => h1 (k + 1) l (by omega) (by simpa using hl)) (fun l hl => h2 l (by simpa using hl))
    unfold before at *
    simp [hx, ih]
theorem search_c (L : List Lot) (m : Int) (S : List Nat) (v : Value) (w : World) (h : SlOf loT S w v L) (hN : L.length ≤ 1000000) (hs : L.Pairwise (fun a b => a.s.m ≤ b.s.m)) (hr : ∀ l ∈ L, inR (l.s.m - m)) :
    Ans Tryz.prog 80 [v, vI m, .func (.func 81) #[] #[]] (.tup [.c (.i (before L m)), .c (.b (there L m))]) w := by
  replace h := h.avoid (S' := []) (fun b hb => by cases hb)
  have hl := h.len
  have hsorted : ∀ (a b : Nat) x y, L[a]? = some x → L[b]? = some y → a ≤ b → x.s.m ≤ y.s.m := by
    intro a b x y ha hb hab
    rcases Nat.lt_or_eq_of_le hab with hlt | rfl
    · obtain ⟨h1, e1⟩ := List.getElem?_eq_some_iff.1 ha
      obtain ⟨h2, e2⟩ := List.getElem?_eq_some_iff.1 hb
      have := (List.pairwise_iff_getElem.1 hs) a b h1 h2 hlt
      rw [e1, e2] at this; exact this
    · rw [ha] at hb; cases hb; omega
  refine calls_plainB [.x v, .i m, .x (.func (.func 81) #[] #[])] Tryz.func80 rfl rfl (Nat.le_of_ble_eq_true rfl) rfl fun B hB => ?_
  repeat refine At.seq ?_
  refine At.region tab_ok ?_
  conv => whnf
  repeat refine At.seq ?_
  refine At.region tab_ok ?_
  conv => whnf
  refine ⟨h.sl, ?_⟩
  conv => whnf
  repeat refine At.seq ?_
  refine At.region tab_ok ?_
  conv => whnf
  repeat refine At.seq ?_
  refine At.block ?_
  refine At.loopF (fun p : Nat × Nat => { N := Tryz.f80.ntmps, sl := [(0, some (.x v)), (1, some (.i m)), (2, some (.x (.func (.func 81) #[] #[]))), (8, some (.i L.length)), (9, some (.i p.1)), (10, some (.i p.2))], gl := [], hp := [], S := [], ws := w })
    (fun p => p.1 ≤ p.2 ∧ p.2 ≤ L.length ∧ (∀ k l, k < p.1 → L[k]? = some l → l.s.m < m) ∧ (∀ k l, p.2 ≤ k → L[k]? = some l → ¬ l.s.m < m)) (fun p => p.2 - p.1)
    (fun w' hw => ⟨(0, L.length), ⟨Nat.zero_le _, Nat.le_refl _, fun k l hk => by omega, fun k l hk hl => by rw [List.getElem?_eq_none hk] at hl; cases hl⟩, Le.of rfl rfl ⟨rfl, rfl, rfl, congrArg (Value.int .i64) hl, rfl, congrArg (Value.int .i64) hl, trivial⟩, WF.plain rfl, hw.same rfl rfl rfl⟩) ?_
  rintro ⟨i, j⟩ ⟨hij, hjn, hlo, hhi⟩
  simp only at hij hjn hlo hhi ⊢
  repeat refine At.seq ?_
  refine At.region tab_ok ?_
  conv => whnf
  repeat refine At.seq ?_
  refine At.cond rfl (fun hc => At.skip ?_) (fun hc => At.exit ?_)
  · have hlt : i < j := by have := of_decide_eq_true hc; omega
    have hh : ((i : Int) + j) / 2 = ((i + j) / 2 : Nat) := by omega
    obtain ⟨x, hx⟩ : ∃ x, L[(i + j) / 2]? = some x := ⟨_, List.getElem?_eq_getElem (by omega)⟩
    repeat refine At.seq ?_
    refine At.block ?_
    repeat refine At.seq ?_
    refine At.region tab_ok ?_
    conv => whnf
    refine ⟨⟨by omega, by omega⟩, ?_⟩
    conv => whnf
    refine ⟨by omega, ?_⟩
    conv => whnf
    refine ⟨⟨by omega, by omega⟩, ?_⟩
    conv => whnf
    refine ⟨rfl, ?_⟩
    conv => whnf
    refine ⟨by omega, ?_⟩
    conv => whnf
    refine ⟨⟨by omega, by omega⟩, ?_⟩
    conv => whnf
    repeat refine At.seq ?_
    refine At.region tab_ok ?_
    conv => whnf
    refine ⟨by omega, ?_⟩
    conv => whnf
    refine ⟨by omega, ?_⟩
    conv => whnf
    refine ⟨encL x, fun w' hw => h.loadI (n := 7) hw.fr (by omega) (by rw [hh, Int.toNat_natCast]; exact hx) rfl, ?_⟩
    conv => whnf
    refine ans_call b123 rfl (fun w' hw => take1_c x m w' (hr x (List.mem_of_getElem? hx))) ?_
    conv => whnf
    repeat refine At.seq ?_
    refine At.cond rfl (fun hq => ?_) (fun hq => ?_)
    · have hxm : x.s.m < m := by have := of_decide_eq_true hq; omega
      repeat refine At.seq ?_
      refine At.region tab_ok ?_
      conv => whnf
      refine ⟨⟨by omega, by omega⟩, ?_⟩
      conv => whnf
      refine At.next fun w' hw => ⟨((i + j) / 2 + 1, j), ⟨by simp only; omega, hjn, fun k l hk hl => ?_, hhi⟩, by simp only; omega, Le.of rfl rfl ⟨rfl, rfl, rfl, rfl, congrArg (Value.int .i64) (by simp only; omega), rfl, trivial⟩, WF.plain rfl, hw.keep [] rfl rfl rfl⟩
      have := hsorted k ((i + j) / 2) l x hl hx (by simp only at hk; omega)
      omega
    · have hxm : ¬ x.s.m < m := by have := of_decide_eq_false hq; omega
      repeat refine At.seq ?_
      refine At.region tab_ok ?_
      conv => whnf
      refine At.next fun w' hw => ⟨(i, (i + j) / 2), ⟨by simp only; omega, by simp only; omega, hlo, fun k l hk hl => ?_⟩, by simp only; omega, Le.of rfl rfl ⟨rfl, rfl, rfl, rfl, rfl, congrArg (Value.int .i64) hh, trivial⟩, WF.plain rfl, hw.keep [] rfl rfl rfl⟩
      have := hsorted ((i + j) / 2) k x l hx hl (by simp only at hk; omega)
      omega
  · have hge : i = j := by have := of_decide_eq_false hc; omega
    subst hge
    have hbe : before L m = i := before_eq hjn hlo (fun l hl => hhi i l (Nat.le_refl _) hl)
    obtain ⟨x, hx⟩ : ∃ x, i < L.length → L[i]? = some x := by
      rcases Nat.lt_or_ge i L.length with h' | h'
      · exact ⟨_, fun _ => List.getElem?_eq_getElem h'⟩
      · exact ⟨default, fun h => by omega⟩
    repeat refine At.seq ?_
    refine At.region tab_ok ?_
    conv => whnf
    refine ⟨by simp only [gimp]; intro h1; omega, ?_⟩
    conv => whnf
    refine ⟨by simp only [gimp]; intro h1; have := of_decide_eq_true h1; omega, ?_⟩
    conv => whnf
    refine ⟨encL x, by simp only [gimp]; intro h1 w' hw; have := of_decide_eq_true h1; exact h.load (n := 7) hw.fr (hx (by omega)) rfl, ?_⟩
    conv => whnf
    refine ⟨.i (x.s.m - m), by simp only [gimp]; intro h1; have h1 := of_decide_eq_true h1; exact ans_quiet b123 (fun w' hw => take1_c x m w' (hr x (List.mem_of_getElem? (hx (by omega))))), ?_⟩
    conv => whnf
    repeat refine At.seq ?_
    refine At.ret (At.doneB tab_ok hB _ rfl fun w' hw => ⟨?_, hw.fr⟩)
    have ht : there L m = (bif decide ((i : Int) < L.length) then decide (x.s.m - m = 0) else false) := by
      unfold there
      rw [hbe, band]
      rcases Nat.lt_or_ge i L.length with h' | h'
      · rw [hx h']
        simp only
        rw [Bool.eq_iff_iff]
        simp
        omega
      · rw [List.getElem?_eq_none h']
        simp; omega
    rw [hbe, ht]
def takeB (L : List Lot) (d : Deed) : List Lot × Int :=
  if there L d.mark then (L, 5) else (insL L (before L d.mark) ⟨d.spans.headD default, d.author, d.author, 0, -1⟩, 0)
theorem take_c (L : List Lot) (d : Deed) (s : Span) (hsp : d.spans[0]? = some s) (b : Nat) (v u : Value) (w : World) (h : Bk w b v L) (hu : SlOf spT (b :: blkOf v) w u d.spans) (hN : L.length ≤ 900000) (hs : L.Pairwise (fun a b => a.s.m ≤ b.s.m)) (hr : ∀ l ∈ L, inR (l.s.m - d.mark)) :
    BkC 67 [ptr b, vD d u] b v (takeB L d).1 (.i (takeB L d).2) w := by
  have hh := enter_bk (N := Tryz.f67.ntmps) (l := [.s (.c (.p 0 b 0)), .s (.agg (encD d u))]) h
  have hul := hu.len
  have hpos : 0 < d.spans.length := (List.getElem?_eq_some_iff.1 hsp).1
  refine calls_atB _ _ _ Tryz.func67 rfl rfl (Nat.le_of_ble_eq_true rfl) (WF.objs hh ⟨⟨_, _, rfl⟩, trivial⟩ ⟨fun c hc => by simp at hc; subst hc; exact ⟨_, _, _, rfl⟩, (nopL _).okH, trivial⟩) hh fun B hB => ?_
  repeat refine At.seq ?_
  refine At.region tab_ok ?_
  conv => whnf
  refine ⟨hu.sl.one, ?_⟩
  conv => whnf
  intro b2
  conv => whnf
  repeat refine At.seq ?_
  refine At.draw tab_ok mixed (by kernel_rfl) ?_
  conv => whnf
  refine ⟨.tup [.c (.i (before L d.mark)), .c (.b (there L d.mark))], ans_quiet b122 (fun w' hw => search_c L d.mark [] v w' (SlOf.of_row (hw.row (id := 1) rfl) (fun c hc hc' => by cases hc') (by omega)) (by omega) hs hr), ?_⟩
  conv => whnf
  repeat refine At.seq ?_
  refine At.region tab_ok ?_
  conv => whnf
  repeat refine At.seq ?_
  refine At.cond rfl (fun hq => ?_) (fun hq => ?_)
  · repeat refine At.seq ?_
    refine At.region tab_ok ?_
    conv => whnf
    repeat refine At.seq ?_
    refine At.ret (At.doneB tab_ok hB _ rfl fun w' hw => by unfold takeB; rw [if_pos hq]; exact bk_done (i0 := 0) (i1 := 1) (L' := L) (r := .i 5) hw rfl rfl (by decide) rfl rfl)
  · refine At.skip ?_
    have hte : takeB L d = (insL L (before L d.mark) ⟨s, d.author, d.author, 0, -1⟩, 0) := by
      unfold takeB; rw [if_neg (by rw [hq]; simp)]
      congr 3
      cases hd : d.spans with
      | nil => rw [hd] at hsp; simp at hsp
      | cons y r => rw [hd] at hsp; simpa using hsp
    have hbl : before L d.mark ≤ L.length := by unfold before; exact (List.takeWhile_sublist _).length_le
    repeat refine At.seq ?_
    refine At.plan tab_ok mixed [(2, .box b2 44 (encD d u))] (.take 0 (.take 1 (.take 2 (.take 3 (.take 5 (.take 6 (.take 7 (.take 8 (.take 9 (.take 10 (.take 11 (.take 12 (.take 13 (.take 14 (.br 4 (.br 15 (.br 16 (.take 17 (.take 18 (.br 19 .done .nob))) .nob) .nob) (.br 15 (.br 4 (.br 16 (.take 17 (.take 18 (.br 19 .done .nob))) .nob) .nob) .nob)))))))))))))))) (by kernel_rfl) (by kernel_rfl) ⟨rfl, trivial⟩ ?_
    conv => whnf
    refine ⟨by omega, ?_⟩
    conv => whnf
    refine ⟨by omega, ?_⟩
    conv => whnf
    refine ⟨encS s, fun w' hf => hu.load (i := 0) (n := 3) hf hsp rfl, ?_⟩
    conv => whnf
    refine ⟨?_, ?_, trivial⟩
    · refine ⟨⟨⟨rfl, trivial⟩, fun w' hw => hw.fr⟩, ?_⟩
      conv => whnf
      refine ⟨?_, trivial⟩
      intro u2
      conv => whnf
      refine ⟨⟨⟨rfl, trivial⟩, fun w' hw => hw.fr⟩, ?_⟩
      conv => whnf
      refine ⟨ins_call (i0 := 1) (i1 := 3) (L := L) (x := ⟨s, d.author, d.author, 0, -1⟩) (before L d.mark) rfl rfl rfl (by decide) hbl (by omega) ?_, trivial⟩
      intro v'
      conv => whnf
      refine ⟨⟨⟨rfl, trivial⟩, fun w' hw => hw.fr⟩, ?_⟩
      conv => whnf
      refine ⟨⟨⟨⟨rfl, trivial⟩, fun w' hw => hw.fr⟩, ?_⟩, trivial⟩
      conv => whnf
      repeat refine At.seq ?_
      refine At.region tab_ok ?_
      conv => whnf
      repeat refine At.seq ?_
      refine At.ret (At.doneB tab_ok hB _ rfl fun w' hw => by rw [hte]; exact bk_done (i0 := 0) (i1 := 1) (r := .i 0) hw rfl rfl (by decide) rfl rfl)
    · intro u2
      conv => whnf
      refine ⟨⟨⟨rfl, trivial⟩, fun w' hw => hw.fr⟩, ?_⟩
      conv => whnf
      refine ⟨⟨⟨⟨rfl, trivial⟩, fun w' hw => hw.fr⟩, ?_⟩, trivial⟩
      conv => whnf
      refine ⟨ins_call (i0 := 1) (i1 := 3) (L := L) (x := ⟨s, d.author, d.author, 0, -1⟩) (before L d.mark) rfl rfl rfl (by decide) hbl (by omega) ?_, trivial⟩
      intro v'
      conv => whnf
      refine ⟨⟨⟨rfl, trivial⟩, fun w' hw => hw.fr⟩, ?_⟩
      conv => whnf
      refine ⟨⟨⟨⟨rfl, trivial⟩, fun w' hw => hw.fr⟩, ?_⟩, trivial⟩
      conv => whnf
      repeat refine At.seq ?_
      refine At.region tab_ok ?_
      conv => whnf
      repeat refine At.seq ?_
      refine At.ret (At.doneB tab_ok hB _ rfl fun w' hw => by rw [hte]; exact bk_done (i0 := 0) (i1 := 1) (r := .i 0) hw rfl rfl (by decide) rfl rfl)
end Go.Proofs.YtjilbkioieicbaaGreat

/- Walks: coins are passed, lent or spent. -/
namespace Go.Proofs.YtjilbkioieicbaaGreat
open Go.Vc Rt
set_option linter.unusedVariables false
set_option linter.unusedSimpArgs false
def errsK (L : List Lot) (d : Deed) (i k : Nat) (e : Int) : Int := ((L.take k).drop i).foldl (fun e l => worse e (may l d)) e
/-- The first round: lots, the error so far, whether all coins are there. -/
def mvRun (d : Deed) : List Span → List Lot → Int → List Lot × Int × Bool
  | [], L, e => (L, e, true)
  | s :: r, L, e => if cutB s L then mvRun d r (cutAt s L) (errsK (cutAt s L) d (cutI s L).toNat (cutK s L + 1).toNat e) else (cutAt s L, e, false)
def movedL (d : Deed) (l : Lot) : Lot :=
  if d.kind = 1 then { l with o := d.who, h := d.who, u := 0 } else if d.kind = 2 then { l with h := d.who, u := d.til } else if d.kind = 3 then { l with p := d.mark } else l
def updR (L : List Lot) (i k : Nat) (f : Lot → Lot) : List Lot := L.take i ++ ((L.take k).drop i).map f ++ L.drop k
def mv2 (d : Deed) : List Span → List Lot → List Lot
  | [], L => L
  | s :: r, L => mv2 d r (updR (cutAt s L) (cutI s L).toNat (cutK s L + 1).toNat (movedL d))
def moveB (L : List Lot) (d : Deed) : List Lot × Int :=
  let q := mvRun d d.spans L 0
  if q.2.2 = false then (q.1, 4) else if q.2.1 ≠ 0 then (q.1, q.2.1) else (mv2 d d.spans q.1, 0)
theorem drop_cons {α : Type} {xs : List α} {k : Nat} {x : α} (h : xs[k]? = some x) : xs.drop k = x :: xs.drop (k + 1) := by
  obtain ⟨h1, h2⟩ := List.getElem?_eq_some_iff.1 h
  rw [List.drop_eq_getElem_cons h1, h2]
theorem errsK_step {L : List Lot} {d : Deed} {i k : Nat} {e : Int} {x : Lot} (hx : L[i]? = some x) (hk : i < k) : errsK L d i k e = errsK L d (i + 1) k (worse e (may x d)) := by
  unfold errsK
  have : (L.take k)[i]? = some x := by rw [List.getElem?_take_of_lt hk]; exact hx
  rw [drop_cons this]; rfl
theorem errsK_done {L : List Lot} {d : Deed} {i k : Nat} {e : Int} (hk : k ≤ i) : errsK L d i k e = e := by
  unfold errsK
  rw [List.drop_eq_nil_of_le (by simp; omega)]; rfl
theorem updR_len {L : List Lot} {i k : Nat} {f : Lot → Lot} (h1 : i ≤ k) (h2 : k ≤ L.length) : (updR L i k f).length = L.length := by
  unfold updR; simp; omega
theorem updR_step {L : List Lot} {i j : Nat} {f : Lot → Lot} {x : Lot} (hi : i ≤ j) (hx : L[j]? = some x) : (updR L i j f).set j (f x) = updR L i (j + 1) f := by
  obtain ⟨hj, hxe⟩ := List.getElem?_eq_some_iff.1 hx
  unfold updR
  have e1 : (L.take i ++ ((L.take j).drop i).map f).length = j := by simp; omega
  rw [List.set_append_right _ _ (by omega), e1, Nat.sub_self, drop_cons hx, List.set_cons_zero, List.take_add_one, hx]
  rw [List.drop_append_of_le_length (by simp; omega)]
  simp
theorem updR_get {L : List Lot} {i j : Nat} {f : Lot → Lot} {x : Lot} (hi : i ≤ j) (hx : L[j]? = some x) : (updR L i j f)[j]? = some x := by
  obtain ⟨hj, hxe⟩ := List.getElem?_eq_some_iff.1 hx
  unfold updR
  rw [List.getElem?_append_right (by simp; omega), List.getElem?_drop]
  rw [show j + (j - (L.take i ++ ((L.take j).drop i).map f).length) = j by simp; omega]
  exact hx
theorem updR_zero {L : List Lot} {i : Nat} {f : Lot → Lot} : updR L i i f = L := by
  unfold updR
  rw [List.drop_eq_nil_of_le (by simp; omega)]
  simp
theorem updR_ge {L : List Lot} {i k : Nat} {f : Lot → Lot} (h : k ≤ i) (hi : i ≤ L.length) : updR L i k f = L.take i ++ L.drop k := by
  unfold updR
  rw [List.drop_eq_nil_of_le (by simp; omega)]
  simp
theorem mv2_snoc {d : Deed} : ∀ {l : List Span} {s : Span} {L : List Lot}, mv2 d (l ++ [s]) L = updR (cutAt s (mv2 d l L)) (cutI s (mv2 d l L)).toNat (cutK s (mv2 d l L) + 1).toNat (movedL d)
  | [], s, L => rfl
  | x :: l, s, L => by simp only [List.cons_append, mv2]; exact mv2_snoc
theorem set_self {α : Type} : ∀ {xs : List α} {j : Nat} {x : α}, xs[j]? = some x → xs.set j x = xs
  | [], j, x, h => by simp at h
  | y :: xs, 0, x, h => by simp at h; subst h; rfl
  | y :: xs, j + 1, x, h => by simp only [List.set_cons_succ]; rw [set_self (by simpa using h)]
theorem set_get {rows : List (List CV)} {j : Nat} {r : List CV} (h : j < rows.length) : (rows.set j r)[j]? = some r := by simp [h]
theorem move_c (L : List Lot) (d : Deed) (b : Nat) (v u : Value) (w : World) (h : Bk w b v L) (hu : SlOf spT (b :: blkOf v) w u d.spans) (hN : L.length ≤ 800000) (hn : d.spans.length ≤ 10000) (hv : ∀ s ∈ d.spans, 0 ≤ s.f ∧ s.f < s.t ∧ s.t ≤ 1048576)
    (hB2 : (mvRun d d.spans L 0).2.2 = true → (mvRun d d.spans L 0).2.1 = 0 → ∀ k s, d.spans[k]? = some s → cutB s (mv2 d (d.spans.take k) (mvRun d d.spans L 0).1) = true) :
    BkC 68 [ptr b, vD d u] b v (moveB L d).1 (.i (moveB L d).2) w := by
  have hh := enter_bk (N := Tryz.f68.ntmps) (l := [.s (.c (.p 0 b 0)), .s (.agg (encD d u))]) h
  have hul := hu.len
  refine calls_atB _ _ _ Tryz.func68 rfl rfl (Nat.le_of_ble_eq_true rfl) (WF.objs hh ⟨⟨_, _, rfl⟩, trivial⟩ ⟨fun c hc => by simp at hc; subst hc; exact ⟨_, _, _, rfl⟩, (nopL _).okH, trivial⟩) hh fun B hB => ?_
  repeat refine At.seq ?_
  refine At.region tab_ok ?_
  conv => whnf
  refine ⟨hu.sl.one, ?_⟩
  conv => whnf
  intro b2
  conv => whnf
  repeat refine At.seq ?_
  refine At.region tab_ok ?_
  conv => whnf
  repeat refine At.seq ?_
  refine At.region tab_ok ?_
  conv => whnf
  refine ⟨hu.sl, ?_⟩
  conv => whnf
  repeat refine At.seq ?_
  refine At.block ?_
  refine At.loopH (fun p : Nat × Value × List Lot × Int => { N := Tryz.f68.ntmps, sl := [(0, some (.s (.c (.p 0 b 0)))), (3, some (.s (.c (.p 2 b2 0)))), (5, some (.i p.2.2.2)), (18, some (.x u)), (19, some (.i d.spans.length)), (20, some (.i p.1))], gl := [], hp := (2, .box b2 44 (encD d u)) :: BkHp b p.2.1 p.2.2.1, S := b :: blkOf v, ws := w })
    (fun p => p.1 ≤ d.spans.length ∧ mvRun d d.spans L 0 = mvRun d (d.spans.drop p.1) p.2.2.1 p.2.2.2 ∧ p.2.2.1.length ≤ L.length + 2 * p.1) (fun p => d.spans.length - p.1)
    (fun w' hw => ⟨(0, v, L, 0), ⟨Nat.zero_le _, rfl, by simp⟩, Le.of rfl rfl ⟨rfl, rfl, rfl, rfl, congrArg (Value.int .i64) hul, rfl, trivial⟩, hw.same rfl rfl rfl, ⟨⟨_, _, rfl⟩, ⟨_, _, rfl⟩, trivial⟩, ⟨fun c hc => by simp at hc; subst hc; exact ⟨_, _, _, rfl⟩, (nopL _).okH, trivial⟩⟩) ?_
  rintro ⟨k, v1, L1, e1⟩ ⟨hk, hrun, hlen⟩
  simp only at hk hrun hlen ⊢
  repeat refine At.seq ?_
  refine At.region tab_ok ?_
  conv => whnf
  repeat refine At.seq ?_
  refine At.cond rfl (fun hc => At.skip ?_) (fun hc => At.exit ?_)
  · have hlt : k < d.spans.length := by have := of_decide_eq_true hc; omega
    obtain ⟨s, hs⟩ : ∃ s, d.spans[k]? = some s := ⟨_, List.getElem?_eq_getElem hlt⟩
    have hvs := hv s (List.mem_of_getElem? hs)
    have hcl := cut_len s L1
    have hbI := idx_bound (inLot s.m s.f) (cutAt s L1)
    have hbK := idx_bound (inLot s.m (s.t - 1)) (cutAt s L1)
    change -1 ≤ cutI s L1 ∧ cutI s L1 < _ at hbI
    change -1 ≤ cutK s L1 ∧ cutK s L1 < _ at hbK
    rw [drop_cons hs] at hrun
    simp only [mvRun] at hrun
    repeat refine At.seq ?_
    refine At.block ?_
    repeat refine At.seq ?_
    refine At.region tab_ok ?_
    conv => whnf
    refine ⟨by omega, ?_⟩
    conv => whnf
    refine ⟨by omega, ?_⟩
    conv => whnf
    refine ⟨encS s, fun w' hw => hu.load (n := 3) hw.fr hs rfl, ?_⟩
    conv => whnf
    intro b3
    conv => whnf
    repeat refine At.seq ?_
    refine At.region tab_ok ?_
    conv => whnf
    refine bk_call (i0 := 0) (i1 := 1) (L := L1) (L' := cutAt s L1) (r := .tup [.c (.i (cutI s L1)), .c (.i (cutK s L1 + 1)), .c (.b (cutB s L1))]) b125 rfl rfl (by decide) rfl (fun w' hw hb => cut_c L1 s b v1 w' hb (by omega) ⟨by omega, by omega⟩) ?_
    rintro v2 hsl2
    conv => whnf
    repeat refine At.seq ?_
    refine At.region tab_ok ?_
    conv => whnf
    repeat refine At.seq ?_
    refine At.cond rfl (fun hq => ?_) (fun hq => ?_)
    · have hcb : cutB s L1 = false := by simpa using hq
      rw [if_neg (by rw [hcb]; simp)] at hrun
      repeat refine At.seq ?_
      refine At.region tab_ok ?_
      conv => whnf
      repeat refine At.seq ?_
      refine At.ret (At.doneB tab_ok hB _ rfl fun w' hw => by have : moveB L d = (cutAt s L1, 4) := by { unfold moveB; rw [hrun]; rfl }; rw [this]; exact bk_done (i0 := 0) (i1 := 1) (r := .i 4) hw rfl rfl (by decide) rfl rfl)
    · have hcb : cutB s L1 = true := by simpa using hq
      rw [if_pos hcb] at hrun
      have hI0 : 0 ≤ cutI s L1 := by unfold cutB at hcb; simp at hcb; exact hcb.1
      obtain ⟨i0, hi0⟩ : ∃ i : Nat, cutI s L1 = i := ⟨(cutI s L1).toNat, by omega⟩
      obtain ⟨k0, hk0⟩ : ∃ i : Nat, cutK s L1 + 1 = i := ⟨(cutK s L1 + 1).toNat, by omega⟩
      have hk0l : k0 ≤ (cutAt s L1).length := by omega
      rw [hi0, hk0, Int.toNat_natCast, Int.toNat_natCast] at hrun
      refine At.skip ?_
      generalize hL2 : cutAt s L1 = L2 at *
      repeat refine At.seq ?_
      refine At.block ?_
      refine At.loopH (fun p : Nat × Int => { N := Tryz.f68.ntmps, sl := [(0, some (.s (.c (.p 0 b 0)))), (3, some (.s (.c (.p 2 b2 0)))), (5, some (.i p.2)), (18, some (.x u)), (19, some (.i d.spans.length)), (20, some (.i k)), (8, some (.i p.1)), (9, some (.i k0))], gl := [], hp := (2, .box b2 44 (encD d u)) :: BkHp b v2 L2, S := b :: blkOf v, ws := w })
        (fun p => errsK L2 d i0 k0 e1 = errsK L2 d p.1 k0 p.2 ∧ p.1 ≤ L2.length) (fun p => L2.length - p.1)
        (fun w' hw => ⟨(i0, e1), ⟨rfl, by omega⟩, Le.of rfl rfl ⟨rfl, rfl, rfl, rfl, rfl, rfl, congrArg (Value.int .i64) hi0, congrArg (Value.int .i64) hk0, trivial⟩, hw.keep [2, 0, 1] rfl rfl rfl, ⟨⟨_, _, rfl⟩, ⟨_, _, rfl⟩, trivial⟩, ⟨fun c hc => by simp at hc; subst hc; exact ⟨_, _, _, rfl⟩, (nopL _).okH, trivial⟩⟩) ?_
      rintro ⟨i, e⟩ ⟨herr, hiL⟩
      simp only at herr hiL ⊢
      repeat refine At.seq ?_
      refine At.region tab_ok ?_
      conv => whnf
      repeat refine At.seq ?_
      refine At.cond rfl (fun hc => At.skip ?_) (fun hc => At.exit ?_)
      · have hik : i < k0 := by have := of_decide_eq_true hc; omega
        obtain ⟨x, hx⟩ : ∃ x, L2[i]? = some x := ⟨_, List.getElem?_eq_getElem (by omega)⟩
        repeat refine At.seq ?_
        refine At.block ?_
        repeat refine At.seq ?_
        refine At.draw tab_ok mixed (by kernel_rfl) ?_
        conv => whnf
        refine ⟨rfl, ?_⟩
        conv => whnf
        refine ⟨by omega, ?_⟩
        conv => whnf
        refine ⟨by simp; omega, ?_⟩
        conv => whnf
        refine ⟨encL x, ⟨rfl, rfl, by omega, by simp [hx]⟩, ?_⟩
        conv => whnf
        refine ⟨.i (may x d), ans_quiet b127 (fun w' hw => may_c x d u w' hu.sl), ?_⟩
        conv => whnf
        refine ⟨.i (worse e (may x d)), ans_quiet b126 (fun w' hw => worse_c e (may x d) w'), ?_⟩
        conv => whnf
        repeat refine At.seq ?_
        refine At.region tab_ok ?_
        conv => whnf
        refine ⟨⟨by omega, by omega⟩, ?_⟩
        conv => whnf
        exact At.nextH fun w' hw => ⟨(i + 1, worse e (may x d)), ⟨by rw [herr]; exact errsK_step hx hik, by simp only; omega⟩, by simp only; omega, Le.of rfl rfl ⟨rfl, rfl, rfl, rfl, rfl, rfl, rfl, rfl, trivial⟩, hw.keep [2, 0, 1] rfl rfl rfl, ⟨⟨_, _, rfl⟩, ⟨_, _, rfl⟩, trivial⟩, ⟨fun c hc => by simp at hc; subst hc; exact ⟨_, _, _, rfl⟩, (nopL _).okH, trivial⟩⟩
      · have hik : k0 ≤ i := by have := of_decide_eq_false hc; omega
        rw [errsK_done hik] at herr
        rw [herr] at hrun
        repeat refine At.seq ?_
        refine At.region tab_ok ?_
        conv => whnf
        refine ⟨⟨by omega, by omega⟩, ?_⟩
        conv => whnf
        exact At.nextH fun w' hw => ⟨(k + 1, v2, L2, e), ⟨by simp only; omega, hrun, by simp only; omega⟩, by simp only; omega, Le.of rfl rfl ⟨rfl, rfl, rfl, rfl, rfl, rfl, trivial⟩, hw.keep [2, 0, 1] rfl rfl rfl, ⟨⟨_, _, rfl⟩, ⟨_, _, rfl⟩, trivial⟩, ⟨fun c hc => by simp at hc; subst hc; exact ⟨_, _, _, rfl⟩, (nopL _).okH, trivial⟩⟩
  · have hge : k = d.spans.length := by have := of_decide_eq_false hc; omega
    subst hge
    rw [List.drop_length] at hrun
    simp only [mvRun] at hrun
    repeat refine At.seq ?_
    refine At.region tab_ok ?_
    conv => whnf
    repeat refine At.seq ?_
    refine At.cond rfl (fun hq => ?_) (fun hq => ?_)
    · have he : e1 ≠ 0 := by simpa using hq
      repeat refine At.seq ?_
      refine At.region tab_ok ?_
      conv => whnf
      repeat refine At.seq ?_
      refine At.ret (At.doneB tab_ok hB _ rfl fun w' hw => by have : moveB L d = (L1, e1) := by { unfold moveB; rw [hrun]; simp [he] }; rw [this]; exact bk_done (i0 := 0) (i1 := 1) (r := .i e1) hw rfl rfl (by decide) rfl rfl)
    · have he : e1 = 0 := by simpa using hq
      subst he
      have hB2 := hB2 (by rw [hrun]) (by rw [hrun])
      rw [hrun] at hB2
      have hmb : moveB L d = (mv2 d d.spans L1, 0) := by unfold moveB; rw [hrun]; simp
      rw [hmb] at hB
      refine At.skip ?_
      repeat refine At.seq ?_
      refine At.region tab_ok ?_
      conv => whnf
      refine ⟨hu.sl, ?_⟩
      conv => whnf
      repeat refine At.seq ?_
      refine At.block ?_
      refine At.loopH (fun p : Nat × Value => { N := Tryz.f68.ntmps, sl := [(0, some (.s (.c (.p 0 b 0)))), (3, some (.s (.c (.p 2 b2 0)))), (54, some (.x u)), (55, some (.i d.spans.length)), (56, some (.i p.1))], gl := [], hp := (2, .box b2 44 (encD d u)) :: BkHp b p.2 (mv2 d (d.spans.take p.1) L1), S := b :: blkOf v, ws := w })
        (fun p => p.1 ≤ d.spans.length ∧ (mv2 d (d.spans.take p.1) L1).length ≤ L1.length + 2 * p.1) (fun p => d.spans.length - p.1)
        (fun w' hw => ⟨(0, v1), ⟨Nat.zero_le _, by simp [mv2]⟩, Le.of rfl rfl ⟨rfl, rfl, rfl, congrArg (Value.int .i64) hul, rfl, trivial⟩, hw.same rfl rfl rfl, ⟨⟨_, _, rfl⟩, ⟨_, _, rfl⟩, trivial⟩, ⟨fun c hc => by simp at hc; subst hc; exact ⟨_, _, _, rfl⟩, (nopL _).okH, trivial⟩⟩) ?_
      rintro ⟨k, v2⟩ ⟨hk2, hlen2⟩
      simp only at hk2 hlen2 ⊢
      repeat refine At.seq ?_
      refine At.region tab_ok ?_
      conv => whnf
      repeat refine At.seq ?_
      refine At.cond rfl (fun hc => At.skip ?_) (fun hc => At.exit ?_)
      · have hlt : k < d.spans.length := by have := of_decide_eq_true hc; omega
        obtain ⟨s, hs⟩ : ∃ s, d.spans[k]? = some s := ⟨_, List.getElem?_eq_getElem hlt⟩
        have hvs := hv s (List.mem_of_getElem? hs)
        have hcb := hB2 k s hs
        have hsn : mv2 d (d.spans.take (k + 1)) L1 = updR (cutAt s (mv2 d (d.spans.take k) L1)) (cutI s (mv2 d (d.spans.take k) L1)).toNat (cutK s (mv2 d (d.spans.take k) L1) + 1).toNat (movedL d) := by rw [List.take_add_one, hs]; exact mv2_snoc
        generalize mv2 d (d.spans.take k) L1 = L3 at *
        have hcl := cut_len s L3
        have hbI := idx_bound (inLot s.m s.f) (cutAt s L3)
        have hbK := idx_bound (inLot s.m (s.t - 1)) (cutAt s L3)
        change -1 ≤ cutI s L3 ∧ cutI s L3 < _ at hbI
        change -1 ≤ cutK s L3 ∧ cutK s L3 < _ at hbK
        have hIK : 0 ≤ cutI s L3 ∧ cutI s L3 ≤ cutK s L3 := by unfold cutB at hcb; simpa using hcb
        obtain ⟨i0, hi0⟩ : ∃ i : Nat, cutI s L3 = i := ⟨(cutI s L3).toNat, by omega⟩
        obtain ⟨k0, hk0⟩ : ∃ i : Nat, cutK s L3 + 1 = i := ⟨(cutK s L3 + 1).toNat, by omega⟩
        rw [hi0, hk0, Int.toNat_natCast, Int.toNat_natCast] at hsn
        repeat refine At.seq ?_
        refine At.block ?_
        repeat refine At.seq ?_
        refine At.region tab_ok ?_
        conv => whnf
        refine ⟨by omega, ?_⟩
        conv => whnf
        refine ⟨by omega, ?_⟩
        conv => whnf
        refine ⟨encS s, fun w' hw => hu.load (n := 3) hw.fr hs rfl, ?_⟩
        conv => whnf
        intro b3
        conv => whnf
        repeat refine At.seq ?_
        refine At.region tab_ok ?_
        conv => whnf
        refine bk_call (i0 := 0) (i1 := 1) (L := L3) (L' := cutAt s L3) (r := .tup [.c (.i (cutI s L3)), .c (.i (cutK s L3 + 1)), .c (.b (cutB s L3))]) b125 rfl rfl (by decide) rfl (fun w' hw hb => cut_c L3 s b v2 w' hb (by omega) ⟨by omega, by omega⟩) ?_
        rintro v3 hsl3
        conv => whnf
        generalize hL4 : cutAt s L3 = L4 at *
        have hul4 : (updR L4 i0 k0 (movedL d)).length = L4.length := updR_len (by omega) (by omega)
        repeat refine At.seq ?_
        refine At.block ?_
        refine At.loopH (fun j : Nat => { N := Tryz.f68.ntmps, sl := [(0, some (.s (.c (.p 0 b 0)))), (3, some (.s (.c (.p 2 b2 0)))), (54, some (.x u)), (55, some (.i d.spans.length)), (56, some (.i k)), (13, some (.i j)), (14, some (.i k0))], gl := [], hp := (2, .box b2 44 (encD d u)) :: BkHp b v3 (updR L4 i0 j (movedL d)), S := b :: blkOf v, ws := w })
          (fun j => i0 ≤ j ∧ j ≤ k0) (fun j => k0 - j)
          (fun w' hw => ⟨i0, ⟨Nat.le_refl _, by omega⟩, Le.of rfl rfl ⟨rfl, rfl, rfl, rfl, rfl, congrArg (Value.int .i64) hi0, congrArg (Value.int .i64) hk0, trivial⟩, hw.keep [2, 0, 1] (by rw [updR_zero]; rfl) rfl rfl, ⟨⟨_, _, rfl⟩, ⟨_, _, rfl⟩, trivial⟩, ⟨fun c hc => by simp at hc; subst hc; exact ⟨_, _, _, rfl⟩, (nopL _).okH, trivial⟩⟩) ?_
        intro j ⟨hij, hjk⟩
        repeat refine At.seq ?_
        refine At.region tab_ok ?_
        conv => whnf
        repeat refine At.seq ?_
        refine At.cond rfl (fun hc => At.skip ?_) (fun hc => At.exit ?_)
        · have hjk2 : j < k0 := by have := of_decide_eq_true hc; omega
          obtain ⟨x, hx⟩ : ∃ x, L4[j]? = some x := ⟨_, List.getElem?_eq_getElem (by omega)⟩
          have hgx := updR_get (f := movedL d) hij hx
          have hcl4 : ((updR L4 i0 j (movedL d)).map encL).length = L4.length := by rw [List.length_map, updR_len hij (by omega)]
          have hget : ((updR L4 i0 j (movedL d)).map encL)[j]? = some (encL x) := by rw [List.getElem?_map, hgx]; rfl
          have hjl : j < ((updR L4 i0 j (movedL d)).map encL).length := by omega
          repeat refine At.seq ?_
          refine At.block ?_
          repeat refine At.seq ?_
          refine At.region tab_ok ?_
          conv => whnf
          refine ⟨rfl, ?_⟩
          conv => whnf
          refine ⟨by omega, ?_⟩
          conv => whnf
          refine ⟨by omega, ?_⟩
          conv => whnf
          repeat refine At.seq ?_
          refine At.region tab_ok ?_
          conv => whnf
          repeat refine At.seq ?_
          refine At.block ?_
          repeat refine At.seq ?_
          refine At.region tab_ok ?_
          conv => whnf
          repeat refine At.seq ?_
          refine At.cond rfl (fun hq => ?_) (fun hq => ?_)
          · have hk1 : d.kind = 1 := of_decide_eq_true hq
            have hmv : movedL d x = { x with o := d.who, h := d.who, u := 0 } := by unfold movedL; rw [if_pos hk1]
            repeat refine At.seq ?_
            refine At.plan tab_ok mixed [(2, .box b2 44 (encD d u))] (.take 0 (.take 1 (.take 2 (.take 3 (.take 4 (.take 5 (.take 6 (.take 7 (.take 8 (.br 9 (.take 10 (.take 11 (.br 12 (.take 13 (.take 14 (.br 15 .done .nob))) .nob))) .nob)))))))))) (by kernel_rfl) (by kernel_rfl) ⟨rfl, trivial⟩ ?_
            conv => whnf
            refine ⟨⟨encL x, ⟨rfl, rfl, by omega, hget⟩, ?_⟩, trivial⟩
            conv => whnf
            refine ⟨⟨⟨rfl, trivial⟩, fun w' hw => hw.fr⟩, ?_⟩
            conv => whnf
            refine ⟨⟨encL { x with o := d.who }, ⟨rfl, rfl, by omega, set_get hjl⟩, ?_⟩, trivial⟩
            conv => whnf
            refine ⟨⟨⟨rfl, trivial⟩, fun w' hw => hw.fr⟩, ?_⟩
            conv => whnf
            refine ⟨⟨encL { x with o := d.who, h := d.who }, ⟨rfl, rfl, by omega, set_get (by simpa using hjl)⟩, ?_⟩, trivial⟩
            conv => whnf
            refine ⟨⟨⟨rfl, trivial⟩, fun w' hw => hw.fr⟩, ?_⟩
            conv => whnf
            repeat refine At.seq ?_
            refine At.region tab_ok ?_
            conv => whnf
            refine ⟨⟨by omega, by omega⟩, ?_⟩
            conv => whnf
            refine At.nextH fun w' hw => ⟨j + 1, ⟨by omega, by omega⟩, by omega, Le.of rfl rfl ⟨rfl, rfl, rfl, rfl, rfl, rfl, rfl, trivial⟩, hw.keep [2, 0, 1] ?_ rfl rfl, ⟨⟨_, _, rfl⟩, ⟨_, _, rfl⟩, trivial⟩, ⟨fun c hc => by simp at hc; subst hc; exact ⟨_, _, _, rfl⟩, (nopL _).okH, trivial⟩⟩
            show [(2, LO.box b2 44 _), (0, LO.box b 66 [.o 1 v3]), (1, LO.row v3 27 7 _)] = [(2, LO.box b2 44 _), (0, LO.box b 66 [.o 1 v3]), (1, LO.row v3 27 7 _)]
            rw [← updR_step hij hx, List.map_set]
            simp only [Int.toNat_natCast, List.set_set]
            rw [hmv]
            rfl
          · have hk1 : ¬ d.kind = 1 := of_decide_eq_false hq
            repeat refine At.seq ?_
            refine At.region tab_ok ?_
            conv => whnf
            repeat refine At.seq ?_
            refine At.cond rfl (fun hq => ?_) (fun hq => ?_)
            · have hk2' : d.kind = 2 := of_decide_eq_true hq
              have hmv : movedL d x = { x with h := d.who, u := d.til } := by unfold movedL; rw [if_neg hk1, if_pos hk2']
              repeat refine At.seq ?_
              refine At.plan tab_ok mixed [(2, .box b2 44 (encD d u))] (.take 0 (.take 1 (.take 2 (.take 3 (.take 4 (.take 5 (.take 6 (.take 7 (.br 8 (.take 9 (.take 10 (.br 11 .done .nob))) .nob))))))))) (by kernel_rfl) (by kernel_rfl) ⟨rfl, trivial⟩ ?_
              conv => whnf
              refine ⟨⟨encL x, ⟨rfl, rfl, by omega, hget⟩, ?_⟩, trivial⟩
              conv => whnf
              refine ⟨⟨⟨rfl, trivial⟩, fun w' hw => hw.fr⟩, ?_⟩
              conv => whnf
              refine ⟨⟨encL { x with h := d.who }, ⟨rfl, rfl, by omega, set_get hjl⟩, ?_⟩, trivial⟩
              conv => whnf
              refine ⟨⟨⟨rfl, trivial⟩, fun w' hw => hw.fr⟩, ?_⟩
              conv => whnf
              repeat refine At.seq ?_
              refine At.region tab_ok ?_
              conv => whnf
              refine ⟨⟨by omega, by omega⟩, ?_⟩
              conv => whnf
              refine At.nextH fun w' hw => ⟨j + 1, ⟨by omega, by omega⟩, by omega, Le.of rfl rfl ⟨rfl, rfl, rfl, rfl, rfl, rfl, rfl, trivial⟩, hw.keep [2, 0, 1] ?_ rfl rfl, ⟨⟨_, _, rfl⟩, ⟨_, _, rfl⟩, trivial⟩, ⟨fun c hc => by simp at hc; subst hc; exact ⟨_, _, _, rfl⟩, (nopL _).okH, trivial⟩⟩
              show [(2, LO.box b2 44 _), (0, LO.box b 66 [.o 1 v3]), (1, LO.row v3 27 7 _)] = [(2, LO.box b2 44 _), (0, LO.box b 66 [.o 1 v3]), (1, LO.row v3 27 7 _)]
              rw [← updR_step hij hx, List.map_set]
              simp only [Int.toNat_natCast, List.set_set]
              rw [hmv]
              rfl
            · have hk2' : ¬ d.kind = 2 := of_decide_eq_false hq
              repeat refine At.seq ?_
              refine At.region tab_ok ?_
              conv => whnf
              repeat refine At.seq ?_
              refine At.cond rfl (fun hq => ?_) (fun hq => ?_)
              · have hk3 : d.kind = 3 := of_decide_eq_true hq
                have hmv : movedL d x = { x with p := d.mark } := by unfold movedL; rw [if_neg hk1, if_neg hk2', if_pos hk3]
                repeat refine At.seq ?_
                refine At.region tab_ok ?_
                conv => whnf
                refine ⟨encL x, ⟨rfl, rfl, by omega, hget⟩, ?_⟩
                conv => whnf
                repeat refine At.seq ?_
                refine At.region tab_ok ?_
                conv => whnf
                refine ⟨⟨by omega, by omega⟩, ?_⟩
                conv => whnf
                refine At.nextH fun w' hw => ⟨j + 1, ⟨by omega, by omega⟩, by omega, Le.of rfl rfl ⟨rfl, rfl, rfl, rfl, rfl, rfl, rfl, trivial⟩, hw.keep [2, 0, 1] ?_ rfl rfl, ⟨⟨_, _, rfl⟩, ⟨_, _, rfl⟩, trivial⟩, ⟨fun c hc => by simp at hc; subst hc; exact ⟨_, _, _, rfl⟩, (nopL _).okH, trivial⟩⟩
                show [(2, LO.box b2 44 _), (0, LO.box b 66 [.o 1 v3]), (1, LO.row v3 27 7 _)] = [(2, LO.box b2 44 _), (0, LO.box b 66 [.o 1 v3]), (1, LO.row v3 27 7 _)]
                rw [← updR_step hij hx, List.map_set, Int.toNat_natCast, hmv]
                rfl
              · have hk3 : ¬ d.kind = 3 := of_decide_eq_false hq
                have hmv : movedL d x = x := by unfold movedL; rw [if_neg hk1, if_neg hk2', if_neg hk3]
                refine At.skip ?_
                repeat refine At.seq ?_
                refine At.region tab_ok ?_
                conv => whnf
                refine ⟨⟨by omega, by omega⟩, ?_⟩
                conv => whnf
                refine At.nextH fun w' hw => ⟨j + 1, ⟨by omega, by omega⟩, by omega, Le.of rfl rfl ⟨rfl, rfl, rfl, rfl, rfl, rfl, rfl, trivial⟩, hw.keep [2, 0, 1] ?_ rfl rfl, ⟨⟨_, _, rfl⟩, ⟨_, _, rfl⟩, trivial⟩, ⟨fun c hc => by simp at hc; subst hc; exact ⟨_, _, _, rfl⟩, (nopL _).okH, trivial⟩⟩
                show [(2, LO.box b2 44 _), (0, LO.box b 66 [.o 1 v3]), (1, LO.row v3 27 7 _)] = [(2, LO.box b2 44 _), (0, LO.box b 66 [.o 1 v3]), (1, LO.row v3 27 7 _)]
                rw [← updR_step hij hx, hmv, set_self hgx]
        · have hjk2 : j = k0 := by have := of_decide_eq_false hc; omega
          subst hjk2
          repeat refine At.seq ?_
          refine At.region tab_ok ?_
          conv => whnf
          refine ⟨⟨by omega, by omega⟩, ?_⟩
          conv => whnf
          refine At.nextH fun w' hw => ⟨(k + 1, v3), ⟨by simp only; omega, by simp only; rw [hsn, hul4]; omega⟩, by simp only; omega, Le.of rfl rfl ⟨rfl, rfl, rfl, rfl, rfl, trivial⟩, hw.keep [2, 0, 1] (by simp only; rw [hsn]; rfl) rfl rfl, ⟨⟨_, _, rfl⟩, ⟨_, _, rfl⟩, trivial⟩, ⟨fun c hc => by simp at hc; subst hc; exact ⟨_, _, _, rfl⟩, (nopL _).okH, trivial⟩⟩
      · have hge : k = d.spans.length := by have := of_decide_eq_false hc; omega
        subst hge
        rw [List.take_length]
        repeat refine At.seq ?_
        refine At.region tab_ok ?_
        conv => whnf
        repeat refine At.seq ?_
        refine At.ret (At.doneB tab_ok hB _ rfl fun w' hw => bk_done (i0 := 0) (i1 := 1) (r := .i 0) hw rfl rfl (by decide) rfl rfl)
end Go.Proofs.YtjilbkioieicbaaGreat

/- Walks: a deed is carried out; all deeds. -/
namespace Go.Proofs.YtjilbkioieicbaaGreat
open Go.Vc Rt
set_option linter.unusedVariables false
set_option linter.unusedSimpArgs false
theorem wp_of_at {P : Program} {fn : Func} {c : Code} {w : World} {Q : Exit → Act → World → Prop} (l : List RV) (hp : List (Nat × LO)) (S : List Nat) (hn : l.length ≤ fn.ntmps) (hwf : WF (St.enter fn.ntmps l hp S w)) (hw : Holds (St.enter fn.ntmps l hp S w) w)
    (h : At (St.enter fn.ntmps l hp S w) (c.wp P Q)) : c.wp P Q { tmps := (l.map RV.den).toArray ++ Array.replicate (fn.ntmps - (l.map RV.den).toArray.size) undef, defers := [] } w := by
  refine h.out hwf _ w ⟨?_, rfl, fun s v hl => ?_, fun s ks v hl => by cases hl⟩ hw
  · simp [St.enter]; omega
  · obtain ⟨_, h2⟩ := slots_spec hl
    rw [Nat.sub_zero] at h2
    have hlt : s < l.length := by
      rcases Nat.lt_or_ge s l.length with h' | h'
      · exact h'
      · rw [List.getElem?_eq_none h'] at h2; cases h2
    rw [Array.getElem?_append_left (by simpa using hlt)]
    simp [h2]
/-- The end of 'do': the book is merged. -/
theorem do_leaves {st : St} {b : Nat} {v v1 : Value} {L1 : List Lot} {e : Int} {w : World} (hdf : st.df = [{ target := .fn (.func 66) #[], args := #[ptr b] }]) (h0 : Vc.look st.hp 0 = some (.box b 66 [.o 1 v1])) (h1 : Vc.look st.hp 1 = some (.row v1 27 7 (L1.map encL)))
    (hS : st.S = b :: blkOf v) (hws : st.ws = w) (hr : Vc.look st.sl 4 = some (some (.i e))) (hN : L1.length ≤ 1000000) (hgl : st.gl = []) : At st (bodyPostD Tryz.prog Tryz.f41 (bkPost b v (mergeL L1) (.i e) w) .ret) :=
  ⟨fun hwf a w1 hrel hw => by
    show Leaves Tryz.prog Tryz.f41 a.tmps _ a.defers .returning w1
    rw [hrel.defers, hdf]
    have hbk := bk_of hw h0 h1 (by decide)
    have hmw := wp_of_at (fn := Tryz.f66) [.s (.c (.p 0 b 0))] (BkHp b v1 L1) (b :: blkOf v1) (Nat.le_of_ble_eq_true rfl) (WF.objs (enter_bk hbk) ⟨⟨_, _, rfl⟩, trivial⟩ ⟨fun c hc => by simp at hc; subst hc; exact ⟨_, _, _, rfl⟩, (nopL _).okH, trivial⟩) (enter_bk hbk) (merge_at L1 b v1 w1 hbk hN _ rfl)
    have hcd := callsD_of_wp (u := .returning) Tryz.func66 rfl hmw
    have hinv : (invoke (.fn (.func 66) #[]) #[ptr b]).run Tryz.prog w1 = .ok (.enter 66 #[ptr b]) w1 := by
      obtain ⟨fn, hfn, hname, hbody⟩ := b93
      simp only [invoke, callFunc, Sem.run_bind, run_program, Result.andThen_ok]
      simp only [hfn, hname, hbody, Bool.false_eq_true, if_false, Sem.run_pure]
      rfl
    refine leaves_cons (by simp) hinv (hcd.mono ?_)
    rintro e' u' w2 ⟨rfl, he, v2, hb2, hf2, hbl2⟩
    rw [he]
    have hfr := hw.fr
    rw [hS, hws] at hfr
    show ∃ x, (results Tryz.f41 a.tmps).run Tryz.prog w2 = .ok x w2 ∧ _
    refine ⟨.int .i64 e, ?_, rfl, v2, hb2, hfr.trans' hf2 fun c hc => ?_, fun c hc => ?_⟩
    · let st0 : St := { N := st.N, sl := [(4, some (.i e))], gl := [], hp := [], S := [], ws := w2, df := st.df }
      have hle : Le st st0 := ⟨⟨rfl, rfl⟩, rfl, fun s x hl => by
        replace hl : Vc.look [(4, some (RV.i e))] s = some (some x) := hl
        simp only [Vc.look] at hl
        split at hl
        · rename_i hb
          have := Nat.eq_of_beq_eq_true hb
          subst this
          cases hl; exact ⟨_, hr, rfl⟩
        · cases hl⟩
      have hw0 : Holds st0 w2 := ⟨fun o ho => (by cases ho), List.nodup_nil, Fr.refl _ _, fun b hb => (by cases hb)⟩
      exact resOf_spec (P := Tryz.prog) (tab := tab) (fn := Tryz.f41) (st := st0) tab_ok (WF.plain rfl) (hle.rel hrel) hw0 (r := .i e) rfl
    · rcases List.mem_cons.1 hc with rfl | hc
      · exact .inl (List.mem_cons_self ..)
      · have := hw.fresh h1 c hc
        rw [hS, hws] at this
        exact this
    · rcases hbl2 c hc with hc' | hc'
      · have := hw.fresh h1 c hc'
        rw [hS, hws] at this
        rcases this with h | h
        · rcases List.mem_cons.1 h with rfl | h
          · exact (hb2.ne hc).elim
          · exact .inl h
        · exact .inr h
      · exact .inr (Nat.le_trans hfr.size hc')⟩
def doB (L : List Lot) (d : Deed) : List Lot × Int :=
  if right d then (if d.kind = 0 then (mergeL (takeB L d).1, (takeB L d).2) else (mergeL (moveB L d).1, (moveB L d).2)) else (L, 1)
/-- What the walk asks of lots and a deed. -/
structure DoOk (L : List Lot) (d : Deed) : Prop where
  len : L.length ≤ 700000
  spans : d.spans.length ≤ 10000
  sorted : right d = true → L.Pairwise (fun a b => a.s.m ≤ b.s.m)
  range : right d = true → ∀ l ∈ L, inR (l.s.m - d.mark)
  valid : right d = true → ∀ s ∈ d.spans, 0 ≤ s.f ∧ s.f < s.t ∧ s.t ≤ 1048576
  again : right d = true → d.kind ≠ 0 → (mvRun d d.spans L 0).2.2 = true → (mvRun d d.spans L 0).2.1 = 0 → ∀ k s, d.spans[k]? = some s → cutB s (mv2 d (d.spans.take k) (mvRun d d.spans L 0).1) = true
  out : right d = true → d.kind ≠ 0 → (moveB L d).1.length ≤ 1000000
theorem right_ne {d : Deed} (h : right d = true) : 0 < d.spans.length := by
  rcases Nat.eq_zero_or_pos d.spans.length with h0 | h0
  · unfold right at h; rw [if_pos (.inr (.inr (.inr (.inl h0))))] at h; cases h
  · exact h0
theorem insL_len (L : List Lot) (i : Nat) (x : Lot) : (insL L i x).length = L.length + 1 := by simp [insL]; omega
theorem takeB_len (L : List Lot) (d : Deed) : (takeB L d).1.length ≤ L.length + 1 := by
  unfold takeB; split
  · simp
  · simp only [insL_len]; omega
theorem do_c (L : List Lot) (d : Deed) (b : Nat) (v u : Value) (w : World) (h : Bk w b v L) (hu : SlOf spT (b :: blkOf v) w u d.spans) (ho : DoOk L d) : BkC 41 [ptr b, vD d u] b v (doB L d).1 (.i (doB L d).2) w := by
  have hh := enter_bk (N := Tryz.f41.ntmps) (l := [.s (.c (.p 0 b 0)), .s (.agg (encD d u))]) h
  have hul := hu.len
  have hlen := ho.len
  refine calls_of_wp_defers Tryz.func41 rfl (wp_of_at (fn := Tryz.f41) [.s (.c (.p 0 b 0)), .s (.agg (encD d u))] (BkHp b v L) (b :: blkOf v) (Nat.le_of_ble_eq_true rfl) (WF.objs hh ⟨⟨_, _, rfl⟩, trivial⟩ ⟨fun c hc => by simp at hc; subst hc; exact ⟨_, _, _, rfl⟩, (nopL _).okH, trivial⟩) hh ?_)
  generalize hB : bodyPostD Tryz.prog Tryz.f41 _ = B
  repeat refine At.seq ?_
  refine At.region tab_ok ?_
  conv => whnf
  refine ⟨hu.sl.one, ?_⟩
  conv => whnf
  intro b2
  conv => whnf
  repeat refine At.seq ?_
  refine At.region tab_ok ?_
  conv => whnf
  refine ans_call b92 rfl (fun w' hw => right_c d (b :: blkOf v) u w' (hu.fr hw.fr)) ?_
  conv => whnf
  repeat refine At.seq ?_
  refine At.cond rfl (fun hq => ?_) (fun hq => ?_)
  · have hr : right d = false := by simpa using hq
    repeat refine At.seq ?_
    refine At.region tab_ok ?_
    conv => whnf
    refine At.ret ?_
    have hd : doB L d = (L, 1) := by unfold doB; rw [if_neg (by rw [hr]; simp)]
    rw [hd] at hB
    subst hB
    refine ⟨fun hwf a w1 hrel hw => ?_⟩
    show Leaves Tryz.prog Tryz.f41 a.tmps _ a.defers .returning w1
    rw [hrel.defers]
    exact ⟨_, resOf_spec (fn := Tryz.f41) tab_ok hwf hrel hw rfl, bk_done (i0 := 0) (i1 := 1) (r := .i 1) hw rfl rfl (by decide) rfl rfl⟩
  · have hr : right d = true := by simpa using hq
    obtain ⟨s0, hs0⟩ : ∃ s, d.spans[0]? = some s := ⟨_, List.getElem?_eq_getElem (right_ne hr)⟩
    refine At.skip ?_
    repeat refine At.seq ?_
    refine At.region tab_ok ?_
    conv => whnf
    repeat refine At.seq ?_
    refine At.region tab_ok ?_
    conv => whnf
    repeat refine At.seq ?_
    refine At.cond rfl (fun hq => ?_) (fun hq => ?_)
    · have hk : d.kind = 0 := of_decide_eq_true hq
      have hd : doB L d = (mergeL (takeB L d).1, (takeB L d).2) := by unfold doB; rw [if_pos hr, if_pos hk]
      rw [hd] at hB
      subst hB
      have htl := takeB_len L d
      repeat refine At.seq ?_
      refine At.region tab_ok ?_
      conv => whnf
      refine bk_call (i0 := 0) (i1 := 1) (L := L) (L' := (takeB L d).1) (r := .i (takeB L d).2) b94 rfl rfl (by decide) rfl (fun w' hw hb => take_c L d s0 hs0 b v u w' hb (hu.fr hw.fr) (by omega) (ho.sorted hr) (ho.range hr)) ?_
      rintro v1 hsl1
      conv => whnf
      refine At.ret ?_
      exact do_leaves (v1 := v1) rfl rfl rfl rfl rfl rfl (by omega) rfl
    · have hk : ¬ d.kind = 0 := of_decide_eq_false hq
      have hd : doB L d = (mergeL (moveB L d).1, (moveB L d).2) := by unfold doB; rw [if_pos hr, if_neg hk]
      rw [hd] at hB
      subst hB
      refine At.skip ?_
      repeat refine At.seq ?_
      refine At.region tab_ok ?_
      conv => whnf
      refine bk_call (i0 := 0) (i1 := 1) (L := L) (L' := (moveB L d).1) (r := .i (moveB L d).2) b95 rfl rfl (by decide) rfl (fun w' hw hb => move_c L d b v u w' hb (hu.fr hw.fr) (by omega) ho.spans (ho.valid hr) (ho.again hr hk)) ?_
      rintro v1 hsl1
      conv => whnf
      refine At.ret ?_
      exact do_leaves (v1 := v1) rfl rfl rfl rfl rfl rfl (ho.out hr hk) rfl
end Go.Proofs.YtjilbkioieicbaaGreat

/- Walks: all deeds. -/
namespace Go.Proofs.YtjilbkioieicbaaGreat
open Go.Vc Rt
set_option linter.unusedVariables false
set_option linter.unusedSimpArgs false
def lotsK (l : List Deed) : List Lot × List Int := l.foldl (fun p d => ((doB p.1 d).1, p.2 ++ [(doB p.1 d).2])) ([], [])
theorem lotsK_snoc (l : List Deed) (d : Deed) : lotsK (l ++ [d]) = ((doB (lotsK l).1 d).1, (lotsK l).2 ++ [(doB (lotsK l).1 d).2]) := by
  unfold lotsK; rw [List.foldl_append]; rfl
theorem lotsF_errs : ∀ (l : List Deed) (p : List Lot × List Int), (l.foldl (fun p d => ((doB p.1 d).1, p.2 ++ [(doB p.1 d).2])) p).2.length = p.2.length + l.length
  | [], p => by simp
  | d :: l, p => by rw [List.foldl_cons, lotsF_errs l]; simp; omega
theorem lotsK_errs (l : List Deed) : (lotsK l).2.length = l.length := by unfold lotsK; rw [lotsF_errs]; simp
theorem ansR_rows2 {st : St} {w w' : World} {i j : Nat} {v v' : Value} {E E' size size' : Nat} {L L' : List (List CV)} (hw : Holds st w') (hl : Vc.look st.hp i = some (.row v E size L)) (hl' : Vc.look st.hp j = some (.row v' E' size' L')) (hne : i ≠ j) (hS : st.S = []) (hws : st.ws = w) :
    ∃ vs, Ending.returned (RV.tup [.c (.o i v), .c (.o j v')]).den = .returned (toRV (resSV [.row E size L, .row E' size' L'] vs)).den ∧ resOk w.heap.size w' [.row E size L, .row E' size' L'] vs ∧ Ext w w' := by
  subst hws
  have fresh : ∀ {id : Nat} {o : LO}, Vc.look st.hp id = some o → ∀ b ∈ o.blks, st.ws.heap.size ≤ b := fun hl b hb => by
    rcases hw.fresh hl b hb with h | h
    · rw [hS] at h; cases h
    · exact h
  refine ⟨[v, v'], rfl, ⟨hw.row hl, fresh hl, fun u hu b hb => ?_, hw.row hl', fresh hl', fun u hu => (by cases hu), rfl⟩, by have := hw.fr; rw [hS] at this; exact this⟩
  rw [List.mem_singleton.1 hu]
  exact disj_of hw.nodup hl hl' hne b hb
theorem rd2 {E size E' size' : Nat} {L L' : List (List CV)} (h : NoP L) (h' : NoP L') : rdOk [.row E size L, .row E' size' L'] := ⟨h, h', trivial⟩
end Go.Proofs.YtjilbkioieicbaaGreat
