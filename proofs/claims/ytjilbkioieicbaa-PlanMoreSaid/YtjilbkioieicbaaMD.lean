/- Texts that the law uses: R1. -/
import Derived.Test.YtjilbkioieicbaaMC
/- Walks: rights, small functions. -/
namespace Go.Proofs.Ytjilbkioieicbaa
open Go.Vc Rt
set_option linter.unusedVariables false
set_option linter.unusedSimpArgs false
theorem key_c (n : Int) (w : World) : Ans Try.prog 121 [vI n] (.b (isKey n)) w := isKey_c n w
def ptr (b : Nat) : Value := .pointer (some ⟨b, 0, none⟩)
/-- A function that looks into one box. -/
theorem owned1_c (l : Lot) (key : Int) (b : Nat) (w : World) (hb : (LO.box b 3 [.i key]).holds w) : Ans Try.prog 69 [vL l, ptr b] (.b (decide (l.o = key))) w := by
  have hh : Holds (St.enter Try.f69.ntmps [.s (.agg (encL l)), .s (.c (.p 0 b 0))] [(0, .box b 3 [.i key])] [b] w) w := enter_objs (fun o ho => by simp at ho; subst ho; exact hb) (by simp [LO.blks])
  refine calls_atB _ _ _ Try.func69 rfl rfl (Nat.le_of_ble_eq_true rfl) (WF.objs hh ⟨⟨_, _, rfl⟩, trivial⟩ trivial) hh fun B hB => ?_
  repeat refine At.seq ?_
  refine At.region tab_ok ?_
  conv => whnf
  intro b1
  conv => whnf
  repeat refine At.seq ?_
  refine At.region tab_ok ?_
  conv => whnf
  repeat refine At.seq ?_
  refine At.ret (At.doneB tab_ok hB _ rfl fun w' hw => ⟨rfl, hw.fr.ext fun c hc => ?_⟩)
  rw [List.mem_singleton.1 hc]; exact (hw.box (id := 0) rfl).trans hb.symm
theorem held1_c (l : Lot) (key : Int) (b : Nat) (w : World) (hb : (LO.box b 3 [.i key]).holds w) : Ans Try.prog 70 [vL l, ptr b] (.b (decide (l.h = key))) w := by
  have hh : Holds (St.enter Try.f70.ntmps [.s (.agg (encL l)), .s (.c (.p 0 b 0))] [(0, .box b 3 [.i key])] [b] w) w := enter_objs (fun o ho => by simp at ho; subst ho; exact hb) (by simp [LO.blks])
  refine calls_atB _ _ _ Try.func70 rfl rfl (Nat.le_of_ble_eq_true rfl) (WF.objs hh ⟨⟨_, _, rfl⟩, trivial⟩ trivial) hh fun B hB => ?_
  repeat refine At.seq ?_
  refine At.region tab_ok ?_
  conv => whnf
  intro b1
  conv => whnf
  repeat refine At.seq ?_
  refine At.region tab_ok ?_
  conv => whnf
  repeat refine At.seq ?_
  refine At.ret (At.doneB tab_ok hB _ rfl fun w' hw => ⟨rfl, hw.fr.ext fun c hc => ?_⟩)
  rw [List.mem_singleton.1 hc]; exact (hw.box (id := 0) rfl).trans hb.symm
theorem sum1_c (l : Lot) (w : World) : Ans Try.prog 71 [vL l] (.b true) w := by
  refine calls_plainB [.s (.agg (encL l))] Try.func71 rfl rfl (Nat.le_of_ble_eq_true rfl) rfl fun B hB => ?_
  repeat refine At.seq ?_
  refine At.region tab_ok ?_
  conv => whnf
  intro b1
  conv => whnf
  repeat refine At.seq ?_
  refine At.region tab_ok ?_
  conv => whnf
  repeat refine At.seq ?_
  refine At.ret (At.doneB tab_ok hB _ rfl fun w' hw => ⟨rfl, hw.fr⟩)
theorem take1_c (l : Lot) (mark : Int) (w : World) (h : inR (l.s.m - mark)) : Ans Try.prog 123 [vL l, vI mark] (.i (l.s.m - mark)) w := by
  refine calls_plainB [.s (.agg (encL l)), .i mark] Try.func123 rfl rfl (Nat.le_of_ble_eq_true rfl) rfl fun B hB => ?_
  repeat refine At.seq ?_
  refine At.region tab_ok ?_
  conv => whnf
  intro b1
  conv => whnf
  repeat refine At.seq ?_
  refine At.region tab_ok ?_
  conv => whnf
  refine ⟨h, ?_⟩
  conv => whnf
  repeat refine At.seq ?_
  refine At.ret (At.doneB tab_ok hB _ rfl fun w' hw => ⟨rfl, hw.fr⟩)
theorem cut11_c (l : Lot) (s : Span) (n : Int) (bs bn : Nat) (w : World) (hs : (LO.box bs 56 (encS s)).holds w) (hn : (LO.box bn 3 [.i n]).holds w) (hne : bs ≠ bn) : Ans Try.prog 147 [vL l, ptr bs, ptr bn] (.b (inLot s.m n l)) w := by
  have hh : Holds (St.enter Try.f147.ntmps [.s (.agg (encL l)), .s (.c (.p 0 bs 0)), .s (.c (.p 1 bn 0))] [(0, .box bs 56 (encS s)), (1, .box bn 3 [.i n])] [bs, bn] w) w := enter_objs (fun o ho => by simp at ho; rcases ho with rfl | rfl; exact hs; exact hn) (by simp [LO.blks, hne])
  refine calls_atB _ _ _ Try.func147 rfl rfl (Nat.le_of_ble_eq_true rfl) (WF.objs hh ⟨⟨_, _, rfl⟩, ⟨_, _, rfl⟩, trivial⟩ trivial) hh fun B hB => ?_
  repeat refine At.seq ?_
  refine At.region tab_ok ?_
  conv => whnf
  intro b1
  conv => whnf
  repeat refine At.seq ?_
  refine At.region tab_ok ?_
  conv => whnf
  repeat refine At.seq ?_
  refine At.ret (At.doneB tab_ok hB _ rfl fun w' hw => ⟨?_, hw.fr.ext fun c hc => ?_⟩)
  · simp only [RV.den, SV.den, CV.den, band, inLot, Bool.and_assoc]
  · rcases List.mem_cons.1 hc with rfl | hc
    · exact (hw.box (id := 0) rfl).trans hs.symm
    · rw [List.mem_singleton.1 hc]; exact (hw.box (id := 1) rfl).trans hn.symm
theorem may_c (l : Lot) (d : Deed) (v : Value) (w : World) (hv : isSl v) : Ans Try.prog 127 [vL l, vD d v] (.i (may l d)) w := by
  refine calls_plainB [.s (.agg (encL l)), .s (.agg (encD d v))] Try.func127 rfl rfl (Nat.le_of_ble_eq_true rfl) rfl fun B hB => ?_
  repeat refine At.seq ?_
  refine At.region tab_ok ?_
  conv => whnf
  intro b1
  conv => whnf
  refine ⟨hv.one, ?_⟩
  conv => whnf
  intro b2
  conv => whnf
  repeat refine At.seq ?_
  refine At.block ?_
  repeat refine At.seq ?_
  refine At.region tab_ok ?_
  conv => whnf
  repeat refine At.seq ?_
  refine At.cond rfl (fun hq => ?_) (fun hq => ?_)
  · repeat refine At.seq ?_
    refine At.region tab_ok ?_
    conv => whnf
    repeat refine At.seq ?_
    refine At.ret (At.doneB tab_ok hB _ rfl fun w' hw => ⟨?_, hw.fr⟩)
    simp at hq
    simp [may, hq, RV.den, SV.den, CV.den, ofConst]
  · have h1 : l.p = -1 := by simpa using hq
    repeat refine At.seq ?_
    refine At.region tab_ok ?_
    conv => whnf
    repeat refine At.seq ?_
    refine At.cond rfl (fun hq => ?_) (fun hq => ?_)
    · repeat refine At.seq ?_
      refine At.region tab_ok ?_
      conv => whnf
      repeat refine At.seq ?_
      refine At.ret (At.doneB tab_ok hB _ rfl fun w' hw => ⟨?_, hw.fr⟩)
      simp only [band, Bool.and_eq_true, Bool.not_eq_true', decide_eq_false_iff_not] at hq
      simp [may, h1, hq, RV.den, SV.den, CV.den, ofConst]
    · have h2 : ¬ (l.o ≠ d.author ∧ l.h ≠ d.author) := by
        intro h; simp [h.1, h.2] at hq
      repeat refine At.seq ?_
      refine At.region tab_ok ?_
      conv => whnf
      repeat refine At.seq ?_
      refine At.cond rfl (fun hq => ?_) (fun hq => ?_)
      · repeat refine At.seq ?_
        refine At.region tab_ok ?_
        conv => whnf
        repeat refine At.seq ?_
        refine At.ret (At.doneB tab_ok hB _ rfl fun w' hw => ⟨?_, hw.fr⟩)
        have h3 : l.h ≠ d.author := by simpa using hq
        simp [may, h1, if_neg h2, h3, RV.den, SV.den, CV.den, ofConst]
        exact Decidable.byContradiction fun h => h2 ⟨h, h3⟩
      · have h3 : l.h = d.author := by simpa using hq
        repeat refine At.seq ?_
        refine At.region tab_ok ?_
        conv => whnf
        repeat refine At.seq ?_
        refine At.cond rfl (fun hq => ?_) (fun hq => ?_)
        · repeat refine At.seq ?_
          refine At.region tab_ok ?_
          conv => whnf
          repeat refine At.seq ?_
          refine At.ret (At.doneB tab_ok hB _ rfl fun w' hw => ⟨?_, hw.fr⟩)
          simp only [band, bor, Bool.and_eq_true, Bool.or_eq_true, Bool.not_eq_true', decide_eq_false_iff_not] at hq
          have h4 : l.o ≠ d.author ∧ d.kind ≠ 3 ∧ (d.kind ≠ 1 ∨ d.who ≠ l.o) := ⟨hq.1.1, hq.1.2, hq.2⟩
          unfold may
          rw [if_neg (by simpa using h1), if_neg h2, if_neg (by simpa using h3), if_pos h4]
        · refine At.skip ?_
          repeat refine At.seq ?_
          refine At.region tab_ok ?_
          conv => whnf
          repeat refine At.seq ?_
          refine At.ret (At.doneB tab_ok hB _ rfl fun w' hw => ⟨?_, hw.fr⟩)
          have h4 : ¬ (l.o ≠ d.author ∧ d.kind ≠ 3 ∧ (d.kind ≠ 1 ∨ d.who ≠ l.o)) := by
            rintro ⟨a, b, c⟩
            simp only [band, bor] at hq
            rcases c with c | c <;> simp [a, b, c] at hq
          unfold may
          rw [if_neg (by simpa using h1), if_neg h2, if_neg (by simpa using h3), if_neg h4]
theorem indexL_c (xs : List Lot) (S : List Nat) (v : Value) (w : World) (h : SlOf loT S w v xs) (g : Nat) (caps : Array Value) (p : Lot → Bool) (hg : Body Try.prog g)
    (hf : ∀ x ∈ xs, ∀ w', Ext w w' → Ans Try.prog g (vL x :: caps.toList) (.b (p x)) w') : Ans Try.prog 146 [v, .func (.func g) #[] caps] (.i (idxOf p xs)) w := by
  replace h := h.avoid (S' := []) (fun b hb => by cases hb)
  have hsm := h.small
  refine calls_plainB [.x v, .x (.func (.func g) #[] caps)] Try.func146 rfl rfl (Nat.le_of_ble_eq_true rfl) rfl fun B hB => ?_
  repeat refine At.seq ?_
  refine At.region tab_ok ?_
  conv => whnf
  repeat refine At.seq ?_
  refine At.region tab_ok ?_
  conv => whnf
  refine ⟨h.sl, ?_⟩
  conv => whnf
  repeat refine At.seq ?_
  refine At.block ?_
  refine At.loopF (fun k : Nat => { N := Try.f146.ntmps, sl := [(0, some (.x v)), (1, some (.x (.func (.func g) #[] caps))), (7, some (.i xs.length)), (8, some (.i k))], gl := [], hp := [], S := [], ws := w }) (fun k => k ≤ xs.length ∧ ∀ j y, j < k → xs[j]? = some y → p y = false) (fun k => xs.length - k)
    (fun w' hw => ⟨0, ⟨Nat.zero_le _, fun j y hj => by omega⟩, Le.of rfl rfl ⟨rfl, rfl, congrArg (Value.int .i64) h.len, rfl, trivial⟩, WF.plain rfl, hw.same rfl rfl rfl⟩) ?_
  intro k ⟨hk, hall⟩
  repeat refine At.seq ?_
  refine At.region tab_ok ?_
  conv => whnf
  repeat refine At.seq ?_
  refine At.cond rfl (fun hc => At.skip ?_) (fun hc => At.exit ?_)
  · have hlt : k < xs.length := by simpa using hc
    obtain ⟨x, hx⟩ : ∃ x, xs[k]? = some x := ⟨_, List.getElem?_eq_getElem hlt⟩
    repeat refine At.seq ?_
    refine At.block ?_
    repeat refine At.seq ?_
    refine At.region tab_ok ?_
    conv => whnf
    repeat refine At.seq ?_
    refine At.region tab_ok ?_
    conv => whnf
    refine ⟨by omega, ?_⟩
    conv => whnf
    refine ⟨by rw [h.len]; omega, ?_⟩
    conv => whnf
    refine ⟨encL x, fun w' hw => h.load (n := 7) hw.fr hx rfl, ?_⟩
    conv => whnf
    refine ans_call hg rfl (fun w' hw => hf x (List.mem_of_getElem? hx) w' hw.fr) ?_
    conv => whnf
    repeat refine At.seq ?_
    refine At.cond rfl (fun hq => ?_) (fun hq => ?_)
    · repeat refine At.seq ?_
      refine At.region tab_ok ?_
      conv => whnf
      repeat refine At.seq ?_
      refine At.ret (At.doneB tab_ok hB _ rfl fun w' hw => ⟨?_, hw.fr⟩)
      rw [idx_some hx hq hall]
    · refine At.skip ?_
      repeat refine At.seq ?_
      refine At.region tab_ok ?_
      conv => whnf
      refine ⟨⟨by omega, by omega⟩, ?_⟩
      conv => whnf
      refine At.next fun w' hw => ⟨k + 1, ⟨by omega, fun j y hj hy => ?_⟩, by omega, Le.of rfl rfl ⟨rfl, rfl, rfl, rfl, trivial⟩, WF.plain rfl, hw.keep [] rfl rfl rfl⟩
      rcases Nat.lt_or_ge j k with hj' | hj'
      · exact hall j y hj' hy
      · obtain rfl : j = k := by omega
        rw [hx] at hy; cases hy; exact hq
  · have hge : k = xs.length := by simp at hc; omega
    subst hge
    repeat refine At.seq ?_
    refine At.region tab_ok ?_
    conv => whnf
    repeat refine At.seq ?_
    refine At.ret (At.doneB tab_ok hB _ rfl fun w' hw => ⟨?_, hw.fr⟩)
    rw [idx_none (fun j y hy => hall j y (List.getElem?_eq_some_iff.1 hy).1 hy)]
end Go.Proofs.Ytjilbkioieicbaa
