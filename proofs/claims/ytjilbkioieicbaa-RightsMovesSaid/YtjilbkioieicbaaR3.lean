/- Walks: what keys own and hold. -/
import Derived.Test.YtjilbkioieicbaaR2
namespace Go.Proofs.Ytjilbkioieicbaa
open Go.Vc Rt
set_option linter.unusedVariables false
set_option linter.unusedSimpArgs false
def openL (p : Lot → Bool) (xs : List Lot) : List Span := (xs.filter (fun l => decide (l.p = -1) && p l)).map (·.s)
theorem openL_take {p : Lot → Bool} {xs : List Lot} {k : Nat} {x : Lot} (hx : xs[k]? = some x) : openL p (xs.take (k + 1)) = openL p (xs.take k) ++ (if decide (x.p = -1) && p x then [x.s] else []) := by
  unfold openL
  rw [List.take_add_one, hx, List.filter_append, List.map_append]
  congr 1
  simp only [Option.toList_some, List.filter_cons, List.filter_nil]
  split <;> rfl
theorem openL_len (p : Lot → Bool) (xs : List Lot) : (openL p xs).length ≤ xs.length := by
  unfold openL; rw [List.length_map]; exact List.length_filter_le _ _
theorem open_c (xs : List Lot) (S : List Nat) (v : Value) (w : World) (h : SlOf loT S w v xs) (hN : xs.length ≤ 1000000) (g : Nat) (caps : Array Value) (p : Lot → Bool) (hg : Body Try.prog g)
    (hf : ∀ x ∈ xs, ∀ w', Ext w w' → Ans Try.prog g (vL x :: caps.toList) (.b (p x)) w') : AnsR Try.prog 68 [v, .func (.func g) #[] caps] [.row 56 3 ((norm (openL p xs)).map encS)] w := by
  replace h := h.avoid (S' := []) (fun b hb => by cases hb)
  have hl := h.len
  refine calls_plainB [.x v, .x (.func (.func g) #[] caps)] Try.func68 rfl rfl (Nat.le_of_ble_eq_true rfl) rfl fun B hB => ?_
  repeat refine At.seq ?_
  refine At.region tab_ok ?_
  conv => whnf
  repeat refine At.seq ?_
  refine At.region tab_ok ?_
  conv => whnf
  repeat refine At.seq ?_
  refine At.region tab_ok ?_
  conv => whnf
  refine ⟨h.sl, ?_⟩
  conv => whnf
  repeat refine At.seq ?_
  refine At.block ?_
  refine At.loopH (fun p' : Nat × Value => { N := Try.f68.ntmps, sl := [(1, some (.x (.func (.func g) #[] caps))), (5, some (.s (.c (.o 0 p'.2)))), (8, some (.x v)), (9, some (.i xs.length)), (10, some (.i p'.1))], gl := [], hp := [(0, .row p'.2 56 3 ((openL p (xs.take p'.1)).map encS))], S := [], ws := w }) (fun p' => p'.1 ≤ xs.length) (fun p' => xs.length - p'.1)
    (fun w' hw => ⟨(0, .slice none 0 0), Nat.zero_le _, Le.of rfl rfl ⟨rfl, rfl, rfl, congrArg (Value.int .i64) h.len, rfl, trivial⟩, hw.nil rfl rfl rfl, ⟨⟨_, _, _, rfl⟩, trivial⟩, ⟨(nopS _).okH, trivial⟩⟩) ?_
  rintro ⟨k, vo⟩ hk
  simp only at hk ⊢
  repeat refine At.seq ?_
  refine At.region tab_ok ?_
  conv => whnf
  repeat refine At.seq ?_
  refine At.cond rfl (fun hc => At.skip ?_) (fun hc => At.exit ?_)
  · have hlt : k < xs.length := by have := of_decide_eq_true hc; omega
    obtain ⟨x, hx⟩ : ∃ x, xs[k]? = some x := ⟨_, List.getElem?_eq_getElem hlt⟩
    have hol := openL_len p (xs.take k)
    have hnx := openL_take (p := p) hx
    generalize openL p (xs.take k) = out at hol hnx ⊢
    simp only [List.length_take] at hol
    repeat refine At.seq ?_
    refine At.block ?_
    repeat refine At.seq ?_
    refine At.region tab_ok ?_
    conv => whnf
    refine ⟨by omega, ?_⟩
    conv => whnf
    refine ⟨by omega, ?_⟩
    conv => whnf
    refine ⟨encL x, fun w' hw => h.load (n := 7) hw.fr hx rfl, ?_⟩
    conv => whnf
    intro b
    conv => whnf
    repeat refine At.seq ?_
    refine At.region tab_ok ?_
    conv => whnf
    refine ⟨.b (p x), by simp only [gimp]; intro _; exact ans_quiet hg (fun w' hw => hf x (List.mem_of_getElem? hx) w' hw.fr), ?_⟩
    conv => whnf
    repeat refine At.seq ?_
    refine At.cond rfl (fun hq => ?_) (fun hq => ?_)
    · repeat refine At.seq ?_
      refine At.region tab_ok ?_
      conv => whnf
      intro v1
      conv => whnf
      refine ⟨rfl, ?_⟩
      conv => whnf
      refine ⟨⟨rfl, by simp; omega⟩, ?_⟩
      conv => whnf
      intro v2
      conv => whnf
      repeat refine At.seq ?_
      refine At.region tab_ok ?_
      conv => whnf
      refine ⟨⟨by omega, by omega⟩, ?_⟩
      conv => whnf
      refine At.nextH fun w' hw => ⟨(k + 1, v2), by simp only; omega, by simp only; omega, Le.of rfl rfl ⟨rfl, rfl, rfl, rfl, rfl, trivial⟩, hw.keep [0] ?_ rfl rfl, ⟨⟨_, _, _, rfl⟩, trivial⟩, ⟨(nopS _).okH, trivial⟩⟩
      show [(0, LO.row v2 56 3 _)] = [(0, LO.row v2 56 3 _)]
      simp only [band] at hq
      rw [hnx, if_pos hq, List.map_append]
      rfl
    · refine At.skip ?_
      repeat refine At.seq ?_
      refine At.region tab_ok ?_
      conv => whnf
      refine ⟨⟨by omega, by omega⟩, ?_⟩
      conv => whnf
      refine At.nextH fun w' hw => ⟨(k + 1, vo), by simp only; omega, by simp only; omega, Le.of rfl rfl ⟨rfl, rfl, rfl, rfl, rfl, trivial⟩, hw.keep [0] ?_ rfl rfl, ⟨⟨_, _, _, rfl⟩, trivial⟩, ⟨(nopS _).okH, trivial⟩⟩
      show [(0, LO.row vo 56 3 _)] = [(0, LO.row vo 56 3 _)]
      simp only [band] at hq
      rw [hnx, if_neg (by rw [hq]; simp), List.append_nil]
  · have hge : k = xs.length := by have := of_decide_eq_false hc; omega
    subst hge
    rw [List.take_length]
    have hol := openL_len p xs
    repeat refine At.seq ?_
    refine At.region tab_ok ?_
    conv => whnf
    refine ansR_call b67 (rd1 (nopS _)) (fun w' hw => norm_c (openL p xs) [] vo w' (SlOf.of_row (hw.row (id := 0) rfl) (fun b hb hb' => by cases hb') (by omega)) (by omega)) ?_
    intro v3
    conv => whnf
    repeat refine At.seq ?_
    refine At.ret (At.doneB tab_ok hB _ rfl fun w' hw => ansR_row (id := 1) hw rfl rfl rfl)
theorem owned_c (xs : List Lot) (key : Int) (S : List Nat) (v : Value) (w : World) (h : SlOf loT S w v xs) (hN : xs.length ≤ 1000000) : AnsR Try.prog 28 [v, vI key] [.row 56 3 ((norm (openL (fun l => decide (l.o = key)) xs)).map encS)] w := by
  replace h := h.avoid (S' := []) (fun b hb => by cases hb)
  refine calls_plainB [.x v, .i key] Try.func28 rfl rfl (Nat.le_of_ble_eq_true rfl) rfl fun B hB => ?_
  repeat refine At.seq ?_
  refine At.region tab_ok ?_
  conv => whnf
  intro b
  conv => whnf
  repeat refine At.seq ?_
  refine At.region tab_ok ?_
  conv => whnf
  refine ansR_call b68 (rd1 (nopS _)) (fun w' hw => open_c xs [] v w' (h.fr hw.fr) hN 69 #[ptr b] (fun l => decide (l.o = key)) b69 (fun x _ w'' hx => owned1_c x key b w'' (LO.holds_ext hx (hw.objs (0, .box b 3 [.i key]) (by simp))))) ?_
  intro v1
  conv => whnf
  repeat refine At.seq ?_
  refine At.ret (At.doneB tab_ok hB _ rfl fun w' hw => ansR_row (id := 1) hw rfl rfl rfl)
theorem held_c (xs : List Lot) (key : Int) (S : List Nat) (v : Value) (w : World) (h : SlOf loT S w v xs) (hN : xs.length ≤ 1000000) : AnsR Try.prog 29 [v, vI key] [.row 56 3 ((norm (openL (fun l => decide (l.h = key)) xs)).map encS)] w := by
  replace h := h.avoid (S' := []) (fun b hb => by cases hb)
  refine calls_plainB [.x v, .i key] Try.func29 rfl rfl (Nat.le_of_ble_eq_true rfl) rfl fun B hB => ?_
  repeat refine At.seq ?_
  refine At.region tab_ok ?_
  conv => whnf
  intro b
  conv => whnf
  repeat refine At.seq ?_
  refine At.region tab_ok ?_
  conv => whnf
  refine ansR_call b68 (rd1 (nopS _)) (fun w' hw => open_c xs [] v w' (h.fr hw.fr) hN 70 #[ptr b] (fun l => decide (l.h = key)) b70 (fun x _ w'' hx => held1_c x key b w'' (LO.holds_ext hx (hw.objs (0, .box b 3 [.i key]) (by simp))))) ?_
  intro v1
  conv => whnf
  repeat refine At.seq ?_
  refine At.ret (At.doneB tab_ok hB _ rfl fun w' hw => ansR_row (id := 1) hw rfl rfl rfl)
theorem sum_c (xs : List Lot) (S : List Nat) (v : Value) (w : World) (h : SlOf loT S w v xs) (hN : xs.length ≤ 1000000) : Ans Try.prog 30 [v] (.i (count (norm (openL (fun _ => true) xs)))) w := by
  replace h := h.avoid (S' := []) (fun b hb => by cases hb)
  have hol := openL_len (fun _ => true) xs
  have hnl := norm_len (openL (fun _ => true) xs)
  refine calls_plainB [.x v] Try.func30 rfl rfl (Nat.le_of_ble_eq_true rfl) rfl fun B hB => ?_
  repeat refine At.seq ?_
  refine At.region tab_ok ?_
  conv => whnf
  repeat refine At.seq ?_
  refine At.region tab_ok ?_
  conv => whnf
  refine ansR_call b68 (rd1 (nopS _)) (fun w' hw => open_c xs [] v w' (h.fr hw.fr) hN 71 #[] (fun _ => true) b71 (fun x _ w'' hx => sum1_c x w'')) ?_
  intro v1
  conv => whnf
  refine ans_call b27 rfl (fun w' hw => count_c _ [] v1 w' (SlOf.of_row (hw.row (id := 0) rfl) (fun b hb hb' => by cases hb') (by omega)) (by omega)) ?_
  conv => whnf
  repeat refine At.seq ?_
  refine At.ret (At.doneB tab_ok hB _ rfl fun w' hw => ⟨rfl, hw.fr⟩)
theorem few_c (l : List Deed) (n : Int) (S : List Nat) (v : Value) (w : World) (h : SlOf deT S w v l) : Ans Try.prog 25 [v, vI n] (.b (few l n)) w := by
  replace h := h.avoid (S' := []) (fun b hb => by cases hb)
  have hl := h.len
  have hsm := h.small
  refine calls_plainB [.x v, .i n] Try.func25 rfl rfl (Nat.le_of_ble_eq_true rfl) rfl fun B hB => ?_
  repeat refine At.seq ?_
  refine At.region tab_ok ?_
  conv => whnf
  repeat refine At.seq ?_
  refine At.region tab_ok ?_
  conv => whnf
  repeat refine At.seq ?_
  refine At.block ?_
  refine At.loopF (fun k : Nat => { N := Try.f25.ntmps, sl := [(0, some (.x v)), (1, some (.i n)), (5, some (.i k))], gl := [], hp := [], S := [], ws := w }) (fun k => k ≤ l.length ∧ ∀ (j : Nat) d, j < k → l[j]? = some d → d.spans.length ≤ 8) (fun k => l.length - k)
    (fun w' hw => ⟨0, ⟨Nat.zero_le _, fun j y hj => by omega⟩, Le.of rfl rfl ⟨rfl, rfl, rfl, trivial⟩, WF.plain rfl, hw.same rfl rfl rfl⟩) ?_
  intro k ⟨hk, hall⟩
  repeat refine At.seq ?_
  refine At.region tab_ok ?_
  conv => whnf
  refine ⟨h.sl, ?_⟩
  conv => whnf
  repeat refine At.seq ?_
  refine At.cond rfl (fun hc => At.skip ?_) (fun hc => At.exit ?_)
  · simp only [band, Bool.and_eq_true, decide_eq_true_eq] at hc
    have hlt : k < l.length := by omega
    obtain ⟨d, hd⟩ : ∃ d, l[k]? = some d := ⟨_, List.getElem?_eq_getElem hlt⟩
    obtain ⟨_, ⟨u, rfl, hu⟩, hcells⟩ := h.at hd
    have hul := hu.len
    repeat refine At.seq ?_
    refine At.block ?_
    repeat refine At.seq ?_
    refine At.region tab_ok ?_
    conv => whnf
    refine ⟨by omega, ?_⟩
    conv => whnf
    refine ⟨by omega, ?_⟩
    conv => whnf
    refine ⟨[.x u], fun w' hw => (hcells w' hw.fr).part (n := 1) rfl, ?_⟩
    conv => whnf
    refine ⟨hu.sl, ?_⟩
    conv => whnf
    repeat refine At.seq ?_
    refine At.cond rfl (fun hq => ?_) (fun hq => ?_)
    · repeat refine At.seq ?_
      refine At.region tab_ok ?_
      conv => whnf
      repeat refine At.seq ?_
      refine At.ret (At.doneB tab_ok hB _ rfl fun w' hw => ⟨?_, hw.fr⟩)
      have h8 : ¬ d.spans.length ≤ 8 := by have := of_decide_eq_true hq; omega
      have : few l n = false := by
        unfold few
        rw [Bool.and_eq_false_iff]
        right
        rw [List.all_eq_false]
        exact ⟨d, List.mem_of_getElem? hd, by simpa using h8⟩
      rw [this]
    · refine At.skip ?_
      repeat refine At.seq ?_
      refine At.region tab_ok ?_
      conv => whnf
      refine ⟨⟨by omega, by omega⟩, ?_⟩
      conv => whnf
      refine At.next fun w' hw => ⟨k + 1, ⟨by omega, fun j y hj hy => ?_⟩, by omega, Le.of rfl rfl ⟨rfl, rfl, rfl, trivial⟩, WF.plain rfl, hw.keep [] rfl rfl rfl⟩
      rcases Nat.lt_or_ge j k with hj' | hj'
      · exact hall j y hj' hy
      · obtain rfl : j = k := by omega
        rw [hd] at hy; cases hy
        have := of_decide_eq_false hq; omega
  · simp only [band, Bool.and_eq_false_iff, decide_eq_false_iff_not] at hc
    repeat refine At.seq ?_
    refine At.region tab_ok ?_
    conv => whnf
    refine ⟨h.sl, ?_⟩
    conv => whnf
    repeat refine At.seq ?_
    refine At.ret (At.doneB tab_ok hB _ rfl fun w' hw => ⟨?_, hw.fr⟩)
    unfold few
    rw [hl]
    by_cases hn : (l.length : Int) ≤ n
    · have hkl : k = l.length := by omega
      have : l.all (fun d => decide (d.spans.length ≤ 8)) = true := by
        rw [List.all_eq_true]
        intro d hd
        obtain ⟨j, hj, e⟩ := List.getElem_of_mem hd
        have := hall j d (by omega) (by rw [List.getElem?_eq_getElem hj, e])
        simpa using this
      rw [this]; simp
    · simp [hn]
end Go.Proofs.Ytjilbkioieicbaa
