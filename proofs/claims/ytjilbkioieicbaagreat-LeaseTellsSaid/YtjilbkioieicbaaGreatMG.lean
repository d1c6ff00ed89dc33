/- Texts that the law uses: T1 T2 T3 T4 T5 P17 P18 T6 T7. -/
import Derived.Test.YtjilbkioieicbaaGreatMF
import Derived.Test.YtjilbkioieicbaaGreatME
import Derived.Test.YtjilbkioieicbaaGreatMD
/- The reference's spans: what its functions compute. -/
namespace Rt
set_option linter.unusedVariables false
set_option linter.unusedSimpArgs false
def befR (s x : Span) : Bool := decide (x.m < s.m) || (decide (x.m = s.m) && decide (x.t < s.f))
def putM : List Span → Span → Span × List Span
  | [], s => (s, [])
  | x :: r, s => if x.m = s.m ∧ x.f ≤ s.t then putM r ⟨s.m, min s.f x.f, max s.t x.t⟩ else (s, x :: r)
def putS (l : List Span) (s : Span) : List Span := l.takeWhile (befR s) ++ (putM (l.dropWhile (befR s)) s).1 :: (putM (l.dropWhile (befR s)) s).2
theorem befR_iff {s x : Span} : befR s x = true ↔ gap x s := by unfold befR gap; simp
theorem gap_tr {a b c : Span} (h : gap a b) (h' : gap b c) (hb : b.f < b.t) : gap a c := by unfold gap at *; omega
theorem putM_spec : ∀ {r : List Span} {s : Span}, NF r → s.f < s.t → (∀ x ∈ r, s.m < x.m ∨ (x.m = s.m ∧ s.f ≤ x.t)) →
    (putM r s).1.m = s.m ∧ (putM r s).1.f ≤ s.f ∧ NF ((putM r s).1 :: (putM r s).2) ∧ (∀ m n, Has ((putM r s).1 :: (putM r s).2) m n ↔ Has r m n ∨ (s.m = m ∧ s.f ≤ n ∧ n < s.t)) ∧ ((putM r s).1.f = s.f ∨ ∃ x ∈ r, (putM r s).1.f = x.f ∧ x.m = s.m) ∧ ∀ x ∈ (putM r s).2, x ∈ r
  | [], s, h, hs, _ => by
    refine ⟨rfl, Int.le_refl _, ⟨fun x hx => by simp [putM] at hx; subst hx; exact hs, by simp [putM]⟩, fun m n => ?_, .inl rfl, fun x hx => by simp [putM] at hx⟩
    simp only [putM]
    rw [Has.cons]
    constructor
    · rintro (h | h)
      · exact .inr h
      · exact (Has.nil h).elim
    · rintro (h | h)
      · exact (Has.nil h).elim
      · exact .inl h
  | x :: r, s, h, hs, hr => by
    have hx := h.ne x (List.mem_cons_self ..)
    have hxr := hr x (List.mem_cons_self ..)
    simp only [putM]
    split
    · rename_i hc
      obtain ⟨a1, a2, a3, a4, a5, a6⟩ := putM_spec (r := r) (s := ⟨s.m, min s.f x.f, max s.t x.t⟩) h.tail (by simp only; omega) (fun y hy => by
        have hg := (List.pairwise_cons.1 h.ord).1 y hy
        have hy' := h.ne y (List.mem_cons_of_mem _ hy)
        unfold gap at hg
        simp only
        omega)
      simp only at a1 a2 a4 a5
      refine ⟨a1, by omega, a3, fun m n => ?_, ?_, fun y hy => List.mem_cons_of_mem _ (a6 y hy)⟩
      · clear a5 a6
        rw [a4, Has.cons]
        constructor
        · rintro (b | b)
          · exact .inl (.inr b)
          · by_cases hn : s.f ≤ n ∧ n < s.t
            · exact .inr ⟨b.1, hn⟩
            · exact .inl (.inl ⟨by omega, by omega, by omega⟩)
        · rintro ((b | b) | b)
          · exact .inr ⟨by omega, by omega, by omega⟩
          · exact .inl b
          · exact .inr ⟨by omega, by omega, by omega⟩
      · rcases a5 with a5 | ⟨y, hy, a5, a6⟩
        · by_cases hm : s.f ≤ x.f
          · exact .inl (by omega)
          · exact .inr ⟨x, List.mem_cons_self .., by omega, hc.1⟩
        · exact .inr ⟨y, List.mem_cons_of_mem _ hy, a5, a6⟩
    · rename_i hc
      have hg : gap s x := by unfold gap; omega
      refine ⟨rfl, Int.le_refl _, ⟨fun y hy => ?_, List.pairwise_cons.2 ⟨fun y hy => ?_, h.ord⟩⟩, fun m n => ?_, .inl rfl, fun y hy => hy⟩
      · rcases List.mem_cons.1 hy with rfl | hy
        · exact hs
        · exact h.ne y hy
      · rcases List.mem_cons.1 hy with rfl | hy
        · exact hg
        · exact gap_tr hg ((List.pairwise_cons.1 h.ord).1 y hy) hx
      · rw [Has.cons]
        exact ⟨fun h => h.elim .inr .inl, fun h => h.elim .inr .inl⟩
theorem putS_spec {l : List Span} {s : Span} (h : NF l) (hs : s.f < s.t) : NF (putS l s) ∧ ∀ m n, Has (putS l s) m n ↔ Has l m n ∨ (s.m = m ∧ s.f ≤ n ∧ n < s.t) := by
  have hl : l.takeWhile (befR s) ++ l.dropWhile (befR s) = l := List.takeWhile_append_dropWhile
  have hNF := h
  rw [← hl] at hNF
  obtain ⟨p1, p2, p3⟩ := List.pairwise_append.1 hNF.ord
  have hpre : ∀ x ∈ l.takeWhile (befR s), gap x s := fun x hx => befR_iff.1 (List.all_eq_true.1 List.all_takeWhile x hx)
  have hdrop : NF (l.dropWhile (befR s)) := ⟨fun x hx => hNF.ne x (List.mem_append_right _ hx), p2⟩
  have hrest : ∀ x ∈ l.dropWhile (befR s), s.m < x.m ∨ (x.m = s.m ∧ s.f ≤ x.t) := by
    cases hd : l.dropWhile (befR s) with
    | nil => intro x hx; cases hx
    | cons y r =>
      have hy : befR s y = false := by
        have := List.head?_dropWhile_not (befR s) l
        rw [hd] at this
        simpa using this
      have hy' : ¬ gap y s := fun hg => by rw [befR_iff.2 hg] at hy; cases hy
      intro x hx
      rw [hd] at p2
      have hyn := hdrop.ne y (by rw [hd]; exact List.mem_cons_self ..)
      have hxn := hdrop.ne x (by rw [hd]; exact hx)
      rcases List.mem_cons.1 hx with rfl | hx
      · unfold gap at hy'; omega
      · have := (List.pairwise_cons.1 p2).1 x hx
        unfold gap at this hy'; omega
  obtain ⟨a1, a2, a3, a4, a5, a6⟩ := putM_spec hdrop hs hrest
  refine ⟨⟨fun x hx => ?_, List.pairwise_append.2 ⟨p1, a3.ord, fun x hx y hy => ?_⟩⟩, fun m n => ?_⟩
  · rcases List.mem_append.1 hx with hx | hx
    · exact hNF.ne x (List.mem_append_left _ hx)
    · exact a3.ne x hx
  · rcases List.mem_cons.1 hy with rfl | hy
    · have hg := hpre x hx
      rcases a5 with e | ⟨z, hz, e, ez⟩
      · unfold gap at *; omega
      · have := p3 x hx z hz; unfold gap at *; omega
    · exact p3 x hx y (a6 y hy)
  · unfold putS
    rw [Has.append, a4]
    conv => rhs; rw [← hl]
    rw [Has.append]
    constructor
    · rintro (h | h | h)
      · exact .inl (.inl h)
      · exact .inl (.inr h)
      · exact .inr h
    · rintro ((h | h) | h)
      · exact .inl h
      · exact .inr (.inl h)
      · exact .inr (.inr h)
def normR (l : List Span) : List Span := (l.filter valid).foldl putS []
theorem puts_spec : ∀ {l out : List Span}, NF out → (∀ s ∈ l, s.f < s.t) → NF (l.foldl putS out) ∧ ∀ m n, Has (l.foldl putS out) m n ↔ Has out m n ∨ Has l m n
  | [], out, h, _ => ⟨h, fun m n => ⟨.inl, fun h => h.elim id fun h => (Has.nil h).elim⟩⟩
  | s :: l, out, h, hs => by
    obtain ⟨a1, a2⟩ := putS_spec h (hs s (List.mem_cons_self ..))
    obtain ⟨b1, b2⟩ := puts_spec (l := l) a1 fun x hx => hs x (List.mem_cons_of_mem _ hx)
    refine ⟨b1, fun m n => ?_⟩
    rw [List.foldl_cons, b2, a2, Has.cons, or_assoc]
theorem normR_eq (l : List Span) : normR l = norm l := by
  obtain ⟨a1, a2⟩ := puts_spec (l := l.filter valid) (out := []) ⟨fun s hs => (by cases hs), .nil⟩ fun s hs => valid_lt (List.mem_filter.1 hs).2
  refine NF.ext a1 (norm_nf l) fun m n => ?_
  rw [(norm_spec l).2]
  show Has ((l.filter valid).foldl putS []) m n ↔ _
  rw [a2]
  exact ⟨fun h => h.elim (fun h => (Has.nil h).elim) id, .inr⟩
theorem putM_len : ∀ (r : List Span) (s : Span), (putM r s).2.length ≤ r.length
  | [], s => by simp [putM]
  | x :: r, s => by
    simp only [putM]
    split
    · have := putM_len r ⟨s.m, min s.f x.f, max s.t x.t⟩; simp only [List.length_cons]; omega
    · simp
theorem putS_len (l : List Span) (s : Span) : (putS l s).length ≤ l.length + 1 := by
  unfold putS
  have h1 := putM_len (l.dropWhile (befR s)) s
  have h2 : (l.takeWhile (befR s)).length + (l.dropWhile (befR s)).length = l.length := by rw [← List.length_append, List.takeWhile_append_dropWhile]
  simp only [List.length_append, List.length_cons]
  omega
theorem puts_len : ∀ (l out : List Span), (l.foldl putS out).length ≤ out.length + l.length
  | [], out => by simp
  | s :: l, out => by
    have := puts_len l (putS out s)
    have := putS_len out s
    simp only [List.foldl_cons, List.length_cons]; omega
end Rt
namespace Go.Proofs.YtjilbkioieicbaaGreat
open Go.Vc Rt
set_option linter.unusedVariables false
set_option linter.unusedSimpArgs false
theorem to_c (n most : Int) (w : World) : Ans Tryz.prog 69 [vI n, vI most] (.b (decide (0 ≤ n) && decide (n ≤ most))) w := by
  refine calls_plainB [.i n, .i most] Tryz.func69 rfl rfl (Nat.le_of_ble_eq_true rfl) rfl fun B hB => ?_
  repeat refine At.seq ?_
  refine At.region tab_ok ?_
  conv => whnf
  repeat refine At.seq ?_
  refine At.region tab_ok ?_
  conv => whnf
  repeat refine At.seq ?_
  refine At.ret (At.doneB tab_ok hB _ rfl fun w' hw => ⟨?_, hw.fr⟩)
  simp only [RV.den, SV.den, CV.den, band]
theorem validR_c (s : Span) (w : World) : Ans Tryz.prog 45 [vS s] (.b (valid s)) w := by
  refine calls_plainB [.s (.agg (encS s))] Tryz.func45 rfl rfl (Nat.le_of_ble_eq_true rfl) rfl fun B hB => ?_
  repeat refine At.seq ?_
  refine At.region tab_ok ?_
  conv => whnf
  intro b1
  conv => whnf
  repeat refine At.seq ?_
  refine At.region tab_ok ?_
  conv => whnf
  refine ans_call b136 rfl (fun w' hw => to_c s.m 1073741824 w') ?_
  conv => whnf
  repeat refine At.seq ?_
  refine At.ret (At.doneB tab_ok hB _ rfl fun w' hw => ⟨?_, hw.fr⟩)
  simp only [RV.den, SV.den, CV.den, band, valid, isMark, Bool.and_assoc]
theorem hasR_c (xs : List Span) (m n : Int) (S : List Nat) (v : Value) (w : World) (h : SlOf spT S w v xs) : Ans Tryz.prog 28 [v, vI m, vI n] (.b (hasS xs m n)) w := by
  replace h := h.avoid (S' := []) (fun b hb => by cases hb)
  have hl := h.len
  have hsm := h.small
  refine calls_plainB [.x v, .i m, .i n] Tryz.func28 rfl rfl (Nat.le_of_ble_eq_true rfl) rfl fun B hB => ?_
  repeat refine At.seq ?_
  refine At.region tab_ok ?_
  conv => whnf
  repeat refine At.seq ?_
  refine At.region tab_ok ?_
  conv => whnf
  repeat refine At.seq ?_
  refine At.block ?_
  refine At.loopH (fun k : Nat => { N := Tryz.f28.ntmps, sl := [(0, some (.x v)), (1, some (.i m)), (2, some (.i n)), (7, some (.i k))], gl := [], hp := [], S := [], ws := w }) (fun k : Nat => k ≤ xs.length ∧ ∀ j x, j < k → xs[j]? = some x → inSpan m n x = false) (fun k : Nat => xs.length - k)
    (fun w' hw => ⟨0, ⟨Nat.zero_le _, fun j x hj => by omega⟩, Le.of rfl rfl ⟨rfl, rfl, rfl, rfl, trivial⟩, hw.same rfl rfl rfl, trivial, trivial⟩) ?_
  intro k ⟨hk, hall⟩
  repeat refine At.seq ?_
  refine At.region tab_ok ?_
  conv => whnf
  refine ⟨h.sl, ?_⟩
  conv => whnf
  repeat refine At.seq ?_
  refine At.cond rfl (fun hc => At.skip ?_) (fun hc => At.exit ?_)
  · have hlt : k < xs.length := by have := of_decide_eq_true hc; (try simp only [List.length_map] at this); omega
    obtain ⟨x, hx⟩ : ∃ x, xs[k]? = some x := ⟨_, List.getElem?_eq_getElem hlt⟩
    repeat refine At.seq ?_
    refine At.block ?_
    repeat refine At.seq ?_
    refine At.region tab_ok ?_
    conv => whnf
    refine ⟨by omega, ?_⟩
    conv => whnf
    refine ⟨by omega, ?_⟩
    conv => whnf
    refine ⟨encS x, fun w' hw => h.load (n := 3) hw.fr hx rfl, ?_⟩
    conv => whnf
    refine ans_call b109 rfl (fun w' hw => validR_c x w') ?_
    conv => whnf
    refine ⟨by simp only [gimp]; intros; omega, ?_⟩
    conv => whnf
    refine ⟨by simp only [gimp]; intros; omega, ?_⟩
    conv => whnf
    refine ⟨[.i x.m], by simp only [gimp]; intro _ w' hw; exact h.load (n := 1) hw.fr hx rfl, ?_⟩
    conv => whnf
    refine ⟨by simp only [gimp]; intros; omega, ?_⟩
    conv => whnf
    refine ⟨by simp only [gimp]; intros; omega, ?_⟩
    conv => whnf
    refine ⟨[.i x.f], by simp only [gimp]; intro _ w' hw; exact h.load (n := 1) hw.fr hx rfl, ?_⟩
    conv => whnf
    refine ⟨by simp only [gimp]; intros; omega, ?_⟩
    conv => whnf
    refine ⟨by simp only [gimp]; intros; omega, ?_⟩
    conv => whnf
    refine ⟨[.i x.t], by simp only [gimp]; intro _ w' hw; exact h.load (n := 1) hw.fr hx rfl, ?_⟩
    conv => whnf
    have hin : ∀ t : Bool, (bif bif bif valid x then decide (x.m = m) else false then decide (x.f ≤ n) else false then decide (n < x.t) else false) = t → inSpan m n x = t := fun t ht => by
      rw [← ht]; simp only [band, inSpan, Bool.and_assoc]
    repeat refine At.seq ?_
    refine At.cond rfl (fun hq => ?_) (fun hq => ?_)
    · repeat refine At.seq ?_
      refine At.region tab_ok ?_
      conv => whnf
      repeat refine At.seq ?_
      refine At.ret (At.doneB tab_ok hB _ rfl fun w' hw => ⟨?_, hw.fr⟩)
      have : hasS xs m n = true := List.any_eq_true.2 ⟨x, List.mem_of_getElem? hx, hin _ hq⟩
      rw [this]
    · refine At.skip ?_
      repeat refine At.seq ?_
      refine At.region tab_ok ?_
      conv => whnf
      refine ⟨⟨by omega, by omega⟩, ?_⟩
      conv => whnf
      refine At.nextH fun w' hw => ⟨k + 1, ⟨by omega, fun j y hj hy => by rcases Nat.lt_or_ge j k with hj' | hj'; exact hall j y hj' hy; obtain rfl : j = k := (by omega); rw [hx] at hy; cases hy; exact hin _ hq⟩, by omega, Le.of rfl rfl ⟨rfl, rfl, rfl, rfl, trivial⟩, hw.keep [] rfl rfl rfl, trivial, trivial⟩
  have hge : k = xs.length := by have := of_decide_eq_false hc; omega
  repeat refine At.seq ?_
  refine At.region tab_ok ?_
  conv => whnf
  repeat refine At.seq ?_
  refine At.ret (At.doneB tab_ok hB _ rfl fun w' hw => ⟨?_, hw.fr⟩)
  have : hasS xs m n = false := Bool.eq_false_iff.2 fun hc => by
    obtain ⟨y, hy, hb⟩ := List.any_eq_true.1 hc
    obtain ⟨j, hj⟩ := List.getElem?_of_mem hy
    rw [hall j y (by have := (List.getElem?_eq_some_iff.1 hj).1; omega) hj] at hb; cases hb
  rw [this]
theorem normalR_c (xs : List Span) (S : List Nat) (v : Value) (w : World) (h : SlOf spT S w v xs) : Ans Tryz.prog 44 [v] (.b (normal xs)) w := by
  replace h := h.avoid (S' := []) (fun b hb => by cases hb)
  have hsm := h.small
  have hln := h.len
  refine calls_plainB [.x v] Tryz.func44 rfl rfl (Nat.le_of_ble_eq_true rfl) rfl fun B hB => ?_
  repeat refine At.seq ?_
  refine At.region tab_ok ?_
  conv => whnf
  repeat refine At.seq ?_
  refine At.region tab_ok ?_
  conv => whnf
  repeat refine At.seq ?_
  refine At.block ?_
  refine At.loopH (fun k : Nat => { N := Tryz.f44.ntmps, sl := [(0, some (.x v)), (3, some (.i k))], gl := [], hp := [], S := [], ws := w }) (fun k : Nat => k ≤ xs.length ∧ ∀ j, j < k → okAt xs j = true) (fun k : Nat => xs.length - k)
    (fun w' hw => ⟨0, ⟨Nat.zero_le _, fun j hj => by omega⟩, Le.of rfl rfl ⟨rfl, rfl, trivial⟩, hw.same rfl rfl rfl, trivial, trivial⟩) ?_
  intro k ⟨hk, hall⟩
  repeat refine At.seq ?_
  refine At.region tab_ok ?_
  conv => whnf
  refine ⟨h.sl, ?_⟩
  conv => whnf
  repeat refine At.seq ?_
  refine At.cond rfl (fun hc => At.skip ?_) (fun hc => At.exit ?_)
  · have hlt : k < xs.length := by have := of_decide_eq_true hc; (try simp only [List.length_map] at this); omega
    obtain ⟨x, hx⟩ : ∃ x, xs[k]? = some x := ⟨_, List.getElem?_eq_getElem hlt⟩
    obtain ⟨y, hy⟩ : ∃ y, xs[k - 1]? = some y := ⟨_, List.getElem?_eq_getElem (by omega)⟩
    have hy' : ∀ {q : Int}, q = k - 1 → 0 < (k : Int) → xs[q.toNat]? = some y := fun e h0 => by rw [← hy]; congr 1; omega
    have hok : okAt xs k = (valid x && (k == 0 || !(decide (x.m < y.m) || (decide (y.m = x.m) && decide (x.f ≤ y.t))))) := by
      unfold okAt; rw [hx]; simp only [hy]
    repeat refine At.seq ?_
    refine At.block ?_
    repeat refine At.seq ?_
    refine At.draw tab_ok mixed (by kernel_rfl) ?_
    conv => whnf
    refine ⟨by omega, ?_⟩
    conv => whnf
    refine ⟨by omega, ?_⟩
    conv => whnf
    refine ⟨encS x, fun w' hw => h.load (n := 3) hw.fr hx rfl, ?_⟩
    conv => whnf
    refine ⟨.b (valid x), ans_quiet b109 (fun w _ => validR_c x w), ?_⟩
    conv => whnf
    refine ⟨by simp only [gimp]; intro h1 _; have := of_decide_eq_true h1; exact ⟨by omega, by omega⟩, ?_⟩
    conv => whnf
    refine ⟨by simp only [gimp]; intro h1 _; have := of_decide_eq_true h1; omega, ?_⟩
    conv => whnf
    refine ⟨by simp only [gimp]; intro h1 _; have := of_decide_eq_true h1; omega, ?_⟩
    conv => whnf
    refine ⟨[.i y.m], by simp only [gimp]; intro h1 _ w' hw; have := of_decide_eq_true h1; exact h.loadI (n := 1) hw.fr (by omega) (hy' rfl (by omega)) rfl, ?_⟩
    conv => whnf
    refine ⟨by simp only [gimp]; intros; omega, ?_⟩
    conv => whnf
    refine ⟨by simp only [gimp]; intros; omega, ?_⟩
    conv => whnf
    refine ⟨[.i x.m], by simp only [gimp]; intro _ _ w' hw; exact h.load (n := 1) hw.fr hx rfl, ?_⟩
    conv => whnf
    refine ⟨by simp only [gimp]; intro h1 _; have := of_decide_eq_true h1; exact ⟨by omega, by omega⟩, ?_⟩
    conv => whnf
    refine ⟨by simp only [gimp]; intro h1 _; have := of_decide_eq_true h1; omega, ?_⟩
    conv => whnf
    refine ⟨by simp only [gimp]; intro h1 _; have := of_decide_eq_true h1; omega, ?_⟩
    conv => whnf
    refine ⟨[.i y.m], by simp only [gimp]; intro h1 _ w' hw; have := of_decide_eq_true h1; exact h.loadI (n := 1) hw.fr (by omega) (hy' rfl (by omega)) rfl, ?_⟩
    conv => whnf
    refine ⟨by simp only [gimp]; intros; omega, ?_⟩
    conv => whnf
    refine ⟨by simp only [gimp]; intros; omega, ?_⟩
    conv => whnf
    refine ⟨[.i x.m], by simp only [gimp]; intro _ _ w' hw; exact h.load (n := 1) hw.fr hx rfl, ?_⟩
    conv => whnf
    refine ⟨by simp only [gimp]; intro h1 _; have := (by simp only [band, Bool.and_eq_true, decide_eq_true_eq] at h1; exact h1.1 : (0 : Int) < k); exact ⟨by omega, by omega⟩, ?_⟩
    conv => whnf
    refine ⟨by simp only [gimp]; intro h1 _; have := (by simp only [band, Bool.and_eq_true, decide_eq_true_eq] at h1; exact h1.1 : (0 : Int) < k); omega, ?_⟩
    conv => whnf
    refine ⟨by simp only [gimp]; intro h1 _; have := (by simp only [band, Bool.and_eq_true, decide_eq_true_eq] at h1; exact h1.1 : (0 : Int) < k); omega, ?_⟩
    conv => whnf
    refine ⟨[.i y.t], by simp only [gimp]; intro h1 _ w' hw; have := (by simp only [band, Bool.and_eq_true, decide_eq_true_eq] at h1; exact h1.1 : (0 : Int) < k); exact h.loadI (n := 1) hw.fr (by omega) (hy' rfl (by omega)) rfl, ?_⟩
    conv => whnf
    refine ⟨by simp only [gimp]; intros; omega, ?_⟩
    conv => whnf
    refine ⟨by simp only [gimp]; intros; omega, ?_⟩
    conv => whnf
    refine ⟨[.i x.f], by simp only [gimp]; intro _ _ w' hw; exact h.load (n := 1) hw.fr hx rfl, ?_⟩
    conv => whnf
    repeat refine At.seq ?_
    refine At.cond rfl (fun hq => ?_) (fun hq => ?_)
    · repeat refine At.seq ?_
      refine At.region tab_ok ?_
      conv => whnf
      repeat refine At.seq ?_
      refine At.ret (At.doneB tab_ok hB _ rfl fun w' hw => ⟨?_, hw.fr⟩)
      rw [normal_false hlt]
      rw [hok]
      simp only [band, bor] at hq
      revert hq
      cases valid x <;> cases decide (x.m < y.m) <;> cases decide (y.m = x.m) <;> cases decide (x.f ≤ y.t) <;> simp <;> try omega
    · refine At.skip ?_
      repeat refine At.seq ?_
      refine At.region tab_ok ?_
      conv => whnf
      refine ⟨⟨by omega, by omega⟩, ?_⟩
      conv => whnf
      refine At.nextH fun w' hw => ⟨k + 1, ⟨by omega, fun j hj => ?_⟩, by omega, Le.of rfl rfl ⟨rfl, rfl, trivial⟩, hw.keep [] rfl rfl rfl, trivial, trivial⟩
      rcases Nat.lt_or_ge j k with hj' | hj'
      · exact hall j hj'
      · obtain rfl : j = k := by omega
        rw [hok]
        simp only [band, bor] at hq
        revert hq
        cases valid x <;> cases decide (x.m < y.m) <;> cases decide (y.m = x.m) <;> cases decide (x.f ≤ y.t) <;> simp <;> try omega
  have hge : k = xs.length := by have := of_decide_eq_false hc; omega
  subst hge
  repeat refine At.seq ?_
  refine At.region tab_ok ?_
  conv => whnf
  repeat refine At.seq ?_
  refine At.ret (At.doneB tab_ok hB _ rfl fun w' hw => ⟨?_, hw.fr⟩)
  rw [normal_true hall]
end Go.Proofs.YtjilbkioieicbaaGreat

/- The reference's normal form and number of coins. -/
namespace Go.Proofs.YtjilbkioieicbaaGreat
open Go.Vc Rt
set_option linter.unusedVariables false
set_option linter.unusedSimpArgs false
theorem takeWhile_snoc {p : Span → Bool} : ∀ {l : List Span} {k : Nat} {x : Span}, (∀ j y, j < k → l[j]? = some y → p y = true) → l[k]? = some x → p x = false → l.takeWhile p = l.take k ∧ l.dropWhile p = l.drop k
  | [], k, x, _, h, _ => by simp at h
  | y :: l, 0, x, _, h, hp => by
    simp at h; subst h
    simp [List.takeWhile_cons, List.dropWhile_cons, hp]
  | y :: l, k + 1, x, hall, h, hp => by
    have hy := hall 0 y (by omega) rfl
    obtain ⟨a, b⟩ := takeWhile_snoc (l := l) (k := k) (fun j z hj hz => hall (j + 1) z (by omega) (by simpa using hz)) (by simpa using h) hp
    simp [List.takeWhile_cons, List.dropWhile_cons, hy, a, b]
theorem takeWhile_all {p : Span → Bool} {l : List Span} (hall : ∀ (j : Nat) y, l[j]? = some y → p y = true) : l.takeWhile p = l ∧ l.dropWhile p = [] := by
  have h : ∀ x ∈ l, p x = true := fun x hx => by obtain ⟨j, hj⟩ := List.getElem?_of_mem hx; exact hall j x hj
  constructor
  · have := List.takeWhile_append_of_pos (p := p) (l₁ := l) (l₂ := []) h
    simpa using this
  · have := List.dropWhile_append_of_pos (p := p) (l₁ := l) (l₂ := []) h
    simpa using this
/-- What is put together from a number on. -/
theorem putM_drop {l : List Span} {k : Nat} {x : Span} {s : Span} (hx : l[k]? = some x) (h : x.m = s.m ∧ x.f ≤ s.t) : putM (l.drop k) s = putM (l.drop (k + 1)) ⟨s.m, min s.f x.f, max s.t x.t⟩ := by
  obtain ⟨h1, h2⟩ := List.getElem?_eq_some_iff.1 hx
  rw [List.drop_eq_getElem_cons h1, h2]
  simp only [putM]
  rw [if_pos h]
theorem putM_stop {l : List Span} {k : Nat} {s : Span} (h : ∀ x, l[k]? = some x → ¬ (x.m = s.m ∧ x.f ≤ s.t)) : putM (l.drop k) s = (s, l.drop k) := by
  cases hx : l[k]? with
  | none =>
    have : l.drop k = [] := List.drop_of_length_le (by rw [List.getElem?_eq_none_iff] at hx; exact hx)
    rw [this]; rfl
  | some x =>
    obtain ⟨h1, h2⟩ := List.getElem?_eq_some_iff.1 hx
    rw [List.drop_eq_getElem_cons h1, h2]
    simp only [putM]
    rw [if_neg (h x hx)]
theorem SlOf.rest {α : Type} {T : Ty α} {S : List Nat} {w : World} {v : Value} {xs : List α} (h : SlOf T S w v xs) {lo hi : Int} {k : Nat} (e : lo = k) (e' : hi = xs.length) (hk : k ≤ xs.length) : SlOf T S w (subV v T.size lo hi) (xs.drop k) := by
  subst e e'
  have := h.part (lo := k) (hi := xs.length) (by omega) (by omega) (by omega)
  rw [Int.toNat_natCast, Int.toNat_natCast, List.take_length] at this
  exact this
theorem put_c (xs : List Span) (s : Span) (v : Value) (w : World) (h : SlOf spT [] w v xs) (hN : xs.length ≤ 1000000) : AnsR Tryz.prog 59 [v, vS s] [.row 25 3 ((putS xs s).map encS)] w := by
  have hl := h.len
  refine calls_plainB [.x v, .s (.agg (encS s))] Tryz.func59 rfl rfl (Nat.le_of_ble_eq_true rfl) rfl fun B hB => ?_
  repeat refine At.seq ?_
  refine At.region tab_ok ?_
  conv => whnf
  intro b3
  conv => whnf
  repeat refine At.seq ?_
  refine At.region tab_ok ?_
  conv => whnf
  repeat refine At.seq ?_
  refine At.region tab_ok ?_
  conv => whnf
  repeat refine At.seq ?_
  refine At.block ?_
  refine At.loopH (fun p : Nat × Value => { N := Tryz.f59.ntmps, sl := [(0, some (.x v)), (3, some (.s (.c (.p 0 b3 0)))), (5, some (.s (.c (.o 1 p.2)))), (6, some (.i p.1))], gl := [], hp := [(1, .row p.2 25 3 ((xs.take p.1).map encS)), (0, .box b3 25 (encS s))], S := [], ws := w }) (fun p : Nat × Value => p.1 ≤ xs.length ∧ ∀ j y, j < p.1 → xs[j]? = some y → befR s y = true) (fun p : Nat × Value => xs.length - p.1)
    (fun w' hw => ⟨(0, .slice none 0 0), ⟨Nat.zero_le _, fun j y hj => by omega⟩, Le.of rfl rfl ⟨rfl, rfl, rfl, rfl, trivial⟩, hw.nil rfl rfl rfl, ⟨⟨_, _, rfl⟩, ⟨_, _, _, rfl⟩, trivial⟩, ⟨(nopS _).okH, trivial⟩⟩) ?_
  rintro ⟨k, vo⟩ ⟨hk, hall⟩
  simp only at hk hall ⊢
  obtain ⟨x, hx⟩ : ∃ x, k < xs.length → xs[k]? = some x := by
    rcases Nat.lt_or_ge k xs.length with h' | h'
    · exact ⟨xs[k], fun _ => List.getElem?_eq_getElem h'⟩
    · exact ⟨default, fun h => by omega⟩
  repeat refine At.seq ?_
  refine At.draw tab_ok mixed (by kernel_rfl) ?_
  conv => whnf
  refine ⟨h.sl, ?_⟩
  conv => whnf
  refine ⟨by simp only [gimp]; intro h1; omega, ?_⟩
  conv => whnf
  refine ⟨by simp only [gimp]; intro h1; have := of_decide_eq_true h1; omega, ?_⟩
  conv => whnf
  refine ⟨[.i x.m], by simp only [gimp]; intro h1 w' hw; exact h.load (n := 1) hw.fr (hx (by have := of_decide_eq_true h1; omega)) rfl, ?_⟩
  conv => whnf
  refine ⟨by simp only [gimp]; intros; omega, ?_⟩
  conv => whnf
  refine ⟨by simp only [gimp]; intro _ h1; have := of_decide_eq_true h1; omega, ?_⟩
  conv => whnf
  refine ⟨[.i x.m], by simp only [gimp]; intro _ h1 w' hw; exact h.load (n := 1) hw.fr (hx (by have := of_decide_eq_true h1; omega)) rfl, ?_⟩
  conv => whnf
  refine ⟨by simp only [gimp]; intros; omega, ?_⟩
  conv => whnf
  refine ⟨by simp only [gimp]; intro _ _ h1; have := of_decide_eq_true h1; omega, ?_⟩
  conv => whnf
  refine ⟨[.i x.t], by simp only [gimp]; intro _ _ h1 w' hw; exact h.load (n := 1) hw.fr (hx (by have := of_decide_eq_true h1; omega)) rfl, ?_⟩
  conv => whnf
  repeat refine At.seq ?_
  refine At.cond rfl (fun hc => At.skip ?_) (fun hc => At.exit ?_)
  · have hc' : k < xs.length ∧ befR s x = true := by
      simp only [band, bor, Bool.and_eq_true, decide_eq_true_eq] at hc
      exact ⟨by omega, hc.2⟩
    have hx := hx hc'.1
    have hst : (xs.take (k + 1)).map encS = (xs.take k).map encS ++ [encS x] := by rw [List.take_add_one, hx]; simp
    have hlk : ((xs.take k).map encS).length = k := by simp; omega
    repeat refine At.seq ?_
    refine At.block ?_
    repeat refine At.seq ?_
    refine At.region tab_ok ?_
    conv => whnf
    refine ⟨by omega, ?_⟩
    conv => whnf
    refine ⟨by omega, ?_⟩
    conv => whnf
    refine ⟨encS x, fun w' hw => h.load (n := 3) hw.fr hx rfl, ?_⟩
    conv => whnf
    intro v2
    conv => whnf
    refine ⟨rfl, ?_⟩
    conv => whnf
    refine ⟨⟨rfl, by simp; omega⟩, ?_⟩
    conv => whnf
    intro v3
    conv => whnf
    repeat refine At.seq ?_
    refine At.region tab_ok ?_
    conv => whnf
    refine ⟨⟨by omega, by omega⟩, ?_⟩
    conv => whnf
    refine At.nextH fun w' hw => ⟨(k + 1, v3), ⟨by simp only; omega, fun j y hj hy => by rcases Nat.lt_or_ge j k with hj' | hj'; exact hall j y hj' hy; obtain rfl : j = k := (by simp only at hj; omega); rw [hx] at hy; cases hy; exact hc'.2⟩, by simp only; omega, Le.of rfl rfl ⟨rfl, rfl, rfl, rfl, trivial⟩, hw.keep [1, 0] (by simp only; rw [hst]; rfl) rfl rfl, ⟨⟨_, _, rfl⟩, ⟨_, _, _, rfl⟩, trivial⟩, ⟨(nopS _).okH, trivial⟩⟩
  have hTW : xs.takeWhile (befR s) = xs.take k ∧ xs.dropWhile (befR s) = xs.drop k := by
    rcases Nat.lt_or_ge k xs.length with hlt | hge
    · have hx := hx hlt
      have hb : befR s x = false := by
        rw [decide_eq_true (by omega : (k : Int) < slen v)] at hc
        simp only [band, bor, Bool.true_and] at hc
        exact hc
      exact takeWhile_snoc hall hx hb
    · have hke : k = xs.length := by omega
      subst hke
      rw [List.take_length, List.drop_length]
      exact takeWhile_all fun j y hy => hall j y (List.getElem?_eq_some_iff.1 hy).1 hy
  have hput : putS xs s = xs.take k ++ (putM (xs.drop k) s).1 :: (putM (xs.drop k) s).2 := by unfold putS; rw [hTW.1, hTW.2]
  rw [hput] at hB
  generalize xs.take k = pre at *
  have hpre : pre.length ≤ xs.length := by rw [← hTW.1]; exact (List.takeWhile_sublist _).length_le
  repeat refine At.seq ?_
  refine At.block ?_
  refine At.loopH (fun p : Nat × Span => { N := Tryz.f59.ntmps, sl := [(0, some (.x v)), (3, some (.s (.c (.p 0 b3 0)))), (5, some (.s (.c (.o 1 vo)))), (6, some (.i p.1))], gl := [], hp := [(1, .row vo 25 3 (pre.map encS)), (0, .box b3 25 (encS p.2))], S := [], ws := w }) (fun p : Nat × Span => p.1 ≤ xs.length ∧ putM (xs.drop k) s = putM (xs.drop p.1) p.2) (fun p : Nat × Span => xs.length - p.1)
    (fun w' hw => ⟨(k, s), ⟨hk, rfl⟩, Le.of rfl rfl ⟨rfl, rfl, rfl, rfl, trivial⟩, hw.keep [1, 0] rfl rfl rfl, ⟨⟨_, _, rfl⟩, ⟨_, _, _, rfl⟩, trivial⟩, ⟨(nopS _).okH, trivial⟩⟩) ?_
  rintro ⟨i, c⟩ ⟨hi, hpm⟩
  simp only at hi hpm ⊢
  obtain ⟨x, hx⟩ : ∃ x, i < xs.length → xs[i]? = some x := by
    rcases Nat.lt_or_ge i xs.length with h' | h'
    · exact ⟨xs[i], fun _ => List.getElem?_eq_getElem h'⟩
    · exact ⟨default, fun h => by omega⟩
  repeat refine At.seq ?_
  refine At.draw tab_ok mixed (by kernel_rfl) ?_
  conv => whnf
  refine ⟨h.sl, ?_⟩
  conv => whnf
  refine ⟨by simp only [gimp]; intro h1; omega, ?_⟩
  conv => whnf
  refine ⟨by simp only [gimp]; intro h1; have := of_decide_eq_true h1; omega, ?_⟩
  conv => whnf
  refine ⟨[.i x.m], by simp only [gimp]; intro h1 w' hw; exact h.load (n := 1) hw.fr (hx (by have := of_decide_eq_true h1; omega)) rfl, ?_⟩
  conv => whnf
  refine ⟨by simp only [gimp]; intros; omega, ?_⟩
  conv => whnf
  refine ⟨by simp only [gimp]; intro h1; simp only [band, Bool.and_eq_true, decide_eq_true_eq] at h1; omega, ?_⟩
  conv => whnf
  refine ⟨[.i x.f], by simp only [gimp]; intro h1 w' hw; exact h.load (n := 1) hw.fr (hx (by simp only [band, Bool.and_eq_true, decide_eq_true_eq] at h1; omega)) rfl, ?_⟩
  conv => whnf
  repeat refine At.seq ?_
  refine At.cond rfl (fun hc => At.skip ?_) (fun hc => At.exit ?_)
  · have hc' : i < xs.length ∧ x.m = c.m ∧ x.f ≤ c.t := by
      simp only [band, Bool.and_eq_true, decide_eq_true_eq] at hc
      exact ⟨by omega, hc.1.2, hc.2⟩
    have hx := hx hc'.1
    have hnx := putM_drop (s := c) hx hc'.2
    repeat refine At.seq ?_
    refine At.block ?_
    repeat refine At.seq ?_
    refine At.planG tab_ok mixed [(1, .row vo 25 3 (pre.map encS))] (.take 0 (.take 2 (.take 3 (.take 4 (.take 5 (.take 6 (.br 1 (.take 7 (.take 8 (.br 9 (.done) (.nob)))) (.nob)))))))) (by kernel_rfl) (by kernel_rfl) ⟨rfl, trivial⟩ ?_
    conv => whnf
    refine ⟨by omega, ?_⟩
    conv => whnf
    refine ⟨by omega, ?_⟩
    conv => whnf
    refine ⟨[.i x.f], fun w' hw => h.load (n := 1) hw hx rfl, ?_⟩
    conv => whnf
    refine ⟨?_, trivial⟩
    conv => whnf
    refine ⟨⟨⟨rfl, trivial⟩, fun w' hw => hw.fr⟩, ?_⟩
    conv => whnf
    refine ⟨?_, trivial⟩
    conv => whnf
    refine ⟨⟨⟨rfl, trivial⟩, fun w' hw => hw.fr⟩, ?_⟩
    conv => whnf
    repeat refine At.seq ?_
    refine At.planG tab_ok mixed [(1, .row vo 25 3 (pre.map encS))] (.take 0 (.take 2 (.take 3 (.take 4 (.take 5 (.take 6 (.br 1 (.take 7 (.take 8 (.br 9 (.done) (.nob)))) (.nob)))))))) (by kernel_rfl) (by kernel_rfl) ⟨rfl, trivial⟩ ?_
    conv => whnf
    refine ⟨by omega, ?_⟩
    conv => whnf
    refine ⟨by omega, ?_⟩
    conv => whnf
    refine ⟨[.i x.t], fun w' hw => h.load (n := 1) hw hx rfl, ?_⟩
    conv => whnf
    refine ⟨?_, trivial⟩
    conv => whnf
    refine ⟨⟨⟨rfl, trivial⟩, fun w' hw => hw.fr⟩, ?_⟩
    conv => whnf
    refine ⟨?_, trivial⟩
    conv => whnf
    refine ⟨⟨⟨rfl, trivial⟩, fun w' hw => hw.fr⟩, ?_⟩
    conv => whnf
    repeat refine At.seq ?_
    refine At.region tab_ok ?_
    conv => whnf
    refine ⟨⟨by omega, by omega⟩, ?_⟩
    conv => whnf
    refine At.nextH fun w' hw => ⟨(i + 1, ⟨c.m, min c.f x.f, max c.t x.t⟩), ⟨by simp only; omega, by simp only; rw [hpm, hnx]⟩, by simp only; omega, Le.of rfl rfl ⟨rfl, rfl, rfl, rfl, trivial⟩, hw.keep [1, 0] rfl rfl rfl, ⟨⟨_, _, rfl⟩, ⟨_, _, _, rfl⟩, trivial⟩, ⟨(nopS _).okH, trivial⟩⟩
  have hstop : putM (xs.drop i) c = (c, xs.drop i) := putM_stop fun y hy hcy => by
    have hlt := (List.getElem?_eq_some_iff.1 hy).1
    rw [hx hlt] at hy
    cases hy
    rw [decide_eq_true (by omega : (i : Int) < slen v)] at hc
    simp [hcy] at hc
  rw [hpm, hstop] at hB
  simp only at hB
  have hsub := fun (w' : World) (hf : Ext w w') => (SlOf.rest (h.fr hf) (lo := i) (hi := slen v) rfl (by omega) hi)
  repeat refine At.seq ?_
  refine At.planG tab_ok mixed [(0, .box b3 25 (encS c))] (.take 0 (.take 1 (.take 4 (.take 5 (.take 6 (.br 2 (.br 3 (.br 7 (.take 8 (.done)) (.nob)) (.nob)) (.nob))))))) (by kernel_rfl) (by kernel_rfl) ⟨rfl, trivial⟩ ?_
  conv => whnf
  refine ⟨h.sl, ?_⟩
  conv => whnf
  refine ⟨by omega, ?_⟩
  conv => whnf
  refine ⟨by omega, ?_⟩
  conv => whnf
  refine ⟨by omega, ?_⟩
  conv => whnf
  refine ⟨?_, trivial⟩
  conv => whnf
  intro v4
  conv => whnf
  refine ⟨⟨⟨rfl, trivial⟩, fun w' hw => hw.fr⟩, ?_⟩
  conv => whnf
  refine ⟨?_, trivial⟩
  conv => whnf
  refine ⟨rfl, ?_⟩
  conv => whnf
  refine ⟨⟨rfl, by simp; omega⟩, ?_⟩
  conv => whnf
  intro v5
  conv => whnf
  refine ⟨⟨⟨rfl, trivial⟩, fun w' hw => hw.fr⟩, ?_⟩
  conv => whnf
  refine ⟨?_, trivial⟩
  conv => whnf
  refine ⟨(xs.drop i).map encS, ⟨fun w' hw => (hsub w' hw.fr).src encS_ints, nopS _⟩, ?_⟩
  conv => whnf
  refine ⟨⟨rfl, by simp; omega⟩, ?_⟩
  conv => whnf
  intro v6
  conv => whnf
  refine ⟨⟨⟨rfl, trivial⟩, fun w' hw => hw.fr⟩, ?_⟩
  conv => whnf
  repeat refine At.seq ?_
  refine At.ret (At.doneB tab_ok hB _ rfl fun w' hw => ansR_row (id := 1) hw (congrArg (fun L => some (LO.row v6 25 3 L)) (by simp : (pre.map encS ++ [encS c]) ++ (xs.drop i).map encS = (pre ++ c :: xs.drop i).map encS)) rfl rfl)
theorem filter_snoc {xs : List Span} {k : Nat} {x : Span} (hx : xs[k]? = some x) : ((xs.take (k + 1)).filter valid).foldl putS [] = if valid x = true then putS (((xs.take k).filter valid).foldl putS []) x else ((xs.take k).filter valid).foldl putS [] := by
  rw [List.take_add_one, hx, List.filter_append, List.foldl_append]
  simp only [Option.toList_some, List.filter_cons, List.filter_nil]
  split <;> rfl
theorem normR_c (xs : List Span) (S : List Nat) (v : Value) (w : World) (h : SlOf spT S w v xs) (hN : xs.length ≤ 900000) : AnsR Tryz.prog 34 [v] [.row 25 3 ((norm xs).map encS)] w := by
  replace h := h.avoid (S' := []) (fun b hb => by cases hb)
  have hl := h.len
  have hpl : ∀ k, (((xs.take k).filter valid).foldl putS []).length ≤ 900000 := fun k => by
    have h1 := puts_len ((xs.take k).filter valid) []
    have h2 := List.length_filter_le valid (xs.take k)
    simp only [List.length_nil, List.length_take] at *
    omega
  rw [← normR_eq]
  refine calls_plainB [.x v] Tryz.func34 rfl rfl (Nat.le_of_ble_eq_true rfl) rfl fun B hB => ?_
  repeat refine At.seq ?_
  refine At.region tab_ok ?_
  conv => whnf
  repeat refine At.seq ?_
  refine At.region tab_ok ?_
  conv => whnf
  repeat refine At.seq ?_
  refine At.region tab_ok ?_
  conv => whnf
  repeat refine At.seq ?_
  refine At.block ?_
  refine At.loopH (fun p : Nat × Value => { N := Tryz.f34.ntmps, sl := [(0, some (.x v)), (3, some (.s (.c (.o 0 p.2)))), (4, some (.i p.1))], gl := [], hp := [(0, .row p.2 25 3 ((((xs.take p.1).filter valid).foldl putS []).map encS))], S := [], ws := w }) (fun p : Nat × Value => p.1 ≤ xs.length) (fun p : Nat × Value => xs.length - p.1)
    (fun w' hw => ⟨(0, .slice none 0 0), Nat.zero_le _, Le.of rfl rfl ⟨rfl, rfl, rfl, trivial⟩, hw.nil rfl rfl rfl, ⟨⟨_, _, _, rfl⟩, trivial⟩, ⟨(nopS _).okH, trivial⟩⟩) ?_
  rintro ⟨k, vo⟩ hk
  simp only at hk ⊢
  repeat refine At.seq ?_
  refine At.region tab_ok ?_
  conv => whnf
  refine ⟨h.sl, ?_⟩
  conv => whnf
  repeat refine At.seq ?_
  refine At.cond rfl (fun hc => At.skip ?_) (fun hc => At.exit ?_)
  · have hlt : k < xs.length := by have := of_decide_eq_true hc; (try simp only [List.length_map] at this); omega
    obtain ⟨x, hx⟩ : ∃ x, xs[k]? = some x := ⟨_, List.getElem?_eq_getElem hlt⟩
    have hst := filter_snoc hx
    have hp := hpl k
    generalize ((xs.take k).filter valid).foldl putS [] = out at *
    repeat refine At.seq ?_
    refine At.block ?_
    repeat refine At.seq ?_
    refine At.region tab_ok ?_
    conv => whnf
    refine ⟨by omega, ?_⟩
    conv => whnf
    refine ⟨by omega, ?_⟩
    conv => whnf
    refine ⟨encS x, fun w' hw => h.load (n := 3) hw.fr hx rfl, ?_⟩
    conv => whnf
    refine ans_call b109 rfl (fun w' hw => validR_c x w') ?_
    conv => whnf
    repeat refine At.seq ?_
    refine At.cond rfl (fun hq => ?_) (fun hq => ?_)
    · repeat refine At.seq ?_
      refine At.region tab_ok ?_
      conv => whnf
      refine ⟨by omega, ?_⟩
      conv => whnf
      refine ⟨by omega, ?_⟩
      conv => whnf
      refine ⟨encS x, fun w' hw => h.load (n := 3) hw.fr hx rfl, ?_⟩
      conv => whnf
      refine ansR_call b110 (rd1 (nopS _)) (fun w' hw => put_c out x vo w' (slS _ (hw.row (id := 0) rfl) (by omega)) (by omega)) ?_
      intro v2
      conv => whnf
      repeat refine At.seq ?_
      refine At.region tab_ok ?_
      conv => whnf
      refine ⟨⟨by omega, by omega⟩, ?_⟩
      conv => whnf
      refine At.nextH fun w' hw => ⟨(k + 1, v2), by simp only; omega, by simp only; omega, Le.of rfl rfl ⟨rfl, rfl, rfl, trivial⟩, hw.ren [1] ((by simp only; rw [hst, if_pos hq]; rfl)) rfl rfl, ⟨⟨_, _, _, rfl⟩, trivial⟩, ⟨(nopS _).okH, trivial⟩⟩
    · refine At.skip ?_
      repeat refine At.seq ?_
      refine At.region tab_ok ?_
      conv => whnf
      refine ⟨⟨by omega, by omega⟩, ?_⟩
      conv => whnf
      refine At.nextH fun w' hw => ⟨(k + 1, vo), by simp only; omega, by simp only; omega, Le.of rfl rfl ⟨rfl, rfl, rfl, trivial⟩, hw.keep [0] (by simp only; rw [hst, if_neg (by rw [hq]; decide)]; rfl) rfl rfl, ⟨⟨_, _, _, rfl⟩, trivial⟩, ⟨(nopS _).okH, trivial⟩⟩
  have hge : k = xs.length := by have := of_decide_eq_false hc; omega
  subst hge
  rw [List.take_length]
  repeat refine At.seq ?_
  refine At.region tab_ok ?_
  conv => whnf
  repeat refine At.seq ?_
  refine At.ret (At.doneB tab_ok hB _ rfl fun w' hw => ansR_row (id := 0) hw rfl rfl rfl)
theorem countR_c (xs : List Span) (S : List Nat) (v : Value) (w : World) (h : SlOf spT S w v xs) (hN : xs.length ≤ 900000) : Ans Tryz.prog 71 [v] (.i (count xs)) w := by
  replace h := h.avoid (S' := []) (fun b hb => by cases hb)
  have hnl := norm_len xs
  have hval := norm_valid (l := xs)
  have hcount : count xs = total (norm xs) := rfl
  rw [hcount]
  refine calls_plainB [.x v] Tryz.func71 rfl rfl (Nat.le_of_ble_eq_true rfl) rfl fun B hB => ?_
  repeat refine At.seq ?_
  refine At.region tab_ok ?_
  conv => whnf
  repeat refine At.seq ?_
  refine At.region tab_ok ?_
  conv => whnf
  repeat refine At.seq ?_
  refine At.region tab_ok ?_
  conv => whnf
  refine ansR_call b74 (rd1 (nopS (norm xs))) (fun w' hw => normR_c xs [] v w' (h.fr hw.fr) hN) ?_
  intro v1
  conv => whnf
  generalize norm xs = ys at *
  have hs : ∀ k, 0 ≤ total (ys.take k) ∧ total (ys.take k) ≤ 1048576000000 := fun k => by
    have := total_bound (l := ys.take k) fun s hs => hval s (List.mem_of_mem_take hs)
    have : (ys.take k).length ≤ ys.length := by simp; omega
    omega
  repeat refine At.seq ?_
  refine At.region tab_ok ?_
  conv => whnf
  repeat refine At.seq ?_
  refine At.block ?_
  refine At.loopH (fun k : Nat => { N := Tryz.f71.ntmps, sl := [(3, some (.i (total (ys.take k)))), (4, some (.s (.c (.o 0 v1)))), (5, some (.i k))], gl := [], hp := [(0, .row v1 25 3 (ys.map encS))], S := [], ws := w }) (fun k : Nat => k ≤ ys.length) (fun k : Nat => ys.length - k)
    (fun w' hw => ⟨0, Nat.zero_le _, Le.of rfl rfl ⟨rfl, rfl, rfl, trivial⟩, hw.same rfl rfl rfl, ⟨⟨_, _, _, rfl⟩, trivial⟩, ⟨(nopS _).okH, trivial⟩⟩) ?_
  intro k hk
  repeat refine At.seq ?_
  refine At.region tab_ok ?_
  conv => whnf
  refine ⟨rfl, ?_⟩
  conv => whnf
  repeat refine At.seq ?_
  refine At.cond rfl (fun hc => At.skip ?_) (fun hc => At.exit ?_)
  · have hlt : k < ys.length := by have := of_decide_eq_true hc; (try simp only [List.length_map] at this); omega
    obtain ⟨x, hx⟩ : ∃ x, ys[k]? = some x := ⟨_, List.getElem?_eq_getElem hlt⟩
    have hvx := valid_iff.1 (hval x (List.mem_of_getElem? hx))
    have e : total (ys.take (k + 1)) = total (ys.take k) + (x.t - x.f) := by rw [List.take_add_one, hx, total_append]; simp [total]
    have h1 := hs k
    repeat refine At.seq ?_
    refine At.block ?_
    repeat refine At.seq ?_
    refine At.draw tab_ok mixed (by kernel_rfl) ?_
    conv => whnf
    refine ⟨rfl, ?_⟩
    conv => whnf
    refine ⟨by omega, ?_⟩
    conv => whnf
    refine ⟨by (try simp only [List.length_map]); omega, ?_⟩
    conv => whnf
    refine ⟨encS x, ⟨rfl, rfl, by omega, by rw [Int.toNat_natCast, List.getElem?_map, hx]; rfl⟩, ?_⟩
    conv => whnf
    refine ⟨⟨by omega, by omega⟩, ?_⟩
    conv => whnf
    refine ⟨rfl, ?_⟩
    conv => whnf
    refine ⟨by omega, ?_⟩
    conv => whnf
    refine ⟨by (try simp only [List.length_map]); omega, ?_⟩
    conv => whnf
    refine ⟨encS x, ⟨rfl, rfl, by omega, by rw [Int.toNat_natCast, List.getElem?_map, hx]; rfl⟩, ?_⟩
    conv => whnf
    refine ⟨⟨by omega, by omega⟩, ?_⟩
    conv => whnf
    repeat refine At.seq ?_
    refine At.region tab_ok ?_
    conv => whnf
    refine ⟨⟨by omega, by omega⟩, ?_⟩
    conv => whnf
    refine At.nextH fun w' hw => ⟨k + 1, by omega, by omega, Le.of rfl rfl ⟨congrArg (Value.int .i64) (by rw [e]; omega), rfl, rfl, trivial⟩, hw.keep [0] rfl rfl rfl, ⟨⟨_, _, _, rfl⟩, trivial⟩, ⟨(nopS _).okH, trivial⟩⟩
  have hge : k = ys.length := by have := of_decide_eq_false hc; simp only [List.length_map] at this; omega
  subst hge
  repeat refine At.seq ?_
  refine At.region tab_ok ?_
  conv => whnf
  repeat refine At.seq ?_
  refine At.ret (At.doneB tab_ok hB _ rfl fun w' hw => ⟨?_, hw.fr⟩)
  rw [List.take_length]
end Go.Proofs.YtjilbkioieicbaaGreat

/- The reference of rights: small functions. -/
namespace Go.Proofs.YtjilbkioieicbaaGreat
open Go.Vc Rt
set_option linter.unusedVariables false
set_option linter.unusedSimpArgs false
theorem within3_c (n f t : Int) (w : World) : Ans Tryz.prog 42 [vI n, vI f, vI t] (.b (decide (f ≤ n) && decide (n ≤ t))) w := by
  refine calls_plainB [.i n, .i f, .i t] Tryz.func42 rfl rfl (Nat.le_of_ble_eq_true rfl) rfl fun B hB => ?_
  repeat refine At.seq ?_
  refine At.region tab_ok ?_
  conv => whnf
  repeat refine At.seq ?_
  refine At.region tab_ok ?_
  conv => whnf
  repeat refine At.seq ?_
  refine At.ret (At.doneB tab_ok hB _ rfl fun w' hw => ⟨?_, hw.fr⟩)
  simp only [RV.den, SV.den, CV.den, band]
theorem keyR_c (n : Int) (w : World) : Ans Tryz.prog 43 [vI n] (.b (isKey n)) w := by
  refine calls_plainB [.i n] Tryz.func43 rfl rfl (Nat.le_of_ble_eq_true rfl) rfl fun B hB => ?_
  repeat refine At.seq ?_
  refine At.region tab_ok ?_
  conv => whnf
  repeat refine At.seq ?_
  refine At.region tab_ok ?_
  conv => whnf
  refine ans_call b131 rfl (fun w' hw => within3_c n 0 199 w') ?_
  conv => whnf
  repeat refine At.seq ?_
  refine At.ret (At.doneB tab_ok hB _ rfl fun w' hw => ⟨?_, hw.fr⟩)
  refine congrArg (fun b => Ending.returned (Value.bool b)) ?_
  unfold isKey
  rw [Bool.eq_iff_iff]
  simp only [Bool.and_eq_true, decide_eq_true_eq]
  omega
theorem rightR_c (d : Deed) (S : List Nat) (v : Value) (w : World) (h : SlOf spT S w v d.spans) : Ans Tryz.prog 26 [vD d v] (.b (right d)) w := by
  replace h := h.avoid (S' := []) (fun b hb => by cases hb)
  have hl := h.len
  refine calls_plainB [.s (.agg (encD d v))] Tryz.func26 rfl rfl (Nat.le_of_ble_eq_true rfl) rfl fun B hB => ?_
  repeat refine At.seq ?_
  refine At.region tab_ok ?_
  conv => whnf
  refine ⟨h.sl.one, ?_⟩
  conv => whnf
  intro b1
  conv => whnf
  repeat refine At.seq ?_
  refine At.region tab_ok ?_
  conv => whnf
  refine ans_call b131 rfl (fun w' hw => within3_c d.mark 0 1073741824 w') ?_
  conv => whnf
  refine ⟨.b (isKey d.author), by simp only [gimp]; intro _; exact ans_quiet b132 (fun w _ => keyR_c d.author w), ?_⟩
  conv => whnf
  repeat refine At.seq ?_
  refine At.cond rfl (fun hq => ?_) (fun hq => ?_)
  · repeat refine At.seq ?_
    refine At.region tab_ok ?_
    conv => whnf
    repeat refine At.seq ?_
    refine At.ret (At.doneB tab_ok hB _ rfl fun w' hw => ⟨?_, hw.fr⟩)
    simp only [bor, Bool.or_eq_true, Bool.not_eq_true', Bool.and_eq_false_iff, decide_eq_false_iff_not] at hq
    have : d.mark < 0 ∨ 1073741824 < d.mark ∨ isKey d.author = false ∨ d.spans.length = 0 ∨ normal d.spans = false := by
      rcases hq with (hq | hq) | hq
      · exact .inl (by omega)
      · exact .inr (.inl (by omega))
      · exact .inr (.inr (.inl hq))
    unfold right; rw [if_pos this]
  have hq1 : (0 ≤ d.mark ∧ d.mark ≤ 1073741824) ∧ isKey d.author = true := by
    simp only [bor, Bool.or_eq_false_iff, Bool.not_eq_false', Bool.and_eq_true, decide_eq_true_eq] at hq
    exact hq
  refine At.skip ?_
  repeat refine At.seq ?_
  refine At.region tab_ok ?_
  conv => whnf
  refine ⟨h.sl, ?_⟩
  conv => whnf
  refine ⟨.b (normal d.spans), by simp only [gimp]; intro _; exact ans_quiet b133 (fun w' hw => normalR_c d.spans [] v w' (h.fr hw.fr)), ?_⟩
  conv => whnf
  obtain ⟨sp, hsp⟩ : ∃ sp, sp = (bif decide (0 < slen v) then normal d.spans else false) := ⟨_, rfl⟩
  have hspF : sp = false → right d = false := fun e => by
    rw [hsp] at e
    simp only [band, Bool.and_eq_false_iff, decide_eq_false_iff_not] at e
    unfold right
    rw [if_pos]
    rcases e with e | e
    · exact .inr (.inr (.inr (.inl (by omega))))
    · exact .inr (.inr (.inr (.inr e)))
  have hspT : sp = true → 0 < d.spans.length ∧ right d = (if d.kind = 0 then (match d.spans with | [s] => decide (s.m = d.mark) && decide (s.f = 0) | _ => false) else if d.kind = 1 then isKey d.who && !decide (d.who = d.author) else if d.kind = 2 then isKey d.who && (!decide (d.who = d.author) && (decide (0 ≤ d.til) && decide (d.til ≤ 1048576))) else decide (d.kind = 3)) := fun e => by
    rw [hsp] at e
    simp only [band, Bool.and_eq_true, decide_eq_true_eq] at e
    refine ⟨by omega, ?_⟩
    have hnot : ¬ (d.mark < 0 ∨ 1073741824 < d.mark ∨ isKey d.author = false ∨ d.spans.length = 0 ∨ normal d.spans = false) := by
      rintro (h | h | h | h | h)
      · omega
      · omega
      · rw [hq1.2] at h; cases h
      · omega
      · rw [e.2] at h; cases h
    unfold right
    rw [if_neg hnot]
    rfl
  rw [← hsp]
  obtain ⟨s0, hs0⟩ : ∃ s, 0 < d.spans.length → d.spans[0]? = some s := by
    rcases Nat.eq_zero_or_pos d.spans.length with h0 | h0
    · exact ⟨default, fun h => by omega⟩
    · exact ⟨_, fun _ => List.getElem?_eq_getElem h0⟩
  repeat refine At.seq ?_
  refine At.region tab_ok ?_
  conv => whnf
  repeat refine At.seq ?_
  refine At.block ?_
  repeat refine At.seq ?_
  refine At.region tab_ok ?_
  conv => whnf
  repeat refine At.seq ?_
  refine At.cond rfl (fun hq => ?_) (fun hq => ?_)
  · have hk : d.kind = 0 := of_decide_eq_true hq
    repeat refine At.seq ?_
    refine At.draw tab_ok mixed (by kernel_rfl) ?_
    conv => whnf
    refine ⟨by simp only [gimp]; intros; exact h.sl, ?_⟩
    conv => whnf
    refine ⟨by simp only [gimp]; intros; omega, ?_⟩
    conv => whnf
    refine ⟨by simp only [gimp]; intro h1; simp only [band, Bool.and_eq_true, decide_eq_true_eq] at h1; omega, ?_⟩
    conv => whnf
    refine ⟨[.i s0.m], by simp only [gimp]; intro h1 w' hw; exact h.load (i := 0) (n := 1) hw.fr (hs0 (by simp only [band, Bool.and_eq_true, decide_eq_true_eq] at h1; omega)) rfl, ?_⟩
    conv => whnf
    refine ⟨by simp only [gimp]; intros; omega, ?_⟩
    conv => whnf
    refine ⟨by simp only [gimp]; intro h1; simp only [band, Bool.and_eq_true, decide_eq_true_eq] at h1; omega, ?_⟩
    conv => whnf
    refine ⟨[.i s0.f], by simp only [gimp]; intro h1 w' hw; exact h.load (i := 0) (n := 1) hw.fr (hs0 (by simp only [band, Bool.and_eq_true, decide_eq_true_eq] at h1; omega)) rfl, ?_⟩
    conv => whnf
    repeat refine At.seq ?_
    refine At.ret (At.doneB tab_ok hB _ rfl fun w' hw => ⟨?_, hw.fr⟩)
    refine congrArg (fun b => Ending.returned (Value.bool b)) ?_
    cases e : sp
    · rw [hspF e]; rfl
    · obtain ⟨h1, h2⟩ := hspT e
      rw [h2, if_pos hk]
      have hs0 := hs0 h1
      simp only [band, hl]
      match hspn : d.spans, hs0 with
      | [s], hs0 => simp at hs0; subst hs0; simp
      | s :: s' :: r, hs0 => simp; omega
  have hk0 : ¬ d.kind = 0 := of_decide_eq_false hq
  repeat refine At.seq ?_
  refine At.region tab_ok ?_
  conv => whnf
  repeat refine At.seq ?_
  refine At.cond rfl (fun hq => ?_) (fun hq => ?_)
  · have hk : d.kind = 1 := of_decide_eq_true hq
    repeat refine At.seq ?_
    refine At.region tab_ok ?_
    conv => whnf
    refine ⟨.b (isKey d.who), by simp only [gimp]; intro _; exact ans_quiet b132 (fun w _ => keyR_c d.who w), ?_⟩
    conv => whnf
    repeat refine At.seq ?_
    refine At.ret (At.doneB tab_ok hB _ rfl fun w' hw => ⟨?_, hw.fr⟩)
    refine congrArg (fun b => Ending.returned (Value.bool b)) ?_
    cases e : sp
    · rw [hspF e]; rfl
    · rw [(hspT e).2, if_neg hk0, if_pos hk]; simp only [band, Bool.true_and]
  have hk1 : ¬ d.kind = 1 := of_decide_eq_false hq
  repeat refine At.seq ?_
  refine At.region tab_ok ?_
  conv => whnf
  repeat refine At.seq ?_
  refine At.cond rfl (fun hq => ?_) (fun hq => ?_)
  · have hk : d.kind = 2 := of_decide_eq_true hq
    repeat refine At.seq ?_
    refine At.region tab_ok ?_
    conv => whnf
    refine ⟨.b (isKey d.who), by simp only [gimp]; intro _; exact ans_quiet b132 (fun w _ => keyR_c d.who w), ?_⟩
    conv => whnf
    refine ⟨.b (decide (0 ≤ d.til) && decide (d.til ≤ 1048576)), by simp only [gimp]; intro _; exact ans_quiet b131 (fun w _ => within3_c d.til 0 1048576 w), ?_⟩
    conv => whnf
    repeat refine At.seq ?_
    refine At.ret (At.doneB tab_ok hB _ rfl fun w' hw => ⟨?_, hw.fr⟩)
    refine congrArg (fun b => Ending.returned (Value.bool b)) ?_
    cases e : sp
    · rw [hspF e]; rfl
    · rw [(hspT e).2, if_neg hk0, if_neg hk1, if_pos hk]; simp only [band, Bool.true_and, Bool.and_assoc]
  have hk2 : ¬ d.kind = 2 := of_decide_eq_false hq
  repeat refine At.seq ?_
  refine At.region tab_ok ?_
  conv => whnf
  repeat refine At.seq ?_
  refine At.cond rfl (fun hq => ?_) (fun hq => ?_)
  · have hk : d.kind = 3 := of_decide_eq_true hq
    repeat refine At.seq ?_
    refine At.region tab_ok ?_
    conv => whnf
    repeat refine At.seq ?_
    refine At.ret (At.doneB tab_ok hB _ rfl fun w' hw => ⟨?_, hw.fr⟩)
    refine congrArg (fun b => Ending.returned (Value.bool b)) ?_
    cases e : sp
    · rw [hspF e]
    · rw [(hspT e).2, if_neg hk0, if_neg hk1, if_neg hk2]; simp [hk]
  have hk3 : ¬ d.kind = 3 := of_decide_eq_false hq
  refine At.skip ?_
  repeat refine At.seq ?_
  refine At.region tab_ok ?_
  conv => whnf
  repeat refine At.seq ?_
  refine At.ret (At.doneB tab_ok hB _ rfl fun w' hw => ⟨?_, hw.fr⟩)
  refine congrArg (fun b => Ending.returned (Value.bool b)) ?_
  cases e : sp
  · rw [hspF e]
  · rw [(hspT e).2, if_neg hk0, if_neg hk1, if_neg hk2]; simp [hk3]
def partL (l : Lot) (f t : Int) : Lot := { l with s := ⟨l.s.m, f, t⟩ }
theorem part_c (l : Lot) (f t : Int) (w : World) : Ans Tryz.prog 70 [vL l, vI f, vI t] (.s (.agg (encL (partL l f t)))) w := by
  refine calls_plainB [.s (.agg (encL l)), .i f, .i t] Tryz.func70 rfl rfl (Nat.le_of_ble_eq_true rfl) rfl fun B hB => ?_
  repeat refine At.seq ?_
  refine At.region tab_ok ?_
  conv => whnf
  intro b1
  conv => whnf
  intro b2
  conv => whnf
  repeat refine At.seq ?_
  refine At.region tab_ok ?_
  conv => whnf
  repeat refine At.seq ?_
  refine At.region tab_ok ?_
  conv => whnf
  repeat refine At.seq ?_
  refine At.region tab_ok ?_
  conv => whnf
  repeat refine At.seq ?_
  refine At.ret (At.doneB tab_ok hB _ rfl fun w' hw => ⟨rfl, hw.fr⟩)
theorem inR_c (l : Lot) (spans : List Span) (S : List Nat) (v : Value) (w : World) (h : SlOf spT S w v spans) : Ans Tryz.prog 49 [vL l, v] (.b (hasS spans l.s.m l.s.f)) w := by
  replace h := h.avoid (S' := []) (fun b hb => by cases hb)
  refine calls_plainB [.s (.agg (encL l)), .x v] Tryz.func49 rfl rfl (Nat.le_of_ble_eq_true rfl) rfl fun B hB => ?_
  repeat refine At.seq ?_
  refine At.region tab_ok ?_
  conv => whnf
  intro b1
  conv => whnf
  repeat refine At.seq ?_
  refine At.region tab_ok ?_
  conv => whnf
  refine ans_call b135 rfl (fun w' hw => hasR_c spans l.s.m l.s.f [] v w' (h.fr hw.fr)) ?_
  conv => whnf
  repeat refine At.seq ?_
  refine At.ret (At.doneB tab_ok hB _ rfl fun w' hw => ⟨rfl, hw.fr⟩)
theorem moved_c (l : Lot) (d : Deed) (u : Value) (w : World) (hu : isSl u) : Ans Tryz.prog 50 [vL l, vD d u] (.s (.agg (encL (movedL d l)))) w := by
  refine calls_plainB [.s (.agg (encL l)), .s (.agg (encD d u))] Tryz.func50 rfl rfl (Nat.le_of_ble_eq_true rfl) rfl fun B hB => ?_
  repeat refine At.seq ?_
  refine At.region tab_ok ?_
  conv => whnf
  intro b2
  conv => whnf
  refine ⟨hu.one, ?_⟩
  conv => whnf
  intro b3
  conv => whnf
  intro b4
  conv => whnf
  repeat refine At.seq ?_
  refine At.region tab_ok ?_
  conv => whnf
  repeat refine At.seq ?_
  refine At.join (fun q : Unit => { N := Tryz.f50.ntmps, sl := [(2, some (.s (.c (.p 0 b2 0)))), (4, some (.s (.c (.p 2 b4 0))))], gl := [], hp := [(2, .box b4 27 (encL ⟨⟨0, 0, 0⟩, 0, 0, 0, 0⟩)), (0, .box b2 27 (encL (movedL d l)))], S := [], ws := w }) (fun q : Unit => True) ?_ ?_
  · repeat refine At.seq ?_
    refine At.block ?_
    repeat refine At.seq ?_
    refine At.region tab_ok ?_
    conv => whnf
    repeat refine At.seq ?_
    refine At.cond rfl (fun hq => ?_) (fun hq => ?_)
    · have hk : d.kind = 1 := of_decide_eq_true hq
      repeat refine At.seq ?_
      refine At.region tab_ok ?_
      conv => whnf
      repeat refine At.seq ?_
      refine At.region tab_ok ?_
      conv => whnf
      repeat refine At.seq ?_
      refine At.region tab_ok ?_
      conv => whnf
      refine At.meet fun w' hw => ⟨(), trivial, Le.of rfl rfl ⟨rfl, rfl, trivial⟩, hw.keep [2, 0] (by unfold movedL; rw [if_pos hk]; rfl) rfl rfl, ⟨⟨_, _, rfl⟩, ⟨_, _, rfl⟩, trivial⟩, trivial⟩
    have hk1 : ¬ d.kind = 1 := of_decide_eq_false hq
    repeat refine At.seq ?_
    refine At.region tab_ok ?_
    conv => whnf
    repeat refine At.seq ?_
    refine At.cond rfl (fun hq => ?_) (fun hq => ?_)
    · have hk : d.kind = 2 := of_decide_eq_true hq
      repeat refine At.seq ?_
      refine At.region tab_ok ?_
      conv => whnf
      repeat refine At.seq ?_
      refine At.region tab_ok ?_
      conv => whnf
      refine At.meet fun w' hw => ⟨(), trivial, Le.of rfl rfl ⟨rfl, rfl, trivial⟩, hw.keep [2, 0] (by unfold movedL; rw [if_neg hk1, if_pos hk]; rfl) rfl rfl, ⟨⟨_, _, rfl⟩, ⟨_, _, rfl⟩, trivial⟩, trivial⟩
    have hk2 : ¬ d.kind = 2 := of_decide_eq_false hq
    repeat refine At.seq ?_
    refine At.region tab_ok ?_
    conv => whnf
    repeat refine At.seq ?_
    refine At.cond rfl (fun hq => ?_) (fun hq => ?_)
    · have hk : d.kind = 3 := of_decide_eq_true hq
      repeat refine At.seq ?_
      refine At.region tab_ok ?_
      conv => whnf
      refine At.meet fun w' hw => ⟨(), trivial, Le.of rfl rfl ⟨rfl, rfl, trivial⟩, hw.keep [2, 0] (by unfold movedL; rw [if_neg hk1, if_neg hk2, if_pos hk]; rfl) rfl rfl, ⟨⟨_, _, rfl⟩, ⟨_, _, rfl⟩, trivial⟩, trivial⟩
    have hk3 : ¬ d.kind = 3 := of_decide_eq_false hq
    refine At.skip ?_
    refine At.meet fun w' hw => ⟨(), trivial, Le.of rfl rfl ⟨rfl, rfl, trivial⟩, hw.keep [2, 0] (by unfold movedL; rw [if_neg hk1, if_neg hk2, if_neg hk3]; rfl) rfl rfl, ⟨⟨_, _, rfl⟩, ⟨_, _, rfl⟩, trivial⟩, trivial⟩
  intro _ _
  repeat refine At.seq ?_
  refine At.region tab_ok ?_
  conv => whnf
  repeat refine At.seq ?_
  refine At.ret (At.doneB tab_ok hB _ rfl fun w' hw => ⟨rfl, hw.fr⟩)
end Go.Proofs.YtjilbkioieicbaaGreat

/- The reference of rights: cutting, merging, putting in. -/
namespace Go.Vc
/-- Ways meet at a block's end. -/
theorem At.joinQ {P : Program} {Q : Exit → Act → World → Prop} {ρ : Type} (F : ρ → St) (Inv : ρ → Prop) {st : St} {x : Code} (h1 : At st (x.wp P (Exit.then (Meets F Inv) Q))) (h2 : ∀ p, Inv p → At (F p) (Q .normal)) : At st (x.wp P Q) :=
  ⟨fun hwf a w hr hw => wp_mono (h1.out hwf a w hr hw) (by
    intro e a w hq
    cases e with
    | normal => obtain ⟨p, hi, hwf', hr', hw'⟩ := hq.out; exact (h2 p hi).out hwf' a w hr' hw'
    | _ => exact hq)⟩
end Go.Vc
namespace Go.Proofs.YtjilbkioieicbaaGreat
open Go.Vc Rt
set_option linter.unusedVariables false
set_option linter.unusedSimpArgs false
def cutOne (s : Span) (l : Lot) : List Lot :=
  if l.s.m ≠ s.m ∨ l.s.t ≤ s.f ∨ s.t ≤ l.s.f then [l]
  else (if l.s.f < s.f then [partL l l.s.f s.f] else []) ++ [partL l (max l.s.f s.f) (min l.s.t s.t)] ++ (if s.t < l.s.t then [partL l s.t l.s.t] else [])
def cutR (s : Span) (L : List Lot) : List Lot := L.flatMap (cutOne s)
theorem split_none {m n : Int} : ∀ {L : List Lot}, (∀ x ∈ L, cutsIn m n x = false) → split m n L = L
  | [], _ => rfl
  | l :: L, h => by
    simp only [split]
    rw [if_neg (by rw [h l (List.mem_cons_self ..)]; decide), split_none fun x hx => h x (List.mem_cons_of_mem _ hx)]
theorem split_append {m n : Int} : ∀ {A B : List Lot}, Ord (A ++ B) → split m n (A ++ B) = split m n A ++ split m n B
  | [], B, _ => rfl
  | l :: A, B, h => by
    simp only [List.cons_append, split]
    split
    · rename_i hc
      have hb : ∀ x ∈ B, cutsIn m n x = false := fun x hx => by
        have hbef := (List.pairwise_cons.1 h.ord).1 x (List.mem_append_right _ hx)
        have c := cutsIn_iff.1 hc
        refine Bool.eq_false_iff.2 fun hc' => ?_
        have c' := cutsIn_iff.1 hc'
        unfold bef at hbef
        omega
      rw [split_none hb]; rfl
    · rw [split_append (ord_tail h)]; rfl
theorem cut_one {s : Span} {l : Lot} (hs : s.f < s.t) (hl : l.s.f < l.s.t) : cutAt s [l] = cutOne s l := by
  unfold cutAt cutOne
  simp only [split]
  by_cases hm : l.s.m = s.m
  · by_cases h1 : l.s.f < s.f ∧ s.f < l.s.t
    · have c1 : cutsIn s.m s.f l = true := cutsIn_iff.2 ⟨hm, h1⟩
      rw [if_pos c1]
      simp only [split]
      have c2 : cutsIn s.m s.t (lotTo l s.f) = false := Bool.eq_false_iff.2 fun h => by have := cutsIn_iff.1 h; simp only [lotTo] at this; omega
      rw [if_neg (by rw [c2]; decide), if_neg (show ¬ (l.s.m ≠ s.m ∨ l.s.t ≤ s.f ∨ s.t ≤ l.s.f) by omega), if_pos h1.1]
      by_cases h2 : s.t < l.s.t
      · have c3 : cutsIn s.m s.t (lotFrom l s.f) = true := cutsIn_iff.2 (by simp only [lotFrom]; omega)
        rw [if_pos c3, if_pos h2]
        have e1 : max l.s.f s.f = s.f := by omega
        have e2 : min l.s.t s.t = s.t := by omega
        rw [e1, e2]
        rfl
      · have c3 : cutsIn s.m s.t (lotFrom l s.f) = false := Bool.eq_false_iff.2 fun h => by have := cutsIn_iff.1 h; simp only [lotFrom] at this; omega
        rw [if_neg (by rw [c3]; decide), if_neg h2]
        have e1 : max l.s.f s.f = s.f := by omega
        have e2 : min l.s.t s.t = l.s.t := by omega
        rw [e1, e2]
        rfl
    · have c1 : cutsIn s.m s.f l = false := Bool.eq_false_iff.2 fun h => by have := cutsIn_iff.1 h; omega
      rw [if_neg (by rw [c1]; decide)]
      simp only [split]
      by_cases h2 : l.s.f < s.t ∧ s.t < l.s.t
      · have c2 : cutsIn s.m s.t l = true := cutsIn_iff.2 ⟨hm, h2⟩
        rw [if_pos c2, if_neg (show ¬ (l.s.m ≠ s.m ∨ l.s.t ≤ s.f ∨ s.t ≤ l.s.f) by omega), if_neg (show ¬ l.s.f < s.f by omega), if_pos h2.2]
        have e1 : max l.s.f s.f = l.s.f := by omega
        have e2 : min l.s.t s.t = s.t := by omega
        rw [e1, e2]
        rfl
      · have c2 : cutsIn s.m s.t l = false := Bool.eq_false_iff.2 fun h => by have := cutsIn_iff.1 h; omega
        rw [if_neg (by rw [c2]; decide)]
        by_cases h3 : l.s.t ≤ s.f ∨ s.t ≤ l.s.f
        · rw [if_pos (show l.s.m ≠ s.m ∨ l.s.t ≤ s.f ∨ s.t ≤ l.s.f by omega)]
        · rw [if_neg (show ¬ (l.s.m ≠ s.m ∨ l.s.t ≤ s.f ∨ s.t ≤ l.s.f) by omega), if_neg (show ¬ l.s.f < s.f by omega), if_neg (show ¬ s.t < l.s.t by omega)]
          have e1 : max l.s.f s.f = l.s.f := by omega
          have e2 : min l.s.t s.t = l.s.t := by omega
          rw [e1, e2]
          rfl
  · have c1 : cutsIn s.m s.f l = false := Bool.eq_false_iff.2 fun h => hm (cutsIn_iff.1 h).1
    have c2 : cutsIn s.m s.t l = false := Bool.eq_false_iff.2 fun h => hm (cutsIn_iff.1 h).1
    rw [if_neg (by rw [c1]; decide)]
    simp only [split]
    rw [if_neg (by rw [c2]; decide), if_pos (.inl hm)]
theorem cutR_eq {s : Span} (hs : s.f < s.t) : ∀ {L : List Lot}, Ord L → cutR s L = cutAt s L
  | [], _ => rfl
  | l :: L, h => by
    have hl := h.ok l (List.mem_cons_self ..)
    unfold lotOk at hl
    have e : cutAt s ([l] ++ L) = cutAt s [l] ++ cutAt s L := by
      unfold cutAt
      have h1 : split s.m s.f ([l] ++ L) = split s.m s.f [l] ++ split s.m s.f L := split_append h
      have h2 : Ord (split s.m s.f [l] ++ split s.m s.f L) := by rw [← h1]; exact split_ord h
      rw [h1, split_append h2]
    have ih := cutR_eq hs (ord_tail h)
    unfold cutR at ih ⊢
    rw [List.flatMap_cons, ih]
    show _ = cutAt s ([l] ++ L)
    rw [e, cut_one hs (by omega)]
theorem cutOne_len (s : Span) (l : Lot) : (cutOne s l).length ≤ 3 := by
  unfold cutOne
  split
  · simp
  · split <;> split <;> simp
theorem cutR_len (s : Span) : ∀ L : List Lot, (cutR s L).length ≤ 3 * L.length
  | [] => by simp [cutR]
  | l :: L => by
    have ih := cutR_len s L
    have := cutOne_len s l
    unfold cutR at *
    rw [List.flatMap_cons, List.length_append, List.length_cons]
    omega
theorem cutR_snoc {s : Span} {L : List Lot} {k : Nat} {x : Lot} (hx : L[k]? = some x) : cutR s (L.take (k + 1)) = cutR s (L.take k) ++ cutOne s x := by
  unfold cutR; rw [List.take_add_one, hx]; simp
theorem cutR_c (L : List Lot) (s : Span) (v : Value) (w : World) (h : SlOf loT [] w v L) (hN : L.length ≤ 1000000) : AnsR Tryz.prog 47 [v, vS s] [.row 27 7 ((cutR s L).map encL)] w := by
  have hl := h.len
  refine calls_plainB [.x v, .s (.agg (encS s))] Tryz.func47 rfl rfl (Nat.le_of_ble_eq_true rfl) rfl fun B hB => ?_
  repeat refine At.seq ?_
  refine At.region tab_ok ?_
  conv => whnf
  intro b3
  conv => whnf
  repeat refine At.seq ?_
  refine At.region tab_ok ?_
  conv => whnf
  repeat refine At.seq ?_
  refine At.region tab_ok ?_
  conv => whnf
  repeat refine At.seq ?_
  refine At.block ?_
  refine At.loopH (fun p : Nat × Value => { N := Tryz.f47.ntmps, sl := [(0, some (.x v)), (3, some (.s (.c (.p 0 b3 0)))), (5, some (.s (.c (.o 1 p.2)))), (6, some (.i p.1))], gl := [], hp := [(1, .row p.2 27 7 ((cutR s (L.take p.1)).map encL)), (0, .box b3 25 (encS s))], S := [], ws := w }) (fun p : Nat × Value => p.1 ≤ L.length) (fun p : Nat × Value => L.length - p.1)
    (fun w' hw => ⟨(0, .slice none 0 0), Nat.zero_le _, Le.of rfl rfl ⟨rfl, rfl, rfl, rfl, trivial⟩, hw.nil rfl rfl rfl, ⟨⟨_, _, rfl⟩, ⟨_, _, _, rfl⟩, trivial⟩, ⟨(nopL _).okH, trivial⟩⟩) ?_
  rintro ⟨k, vo⟩ hk
  simp only at hk ⊢
  repeat refine At.seq ?_
  refine At.region tab_ok ?_
  conv => whnf
  refine ⟨h.sl, ?_⟩
  conv => whnf
  repeat refine At.seq ?_
  refine At.cond rfl (fun hc => At.skip ?_) (fun hc => At.exit ?_)
  · have hlt : k < L.length := by have := of_decide_eq_true hc; (try simp only [List.length_map] at this); omega
    obtain ⟨x, hx⟩ : ∃ x, L[k]? = some x := ⟨_, List.getElem?_eq_getElem hlt⟩
    have hst := cutR_snoc (s := s) hx
    have hcl := cutR_len s (L.take k)
    simp only [List.length_take] at hcl
    generalize cutR s (L.take k) = out at *
    repeat refine At.seq ?_
    refine At.block ?_
    repeat refine At.seq ?_
    refine At.region tab_ok ?_
    conv => whnf
    refine ⟨by omega, ?_⟩
    conv => whnf
    refine ⟨by omega, ?_⟩
    conv => whnf
    refine ⟨encL x, fun w' hw => h.load (n := 7) hw.fr hx rfl, ?_⟩
    conv => whnf
    intro b7
    conv => whnf
    repeat refine At.seq ?_
    refine At.region tab_ok ?_
    conv => whnf
    repeat refine At.seq ?_
    refine At.cond rfl (fun hq => ?_) (fun hq => ?_)
    · have hc' : x.s.m ≠ s.m ∨ x.s.t ≤ s.f ∨ s.t ≤ x.s.f := by
        simp only [bor, Bool.or_eq_true, Bool.not_eq_true', decide_eq_false_iff_not, decide_eq_true_eq] at hq
        omega
      repeat refine At.seq ?_
      refine At.region tab_ok ?_
      conv => whnf
      intro v2
      conv => whnf
      refine ⟨rfl, ?_⟩
      conv => whnf
      refine ⟨⟨rfl, by simp; omega⟩, ?_⟩
      conv => whnf
      intro v3
      conv => whnf
      refine At.exit ?_
      repeat refine At.seq ?_
      refine At.region tab_ok ?_
      conv => whnf
      refine ⟨⟨by omega, by omega⟩, ?_⟩
      conv => whnf
      refine At.nextH fun w' hw => ⟨(k + 1, v3), by simp only; omega, by simp only; omega, Le.of rfl rfl ⟨rfl, rfl, rfl, rfl, trivial⟩, hw.keep [1, 0] (by simp only; rw [hst, cutOne, if_pos hc', List.map_append]; rfl) rfl rfl, ⟨⟨_, _, rfl⟩, ⟨_, _, _, rfl⟩, trivial⟩, ⟨(nopL _).okH, trivial⟩⟩
    have hc' : ¬ (x.s.m ≠ s.m ∨ x.s.t ≤ s.f ∨ s.t ≤ x.s.f) := by
      simp only [bor, Bool.or_eq_false_iff, Bool.not_eq_false', decide_eq_true_eq, decide_eq_false_iff_not] at hq
      omega
    have hone : cutOne s x = (if x.s.f < s.f then [partL x x.s.f s.f] else []) ++ [partL x (max x.s.f s.f) (min x.s.t s.t)] ++ (if s.t < x.s.t then [partL x s.t x.s.t] else []) := by unfold cutOne; rw [if_neg hc']
    rw [hone] at hst
    refine At.skip ?_
    repeat refine At.seq ?_
    refine At.region tab_ok ?_
    conv => whnf
    repeat refine At.seq ?_
    refine At.join (fun q : Value => { N := Tryz.f47.ntmps, sl := [(0, some (.x v)), (3, some (.s (.c (.p 0 b3 0)))), (5, some (.s (.c (.o 1 q)))), (6, some (.i k)), (7, some (.s (.c (.p 2 b7 0))))], gl := [], hp := [(2, .box b7 27 (encL x)), (1, .row q 27 7 ((out ++ (if x.s.f < s.f then [partL x x.s.f s.f] else [])).map encL)), (0, .box b3 25 (encS s))], S := [], ws := w }) (fun q : Value => True) ?_ ?_
    · repeat refine At.seq ?_
      refine At.cond rfl (fun hq => ?_) (fun hq => ?_)
      · have h1 := of_decide_eq_true hq
        repeat refine At.seq ?_
        refine At.region tab_ok ?_
        conv => whnf
        refine ans_call b134 rfl (fun w' hw => part_c x x.s.f s.f w') ?_
        conv => whnf
        intro v2
        conv => whnf
        refine ⟨rfl, ?_⟩
        conv => whnf
        refine ⟨⟨rfl, by simp; omega⟩, ?_⟩
        conv => whnf
        intro v3
        conv => whnf
        refine At.meet fun w' hw => ⟨v3, trivial, Le.of rfl rfl ⟨rfl, rfl, rfl, rfl, rfl, trivial⟩, hw.keep [2, 1, 0] (by rw [if_pos h1, List.map_append]; rfl) rfl rfl, ⟨⟨_, _, rfl⟩, ⟨_, _, _, rfl⟩, ⟨_, _, rfl⟩, trivial⟩, ⟨(nopL _).okH, trivial⟩⟩
      · have h1 := of_decide_eq_false hq
        refine At.skip ?_
        refine At.meet fun w' hw => ⟨vo, trivial, Le.of rfl rfl ⟨rfl, rfl, rfl, rfl, rfl, trivial⟩, hw.keep [2, 1, 0] (by rw [if_neg h1, List.append_nil]; rfl) rfl rfl, ⟨⟨_, _, rfl⟩, ⟨_, _, _, rfl⟩, ⟨_, _, rfl⟩, trivial⟩, ⟨(nopL _).okH, trivial⟩⟩
    intro q _
    have hl1 : (if x.s.f < s.f then [partL x x.s.f s.f] else []).length ≤ 1 := by split <;> simp
    repeat refine At.seq ?_
    refine At.region tab_ok ?_
    conv => whnf
    refine ans_call b134 rfl (fun w' hw => part_c x (max x.s.f s.f) (min x.s.t s.t) w') ?_
    conv => whnf
    intro v2
    conv => whnf
    refine ⟨rfl, ?_⟩
    conv => whnf
    refine ⟨⟨rfl, by simp; omega⟩, ?_⟩
    conv => whnf
    intro v3
    conv => whnf
    repeat refine At.seq ?_
    refine At.region tab_ok ?_
    conv => whnf
    repeat refine At.seq ?_
    refine At.joinQ (fun q : Value => { N := Tryz.f47.ntmps, sl := [(0, some (.x v)), (3, some (.s (.c (.p 0 b3 0)))), (5, some (.s (.c (.o 1 q)))), (6, some (.i k))], gl := [], hp := [(1, .row q 27 7 ((out ++ ((if x.s.f < s.f then [partL x x.s.f s.f] else []) ++ [partL x (max x.s.f s.f) (min x.s.t s.t)] ++ (if s.t < x.s.t then [partL x s.t x.s.t] else []))).map encL)), (0, .box b3 25 (encS s))], S := [], ws := w }) (fun q : Value => True) ?_ ?_
    · repeat refine At.seq ?_
      refine At.cond rfl (fun hq => ?_) (fun hq => ?_)
      · have h1 := of_decide_eq_true hq
        repeat refine At.seq ?_
        refine At.region tab_ok ?_
        conv => whnf
        refine ans_call b134 rfl (fun w' hw => part_c x s.t x.s.t w') ?_
        conv => whnf
        intro v4
        conv => whnf
        refine ⟨rfl, ?_⟩
        conv => whnf
        refine ⟨⟨rfl, by simp; omega⟩, ?_⟩
        conv => whnf
        intro v5
        conv => whnf
        refine At.meet fun w' hw => ⟨v5, trivial, Le.of rfl rfl ⟨rfl, rfl, rfl, rfl, trivial⟩, hw.keep [1, 0] (by rw [if_pos h1]; simp only [List.map_append, List.append_assoc]; rfl) rfl rfl, ⟨⟨_, _, rfl⟩, ⟨_, _, _, rfl⟩, trivial⟩, ⟨(nopL _).okH, trivial⟩⟩
      · have h1 := of_decide_eq_false hq
        refine At.skip ?_
        refine At.meet fun w' hw => ⟨v3, trivial, Le.of rfl rfl ⟨rfl, rfl, rfl, rfl, trivial⟩, hw.keep [1, 0] (by rw [if_neg h1, List.append_nil]; simp only [List.map_append, List.append_assoc]; rfl) rfl rfl, ⟨⟨_, _, rfl⟩, ⟨_, _, _, rfl⟩, trivial⟩, ⟨(nopL _).okH, trivial⟩⟩
    intro q _
    repeat refine At.seq ?_
    refine At.region tab_ok ?_
    conv => whnf
    refine ⟨⟨by omega, by omega⟩, ?_⟩
    conv => whnf
    refine At.nextH fun w' hw => ⟨(k + 1, q), by simp only; omega, by simp only; omega, Le.of rfl rfl ⟨rfl, rfl, rfl, rfl, trivial⟩, hw.keep [1, 0] (by simp only; rw [hst]; rfl) rfl rfl, ⟨⟨_, _, rfl⟩, ⟨_, _, _, rfl⟩, trivial⟩, ⟨(nopL _).okH, trivial⟩⟩
  have hge : k = L.length := by have := of_decide_eq_false hc; omega
  subst hge
  rw [List.take_length]
  repeat refine At.seq ?_
  refine At.region tab_ok ?_
  conv => whnf
  repeat refine At.seq ?_
  refine At.ret (At.doneB tab_ok hB _ rfl fun w' hw => ansR_row (id := 1) hw rfl rfl rfl)
end Go.Proofs.YtjilbkioieicbaaGreat

/- The reference of rights: merging, putting in, errors. -/
namespace Go.Proofs.YtjilbkioieicbaaGreat
open Go.Vc Rt
set_option linter.unusedVariables false
set_option linter.unusedSimpArgs false
theorem merged_c (L : List Lot) (v : Value) (w : World) (h : SlOf loT [] w v L) (hN : L.length ≤ 1000000) : AnsR Tryz.prog 31 [v] [.row 27 7 ((mergeL L).map encL)] w := by
  have hl := h.len
  have hmg : mergeL L = L.foldl joinL [] := rfl
  rw [hmg]
  refine calls_plainB [.x v] Tryz.func31 rfl rfl (Nat.le_of_ble_eq_true rfl) rfl fun B hB => ?_
  repeat refine At.seq ?_
  refine At.region tab_ok ?_
  conv => whnf
  repeat refine At.seq ?_
  refine At.region tab_ok ?_
  conv => whnf
  repeat refine At.seq ?_
  refine At.region tab_ok ?_
  conv => whnf
  repeat refine At.seq ?_
  refine At.block ?_
  refine At.loopH (fun p : Nat × Value => { N := Tryz.f31.ntmps, sl := [(0, some (.x v)), (3, some (.s (.c (.o 0 p.2)))), (4, some (.i p.1))], gl := [], hp := [(0, .row p.2 27 7 (((L.take p.1).foldl joinL []).map encL))], S := [], ws := w }) (fun p : Nat × Value => p.1 ≤ L.length) (fun p : Nat × Value => L.length - p.1)
    (fun w' hw => ⟨(0, .slice none 0 0), Nat.zero_le _, Le.of rfl rfl ⟨rfl, rfl, rfl, trivial⟩, hw.nil rfl rfl rfl, ⟨⟨_, _, _, rfl⟩, trivial⟩, ⟨(nopL _).okH, trivial⟩⟩) ?_
  rintro ⟨k, vo⟩ hk
  simp only at hk ⊢
  repeat refine At.seq ?_
  refine At.region tab_ok ?_
  conv => whnf
  refine ⟨h.sl, ?_⟩
  conv => whnf
  repeat refine At.seq ?_
  refine At.cond rfl (fun hc => At.skip ?_) (fun hc => At.exit ?_)
  · have hlt : k < L.length := by have := of_decide_eq_true hc; (try simp only [List.length_map] at this); omega
    obtain ⟨x, hx⟩ : ∃ x, L[k]? = some x := ⟨_, List.getElem?_eq_getElem hlt⟩
    have hol := joinsL_len (L.take k) []
    have hnx : (L.take (k + 1)).foldl joinL [] = joinL ((L.take k).foldl joinL []) x := by rw [List.take_add_one, hx, List.foldl_append]; rfl
    generalize (L.take k).foldl joinL [] = out at hol hnx ⊢
    simp only [List.length_nil, List.length_take] at hol
    obtain ⟨r, hr⟩ := lastL out
    have hr' : ∀ {q : Int}, q = out.length - 1 → 0 ≤ q → (out.map encL)[q.toNat]? = some (encL r) := fun {q} e h0 => by
      rw [List.getElem?_map, show q.toNat = out.length - 1 by omega, hr (by omega)]; rfl
    have hml : (out.map encL).length = out.length := by simp
    repeat refine At.seq ?_
    refine At.block ?_
    repeat refine At.seq ?_
    refine At.region tab_ok ?_
    conv => whnf
    refine ⟨by omega, ?_⟩
    conv => whnf
    refine ⟨by omega, ?_⟩
    conv => whnf
    refine ⟨encL x, fun w' hw => h.load (n := 7) hw.fr hx rfl, ?_⟩
    conv => whnf
    intro b5
    conv => whnf
    repeat refine At.seq ?_
    refine At.region tab_ok ?_
    conv => whnf
    refine ⟨rfl, ?_⟩
    conv => whnf
    refine ⟨by rw [hml]; exact ⟨by omega, by omega⟩, ?_⟩
    conv => whnf
    repeat refine At.seq ?_
    refine At.region tab_ok ?_
    conv => whnf
    repeat refine At.seq ?_
    refine At.join (fun q : Unit => { N := Tryz.f31.ntmps, sl := [(0, some (.x v)), (3, some (.s (.c (.o 0 vo)))), (4, some (.i k)), (5, some (.s (.c (.p 1 b5 0))))], gl := [], hp := [(1, .box b5 27 (encL x)), (0, .row vo 27 7 (out.map encL))], S := [], ws := w }) (fun q : Unit => joinL out x = out ++ [x]) ?_ ?_
    · repeat refine At.seq ?_
      refine At.cond rfl (fun hq => ?_) (fun hq => ?_)
      · have hq0 := of_decide_eq_true hq
        have h0 : 0 < out.length := by rw [hml] at hq0; omega
        repeat refine At.seq ?_
        refine At.region tab_ok ?_
        conv => whnf
        refine ⟨rfl, ?_⟩
        conv => whnf
        refine ⟨by omega, ?_⟩
        conv => whnf
        refine ⟨by omega, ?_⟩
        conv => whnf
        refine ⟨encL r, ⟨rfl, rfl, by omega, hr' (by rw [hml]) (by omega)⟩, ?_⟩
        conv => whnf
        intro b7
        conv => whnf
        repeat refine At.seq ?_
        refine At.region tab_ok ?_
        conv => whnf
        have hal : ∀ t : Bool, (bif bif bif bif bif decide (r.s.m = x.s.m) then decide (r.s.t = x.s.f) else false then decide (r.o = x.o) else false then decide (r.h = x.h) else false then decide (r.u = x.u) else false then decide (r.p = x.p) else false) = t → alike r x = t := fun t ht => by
          rw [← ht]
          simp only [band]
          unfold alike
          rw [Bool.eq_iff_iff]
          simp only [Bool.and_eq_true, decide_eq_true_eq]
          constructor
          · rintro ⟨a3, a4, a5, a6, a1, a2⟩; exact ⟨⟨⟨⟨⟨a1, a2⟩, a3⟩, a4⟩, a5⟩, a6⟩
          · rintro ⟨⟨⟨⟨⟨a1, a2⟩, a3⟩, a4⟩, a5⟩, a6⟩; exact ⟨a3, a4, a5, a6, a1, a2⟩
        repeat refine At.seq ?_
        refine At.cond rfl (fun hq => ?_) (fun hq => ?_)
        · have hjs := joinL_set h0 (hr h0) (hal _ hq)
          have hidx : (((out.map encL).length : Int) - 1).toNat = out.length - 1 := by rw [hml]; omega
          repeat refine At.seq ?_
          refine At.region tab_ok ?_
          conv => whnf
          refine ⟨rfl, ?_⟩
          conv => whnf
          refine ⟨by omega, ?_⟩
          conv => whnf
          refine ⟨by omega, ?_⟩
          conv => whnf
          refine ⟨encL r, ⟨rfl, rfl, by omega, hr' (by rw [hml]) (by omega)⟩, ?_⟩
          conv => whnf
          refine At.exit ?_
          repeat refine At.seq ?_
          refine At.region tab_ok ?_
          conv => whnf
          refine ⟨⟨by omega, by omega⟩, ?_⟩
          conv => whnf
          refine At.nextH fun w' hw => ⟨(k + 1, vo), by simp only; omega, by simp only; omega, Le.of rfl rfl ⟨rfl, rfl, rfl, trivial⟩, hw.keep [0] (by rw [hnx, hjs, List.map_set, ← hidx]; rfl) rfl rfl, ⟨⟨_, _, _, rfl⟩, trivial⟩, ⟨(nopL _).okH, trivial⟩⟩
        · refine At.skip ?_
          refine At.meet fun w' hw => ⟨(), joinL_app hr fun _ => hal _ hq, Le.of rfl rfl ⟨rfl, rfl, rfl, rfl, trivial⟩, hw.keep [1, 0] rfl rfl rfl, ⟨⟨_, _, _, rfl⟩, ⟨_, _, rfl⟩, trivial⟩, ⟨(nopL _).okH, trivial⟩⟩
      · have hq0 := of_decide_eq_false hq
        refine At.skip ?_
        refine At.meet fun w' hw => ⟨(), joinL_app hr fun h0 => by rw [hml] at hq0; omega, Le.of rfl rfl ⟨rfl, rfl, rfl, rfl, trivial⟩, hw.keep [1, 0] rfl rfl rfl, ⟨⟨_, _, _, rfl⟩, ⟨_, _, rfl⟩, trivial⟩, ⟨(nopL _).okH, trivial⟩⟩
    intro _ hja
    repeat refine At.seq ?_
    refine At.region tab_ok ?_
    conv => whnf
    intro v2
    conv => whnf
    refine ⟨rfl, ?_⟩
    conv => whnf
    refine ⟨⟨rfl, by simp; omega⟩, ?_⟩
    conv => whnf
    intro v3
    conv => whnf
    repeat refine At.seq ?_
    refine At.region tab_ok ?_
    conv => whnf
    refine ⟨⟨by omega, by omega⟩, ?_⟩
    conv => whnf
    refine At.nextH fun w' hw => ⟨(k + 1, v3), by simp only; omega, by simp only; omega, Le.of rfl rfl ⟨rfl, rfl, rfl, trivial⟩, hw.keep [0] (by rw [hnx, hja, List.map_append]; rfl) rfl rfl, ⟨⟨_, _, _, rfl⟩, trivial⟩, ⟨(nopL _).okH, trivial⟩⟩
  have hge : k = L.length := by have := of_decide_eq_false hc; omega
  subst hge
  rw [List.take_length]
  repeat refine At.seq ?_
  refine At.region tab_ok ?_
  conv => whnf
  repeat refine At.seq ?_
  refine At.ret (At.doneB tab_ok hB _ rfl fun w' hw => ansR_row (id := 0) hw rfl rfl rfl)
theorem putL_c (L : List Lot) (x : Lot) (v : Value) (w : World) (h : SlOf loT [] w v L) (hN : L.length ≤ 1000000) : AnsR Tryz.prog 46 [v, vL x] [.row 27 7 ((insL L (before L x.s.m) x).map encL)] w := by
  have hl := h.len
  refine calls_plainB [.x v, .s (.agg (encL x))] Tryz.func46 rfl rfl (Nat.le_of_ble_eq_true rfl) rfl fun B hB => ?_
  repeat refine At.seq ?_
  refine At.region tab_ok ?_
  conv => whnf
  intro b3
  conv => whnf
  repeat refine At.seq ?_
  refine At.region tab_ok ?_
  conv => whnf
  repeat refine At.seq ?_
  refine At.block ?_
  refine At.loopH (fun k : Nat => { N := Tryz.f46.ntmps, sl := [(0, some (.x v)), (3, some (.s (.c (.p 0 b3 0)))), (5, some (.i k))], gl := [], hp := [(0, .box b3 27 (encL x))], S := [], ws := w }) (fun k : Nat => k ≤ L.length ∧ ∀ j l, j < k → L[j]? = some l → l.s.m < x.s.m) (fun k : Nat => L.length - k)
    (fun w' hw => ⟨0, ⟨Nat.zero_le _, fun j l hj => by omega⟩, Le.of rfl rfl ⟨rfl, rfl, rfl, trivial⟩, hw.same rfl rfl rfl, ⟨⟨_, _, rfl⟩, trivial⟩, trivial⟩) ?_
  intro k ⟨hk, hall⟩
  obtain ⟨y, hy⟩ : ∃ y, k < L.length → L[k]? = some y := by
    rcases Nat.lt_or_ge k L.length with h' | h'
    · exact ⟨L[k], fun _ => List.getElem?_eq_getElem h'⟩
    · exact ⟨default, fun h => by omega⟩
  repeat refine At.seq ?_
  refine At.draw tab_ok mixed (by kernel_rfl) ?_
  conv => whnf
  refine ⟨h.sl, ?_⟩
  conv => whnf
  refine ⟨by simp only [gimp]; intros; omega, ?_⟩
  conv => whnf
  refine ⟨by simp only [gimp]; intro h1; have := of_decide_eq_true h1; omega, ?_⟩
  conv => whnf
  refine ⟨[.i y.s.m], by simp only [gimp]; intro h1 w' hw; exact h.load (n := 1) hw.fr (hy (by have := of_decide_eq_true h1; omega)) rfl, ?_⟩
  conv => whnf
  repeat refine At.seq ?_
  refine At.cond rfl (fun hc => At.skip ?_) (fun hc => At.exit ?_)
  · have hc' : k < L.length ∧ y.s.m < x.s.m := by
      simp only [band, Bool.and_eq_true, decide_eq_true_eq] at hc
      exact ⟨by omega, hc.2⟩
    repeat refine At.seq ?_
    refine At.block ?_
    repeat refine At.seq ?_
    refine At.region tab_ok ?_
    conv => whnf
    refine ⟨⟨by omega, by omega⟩, ?_⟩
    conv => whnf
    refine At.nextH fun w' hw => ⟨k + 1, ⟨by omega, fun j l hj hj' => by rcases Nat.lt_or_ge j k with h1 | h1; exact hall j l h1 hj'; obtain rfl : j = k := (by omega); rw [hy hc'.1] at hj'; cases hj'; exact hc'.2⟩, by omega, Le.of rfl rfl ⟨rfl, rfl, rfl, trivial⟩, hw.keep [0] rfl rfl rfl, ⟨⟨_, _, rfl⟩, trivial⟩, trivial⟩
  have hbe : before L x.s.m = k := before_eq hk hall fun l hl' => by
    have hlt := (List.getElem?_eq_some_iff.1 hl').1
    rw [hy hlt] at hl'
    cases hl'
    rw [decide_eq_true (by omega : (k : Int) < slen v)] at hc
    simp only [band, Bool.true_and, decide_eq_false_iff_not] at hc
    exact hc
  rw [hbe] at hB
  have hrest := fun (w' : World) (hf : Ext w w') => SlOf.rest (h.fr hf) (lo := k) (hi := slen v) rfl (by omega) hk
  have hbeg := fun (w' : World) (hf : Ext w w') => (h.fr hf).begin (hi := k) rfl hk
  repeat refine At.seq ?_
  refine At.planG tab_ok mixed [(0, .box b3 27 (encL x))] (.take 0 (.take 2 (.take 3 (.take 4 (.br 1 (.br 5 (.take 6 (.done)) (.nob)) (.nob)))))) (by kernel_rfl) (by kernel_rfl) ⟨rfl, trivial⟩ ?_
  conv => whnf
  refine ⟨h.sl, ?_⟩
  conv => whnf
  refine ⟨by omega, ?_⟩
  conv => whnf
  refine ⟨by omega, ?_⟩
  conv => whnf
  refine ⟨by omega, ?_⟩
  conv => whnf
  refine ⟨?_, trivial⟩
  conv => whnf
  intro v1
  conv => whnf
  refine ⟨⟨⟨rfl, trivial⟩, fun w' hw => hw.fr⟩, ?_⟩
  conv => whnf
  refine ⟨?_, trivial⟩
  conv => whnf
  refine ⟨(L.drop k).map encL, ⟨fun w' hw => (hrest w' hw.fr).src encL_ints, nopL _⟩, ?_⟩
  conv => whnf
  refine ⟨⟨rfl, by simp; omega⟩, ?_⟩
  conv => whnf
  intro v2
  conv => whnf
  refine ⟨⟨⟨rfl, trivial⟩, fun w' hw => hw.fr⟩, ?_⟩
  conv => whnf
  repeat refine At.seq ?_
  refine At.region tab_ok ?_
  conv => whnf
  intro v3
  conv => whnf
  refine ⟨h.sl, ?_⟩
  conv => whnf
  refine ⟨by omega, ?_⟩
  conv => whnf
  refine ⟨by omega, ?_⟩
  conv => whnf
  refine ⟨by omega, ?_⟩
  conv => whnf
  refine ⟨(L.take k).map encL, ⟨fun w' hw => (hbeg w' hw.fr).src encL_ints, nopL _⟩, ?_⟩
  conv => whnf
  refine ⟨⟨rfl, by simp; omega⟩, ?_⟩
  conv => whnf
  intro v4
  conv => whnf
  refine ⟨rfl, ?_⟩
  refine obl_rows (fun l hl c hc => ?_) ?_
  · have : ∃ z, l = encL z := by
      rcases List.mem_append.1 hl with hl | hl
      · exact ⟨x, List.mem_singleton.1 hl⟩
      · obtain ⟨z, _, e⟩ := List.mem_map.1 hl; exact ⟨z, e.symm⟩
    obtain ⟨z, rfl⟩ := this
    exact intsOnly_one (encL_ints z) c hc
  conv => whnf
  refine ⟨⟨rfl, by simp; omega⟩, ?_⟩
  conv => whnf
  intro v5
  conv => whnf
  repeat refine At.seq ?_
  refine At.ret (At.doneB tab_ok hB _ rfl fun w' hw => ansR_row (id := 2) hw (congrArg (fun M => some (LO.row v5 27 7 M)) (by simp [insL] : ([] ++ (L.take k).map encL) ++ ([encL x] ++ (L.drop k).map encL) = (insL L k x).map encL)) rfl rfl)
/-! ### Errors -/
def inD (d : Deed) (l : Lot) : Bool := hasS d.spans l.s.m l.s.f
def nR (d : Deed) (A : List Lot) : Int := (A.map fun l => if inD d l then sizeL l else 0).sum
def spB (d : Deed) (A : List Lot) : Bool := A.any fun l => inD d l && !decide (l.p = -1)
def otB (d : Deed) (A : List Lot) : Bool := A.any fun l => inD d l && (!decide (l.o = d.author) && !decide (l.h = d.author))
def leB (d : Deed) (A : List Lot) : Bool := A.any fun l => inD d l && (!decide (l.h = d.author) || (!decide (l.o = d.author) && !decide (d.kind = 3) && !(decide (d.kind = 1) && decide (d.who = l.o))))
def refR (d : Deed) (A : List Lot) : Int := if nR d A ≠ count d.spans then 4 else if spB d A then 29 else if otB d A then 27 else if leB d A then 28 else 0
theorem nR_snoc {d : Deed} {A : List Lot} {k : Nat} {x : Lot} (hx : A[k]? = some x) : nR d (A.take (k + 1)) = nR d (A.take k) + (if inD d x then sizeL x else 0) := by
  unfold nR; rw [List.take_add_one, hx]; simp
theorem any_snoc {p : Lot → Bool} {A : List Lot} {k : Nat} {x : Lot} (hx : A[k]? = some x) : (A.take (k + 1)).any p = ((A.take k).any p || p x) := by
  rw [List.take_add_one, hx]; simp
theorem nR_bd {d : Deed} : ∀ {A : List Lot}, (∀ l ∈ A, lotOk l) → 0 ≤ nR d A ∧ nR d A ≤ 1048576 * A.length
  | [], _ => by simp [nR]
  | l :: A, h => by
    have ih := nR_bd (d := d) (A := A) fun x hx => h x (List.mem_cons_of_mem _ hx)
    have hl := h l (List.mem_cons_self ..)
    unfold lotOk at hl
    unfold nR at *
    simp only [List.map_cons, List.sum_cons, List.length_cons]
    have : 0 < sizeL l ∧ sizeL l ≤ 1048576 := by unfold sizeL; omega
    split <;> omega
theorem refused_cR (A : List Lot) (d : Deed) (v u : Value) (w : World) (h : SlOf loT [] w v A) (hu : SlOf spT [] w u d.spans) (hN : A.length ≤ 1000000) (hS : d.spans.length ≤ 1000) (hok : ∀ l ∈ A, lotOk l) : Ans Tryz.prog 48 [v, vD d u] (.i (refR d A)) w := by
  have hl := h.len
  refine calls_plainB [.x v, .s (.agg (encD d u))] Tryz.func48 rfl rfl (Nat.le_of_ble_eq_true rfl) rfl fun B hB => ?_
  repeat refine At.seq ?_
  refine At.region tab_ok ?_
  conv => whnf
  refine ⟨hu.sl.one, ?_⟩
  conv => whnf
  intro b3
  conv => whnf
  repeat refine At.seq ?_
  refine At.region tab_ok ?_
  conv => whnf
  repeat refine At.seq ?_
  refine At.region tab_ok ?_
  conv => whnf
  repeat refine At.seq ?_
  refine At.region tab_ok ?_
  conv => whnf
  repeat refine At.seq ?_
  refine At.region tab_ok ?_
  conv => whnf
  repeat refine At.seq ?_
  refine At.region tab_ok ?_
  conv => whnf
  repeat refine At.seq ?_
  refine At.block ?_
  refine At.loopH (fun k : Nat => { N := Tryz.f48.ntmps, sl := [(0, some (.x v)), (3, some (.s (.c (.p 0 b3 0)))), (5, some (.i (nR d (A.take k)))), (6, some (.b (spB d (A.take k)))), (7, some (.b (otB d (A.take k)))), (8, some (.b (leB d (A.take k)))), (9, some (.i k))], gl := [], hp := [(0, .box b3 44 (encD d u))], S := [], ws := w }) (fun k : Nat => k ≤ A.length) (fun k : Nat => A.length - k)
    (fun w' hw => ⟨0, Nat.zero_le _, Le.of rfl rfl ⟨rfl, rfl, rfl, rfl, rfl, rfl, rfl, trivial⟩, hw.same rfl rfl rfl, ⟨⟨_, _, rfl⟩, trivial⟩, trivial⟩) ?_
  intro k hk
  repeat refine At.seq ?_
  refine At.region tab_ok ?_
  conv => whnf
  refine ⟨h.sl, ?_⟩
  conv => whnf
  repeat refine At.seq ?_
  refine At.cond rfl (fun hc => At.skip ?_) (fun hc => At.exit ?_)
  · have hlt : k < A.length := by have := of_decide_eq_true hc; (try simp only [List.length_map] at this); omega
    obtain ⟨x, hx⟩ : ∃ x, A[k]? = some x := ⟨_, List.getElem?_eq_getElem hlt⟩
    have hxo := hok x (List.mem_of_getElem? hx)
    unfold lotOk at hxo
    have hn1 := nR_snoc (d := d) hx
    have hs1 : spB d (A.take (k + 1)) = _ := any_snoc hx
    have ho1 : otB d (A.take (k + 1)) = _ := any_snoc hx
    have hl1 : leB d (A.take (k + 1)) = _ := any_snoc hx
    have hbd := nR_bd (d := d) (A := A.take k) fun l hl => hok l (List.mem_of_mem_take hl)
    have hkl : (A.take k).length ≤ A.length := by simp; omega
    change spB d (A.take (k + 1)) = (spB d (A.take k) || _) at hs1
    change otB d (A.take (k + 1)) = (otB d (A.take k) || _) at ho1
    change leB d (A.take (k + 1)) = (leB d (A.take k) || _) at hl1
    generalize nR d (A.take k) = n0 at *
    generalize spB d (A.take k) = c1 at *
    generalize otB d (A.take k) = c2 at *
    generalize leB d (A.take k) = c3 at *
    repeat refine At.seq ?_
    refine At.block ?_
    repeat refine At.seq ?_
    refine At.region tab_ok ?_
    conv => whnf
    refine ⟨by omega, ?_⟩
    conv => whnf
    refine ⟨by omega, ?_⟩
    conv => whnf
    refine ⟨encL x, fun w' hw => h.load (n := 7) hw.fr hx rfl, ?_⟩
    conv => whnf
    intro b10
    conv => whnf
    repeat refine At.seq ?_
    refine At.region tab_ok ?_
    conv => whnf
    refine ans_call b106 rfl (fun w' hw => inR_c x d.spans [] u w' (hu.fr hw.fr)) ?_
    conv => whnf
    rw [show hasS d.spans x.s.m x.s.f = inD d x from rfl]
    repeat refine At.seq ?_
    refine At.cond rfl (fun hq => ?_) (fun hq => ?_)
    · have hi : inD d x = false := by simpa using hq
      rw [hi] at hn1 hs1 ho1 hl1
      refine At.exit ?_
      repeat refine At.seq ?_
      refine At.region tab_ok ?_
      conv => whnf
      refine ⟨⟨by omega, by omega⟩, ?_⟩
      conv => whnf
      refine At.nextH fun w' hw => ⟨k + 1, by omega, by omega, Le.of rfl rfl ⟨rfl, rfl, congrArg (Value.int .i64) (by rw [hn1]; simp), congrArg Value.bool (by rw [hs1]; simp), congrArg Value.bool (by rw [ho1]; simp), congrArg Value.bool (by rw [hl1]; simp), rfl, trivial⟩, hw.keep [0] rfl rfl rfl, ⟨⟨_, _, rfl⟩, trivial⟩, trivial⟩
    have hi : inD d x = true := by simpa using hq
    rw [hi] at hn1 hs1 ho1 hl1
    refine At.skip ?_
    repeat refine At.seq ?_
    refine At.region tab_ok ?_
    conv => whnf
    refine ⟨⟨by omega, by omega⟩, ?_⟩
    conv => whnf
    refine ⟨⟨by omega, by omega⟩, ?_⟩
    conv => whnf
    repeat refine At.seq ?_
    refine At.region tab_ok ?_
    conv => whnf
    repeat refine At.seq ?_
    refine At.region tab_ok ?_
    conv => whnf
    repeat refine At.seq ?_
    refine At.region tab_ok ?_
    conv => whnf
    repeat refine At.seq ?_
    refine At.region tab_ok ?_
    conv => whnf
    repeat refine At.seq ?_
    refine At.region tab_ok ?_
    conv => whnf
    refine ⟨⟨by omega, by omega⟩, ?_⟩
    conv => whnf
    refine At.nextH fun w' hw => ⟨k + 1, by omega, by omega, Le.of rfl rfl ⟨rfl, rfl, congrArg (Value.int .i64) (by rw [hn1, if_pos rfl]; unfold sizeL; omega), congrArg Value.bool (by rw [hs1]; simp only [bor, Bool.true_and]), congrArg Value.bool (by rw [ho1]; simp only [bor, band, Bool.true_and]), congrArg Value.bool (by rw [hl1]; simp only [bor, band, Bool.true_and]; cases c3 <;> cases decide (x.h = d.author) <;> rfl), rfl, trivial⟩, hw.keep [0] rfl rfl rfl, ⟨⟨_, _, rfl⟩, trivial⟩, trivial⟩
  have hge : k = A.length := by have := of_decide_eq_false hc; omega
  subst hge
  rw [List.take_length]
  repeat refine At.seq ?_
  refine At.region tab_ok ?_
  conv => whnf
  refine ans_call b75 rfl (fun w' hw => countR_c d.spans [] u w' (hu.fr hw.fr) (by omega)) ?_
  conv => whnf
  repeat refine At.seq ?_
  refine At.cond rfl (fun hq => ?_) (fun hq => ?_)
  · repeat refine At.seq ?_
    refine At.region tab_ok ?_
    conv => whnf
    repeat refine At.seq ?_
    refine At.ret (At.doneB tab_ok hB _ rfl fun w' hw => ⟨?_, hw.fr⟩)
    have hne : nR d A ≠ count d.spans := by simpa using hq
    unfold refR; rw [if_pos hne]
  have he : nR d A = count d.spans := by simpa using hq
  refine At.skip ?_
  repeat refine At.seq ?_
  refine At.region tab_ok ?_
  conv => whnf
  repeat refine At.seq ?_
  refine At.cond rfl (fun hq => ?_) (fun hq => ?_)
  · repeat refine At.seq ?_
    refine At.region tab_ok ?_
    conv => whnf
    repeat refine At.seq ?_
    refine At.ret (At.doneB tab_ok hB _ rfl fun w' hw => ⟨?_, hw.fr⟩)
    unfold refR; rw [if_neg (by rw [he]; simp), if_pos hq]
  have h1 : ¬ spB d A = true := by rw [hq]; decide
  refine At.skip ?_
  repeat refine At.seq ?_
  refine At.region tab_ok ?_
  conv => whnf
  repeat refine At.seq ?_
  refine At.cond rfl (fun hq => ?_) (fun hq => ?_)
  · repeat refine At.seq ?_
    refine At.region tab_ok ?_
    conv => whnf
    repeat refine At.seq ?_
    refine At.ret (At.doneB tab_ok hB _ rfl fun w' hw => ⟨?_, hw.fr⟩)
    unfold refR; rw [if_neg (by rw [he]; simp), if_neg h1, if_pos hq]
  have h2 : ¬ otB d A = true := by rw [hq]; decide
  refine At.skip ?_
  repeat refine At.seq ?_
  refine At.region tab_ok ?_
  conv => whnf
  repeat refine At.seq ?_
  refine At.cond rfl (fun hq => ?_) (fun hq => ?_)
  · repeat refine At.seq ?_
    refine At.region tab_ok ?_
    conv => whnf
    repeat refine At.seq ?_
    refine At.ret (At.doneB tab_ok hB _ rfl fun w' hw => ⟨?_, hw.fr⟩)
    unfold refR; rw [if_neg (by rw [he]; simp), if_neg h1, if_neg h2, if_pos hq]
  have h3 : ¬ leB d A = true := by rw [hq]; decide
  refine At.skip ?_
  repeat refine At.seq ?_
  refine At.region tab_ok ?_
  conv => whnf
  repeat refine At.seq ?_
  refine At.ret (At.doneB tab_ok hB _ rfl fun w' hw => ⟨?_, hw.fr⟩)
  unfold refR; rw [if_neg (by rw [he]; simp), if_neg h1, if_neg h2, if_neg h3]
end Go.Proofs.YtjilbkioieicbaaGreat

/- The reference of rights does what the program does, in plain terms. -/
namespace Go.Proofs.YtjilbkioieicbaaGreat
open Go.Vc Rt
set_option linter.unusedVariables false
set_option linter.unusedSimpArgs false
/-! ### How many coins of spans there are -/
def nS (s : Span) (A : List Lot) : Int := ((A.filter (inSp s)).map sizeL).sum
theorem nS_cons (s : Span) (l : Lot) (A : List Lot) : nS s (l :: A) = (if inSp s l then sizeL l else 0) + nS s A := by
  unfold nS
  rw [List.filter_cons]
  split <;> simp
theorem first_gap {C : Int → Prop} : ∀ (k : Nat) (f t : Int), t - f = k → (∃ n, f ≤ n ∧ n < t ∧ ¬ C n) → ∃ c, f ≤ c ∧ c < t ∧ ¬ C c ∧ ∀ n, f ≤ n → n < c → C n
  | 0, f, t, hk, ⟨n, h1, h2, _⟩ => by omega
  | k + 1, f, t, hk, ⟨n, h1, h2, h3⟩ => by
    by_cases hf : C f
    · obtain ⟨c, c1, c2, c3, c4⟩ := first_gap k (f + 1) t (by omega) ⟨n, by
        rcases Int.lt_or_eq_of_le h1 with h | h
        · omega
        · subst h; exact (h3 hf).elim, h2, h3⟩
      refine ⟨c, by omega, c2, c3, fun m m1 m2 => ?_⟩
      by_cases hm : m = f
      · subst hm; exact hf
      · exact c4 m (by omega) m2
    · exact ⟨f, by omega, by omega, hf, fun m m1 m2 => by omega⟩
theorem nS_spec {A : List Lot} {s : Span} (h : Ord A) (hf : FullF (sta A)) (hs : 0 ≤ s.f ∧ s.f < s.t) (n1 : NoCut A s.m s.f) (n2 : NoCut A s.m s.t) : nS s A ≤ s.t - s.f ∧ (nS s A = s.t - s.f ↔ ∀ n, s.f ≤ n → n < s.t → Cov A s.m n) := by
  by_cases hc : ∀ n, s.f ≤ n → n < s.t → Cov A s.m n
  · have := seg_sum h n1 n2 (by omega) hc
    exact ⟨by unfold nS; omega, fun _ => hc, fun _ => this⟩
  · obtain ⟨n, hn⟩ := Classical.not_forall.1 hc
    have hn' : s.f ≤ n ∧ n < s.t ∧ ¬ Cov A s.m n := by
      refine ⟨Classical.byContradiction fun h => hn fun h' => (h h').elim, Classical.byContradiction fun h => hn fun _ h' => (h h').elim, fun h => hn fun _ _ => h⟩
    obtain ⟨c, c1, c2, c3, c4⟩ := first_gap (C := fun n => Cov A s.m n) (s.t - s.f).toNat s.f s.t (by omega) ⟨n, hn'⟩
    have habove : ∀ l ∈ A, l.s.m = s.m → l.s.t ≤ c ∨ c < l.s.f → l.s.t ≤ c := fun l hl hm h' => by
      rcases h' with h' | h'
      · exact h'
      · have hok := h.ok l hl
        unfold lotOk at hok
        obtain ⟨x, hx⟩ := hf s.m l.s.f c (by omega) (by omega) ⟨stL l, by rw [← hm]; exact sta_first h hl⟩
        exact (c3 (sta_cov.2 ⟨x, hx⟩)).elim
    have hno : ∀ l ∈ A, l.s.m = s.m → l.s.t ≤ c := fun l hl hm => habove l hl hm (by
      by_cases h1 : l.s.t ≤ c
      · exact .inl h1
      · by_cases h2 : c < l.s.f
        · exact .inr h2
        · exact (c3 ⟨l, hl, inLot_iff.2 ⟨hm, by omega, by omega⟩⟩).elim)
    have hcut : NoCut A s.m c := fun l hl => Bool.eq_false_iff.2 fun hc' => by
      have a := cutsIn_iff.1 hc'
      have := hno l hl a.1
      omega
    have e := seg_sum (s := ⟨s.m, s.f, c⟩) h n1 hcut (by simp only; omega) c4
    have e2 : A.filter (inSp s) = A.filter (inSp ⟨s.m, s.f, c⟩) := List.filter_congr fun l hl => by
      rw [Bool.eq_iff_iff, inSp_iff, inSp_iff]
      simp only
      constructor
      · rintro ⟨a, b, _⟩; exact ⟨a, b, hno l hl a⟩
      · rintro ⟨a, b, b'⟩; exact ⟨a, b, by omega⟩
    have e3 : nS s A = c - s.f := by unfold nS; rw [e2]; exact e
    refine ⟨by omega, fun h' => by omega, fun h' => (hc h').elim⟩
theorem sum_zero {A : List Lot} {f : Lot → Int} (h : ∀ l ∈ A, f l = 0) : (A.map f).sum = 0 := by
  induction A with
  | nil => rfl
  | cons l A ih => rw [List.map_cons, List.sum_cons, h l (List.mem_cons_self ..), ih fun x hx => h x (List.mem_cons_of_mem _ hx)]; rfl
theorem sum_add {A : List Lot} {f g k : Lot → Int} (h : ∀ l ∈ A, f l = g l + k l) : (A.map f).sum = (A.map g).sum + (A.map k).sum := by
  induction A with
  | nil => rfl
  | cons l A ih =>
    simp only [List.map_cons, List.sum_cons]
    rw [h l (List.mem_cons_self ..), ih fun x hx => h x (List.mem_cons_of_mem _ hx)]
    omega
theorem nS_map (s : Span) (A : List Lot) : nS s A = (A.map fun l => if inSp s l then sizeL l else 0).sum := by
  induction A with
  | nil => rfl
  | cons l A ih => rw [nS_cons, ih]; rfl
theorem hasS_has {ss : List Span} (hv : ∀ s ∈ ss, valid s = true) {m n : Int} : hasS ss m n = true ↔ Has ss m n := by
  unfold hasS inSpan Has
  rw [List.any_eq_true]
  simp only [Bool.and_eq_true, decide_eq_true_eq]
  constructor
  · rintro ⟨s, hs, _, h⟩; exact ⟨s, hs, h⟩
  · rintro ⟨s, hs, h⟩; exact ⟨s, hs, hv s hs, h⟩
/-- The lots of a list of spans. -/
theorem nS_sum {A : List Lot} (hA : ∀ l ∈ A, l.s.f < l.s.t) : ∀ {ss : List Span}, NF ss → (∀ s ∈ ss, valid s = true) → (∀ s ∈ ss, NoCut A s.m s.f ∧ NoCut A s.m s.t) → (A.map fun l => if hasS ss l.s.m l.s.f then sizeL l else 0).sum = (ss.map fun s => nS s A).sum
  | [], _, _, _ => by rw [sum_zero fun l _ => by simp [hasS]]; rfl
  | s :: ss, h, hv, hn => by
    have ih := nS_sum hA h.tail (fun x hx => hv x (List.mem_cons_of_mem _ hx)) fun x hx => hn x (List.mem_cons_of_mem _ hx)
    rw [List.map_cons, List.sum_cons, ← ih, nS_map]
    refine sum_add fun l hl => ?_
    have hlt := hA l hl
    obtain ⟨n1, n2⟩ := hn s (List.mem_cons_self ..)
    have e1 : inSp s l = true ↔ s.m = l.s.m ∧ s.f ≤ l.s.f ∧ l.s.f < s.t := by
      constructor
      · intro h'; have := inSp_iff.1 h'; exact ⟨by omega, by omega, by omega⟩
      · rintro ⟨a, b, c⟩
        exact nocut_in n1 n2 hl (n := l.s.f) (inLot_iff.2 ⟨a.symm, by omega, by omega⟩) ⟨b, c⟩
    have e2 := hasS_has (ss := ss) (fun x hx => hv x (List.mem_cons_of_mem _ hx)) (m := l.s.m) (n := l.s.f)
    have e3 : hasS (s :: ss) l.s.m l.s.f = true ↔ (s.m = l.s.m ∧ s.f ≤ l.s.f ∧ l.s.f < s.t) ∨ Has ss l.s.m l.s.f := by rw [hasS_has hv, Has.cons]
    by_cases h1 : s.m = l.s.m ∧ s.f ≤ l.s.f ∧ l.s.f < s.t
    · have h2 : ¬ Has ss l.s.m l.s.f := fun h' => by have := h.rest h'; omega
      rw [if_pos (e3.2 (.inl h1)), if_pos (e1.2 h1), if_neg fun h' => h2 (e2.1 h')]; omega
    · by_cases h2 : Has ss l.s.m l.s.f
      · rw [if_pos (e3.2 (.inr h2)), if_neg fun h' => h1 (e1.1 h'), if_pos (e2.2 h2)]; omega
      · rw [if_neg fun h' => (e3.1 h').elim h1 h2, if_neg fun h' => h1 (e1.1 h'), if_neg fun h' => h2 (e2.1 h')]; rfl
theorem sum_le_eq {ss : List Span} {f g : Span → Int} (h : ∀ s ∈ ss, f s ≤ g s) : (ss.map f).sum ≤ (ss.map g).sum ∧ ((ss.map f).sum = (ss.map g).sum ↔ ∀ s ∈ ss, f s = g s) := by
  induction ss with
  | nil => simp
  | cons s ss ih =>
    obtain ⟨i1, i2⟩ := ih fun x hx => h x (List.mem_cons_of_mem _ hx)
    have hs := h s (List.mem_cons_self ..)
    simp only [List.map_cons, List.sum_cons]
    refine ⟨by omega, fun e x hx => ?_, fun e => ?_⟩
    · rcases List.mem_cons.1 hx with rfl | hx
      · omega
      · exact i2.1 (by omega) x hx
    · have := e s (List.mem_cons_self ..)
      have := i2.2 fun x hx => e x (List.mem_cons_of_mem _ hx)
      omega
section
variable {L : List Lot} {d : Deed}
theorem nR_iff (hg : Good L) (hr : right d = true) : nR d (cutAll d.spans L) = count d.spans ↔ ∀ m n, Has d.spans m n → ∃ x, sta L m n = some x := by
  obtain ⟨_, _, _, _, hno⟩ := right_parts hr
  have hnf := normal_nf hno
  have hv := normal_valid hno
  obtain ⟨c1, c2, _, _, c5⟩ := cutAll_spec d.spans hg.ord
  have hsta : sta (cutAll d.spans L) = sta L := sta_fun c2
  have hA : ∀ l ∈ cutAll d.spans L, l.s.f < l.s.t := fun l hl => by have := c1.ok l hl; unfold lotOk at this; omega
  have e1 : nR d (cutAll d.spans L) = (d.spans.map fun s => nS s (cutAll d.spans L)).sum := nS_sum hA hnf hv c5
  have e2 : count d.spans = (d.spans.map fun s => s.t - s.f).sum := normal_count hno
  have hsp := right_spans hr
  have each := fun s (hs : s ∈ d.spans) => nS_spec (s := s) c1 (by rw [hsta]; exact hg.full) (by have := hsp s hs; omega) (c5 s hs).1 (c5 s hs).2
  rw [e1, e2, (sum_le_eq fun s hs => (each s hs).1).2]
  constructor
  · rintro h m n ⟨s, hs, rfl, h1, h2⟩
    have := ((each s hs).2.1 (h s hs)) n h1 h2
    rw [sta_cov, hsta] at this
    exact this
  · intro h s hs
    refine (each s hs).2.2 fun n h1 h2 => ?_
    rw [sta_cov, hsta]
    exact h s.m n ⟨s, hs, rfl, h1, h2⟩
theorem any_coin (hg : Good L) (hr : right d = true) (q : Sta → Bool) : ((cutAll d.spans L).any fun l => inD d l && q (stL l)) = true ↔ ∃ m n x, Has d.spans m n ∧ sta L m n = some x ∧ q x = true := by
  obtain ⟨_, _, _, _, hno⟩ := right_parts hr
  have hv := normal_valid hno
  obtain ⟨c1, c2, _, _, c5⟩ := cutAll_spec d.spans hg.ord
  rw [List.any_eq_true]
  constructor
  · rintro ⟨l, hl, hc⟩
    simp only [Bool.and_eq_true] at hc
    exact ⟨l.s.m, l.s.f, stL l, (hasS_has hv).1 hc.1, by rw [← c2]; exact sta_first c1 hl, hc.2⟩
  · rintro ⟨m, n, x, h1, h2, h3⟩
    rw [← c2] at h2
    obtain ⟨l, hl, hc, rfl⟩ := sta_mem h2
    have hok := c1.ok l hl
    unfold lotOk at hok
    have hm := (inLot_iff.1 hc).1
    subst hm
    refine ⟨l, hl, ?_⟩
    simp only [Bool.and_eq_true]
    exact ⟨(hasS_has hv).2 ((in_out c5 hl hc (by omega)).1 h1), h3⟩
theorem refR_eq (hg : Good L) (hr : right d = true) (hk : d.kind ≠ 0) : refR d (cutAll d.spans L) = errF (sta L) d := by
  unfold errF
  rw [if_neg (by rw [hr]; simp), if_neg hk]
  unfold refR
  by_cases hc : ∀ m n, Has d.spans m n → ∃ x, sta L m n = some x
  · have h0 : ¬ (nR d (cutAll d.spans L) ≠ count d.spans) := fun h => h ((nR_iff hg hr).2 hc)
    have hn4 : ¬ ∃ m n, Has d.spans m n ∧ sta L m n = none := by rintro ⟨m, n, h1, h2⟩; obtain ⟨x, hx⟩ := hc m n h1; rw [h2] at hx; cases hx
    rw [if_neg h0, if_neg hn4]
    have s1 : spB d (cutAll d.spans L) = true ↔ ∃ m n x, Has d.spans m n ∧ sta L m n = some x ∧ (!decide (x.p = -1)) = true := any_coin hg hr (fun x => !decide (x.p = -1))
    have s2 : otB d (cutAll d.spans L) = true ↔ ∃ m n x, Has d.spans m n ∧ sta L m n = some x ∧ (!decide (x.o = d.author) && !decide (x.h = d.author)) = true := any_coin hg hr (fun x => !decide (x.o = d.author) && !decide (x.h = d.author))
    have s3 : leB d (cutAll d.spans L) = true ↔ ∃ m n x, Has d.spans m n ∧ sta L m n = some x ∧ (!decide (x.h = d.author) || (!decide (x.o = d.author) && !decide (d.kind = 3) && !(decide (d.kind = 1) && decide (d.who = x.o)))) = true := any_coin hg hr (fun x => !decide (x.h = d.author) || (!decide (x.o = d.author) && !decide (d.kind = 3) && !(decide (d.kind = 1) && decide (d.who = x.o))))
    unfold errSet
    by_cases p29 : ∃ m n x, Has d.spans m n ∧ sta L m n = some x ∧ mayS x d = 29
    · rw [if_pos p29, if_pos]
      obtain ⟨m, n, x, h1, h2, h3⟩ := p29
      refine s1.2 ⟨m, n, x, h1, h2, ?_⟩
      by_cases hp : x.p = -1
      · unfold mayS at h3
        rw [if_neg (by simpa using hp)] at h3
        split at h3 <;> (try split at h3) <;> (try split at h3) <;> cases h3
      · simp [hp]
    · have hp : ∀ m n x, Has d.spans m n → sta L m n = some x → x.p = -1 := fun m n x h1 h2 => Classical.byContradiction fun h => p29 ⟨m, n, x, h1, h2, by unfold mayS; rw [if_pos h]⟩
      rw [if_neg p29, if_neg (fun h => by obtain ⟨m, n, x, h1, h2, h3⟩ := s1.1 h; simp [hp m n x h1 h2] at h3)]
      by_cases p27 : ∃ m n x, Has d.spans m n ∧ sta L m n = some x ∧ mayS x d = 27
      · rw [if_pos p27, if_pos]
        obtain ⟨m, n, x, h1, h2, h3⟩ := p27
        refine s2.2 ⟨m, n, x, h1, h2, ?_⟩
        by_cases ho : x.o ≠ d.author ∧ x.h ≠ d.author
        · simp [ho]
        · unfold mayS at h3
          rw [if_neg (by simpa using hp m n x h1 h2), if_neg ho] at h3
          split at h3 <;> (try split at h3) <;> cases h3
      · have ho : ∀ m n x, Has d.spans m n → sta L m n = some x → ¬ (x.o ≠ d.author ∧ x.h ≠ d.author) := fun m n x h1 h2 h => p27 ⟨m, n, x, h1, h2, by unfold mayS; rw [if_neg (by simpa using hp m n x h1 h2), if_pos h]⟩
        rw [if_neg p27, if_neg (fun h => by
          obtain ⟨m, n, x, h1, h2, h3⟩ := s2.1 h
          simp only [Bool.and_eq_true, Bool.not_eq_true', decide_eq_false_iff_not] at h3
          exact ho m n x h1 h2 h3)]
        have key : ∀ m n x, Has d.spans m n → sta L m n = some x → (mayS x d = 28 ↔ (!decide (x.h = d.author) || (!decide (x.o = d.author) && !decide (d.kind = 3) && !(decide (d.kind = 1) && decide (d.who = x.o)))) = true) := fun m n x h1 h2 => by
          unfold mayS
          rw [if_neg (by simpa using hp m n x h1 h2), if_neg (ho m n x h1 h2)]
          simp only [Bool.or_eq_true, Bool.and_eq_true, Bool.not_eq_true', decide_eq_false_iff_not, Bool.and_eq_false_iff]
          by_cases hh : x.h = d.author
          · rw [if_neg (by simpa using hh)]
            by_cases hq : x.o ≠ d.author ∧ d.kind ≠ 3 ∧ (d.kind ≠ 1 ∨ d.who ≠ x.o)
            · rw [if_pos hq]
              exact ⟨fun _ => .inr ⟨⟨hq.1, hq.2.1⟩, hq.2.2⟩, fun _ => rfl⟩
            · rw [if_neg hq]
              constructor
              · intro h; cases h
              · rintro (h | ⟨⟨a, b⟩, c⟩)
                · exact (h hh).elim
                · exact (hq ⟨a, b, c⟩).elim
          · rw [if_pos hh]
            exact ⟨fun _ => .inl hh, fun _ => rfl⟩
        have e28 : leB d (cutAll d.spans L) = true ↔ ∃ m n x, Has d.spans m n ∧ sta L m n = some x ∧ mayS x d = 28 := by
          rw [s3]
          constructor
          · rintro ⟨m, n, x, h1, h2, h3⟩; exact ⟨m, n, x, h1, h2, (key m n x h1 h2).2 h3⟩
          · rintro ⟨m, n, x, h1, h2, h3⟩; exact ⟨m, n, x, h1, h2, (key m n x h1 h2).1 h3⟩
        by_cases p28 : ∃ m n x, Has d.spans m n ∧ sta L m n = some x ∧ mayS x d = 28
        · rw [if_pos p28, if_pos (e28.2 p28)]
        · rw [if_neg p28, if_neg fun h => p28 (e28.1 h)]
  · have h0 : nR d (cutAll d.spans L) ≠ count d.spans := fun h => hc ((nR_iff hg hr).1 h)
    rw [if_pos h0, if_pos]
    obtain ⟨m, hc⟩ := Classical.not_forall.1 hc
    obtain ⟨n, hc⟩ := Classical.not_forall.1 hc
    have h1 : Has d.spans m n := Classical.byContradiction fun h => hc fun h' => (h h').elim
    refine ⟨m, n, h1, ?_⟩
    cases hx : sta L m n with
    | none => rfl
    | some x => exact (hc fun _ => ⟨x, hx⟩).elim
end
end Go.Proofs.YtjilbkioieicbaaGreat

/- The reference's deeds are the program's, in plain terms. -/
namespace Go.Proofs.YtjilbkioieicbaaGreat
open Go.Vc Rt
set_option linter.unusedVariables false
set_option linter.unusedSimpArgs false
def mvI (d : Deed) (l : Lot) : Lot := if inD d l then movedL d l else l
def newL (d : Deed) : Lot := ⟨d.spans.headD default, d.author, d.author, 0, -1⟩
def refDo (d : Deed) (L : List Lot) : List Lot × Int :=
  if right d = false then (L, 1)
  else if d.kind = 0 then (if L.any (fun l => decide (l.s.m = d.mark)) = true then (L, 5) else (insL L (before L (newL d).s.m) (newL d), 0))
  else if refR d (cutAll d.spans L) = 0 then (mergeL ((cutAll d.spans L).map (mvI d)), 0) else (L, refR d (cutAll d.spans L))
theorem mvI_s (d : Deed) : keepS (mvI d) := fun l => by unfold mvI; split; exact movedL_s d l; rfl
theorem mgd_ins {L : List Lot} (h : Mgd L) {k : Nat} {x : Lot} (hx : ∀ l ∈ L, l.s.m ≠ x.s.m) : Mgd (insL L k x) := by
  have hal : ∀ {a b : Lot}, a.s.m ≠ b.s.m → alike a b = false := fun {a b} hne => by unfold alike; simp [hne]
  unfold insL
  rcases Nat.lt_or_ge L.length k with hk | hk
  · rw [List.take_of_length_le (by omega), List.drop_of_length_le (by omega), List.append_nil]
    intro i a b ha hb
    rcases Nat.lt_or_ge (i + 1) L.length with h1 | h1
    · rw [List.getElem?_append_left (by omega)] at ha
      rw [List.getElem?_append_left h1] at hb
      exact h i a b ha hb
    · have hi : i < L.length := by
        rcases Nat.lt_or_ge i L.length with h2 | h2
        · exact h2
        · rw [List.getElem?_append_right (by omega)] at hb
          rw [List.getElem?_eq_none (by simp; omega)] at hb; cases hb
      rw [List.getElem?_append_left hi] at ha
      rw [List.getElem?_append_right h1] at hb
      have : b = x := by
        have e : i + 1 - L.length = 0 := by omega
        rw [e] at hb; simpa using hb.symm
      subst this
      exact hal (hx a (List.mem_of_getElem? ha))
  · have htl : (L.take k).length = k := by simp; omega
    intro i a b ha hb
    have get : ∀ j c, (L.take k ++ [x] ++ L.drop k)[j]? = some c → (j < k ∧ L[j]? = some c) ∨ (j = k ∧ c = x) ∨ (k < j ∧ L[j - 1]? = some c) := by
      intro j c hc
      rcases Nat.lt_trichotomy j k with h1 | h1 | h1
      · rw [List.append_assoc, List.getElem?_append_left (by omega), List.getElem?_take_of_lt h1] at hc
        exact .inl ⟨h1, hc⟩
      · subst h1
        rw [List.append_assoc, List.getElem?_append_right (by omega), htl] at hc
        simp at hc
        exact .inr (.inl ⟨rfl, hc.symm⟩)
      · rw [List.getElem?_append_right (by simp; omega)] at hc
        rw [List.getElem?_drop] at hc
        refine .inr (.inr ⟨h1, ?_⟩)
        rw [← hc]; congr 1
        simp; omega
    rcases get i a ha with ⟨a1, a2⟩ | ⟨a1, a2⟩ | ⟨a1, a2⟩ <;> rcases get (i + 1) b hb with ⟨b1, b2⟩ | ⟨b1, b2⟩ | ⟨b1, b2⟩
    · exact h i a b a2 b2
    · subst b2; exact hal (hx a (List.mem_of_getElem? a2))
    · omega
    · omega
    · omega
    · subst a2; exact hal fun e => hx b (List.mem_of_getElem? b2) e.symm
    · omega
    · omega
    · refine h (i - 1) a b a2 ?_
      rw [← b2]; congr 1; omega
theorem sta_mvI {d : Deed} {A : List Lot} (hA : Ord A) (hv : ∀ s ∈ d.spans, valid s = true) (hio : ∀ l ∈ A, ∀ n, inLot l.s.m n l = true → (Has d.spans l.s.m n ↔ Has d.spans l.s.m l.s.f)) (m n : Int) : (Has d.spans m n → sta (A.map (mvI d)) m n = (sta A m n).map (movedS d)) ∧ (¬ Has d.spans m n → sta (A.map (mvI d)) m n = sta A m n) := by
  have hm : ∀ l, inLot m n (mvI d l) = inLot m n l := fun l => inLot_s (mvI_s d l)
  induction A with
  | nil => exact ⟨fun _ => rfl, fun _ => rfl⟩
  | cons l A ih =>
    obtain ⟨i1, i2⟩ := ih (ord_tail hA) fun x hx => hio x (List.mem_cons_of_mem _ hx)
    rw [List.map_cons, sta_cons, hm, sta_cons]
    by_cases hl : inLot m n l = true
    · have hm' := (inLot_iff.1 hl).1
      subst hm'
      have hb := hio l (List.mem_cons_self ..) n hl
      rw [if_pos hl, if_pos hl]
      refine ⟨fun hh => ?_, fun hh => ?_⟩
      · have : inD d l = true := (hasS_has hv).2 (hb.1 hh)
        unfold mvI; rw [if_pos this, moved_st]; rfl
      · have : ¬ inD d l = true := fun h => hh (hb.2 ((hasS_has hv).1 h))
        unfold mvI; rw [if_neg this]
    · rw [if_neg hl, if_neg hl]
      exact ⟨i1, i2⟩
theorem refDo_eq {L : List Lot} (hg : Good L) {d : Deed} (h8 : d.spans.length ≤ 8) : refDo d L = doB L d := by
  by_cases hr : right d = true
  · have hr' : ¬ right d = false := by rw [hr]; decide
    unfold refDo
    rw [if_neg hr']
    by_cases hk : d.kind = 0
    · rw [if_pos hk]
      obtain ⟨s, hs, hm, hf⟩ := right_take hr hk
      have hnl : (newL d).s = s := by unfold newL; rw [hs]; rfl
      have hany : L.any (fun l => decide (l.s.m = d.mark)) = true ↔ there L d.mark = true := by
        rw [there_iff hg.ord, List.any_eq_true]
        constructor
        · rintro ⟨l, hl, hc⟩
          have hc := of_decide_eq_true hc
          exact ⟨l.s.f, stL l, by rw [← hc]; exact sta_first hg.ord hl⟩
        · rintro ⟨n, x, hx⟩
          obtain ⟨l, hl, hc, _⟩ := sta_mem hx
          exact ⟨l, hl, by simpa using (inLot_iff.1 hc).1⟩
      unfold doB takeB
      rw [if_pos hr, if_pos hk]
      by_cases ht : there L d.mark = true
      · rw [if_pos (hany.2 ht), if_pos ht, merge_id hg.mgd]
      · rw [if_neg fun h => ht (hany.1 h), if_neg ht]
        have hne : ∀ l ∈ L, l.s.m ≠ (newL d).s.m := fun l hl e => ht (hany.1 (List.any_eq_true.2 ⟨l, hl, by rw [hnl, hm] at e; simpa using e⟩))
        have e := merge_id (mgd_ins hg.mgd (k := before L (newL d).s.m) hne)
        have e2 : (newL d).s.m = d.mark := by rw [hnl, hm]
        rw [e2] at e ⊢
        exact Prod.ext e.symm rfl
    · rw [if_neg hk, refR_eq hg hr hk]
      obtain ⟨g1, g2, g3⟩ := good_do (d := d) hg h8
      by_cases h0 : errF (sta L) d = 0
      · rw [if_pos h0]
        obtain ⟨_, _, _, _, hno⟩ := right_parts hr
        have hv := normal_valid hno
        obtain ⟨c1, c2, _, _, c5⟩ := cutAll_spec d.spans hg.ord
        have hC : Ord ((cutAll d.spans L).map (mvI d)) := ord_congr (by rw [List.map_map]; exact List.map_congr_left fun l _ => (mvI_s d l).symm) c1
        refine Prod.ext (lots_ext (merge_ord hC) g1.ord (merge_mgd _) g1.mgd ?_) (by rw [g2, h0])
        rw [g3]
        funext m n
        rw [sta_merge hC]
        obtain ⟨a1, a2⟩ := sta_mvI (d := d) c1 hv (fun l hl n hn => in_out c5 hl hn (by have := c1.ok l hl; unfold lotOk at this; omega)) m n
        by_cases hh : Has d.spans m n
        · rw [a1 hh, c2]
          unfold stepF; rw [if_pos h0, if_pos hh, if_neg hk]
        · rw [a2 hh, c2, coin_not hh]
      · rw [if_neg h0]
        exact Prod.ext (doB_refused hg.mgd (by rw [g2]; exact h0)).symm g2.symm
  · have hr' : right d = false := by simpa using hr
    unfold refDo doB
    rw [if_pos hr', if_neg hr]
end Go.Proofs.YtjilbkioieicbaaGreat

/- Walks: the reference's Owned, Held, Sum. -/
namespace Go.Proofs.YtjilbkioieicbaaGreat
open Go.Vc Rt
set_option linter.unusedVariables false
set_option linter.unusedSimpArgs false
end Go.Proofs.YtjilbkioieicbaaGreat

/- Walks: the reference's Do. -/
namespace Go.Proofs.YtjilbkioieicbaaGreat
open Go.Vc Rt
set_option linter.unusedVariables false
set_option linter.unusedSimpArgs false
/-- The end of a deed: the slice that was given, or one of its own. -/
def DoEnd (L : List Lot) (d : Deed) (v : Value) (w : World) (e : Ending) (w' : World) : Prop :=
  ∃ r L' n, e = .returned (RV.tup [.c (.x r), .c (.i n)]).den ∧ (L', n) = refDo d L ∧ Ext w w' ∧ ((r = v ∧ L' = L) ∨ ((LO.row r 27 7 (L'.map encL)).holds w' ∧ ∀ b ∈ blkOf r, w.heap.size ≤ b))
theorem cutAll_snoc {ss : List Span} {L : List Lot} {k : Nat} {s : Span} (hs : ss[k]? = some s) : cutAll (ss.take (k + 1)) L = cutAt s (cutAll (ss.take k) L) := by
  unfold cutAll; rw [List.take_add_one, hs]; simp
theorem any_at {p : Lot → Bool} {L : List Lot} {k : Nat} {x : Lot} (hx : L[k]? = some x) (h : p x = true) : L.any p = true := List.any_eq_true.2 ⟨x, List.mem_of_getElem? hx, h⟩
theorem set_same {A : List Lot} {k : Nat} {x : Lot} (hx : A[k]? = some x) : A.set k x = A := by
  obtain ⟨hlt, he⟩ := List.getElem?_eq_some_iff.1 hx
  rw [← he]; exact List.set_getElem_self hlt
theorem upd_get {f : Lot → Lot} {A : List Lot} {k : Nat} {x : Lot} (hx : A[k]? = some x) : ((A.take k).map f ++ A.drop k)[k]? = some x := by
  have hlt : k < A.length := (List.getElem?_eq_some_iff.1 hx).1
  have e : ((A.take k).map f).length = k := by simp; omega
  rw [List.getElem?_append_right (by omega), e, Nat.sub_self, List.getElem?_drop, Nat.add_zero, hx]
theorem upd_set {f : Lot → Lot} {A : List Lot} {k : Nat} {x : Lot} (hx : A[k]? = some x) : (A.take (k + 1)).map f ++ A.drop (k + 1) = ((A.take k).map f ++ A.drop k).set k (f x) := by
  obtain ⟨hlt, he⟩ := List.getElem?_eq_some_iff.1 hx
  have e : ((A.take k).map f).length = k := by simp; omega
  have e2 : A.drop k = x :: A.drop (k + 1) := by rw [List.drop_eq_getElem_cons hlt, he]
  rw [List.set_append_right _ _ (by omega), e, Nat.sub_self, e2, List.take_add_one, hx]
  simp
theorem doR_c (L : List Lot) (d : Deed) (v u : Value) (w : World) (h : SlOf loT [] w v L) (hu : SlOf spT [] w u d.spans) (hg : Good L) (hN : L.length ≤ 700000) (hS : d.spans.length ≤ 1000) :
    Calls Tryz.prog 30 [v, vD d u].toArray w (DoEnd L d v w) := by
  have hl := h.len
  have hul := hu.len
  refine calls_plainB [.x v, .s (.agg (encD d u))] Tryz.func30 rfl rfl (Nat.le_of_ble_eq_true rfl) rfl fun B hB => ?_
  repeat refine At.seq ?_
  refine At.region tab_ok ?_
  conv => whnf
  refine ⟨hu.sl.one, ?_⟩
  conv => whnf
  intro b3
  conv => whnf
  repeat refine At.seq ?_
  refine At.region tab_ok ?_
  conv => whnf
  refine ans_call b102 rfl (fun w' hw => rightR_c d [] u w' (hu.fr hw.fr)) ?_
  conv => whnf
  repeat refine At.seq ?_
  refine At.cond rfl (fun hq => ?_) (fun hq => ?_)
  · have hr : right d = false := by simpa using hq
    repeat refine At.seq ?_
    refine At.region tab_ok ?_
    conv => whnf
    repeat refine At.seq ?_
    refine At.ret (At.doneB tab_ok hB _ rfl fun w' hw => ⟨v, L, 1, rfl, by rw [refDo, if_pos hr], hw.fr, .inl ⟨rfl, rfl⟩⟩)
  refine At.skip ?_
  have hr : right d = true := by simpa using hq
  have hr' : ¬ right d = false := by rw [hr]; decide
  have hpos := right_ne hr
  repeat refine At.seq ?_
  refine At.region tab_ok ?_
  conv => whnf
  repeat refine At.seq ?_
  refine At.cond rfl (fun hq => ?_) (fun hq => ?_)
  · have hk0 := of_decide_eq_true hq
    repeat refine At.seq ?_
    refine At.region tab_ok ?_
    conv => whnf
    repeat refine At.seq ?_
    refine At.block ?_
    refine At.loopH (fun p : Nat => { N := Tryz.f30.ntmps, sl := [(0, some (.x v)), (3, some (.s (.c (.p 0 b3 0)))), (6, some (.i p))], gl := [], hp := [(0, .box b3 44 (encD d u))], S := [], ws := w }) (fun p : Nat => p ≤ L.length ∧ (L.take p).any (fun l => decide (l.s.m = d.mark)) = false) (fun p : Nat => L.length - p)
      (fun w' hw => ⟨0, ⟨Nat.zero_le _, rfl⟩, Le.of rfl rfl ⟨rfl, rfl, rfl, trivial⟩, hw.keep [0] rfl rfl rfl, ⟨⟨_, _, rfl⟩, trivial⟩, trivial⟩) ?_
    rintro k ⟨hk, hno⟩
    repeat refine At.seq ?_
    refine At.region tab_ok ?_
    conv => whnf
    refine ⟨h.sl, ?_⟩
    conv => whnf
    repeat refine At.seq ?_
    refine At.cond rfl (fun hc => At.skip ?_) (fun hc => At.exit ?_)
    · have hlt : k < L.length := by have := of_decide_eq_true hc; (try simp only [List.length_map] at this); omega
      obtain ⟨x, hx⟩ : ∃ x, L[k]? = some x := ⟨_, List.getElem?_eq_getElem hlt⟩
      repeat refine At.seq ?_
      refine At.block ?_
      repeat refine At.seq ?_
      refine At.draw tab_ok mixed (by kernel_rfl) ?_
      conv => whnf
      refine ⟨by omega, ?_⟩
      conv => whnf
      refine ⟨by omega, ?_⟩
      conv => whnf
      refine ⟨[.i x.s.m], fun w' hw => h.load (n := 1) hw.fr hx rfl, ?_⟩
      conv => whnf
      repeat refine At.seq ?_
      refine At.cond rfl (fun hq => ?_) (fun hq => ?_)
      · have hm := of_decide_eq_true hq
        repeat refine At.seq ?_
        refine At.region tab_ok ?_
        conv => whnf
        repeat refine At.seq ?_
        refine At.ret (At.doneB tab_ok hB _ rfl fun w' hw => ⟨v, L, 5, rfl, by rw [refDo, if_neg hr', if_pos hk0, if_pos (any_at hx (decide_eq_true hm))], hw.fr, .inl ⟨rfl, rfl⟩⟩)
      refine At.skip ?_
      repeat refine At.seq ?_
      refine At.region tab_ok ?_
      conv => whnf
      refine ⟨⟨by omega, by omega⟩, ?_⟩
      conv => whnf
      refine At.nextH fun w' hw => ⟨(k + 1), ⟨by omega, by rw [List.take_add_one, hx]; simp [hno]; exact of_decide_eq_false hq⟩, by omega, Le.of rfl rfl ⟨rfl, rfl, rfl, trivial⟩, hw.keep [0] rfl rfl rfl, ⟨⟨_, _, rfl⟩, trivial⟩, trivial⟩
    have hge : k = L.length := by have := of_decide_eq_false hc; omega
    subst hge
    rw [List.take_length] at hno
    obtain ⟨s, hs, hm, hf⟩ := right_take hr hk0
    have hx : d.spans[0]? = some s := by rw [hs]; rfl
    repeat refine At.seq ?_
    refine At.planG tab_ok mixed [(0, .box b3 44 (encD d u))] (.take 0 (.take 1 (.take 2 (.take 3 (.take 4 (.take 5 (.take 6 (.take 7 (.take 8 (.take 9 (.br 10 (.take 11 (.take 12 (.done))) (.nob)))))))))))) (by kernel_rfl) (by kernel_rfl) ⟨rfl, trivial⟩ ?_
    conv => whnf
    refine ⟨by omega, ?_⟩
    conv => whnf
    refine ⟨by omega, ?_⟩
    conv => whnf
    refine ⟨encS s, fun w' hw => hu.load (n := 3) hw hx rfl, ?_⟩
    conv => whnf
    refine ⟨?_, trivial⟩
    conv => whnf
    have hnew : newL d = ⟨s, d.author, d.author, 0, -1⟩ := by unfold newL; rw [hs]; rfl
    refine ansR_call b103 (rd1 (nopL _)) (fun w' hw => putL_c L ⟨s, d.author, d.author, 0, -1⟩ v w' (h.fr hw.fr) (by omega)) ?_
    intro v1
    conv => whnf
    refine ⟨⟨⟨rfl, trivial⟩, fun w' hw => hw.fr⟩, ?_⟩
    conv => whnf
    repeat refine At.seq ?_
    refine At.ret (At.doneB tab_ok hB _ rfl fun w' hw => ⟨v1, insL L (before L s.m) ⟨s, d.author, d.author, 0, -1⟩, 0, rfl, by rw [refDo, if_neg hr', if_pos hk0, if_neg (by rw [hno]; decide), hnew], hw.fr, .inr ⟨hw.row (id := 1) rfl, fun b hb => (hw.fresh (id := 1) rfl b hb).elim (fun h => by cases h) (fun h => h)⟩⟩)
  have hk0 := of_decide_eq_false hq
  refine At.skip ?_
  repeat refine At.seq ?_
  refine At.region tab_ok ?_
  conv => whnf
  repeat refine At.seq ?_
  refine At.region tab_ok ?_
  conv => whnf
  repeat refine At.seq ?_
  refine At.block ?_
  refine At.loopH (fun p : Nat × RV × List (Nat × LO) => { N := Tryz.f30.ntmps, sl := [(0, some (.x v)), (3, some (.s (.c (.p 0 b3 0)))), (7, some p.2.1), (8, some (.i p.1))], gl := [], hp := p.2.2 ++ [(0, .box b3 44 (encD d u))], S := [], ws := w })
    (fun p => p.1 ≤ d.spans.length ∧ ((p = (0, .x v, [])) ∨ ∃ v1, 1 ≤ p.1 ∧ p.2 = (.s (.c (.o 1 v1)), [(1, .row v1 27 7 ((cutAll (d.spans.take p.1) L).map encL))]))) (fun p => d.spans.length - p.1)
    (fun w' hw => ⟨(0, .x v, []), ⟨Nat.zero_le _, .inl rfl⟩, Le.of rfl rfl ⟨rfl, rfl, rfl, rfl, trivial⟩, hw.keep [0] rfl rfl rfl, ⟨⟨_, _, rfl⟩, trivial⟩, trivial⟩) ?_
  rintro ⟨k, all, ex⟩ ⟨hk, hh⟩
  have hok : ∀ (k : Nat) (s : Span), d.spans[k]? = some s → s.f < s.t := fun k s hs => (right_spans hr s (List.mem_of_getElem? hs)).2.2.2.1
  have hbd : ∀ k, Ord (cutAll (d.spans.take k) L) ∧ (cutAll (d.spans.take k) L).length ≤ L.length + 2000 := fun k => by
    have h1 := cutAll_spec (d.spans.take k) hg.ord
    have h2 := h1.2.2.1
    rw [List.length_take] at h2
    exact ⟨h1.1, by omega⟩
  rcases hh with hh | ⟨v1, hk1, hh⟩
  · obtain ⟨rfl, rfl, rfl⟩ : k = 0 ∧ all = .x v ∧ ex = [] := by simpa using hh
    simp only [List.nil_append]
    repeat refine At.seq ?_
    refine At.region tab_ok ?_
    conv => whnf
    refine ⟨hu.sl, ?_⟩
    conv => whnf
    repeat refine At.seq ?_
    refine At.cond rfl (fun hc => At.skip ?_) (fun hc => At.exit ?_)
    · have hlts : 0 < d.spans.length := by have := of_decide_eq_true hc; (try simp only [List.length_map] at this); omega
      obtain ⟨s, hs⟩ : ∃ x, d.spans[0]? = some x := ⟨_, List.getElem?_eq_getElem hlts⟩
      repeat refine At.seq ?_
      refine At.block ?_
      repeat refine At.seq ?_
      refine At.region tab_ok ?_
      conv => whnf
      refine ⟨by omega, ?_⟩
      conv => whnf
      refine ⟨by omega, ?_⟩
      conv => whnf
      refine ⟨encS s, fun w' hw => hu.load (n := 3) hw.fr hs rfl, ?_⟩
      conv => whnf
      refine ansR_call b104 (rd1 (nopL _)) (fun w' hw => cutR_c L s v w' (h.fr hw.fr) (by omega)) ?_
      intro v1
      conv => whnf
      repeat refine At.seq ?_
      refine At.region tab_ok ?_
      conv => whnf
      refine ⟨⟨by omega, by omega⟩, ?_⟩
      conv => whnf
      refine At.nextH fun w' hw => ⟨(1, .s (.c (.o 1 v1)), [(1, .row v1 27 7 ((cutAll (d.spans.take 1) L).map encL))]), ⟨by simp only; omega, .inr ⟨v1, by simp only; omega, rfl⟩⟩, by simp only; omega, Le.of rfl rfl ⟨rfl, rfl, rfl, rfl, trivial⟩, hw.keep [1, 0] (by simp only; rw [cutAll_snoc (k := 0) hs, ← cutR_eq (hok _ _ hs) (hbd 0).1]; rfl) rfl rfl, ⟨⟨_, _, rfl⟩, ⟨_, _, _, rfl⟩, trivial⟩, ⟨(nopL _).okH, trivial⟩⟩
    exfalso
    have := of_decide_eq_false hc
    omega
  obtain ⟨rfl, rfl⟩ : all = .s (.c (.o 1 v1)) ∧ ex = [(1, .row v1 27 7 ((cutAll (d.spans.take k) L).map encL))] := by simpa using hh
  simp only [List.cons_append, List.nil_append] at hk hk1 ⊢
  have hb := hbd k
  repeat refine At.seq ?_
  refine At.region tab_ok ?_
  conv => whnf
  refine ⟨hu.sl, ?_⟩
  conv => whnf
  repeat refine At.seq ?_
  refine At.cond rfl (fun hc => At.skip ?_) (fun hc => At.exit ?_)
  · have hlts : k < d.spans.length := by have := of_decide_eq_true hc; (try simp only [List.length_map] at this); omega
    obtain ⟨s, hs⟩ : ∃ x, d.spans[k]? = some x := ⟨_, List.getElem?_eq_getElem hlts⟩
    have hcut := cutAll_snoc (L := L) hs
    rw [← cutR_eq (hok _ _ hs) hb.1] at hcut
    generalize cutAll (d.spans.take k) L = A at *
    repeat refine At.seq ?_
    refine At.block ?_
    repeat refine At.seq ?_
    refine At.region tab_ok ?_
    conv => whnf
    refine ⟨by omega, ?_⟩
    conv => whnf
    refine ⟨by omega, ?_⟩
    conv => whnf
    refine ⟨encS s, fun w' hw => hu.load (n := 3) hw.fr hs rfl, ?_⟩
    conv => whnf
    refine ansR_call b104 (rd1 (nopL _)) (fun w' hw => cutR_c A s v1 w' (SlOf.of_row (hw.row (id := 1) rfl) (fun b hb hb' => by cases hb') (by omega)) (by omega)) ?_
    intro v2
    conv => whnf
    repeat refine At.seq ?_
    refine At.region tab_ok ?_
    conv => whnf
    refine ⟨⟨by omega, by omega⟩, ?_⟩
    conv => whnf
    refine At.nextH fun w' hw => ⟨(k + 1, .s (.c (.o 1 v2)), [(1, .row v2 27 7 ((cutAll (d.spans.take (k + 1)) L).map encL))]), ⟨by simp only; omega, .inr ⟨v2, by simp only; omega, rfl⟩⟩, by simp only; omega, Le.of rfl rfl ⟨rfl, rfl, rfl, rfl, trivial⟩, hw.ren [2, 0] (by simp only; rw [hcut]; rfl) rfl rfl, ⟨⟨_, _, rfl⟩, ⟨_, _, _, rfl⟩, trivial⟩, ⟨(nopL _).okH, trivial⟩⟩
  have hge : k = d.spans.length := by have := of_decide_eq_false hc; omega
  subst hge
  rw [List.take_length] at hb ⊢
  have hdo : refDo d L = if refR d (cutAll d.spans L) = 0 then (mergeL ((cutAll d.spans L).map (mvI d)), 0) else (L, refR d (cutAll d.spans L)) := by rw [refDo, if_neg hr', if_neg hk0]
  generalize cutAll d.spans L = A at *
  repeat refine At.seq ?_
  refine At.region tab_ok ?_
  conv => whnf
  refine ans_call b105 rfl (fun w' hw => refused_cR A d v1 u w' (SlOf.of_row (hw.row (id := 1) rfl) (fun b hb hb' => by cases hb') (by omega)) (hu.fr hw.fr) (by omega) (by omega) hb.1.ok) ?_
  conv => whnf
  repeat refine At.seq ?_
  refine At.region tab_ok ?_
  conv => whnf
  repeat refine At.seq ?_
  refine At.cond rfl (fun hq => ?_) (fun hq => ?_)
  · have hne : ¬ refR d A = 0 := by simpa using hq
    repeat refine At.seq ?_
    refine At.region tab_ok ?_
    conv => whnf
    repeat refine At.seq ?_
    refine At.ret (At.doneB tab_ok hB _ rfl fun w' hw => ⟨v, L, refR d A, rfl, by rw [hdo, if_neg hne], hw.fr, .inl ⟨rfl, rfl⟩⟩)
  have h0 : refR d A = 0 := by simpa using hq
  refine At.skip ?_
  repeat refine At.seq ?_
  refine At.region tab_ok ?_
  conv => whnf
  intro v2
  conv => whnf
  refine ⟨rfl, obl_map encL_ints ?_⟩
  conv => whnf
  refine ⟨⟨rfl, by simp; omega⟩, ?_⟩
  conv => whnf
  intro v3
  conv => whnf
  repeat refine At.seq ?_
  refine At.region tab_ok ?_
  conv => whnf
  repeat refine At.seq ?_
  refine At.block ?_
  clear hh hbd hk hk1
  refine At.loopH (fun p : Nat × Value => { N := Tryz.f30.ntmps, sl := [(3, some (.s (.c (.p 0 b3 0)))), (10, some (.s (.c (.o 1 p.2)))), (11, some (.i p.1))], gl := [], hp := [(1, .row p.2 27 7 (((A.take p.1).map (mvI d) ++ A.drop p.1).map encL)), (0, .box b3 44 (encD d u))], S := [], ws := w }) (fun p : Nat × Value => p.1 ≤ A.length) (fun p : Nat × Value => A.length - p.1)
    (fun w' hw => ⟨(0, v3), Nat.zero_le _, Le.of rfl rfl ⟨rfl, rfl, rfl, trivial⟩, hw.ren [2,0] ((by simp only [List.take_zero, List.drop_zero, List.map_nil, List.nil_append]; rfl)) rfl rfl, ⟨⟨_, _, rfl⟩, ⟨_, _, _, rfl⟩, trivial⟩, ⟨(nopL _).okH, trivial⟩⟩) ?_
  rintro ⟨k, vo⟩ hk
  simp only at hk ⊢
  have hlen : ((A.take k).map (mvI d) ++ A.drop k).length = A.length := by simp; omega
  repeat refine At.seq ?_
  refine At.region tab_ok ?_
  conv => whnf
  refine ⟨rfl, ?_⟩
  conv => whnf
  repeat refine At.seq ?_
  refine At.cond rfl (fun hc => At.skip ?_) (fun hc => At.exit ?_)
  · have hlt : k < A.length := by have := of_decide_eq_true hc; simp only [List.length_map, hlen] at this; omega
    obtain ⟨x, hx⟩ : ∃ x, A[k]? = some x := ⟨_, List.getElem?_eq_getElem hlt⟩
    have hM := upd_get (f := mvI d) hx
    have hst := upd_set (f := mvI d) hx
    generalize (A.take k).map (mvI d) ++ A.drop k = M at *
    repeat refine At.seq ?_
    refine At.block ?_
    repeat refine At.seq ?_
    refine At.draw tab_ok mixed (by kernel_rfl) ?_
    conv => whnf
    refine ⟨rfl, ?_⟩
    conv => whnf
    refine ⟨by omega, ?_⟩
    conv => whnf
    refine ⟨by (try simp only [List.length_map]); omega, ?_⟩
    conv => whnf
    refine ⟨encL x, ⟨rfl, rfl, by omega, by rw [Int.toNat_natCast, List.getElem?_map, hM]; rfl⟩, ?_⟩
    conv => whnf
    refine ⟨.b (inD d x), ans_quiet b106 (fun w' hw => inR_c x d.spans [] u w' (hu.fr hw.fr)), ?_⟩
    conv => whnf
    repeat refine At.seq ?_
    refine At.cond rfl (fun hq => ?_) (fun hq => ?_)
    · have hmv : mvI d x = movedL d x := by unfold mvI; rw [if_pos hq]
      repeat refine At.seq ?_
      refine At.planG tab_ok mixed [(0, .box b3 44 (encD d u))] (.take 0 (.take 1 (.take 2 (.take 3 (.take 6 (.br 4 (.br 5 (.br 7 (.br 8 (.br 9 (.done) (.nob)) (.nob)) (.nob)) (.nob)) (.nob))))))) (by kernel_rfl) (by kernel_rfl) ⟨rfl, trivial⟩ ?_
      conv => whnf
      refine ⟨?_, trivial⟩
      conv => whnf
      refine ⟨rfl, ?_⟩
      conv => whnf
      refine ⟨by omega, ?_⟩
      conv => whnf
      refine ⟨by simp only [List.length_map]; omega, ?_⟩
      conv => whnf
      refine ⟨⟨⟨rfl, trivial⟩, fun w' hw => hw.fr⟩, ?_⟩
      conv => whnf
      refine ⟨?_, trivial⟩
      conv => whnf
      refine ⟨encL x, ⟨rfl, rfl, by omega, by rw [Int.toNat_natCast, List.getElem?_map, hM]; rfl⟩, ?_⟩
      conv => whnf
      refine ⟨⟨⟨rfl, trivial⟩, fun w' hw => hw.fr⟩, ?_⟩
      conv => whnf
      refine ⟨?_, trivial⟩
      conv => whnf
      refine ans_call b107 rfl (fun w' hw => moved_c x d u w' hu.sl) ?_
      conv => whnf
      refine ⟨⟨⟨rfl, trivial⟩, fun w' hw => hw.fr⟩, ?_⟩
      conv => whnf
      refine ⟨?_, trivial⟩
      conv => whnf
      refine ⟨rfl, ?_⟩
      conv => whnf
      refine ⟨by omega, ?_⟩
      conv => whnf
      refine ⟨by simp only [List.length_map]; omega, ?_⟩
      conv => whnf
      refine ⟨⟨⟨rfl, trivial⟩, fun w' hw => hw.fr⟩, ?_⟩
      conv => whnf
      refine ⟨?_, trivial⟩
      conv => whnf
      refine ⟨encL x, ⟨rfl, rfl, by omega, by rw [Int.toNat_natCast, List.getElem?_map, hM]; rfl⟩, ?_⟩
      conv => whnf
      refine ⟨⟨⟨rfl, trivial⟩, fun w' hw => hw.fr⟩, ?_⟩
      conv => whnf
      repeat refine At.seq ?_
      refine At.region tab_ok ?_
      conv => whnf
      refine ⟨⟨by omega, by omega⟩, ?_⟩
      conv => whnf
      refine At.nextH fun w' hw => ⟨(k + 1, vo), by simp only; omega, by simp only; omega, Le.of rfl rfl ⟨rfl, rfl, rfl, trivial⟩, hw.keep [1, 0] (by simp only [Int.toNat_natCast]; rw [hst, hmv, List.map_set]; rfl) rfl rfl, ⟨⟨_, _, rfl⟩, ⟨_, _, _, rfl⟩, trivial⟩, ⟨(nopL _).okH, trivial⟩⟩
    have hmv : mvI d x = x := by unfold mvI; rw [if_neg (by rw [hq]; decide)]
    refine At.skip ?_
    repeat refine At.seq ?_
    refine At.region tab_ok ?_
    conv => whnf
    refine ⟨⟨by omega, by omega⟩, ?_⟩
    conv => whnf
    refine At.nextH fun w' hw => ⟨(k + 1, vo), by simp only; omega, by simp only; omega, Le.of rfl rfl ⟨rfl, rfl, rfl, trivial⟩, hw.keep [1, 0] (by simp only; rw [hst, hmv, set_same hM]; rfl) rfl rfl, ⟨⟨_, _, rfl⟩, ⟨_, _, _, rfl⟩, trivial⟩, ⟨(nopL _).okH, trivial⟩⟩
  have hge : k = A.length := by have := of_decide_eq_false hc; simp only [List.length_map, hlen] at this; omega
  subst hge
  rw [List.take_length, List.drop_length, List.append_nil] 
  repeat refine At.seq ?_
  refine At.region tab_ok ?_
  conv => whnf
  refine ansR_call b108 (rd1 (nopL _)) (fun w' hw => merged_c (A.map (mvI d)) vo w' (SlOf.of_row (hw.row (id := 1) rfl) (fun b hb hb' => by cases hb') (by simp; omega)) (by simp; omega)) ?_
  intro v4
  conv => whnf
  repeat refine At.seq ?_
  refine At.ret (At.doneB tab_ok hB _ rfl fun w' hw => ⟨v4, mergeL (A.map (mvI d)), 0, rfl, by rw [hdo, if_pos h0], hw.fr, .inr ⟨hw.row (id := 2) rfl, fun b hb => (hw.fresh (id := 2) rfl b hb).elim (fun h => by cases h) (fun h => h)⟩⟩)
end Go.Proofs.YtjilbkioieicbaaGreat
