/- Walks: the normal form of spans, and the number of coins. -/
import Derived.Test.YtjilbkioieicbaaW6
import Derived.Test.YtjilbkioieicbaaP1
namespace Go.Proofs.Ytjilbkioieicbaa
open Go.Vc Rt
set_option linter.unusedVariables false
set_option linter.unusedSimpArgs false
theorem last_get (out : List Span) : ∃ r, 0 < out.length → out[out.length - 1]? = some r := by
  rcases Nat.eq_zero_or_pos out.length with h | h
  · exact ⟨default, fun h' => by omega⟩
  · exact ⟨out[out.length - 1], fun _ => List.getElem?_eq_getElem (by omega)⟩
theorem rd1 {E size : Nat} {L : List (List CV)} (h : NoP L) : rdOk [.row E size L] := ⟨h, trivial⟩
theorem join_set {out : List Span} {r x : Span} (h0 : 0 < out.length) (hr : out[out.length - 1]? = some r) (h1 : r.m = x.m) (h2 : x.f ≤ r.t) : join out x = out.set (out.length - 1) ⟨r.m, r.f, max r.t x.t⟩ := by
  rcases List.eq_nil_or_concat out with rfl | ⟨o, r', rfl⟩
  · simp at h0
  · simp only [List.concat_eq_append] at *
    simp at hr
    subst hr
    rw [join_snoc, if_pos ⟨h1, h2⟩]
    simp
theorem join_app {out : List Span} {r x : Span} (hr : 0 < out.length → out[out.length - 1]? = some r) (h : 0 < out.length → r.m = x.m → ¬ x.f ≤ r.t) : join out x = out ++ [x] := by
  rcases List.eq_nil_or_concat out with rfl | ⟨o, r', rfl⟩
  · rfl
  · simp only [List.concat_eq_append] at *
    have hr := hr (by simp)
    simp at hr
    subst hr
    rw [join_snoc, if_neg]
    rintro ⟨h1, h2⟩
    exact h (by simp) h1 h2
theorem pair_le {ys : List Span} (h : ys.Pairwise (fun a b => ¬ ltS b a)) : ys.Pairwise le2 := h.imp fun {a b} h => by unfold ltS at h; unfold le2; omega
theorem join_len (out : List Span) (x : Span) : (join out x).length ≤ out.length + 1 := by
  rcases List.eq_nil_or_concat out with rfl | ⟨o, r', rfl⟩
  · simp [join]
  · simp only [List.concat_eq_append]
    rw [join_snoc]
    split <;> simp
theorem joins_len : ∀ (l out : List Span), (l.foldl join out).length ≤ out.length + l.length
  | [], out => by simp
  | x :: l, out => by
    have := joins_len l (join out x)
    have := join_len out x
    simp only [List.foldl_cons, List.length_cons]; omega
theorem norm_len (l : List Span) : (norm l).length ≤ l.length := by
  unfold norm joinAll
  have h1 := joins_len (isort (l.filter valid)) []
  have h2 := (isort_perm (l.filter valid)).length_eq
  have h3 := List.length_filter_le valid l
  simp only [List.length_nil] at h1
  omega
theorem norm_c (xs : List Span) (S : List Nat) (v : Value) (w : World) (h : SlOf spT S w v xs) (hN : xs.length ≤ 1000000) : AnsR Try.prog 67 [v] [.row 56 3 ((norm xs).map encS)] w := by
  replace h := h.avoid (S' := []) (fun b hb => by cases hb)
  refine calls_plainB [.x v] Try.func67 rfl rfl (Nat.le_of_ble_eq_true rfl) rfl fun B hB => ?_
  repeat refine At.seq ?_
  refine At.region tab_ok ?_
  conv => whnf
  repeat refine At.seq ?_
  refine At.region tab_ok ?_
  conv => whnf
  refine ansR_call b97 (rd1 (nopS xs)) (fun w' hw => cloneS_c xs [] v w' (h.fr hw.fr) hN) ?_
  intro v1
  conv => whnf
  refine row_call (id := 0) b96 rfl (fun r v' L' => r = .s (.c (.o 0 v')) ∧ L' = (xs.filter valid).map encS) (fun w' hw => ?_) ?_
  · refine (deleteS_c xs v1 w' (hw.row (id := 0) rfl) hN 98 #[] (fun s => !valid s) b98 (fun x _ w'' _ => norm1_c x w'')).mono ?_
    rintro e w'' ⟨v', he, hh, hf, hb⟩
    refine ⟨.s (.c (.o 0 v')), v', _, he, ⟨rfl, rfl⟩, ?_, hf, fun b hb' => .inl (hb b hb')⟩
    have e : (fun x => !(!valid x)) = valid := by funext x; simp
    rw [e] at hh
    exact hh
  rintro r v2 L' ⟨rfl, rfl⟩ hsl
  refine ⟨hsl, nopS _, ?_⟩
  conv => whnf
  generalize hfl : xs.filter valid = zs
  have hzl : zs.length ≤ 1000000 := by rw [← hfl]; exact Nat.le_trans (List.length_filter_le _ _) hN
  repeat refine At.seq ?_
  refine At.region tab_ok ?_
  conv => whnf
  refine row_call (id := 0) b99 rfl (fun r v' L' => r = .tup [] ∧ v' = v2 ∧ ∃ ys : List Span, L' = ys.map encS ∧ ys.Perm zs ∧ ys.Pairwise (fun a b => ¬ ltS b a)) (fun w' hw => ?_) ?_
  · refine (sort_c zs v2 w' (hw.row (id := 0) rfl) hzl).mono ?_
    rintro e w'' ⟨ys, he, h1, h2, h3, h4⟩
    exact ⟨.tup [], v2, _, he, ⟨rfl, rfl, ys, rfl, h1, h2⟩, h3, h4, fun b hb => .inl hb⟩
  rintro r v3 L' ⟨rfl, rfl, ys, rfl, hperm, hsort⟩ hsl'
  refine ⟨fun v hv => (by cases hv), nopS _, ?_⟩
  conv => whnf
  have hyl : ys.length ≤ 1000000 := by rw [hperm.length_eq]; exact hzl
  have hnorm : joinAll ys = norm xs := norm_of_sorted (by rw [hfl]; exact hperm) (pair_le hsort)
  repeat refine At.seq ?_
  refine At.region tab_ok ?_
  conv => whnf
  repeat refine At.seq ?_
  refine At.region tab_ok ?_
  conv => whnf
  refine ⟨rfl, ?_⟩
  conv => whnf
  repeat refine At.seq ?_
  refine At.block ?_
  refine At.loopH (fun p : Nat × Value => { N := Try.f67.ntmps, sl := [(4, some (.s (.c (.o 1 p.2)))), (13, some (.s (.c (.o 0 v3)))), (14, some (.i ys.length)), (15, some (.i p.1))], gl := [], hp := [(1, .row p.2 56 3 (((ys.take p.1).foldl join []).map encS)), (0, .row v3 56 3 (ys.map encS))], S := [], ws := w }) (fun p => p.1 ≤ ys.length) (fun p => ys.length - p.1)
    (fun w' hw => ⟨(0, .slice none 0 0), Nat.zero_le _, Le.of rfl rfl ⟨rfl, rfl, congrArg (Value.int .i64) (by simp), rfl, trivial⟩, hw.nil rfl rfl rfl, ⟨⟨_, _, _, rfl⟩, ⟨_, _, _, rfl⟩, trivial⟩, ⟨(nopS _).okH, (nopS _).okH, trivial⟩⟩) ?_
  rintro ⟨k, vo⟩ hk
  simp only at hk ⊢
  repeat refine At.seq ?_
  refine At.region tab_ok ?_
  conv => whnf
  repeat refine At.seq ?_
  refine At.cond rfl (fun hc => At.skip ?_) (fun hc => At.exit ?_)
  · have hlt : k < ys.length := by have := of_decide_eq_true hc; omega
    obtain ⟨x, hx⟩ : ∃ x, ys[k]? = some x := ⟨_, List.getElem?_eq_getElem hlt⟩
    have hol := joins_len (ys.take k) []
    have hnx : (ys.take (k + 1)).foldl join [] = join ((ys.take k).foldl join []) x := by rw [List.take_add_one, hx, List.foldl_append]; rfl
    generalize (ys.take k).foldl join [] = out at hol hnx ⊢
    simp only [List.length_nil, List.length_take] at hol
    obtain ⟨r, hr⟩ := last_get out
    have hr' : ∀ {q : Int}, q = out.length - 1 → 0 ≤ q → (out.map encS)[q.toNat]? = some (encS r) := fun {q} e h0 => by
      rw [List.getElem?_map, show q.toNat = out.length - 1 by omega, hr (by omega)]; rfl
    have hml : (out.map encS).length = out.length := by simp
    repeat refine At.seq ?_
    refine At.block ?_
    repeat refine At.seq ?_
    refine At.region tab_ok ?_
    conv => whnf
    refine ⟨rfl, ?_⟩
    conv => whnf
    refine ⟨by omega, ?_⟩
    conv => whnf
    refine ⟨by simp; omega, ?_⟩
    conv => whnf
    refine ⟨encS x, ⟨rfl, rfl, by omega, by simp [hx]⟩, ?_⟩
    conv => whnf
    intro b
    conv => whnf
    repeat refine At.seq ?_
    refine At.region tab_ok ?_
    conv => whnf
    refine ⟨rfl, ?_⟩
    conv => whnf
    refine ⟨by rw [hml]; exact ⟨by omega, by omega⟩, ?_⟩
    conv => whnf
    repeat refine At.seq ?_
    refine At.draw tab_ok mixed (by kernel_rfl) ?_
    conv => whnf
    refine ⟨by simp only [gimp]; intro _; trivial, ?_⟩
    conv => whnf
    refine ⟨by simp only [gimp]; intro h1; exact of_decide_eq_true h1, ?_⟩
    conv => whnf
    refine ⟨by simp only [gimp]; intro h1; omega, ?_⟩
    conv => whnf
    refine ⟨encS r, by simp only [gimp]; intro h1; have h1 := of_decide_eq_true h1; exact ⟨trivial, trivial, h1, hr' (by rw [hml]) h1⟩, ?_⟩
    conv => whnf
    refine ⟨by simp only [gimp]; intro _; trivial, ?_⟩
    conv => whnf
    refine ⟨by simp only [gimp]; intro h1; simp only [band, Bool.and_eq_true, decide_eq_true_eq] at h1; exact h1.1, ?_⟩
    conv => whnf
    refine ⟨by simp only [gimp]; intro h1; omega, ?_⟩
    conv => whnf
    refine ⟨encS r, by simp only [gimp]; intro h1; simp only [band, Bool.and_eq_true, decide_eq_true_eq] at h1; exact ⟨trivial, trivial, h1.1, hr' (by rw [hml]) h1.1⟩, ?_⟩
    conv => whnf
    repeat refine At.seq ?_
    refine At.cond rfl (fun hq => ?_) (fun hq => ?_)
    · simp only [band, Bool.and_eq_true, decide_eq_true_eq] at hq
      obtain ⟨⟨hq1, hq2⟩, hq3⟩ := hq
      have h0 : 0 < out.length := by rw [hml] at hq1; omega
      have hjs := join_set h0 (hr h0) hq2 hq3
      have hidx : (((out.map encS).length : Int) - 1).toNat = out.length - 1 := by rw [hml]; omega
      repeat refine At.seq ?_
      refine At.plan tab_ok mixed [(2, .box b 56 (encS x)), (0, .row v3 56 3 (ys.map encS))] (.take 0 (.take 1 (.take 2 (.take 3 (.take 7 (.take 8 (.br 4 (.take 5 (.br 6 (.take 9 (.br 10 (.take 11 (.br 12 .done .nob)) .nob)) .nob)) .nob))))))) (by kernel_rfl) (by kernel_rfl) ⟨rfl, rfl, trivial⟩ ?_
      conv => whnf
      refine ⟨?_, trivial⟩
      conv => whnf
      refine ⟨rfl, ?_⟩
      conv => whnf
      refine ⟨hq1, ?_⟩
      conv => whnf
      refine ⟨by omega, ?_⟩
      conv => whnf
      refine ⟨⟨⟨rfl, rfl, trivial⟩, fun w' hw => hw.fr⟩, ?_⟩
      conv => whnf
      refine ⟨⟨encS r, ⟨rfl, rfl, hq1, hr' (by rw [hml]) hq1⟩, ?_⟩, trivial⟩
      conv => whnf
      refine ⟨⟨⟨rfl, rfl, trivial⟩, fun w' hw => hw.fr⟩, ?_⟩
      conv => whnf
      refine ⟨?_, trivial⟩
      conv => whnf
      refine ⟨rfl, ?_⟩
      conv => whnf
      refine ⟨hq1, ?_⟩
      conv => whnf
      refine ⟨by omega, ?_⟩
      conv => whnf
      refine ⟨⟨⟨rfl, rfl, trivial⟩, fun w' hw => hw.fr⟩, ?_⟩
      conv => whnf
      refine ⟨⟨encS r, ⟨rfl, rfl, hq1, hr' (by rw [hml]) hq1⟩, ?_⟩, trivial⟩
      conv => whnf
      refine ⟨⟨⟨rfl, rfl, trivial⟩, fun w' hw => hw.fr⟩, ?_⟩
      conv => whnf
      refine At.exit ?_
      repeat refine At.seq ?_
      refine At.region tab_ok ?_
      conv => whnf
      refine ⟨⟨by omega, by omega⟩, ?_⟩
      conv => whnf
      refine At.nextH fun w' hw => ⟨(k + 1, vo), by simp only; omega, by simp only; omega, Le.of rfl rfl ⟨rfl, rfl, rfl, rfl, trivial⟩, hw.keep [1, 0] ?_ rfl rfl, ⟨⟨_, _, _, rfl⟩, ⟨_, _, _, rfl⟩, trivial⟩, ⟨(nopS _).okH, (nopS _).okH, trivial⟩⟩
      show [(1, LO.row vo 56 3 _), (0, LO.row v3 56 3 _)] = [(1, LO.row vo 56 3 _), (0, LO.row v3 56 3 _)]
      rw [hnx, hjs, hidx, List.map_set]
      rfl
    · have hja : join out x = out ++ [x] := join_app hr fun h0 h1 h2 => by
        simp only [band, Bool.and_eq_false_iff, decide_eq_false_iff_not] at hq
        rw [hml] at hq; omega
      refine At.skip ?_
      repeat refine At.seq ?_
      refine At.region tab_ok ?_
      conv => whnf
      intro v4
      conv => whnf
      refine ⟨rfl, ?_⟩
      conv => whnf
      refine ⟨⟨rfl, by simp; omega⟩, ?_⟩
      conv => whnf
      intro v5
      conv => whnf
      repeat refine At.seq ?_
      refine At.region tab_ok ?_
      conv => whnf
      refine ⟨⟨by omega, by omega⟩, ?_⟩
      conv => whnf
      refine At.nextH fun w' hw => ⟨(k + 1, v5), by simp only; omega, by simp only; omega, Le.of rfl rfl ⟨rfl, rfl, rfl, rfl, trivial⟩, hw.keep [1, 0] ?_ rfl rfl, ⟨⟨_, _, _, rfl⟩, ⟨_, _, _, rfl⟩, trivial⟩, ⟨(nopS _).okH, (nopS _).okH, trivial⟩⟩
      show [(1, LO.row v5 56 3 _), (0, LO.row v3 56 3 _)] = [(1, LO.row v5 56 3 _), (0, LO.row v3 56 3 _)]
      rw [hnx, hja, List.map_append]
      rfl
  · have hge : k = ys.length := by have := of_decide_eq_false hc; omega
    subst hge
    repeat refine At.seq ?_
    refine At.region tab_ok ?_
    conv => whnf
    repeat refine At.seq ?_
    refine At.ret (At.doneB tab_ok hB _ rfl fun w' hw => ansR_row (id := 1) hw (by rw [← hnorm, List.take_length]; rfl) rfl rfl)
end Go.Proofs.Ytjilbkioieicbaa
