/- Walks: what spans have in common, what is left, the first coins. -/
import Derived.Test.YtjilbkioieicbaaW8
import Derived.Test.YtjilbkioieicbaaP8
import Derived.Test.YtjilbkioieicbaaS2
import Derived.Test.YtjilbkioieicbaaVcMore
namespace Go.Proofs.Ytjilbkioieicbaa
open Go.Vc Rt
set_option linter.unusedVariables false
set_option linter.unusedSimpArgs false
theorem comAll_snoc {xs ys : List Span} {k : Nat} {x : Span} (hx : xs[k]? = some x) : comAll (xs.take (k + 1)) ys = comAll (xs.take k) ys ++ comRow x ys := by
  rw [List.take_add_one, hx]; simp [comAll]
theorem comRow_snoc {ys : List Span} {k : Nat} {x y : Span} (hy : ys[k]? = some y) : comRow x (ys.take (k + 1)) = comRow x (ys.take k) ++ (if x.m = y.m then [⟨x.m, max x.f y.f, min x.t y.t⟩] else []) := by
  rw [List.take_add_one, hy]; simp [comRow]
theorem common_c (a b : List Span) (S S' : List Nat) (v u : Value) (w : World) (h : SlOf spT S w v a) (h' : SlOf spT S' w u b) (hN : a.length ≤ 1000) (hN' : b.length ≤ 1000) : AnsR Try.prog 41 [v, u] [.row 56 3 ((common a b).map encS)] w := by
  replace h := h.avoid (S' := []) (fun b hb => by cases hb)
  replace h' := h'.avoid (S' := []) (fun b hb => by cases hb)
  have hna := norm_len a
  have hnb := norm_len b
  have hcom : common a b = norm (comAll (norm a) (norm b)) := rfl
  rw [hcom]
  refine calls_plainB [.x v, .x u] Try.func41 rfl rfl (Nat.le_of_ble_eq_true rfl) rfl fun B hB => ?_
  repeat refine At.seq ?_
  refine At.region tab_ok ?_
  conv => whnf
  repeat refine At.seq ?_
  refine At.region tab_ok ?_
  conv => whnf
  repeat refine At.seq ?_
  refine At.region tab_ok ?_
  conv => whnf
  refine ansR_call b67 (rd1 (nopS (norm a))) (fun w' hw => norm_c a [] v w' (h.fr hw.fr) (by omega)) ?_
  intro v1
  conv => whnf
  refine ⟨rfl, ?_⟩
  conv => whnf
  generalize norm a = xs at *
  generalize hys : norm b = ys at *
  have hsz : ∀ k, k ≤ xs.length → (comAll (xs.take k) ys).length ≤ 1000000 := fun k hk => by
    have h1 := comAll_len ys (xs.take k)
    have h2 : (xs.take k).length * ys.length ≤ 1000 * 1000 := Nat.mul_le_mul (by simp; omega) (by omega)
    omega
  repeat refine At.seq ?_
  refine At.block ?_
  refine At.loopH (fun p : Nat × Value => { N := Try.f41.ntmps, sl := [(1, some (.x u)), (5, some (.s (.c (.o 1 p.2)))), (11, some (.s (.c (.o 0 v1)))), (12, some (.i xs.length)), (13, some (.i p.1))], gl := [], hp := [(1, .row p.2 56 3 ((comAll (xs.take p.1) ys).map encS)), (0, .row v1 56 3 (xs.map encS))], S := [], ws := w }) (fun p : Nat × Value => p.1 ≤ xs.length) (fun p : Nat × Value => xs.length - p.1)
    (fun w' hw => ⟨(0, .slice none 0 0), Nat.zero_le _, Le.of rfl rfl ⟨rfl, rfl, rfl, congrArg (Value.int .i64) (by simp), rfl, trivial⟩, hw.nil rfl rfl rfl, ⟨⟨_, _, _, rfl⟩, ⟨_, _, _, rfl⟩, trivial⟩, ⟨(nopS _).okH, (nopS _).okH, trivial⟩⟩) ?_
  rintro ⟨k, vo⟩ hk
  simp only at hk ⊢
  repeat refine At.seq ?_
  refine At.region tab_ok ?_
  conv => whnf
  repeat refine At.seq ?_
  refine At.cond rfl (fun hc => At.skip ?_) (fun hc => At.exit ?_)
  · have hlt : k < xs.length := by have := of_decide_eq_true hc; (try simp only [List.length_map] at this); omega
    obtain ⟨x, hx⟩ : ∃ x, xs[k]? = some x := ⟨_, List.getElem?_eq_getElem hlt⟩
    have hs1 := hsz (k + 1) hlt
    rw [comAll_snoc hx] at hs1
    have hnx := comAll_snoc (ys := ys) hx
    generalize comAll (xs.take k) ys = out at *
    repeat refine At.seq ?_
    refine At.block ?_
    repeat refine At.seq ?_
    refine At.region tab_ok ?_
    conv => whnf
    refine ⟨rfl, ?_⟩
    conv => whnf
    refine ⟨by omega, ?_⟩
    conv => whnf
    refine ⟨by (try simp only [List.length_map]); omega, ?_⟩
    conv => whnf
    refine ⟨encS x, ⟨rfl, rfl, by omega, by rw [Int.toNat_natCast, List.getElem?_map, hx]; rfl⟩, ?_⟩
    conv => whnf
    intro bx
    conv => whnf
    repeat refine At.seq ?_
    refine At.region tab_ok ?_
    conv => whnf
    refine ansR_call b67 (rd1 (nopS (norm b))) (fun w' hw => norm_c b [] u w' (h'.fr hw.fr) (by omega)) ?_
    rw [hys]
    intro v2
    conv => whnf
    refine ⟨rfl, ?_⟩
    conv => whnf
    repeat refine At.seq ?_
    refine At.block ?_
    refine At.loopH (fun p : Nat × Value => { N := Try.f41.ntmps, sl := [(1, some (.x u)), (5, some (.s (.c (.o 1 p.2)))), (7, some (.s (.c (.p 2 bx 0)))), (11, some (.s (.c (.o 0 v1)))), (12, some (.i xs.length)), (13, some (.i k)), (18, some (.s (.c (.o 3 v2)))), (19, some (.i ys.length)), (20, some (.i p.1))], gl := [], hp := [(3, .row v2 56 3 (ys.map encS)), (2, .box bx 56 (encS x)), (1, .row p.2 56 3 ((out ++ comRow x (ys.take p.1)).map encS)), (0, .row v1 56 3 (xs.map encS))], S := [], ws := w }) (fun p : Nat × Value => p.1 ≤ ys.length) (fun p : Nat × Value => ys.length - p.1)
      (fun w' hw => ⟨(0, vo), Nat.zero_le _, Le.of rfl rfl ⟨rfl, rfl, rfl, rfl, rfl, rfl, rfl, congrArg (Value.int .i64) (by simp), rfl, trivial⟩, hw.keep [3, 2, 1, 0] (by simp [comRow]; rfl) rfl rfl, ⟨⟨_, _, _, rfl⟩, ⟨_, _, rfl⟩, ⟨_, _, _, rfl⟩, ⟨_, _, _, rfl⟩, trivial⟩, ⟨(nopS _).okH, (nopS _).okH, (nopS _).okH, trivial⟩⟩) ?_
    rintro ⟨j, vi⟩ hj
    simp only at hj ⊢
    repeat refine At.seq ?_
    refine At.region tab_ok ?_
    conv => whnf
    repeat refine At.seq ?_
    refine At.cond rfl (fun hc => At.skip ?_) (fun hc => At.exit ?_)
    · have hlty : j < ys.length := by have := of_decide_eq_true hc; (try simp only [List.length_map] at this); omega
      obtain ⟨y, hy⟩ : ∃ x, ys[j]? = some x := ⟨_, List.getElem?_eq_getElem hlty⟩
      have hny := comRow_snoc (x := x) hy
      have hcl := comRow_len x (ys.take j)
      simp only [List.length_take, List.length_append] at hcl hs1
      generalize comRow x (ys.take j) = row at *
      repeat refine At.seq ?_
      refine At.block ?_
      repeat refine At.seq ?_
      refine At.region tab_ok ?_
      conv => whnf
      refine ⟨rfl, ?_⟩
      conv => whnf
      refine ⟨by omega, ?_⟩
      conv => whnf
      refine ⟨by (try simp only [List.length_map]); omega, ?_⟩
      conv => whnf
      refine ⟨encS y, ⟨rfl, rfl, by omega, by rw [Int.toNat_natCast, List.getElem?_map, hy]; rfl⟩, ?_⟩
      conv => whnf
      intro by'
      conv => whnf
      repeat refine At.seq ?_
      refine At.region tab_ok ?_
      conv => whnf
      repeat refine At.seq ?_
      refine At.cond rfl (fun hq => ?_) (fun hq => ?_)
      · have hm : x.m = y.m := of_decide_eq_true hq
        repeat refine At.seq ?_
        refine At.region tab_ok ?_
        conv => whnf
        intro v3
        conv => whnf
        refine ⟨rfl, ?_⟩
        conv => whnf
        refine ⟨⟨rfl, by simp; omega⟩, ?_⟩
        conv => whnf
        intro v4
        conv => whnf
        repeat refine At.seq ?_
        refine At.region tab_ok ?_
        conv => whnf
        refine ⟨⟨by omega, by omega⟩, ?_⟩
        conv => whnf
        refine At.nextH fun w' hw => ⟨(j + 1, v4), by simp only; omega, by simp only; omega, Le.of rfl rfl ⟨rfl, rfl, rfl, rfl, rfl, rfl, rfl, rfl, rfl, trivial⟩, hw.keep [3, 2, 1, 0] ?_ rfl rfl, ⟨⟨_, _, _, rfl⟩, ⟨_, _, rfl⟩, ⟨_, _, _, rfl⟩, ⟨_, _, _, rfl⟩, trivial⟩, ⟨(nopS _).okH, (nopS _).okH, (nopS _).okH, trivial⟩⟩
        show [(3, LO.row _ _ _ _), (2, LO.box _ _ _), (1, LO.row _ _ _ _), (0, LO.row _ _ _ _)] = [(3, LO.row _ _ _ _), (2, LO.box _ _ _), (1, LO.row _ _ _ _), (0, LO.row _ _ _ _)]
        rw [hny, if_pos hm, ← List.append_assoc, List.map_append (l₁ := out ++ row)]
        rfl
      · have hm : ¬ x.m = y.m := of_decide_eq_false hq
        refine At.skip ?_
        repeat refine At.seq ?_
        refine At.region tab_ok ?_
        conv => whnf
        refine ⟨⟨by omega, by omega⟩, ?_⟩
        conv => whnf
        refine At.nextH fun w' hw => ⟨(j + 1, vi), by simp only; omega, by simp only; omega, Le.of rfl rfl ⟨rfl, rfl, rfl, rfl, rfl, rfl, rfl, rfl, rfl, trivial⟩, hw.keep [3, 2, 1, 0] ?_ rfl rfl, ⟨⟨_, _, _, rfl⟩, ⟨_, _, rfl⟩, ⟨_, _, _, rfl⟩, ⟨_, _, _, rfl⟩, trivial⟩, ⟨(nopS _).okH, (nopS _).okH, (nopS _).okH, trivial⟩⟩
        show [(3, LO.row _ _ _ _), (2, LO.box _ _ _), (1, LO.row _ _ _ _), (0, LO.row _ _ _ _)] = [(3, LO.row _ _ _ _), (2, LO.box _ _ _), (1, LO.row _ _ _ _), (0, LO.row _ _ _ _)]
        rw [hny, if_neg hm, List.append_nil]
    · have hge : j = ys.length := by have := of_decide_eq_false hc; omega
      subst hge
      repeat refine At.seq ?_
      refine At.region tab_ok ?_
      conv => whnf
      refine ⟨⟨by omega, by omega⟩, ?_⟩
      conv => whnf
      refine At.nextH fun w' hw => ⟨(k + 1, vi), by simp only; omega, by simp only; omega, Le.of rfl rfl ⟨rfl, rfl, rfl, rfl, rfl, trivial⟩, hw.keep [1, 0] ?_ rfl rfl, ⟨⟨_, _, _, rfl⟩, ⟨_, _, _, rfl⟩, trivial⟩, ⟨(nopS _).okH, (nopS _).okH, trivial⟩⟩
      show [(1, LO.row _ _ _ _), (0, LO.row _ _ _ _)] = [(1, LO.row _ _ _ _), (0, LO.row _ _ _ _)]
      rw [hnx, List.take_length]
  · have hge : k = xs.length := by have := of_decide_eq_false hc; omega
    subst hge
    have hs1 := hsz xs.length (Nat.le_refl _)
    rw [List.take_length] at hs1 ⊢
    repeat refine At.seq ?_
    refine At.region tab_ok ?_
    conv => whnf
    refine ansR_call b67 (rd1 (nopS _)) (fun w' hw => norm_c _ [] vo w' (slS _ (hw.row (id := 1) rfl) (by omega)) (by omega)) ?_
    intro v5
    conv => whnf
    repeat refine At.seq ?_
    refine At.ret (At.doneB tab_ok hB _ rfl fun w' hw => ansR_row (id := 2) hw rfl rfl rfl)
theorem lessRow_snoc {y : Span} {xs : List Span} {k : Nat} {x : Span} (hx : xs[k]? = some x) : lessRow y (xs.take (k + 1)) = lessRow y (xs.take k) ++ lessOne y x := by
  rw [List.take_add_one, hx]; simp [lessRow]
theorem lessAll_snoc {ys out : List Span} {k : Nat} {y : Span} (hy : ys[k]? = some y) : lessAll (ys.take (k + 1)) out = norm (lessRow y (lessAll (ys.take k) out)) := by
  rw [List.take_add_one, hy]; simp [lessAll]
theorem minus_c (a b : List Span) (S S' : List Nat) (v u : Value) (w : World) (h : SlOf spT S w v a) (h' : SlOf spT S' w u b) (hN : a.length ≤ 100000) (hN' : b.length ≤ 100000) : AnsR Try.prog 76 [v, u] [.row 56 3 ((minus a b).map encS)] w := by
  replace h := h.avoid (S' := []) (fun b hb => by cases hb)
  replace h' := h'.avoid (S' := []) (fun b hb => by cases hb)
  have hna := norm_len a
  have hnb := norm_len b
  have hcom : minus a b = lessAll (norm b) (norm a) := rfl
  have hnfa := norm_nf a
  have hvb : ∀ y ∈ norm b, y.f < y.t := fun y hy => valid_lt (norm_valid y hy)
  have hvb' := norm_valid (l := b)
  have hva' := norm_valid (l := a)
  rw [hcom]
  refine calls_plainB [.x v, .x u] Try.func76 rfl rfl (Nat.le_of_ble_eq_true rfl) rfl fun B hB => ?_
  repeat refine At.seq ?_
  refine At.region tab_ok ?_
  conv => whnf
  repeat refine At.seq ?_
  refine At.region tab_ok ?_
  conv => whnf
  refine ansR_call b67 (rd1 (nopS (norm a))) (fun w' hw => norm_c a [] v w' (h.fr hw.fr) (by omega)) ?_
  intro v1
  conv => whnf
  repeat refine At.seq ?_
  refine At.region tab_ok ?_
  conv => whnf
  refine ansR_call b67 (rd1 (nopS (norm b))) (fun w' hw => norm_c b [] u w' (h'.fr hw.fr) (by omega)) ?_
  intro v2
  conv => whnf
  refine ⟨rfl, ?_⟩
  conv => whnf
  generalize norm a = xs at *
  generalize norm b = ys at *
  have hsz : ∀ k, (lessAll (ys.take k) xs).length ≤ 200000 ∧ NF (lessAll (ys.take k) xs) := fun k => by
    have h1 := lessAll_len (ys := ys.take k) (out := xs) (fun y hy => hvb y (List.mem_of_mem_take hy)) hnfa
    have h2 : (ys.take k).length ≤ ys.length := by simp; omega
    exact ⟨by omega, (lessAll_spec (fun y hy => hvb' y (List.mem_of_mem_take hy)) hnfa hva').1⟩
  repeat refine At.seq ?_
  refine At.block ?_
  refine At.loopH (fun p : Nat × Value => { N := Try.f76.ntmps, sl := [(5, some (.s (.c (.o 0 p.2)))), (14, some (.s (.c (.o 1 v2)))), (15, some (.i ys.length)), (16, some (.i p.1))], gl := [], hp := [(0, .row p.2 56 3 ((lessAll (ys.take p.1) xs).map encS)), (1, .row v2 56 3 (ys.map encS))], S := [], ws := w }) (fun p : Nat × Value => p.1 ≤ ys.length) (fun p : Nat × Value => ys.length - p.1)
    (fun w' hw => ⟨(0, v1), Nat.zero_le _, Le.of rfl rfl ⟨rfl, rfl, congrArg (Value.int .i64) (by simp), rfl, trivial⟩, hw.perm (.swap _ _ _) rfl rfl, ⟨⟨_, _, _, rfl⟩, ⟨_, _, _, rfl⟩, trivial⟩, ⟨(nopS _).okH, (nopS _).okH, trivial⟩⟩) ?_
  rintro ⟨k, vo⟩ hk
  simp only at hk ⊢
  repeat refine At.seq ?_
  refine At.region tab_ok ?_
  conv => whnf
  repeat refine At.seq ?_
  refine At.cond rfl (fun hc => At.skip ?_) (fun hc => At.exit ?_)
  · have hlty : k < ys.length := by have := of_decide_eq_true hc; (try simp only [List.length_map] at this); omega
    obtain ⟨y, hy⟩ : ∃ x, ys[k]? = some x := ⟨_, List.getElem?_eq_getElem hlty⟩
    obtain ⟨hl1, hnf⟩ := hsz k
    have hnx := lessAll_snoc (out := xs) hy
    generalize lessAll (ys.take k) xs = out at *
    have hrl := lessRow_len y out
    repeat refine At.seq ?_
    refine At.block ?_
    repeat refine At.seq ?_
    refine At.region tab_ok ?_
    conv => whnf
    refine ⟨rfl, ?_⟩
    conv => whnf
    refine ⟨by omega, ?_⟩
    conv => whnf
    refine ⟨by (try simp only [List.length_map]); omega, ?_⟩
    conv => whnf
    refine ⟨encS y, ⟨rfl, rfl, by omega, by rw [Int.toNat_natCast, List.getElem?_map, hy]; rfl⟩, ?_⟩
    conv => whnf
    intro bx
    conv => whnf
    repeat refine At.seq ?_
    refine At.region tab_ok ?_
    conv => whnf
    repeat refine At.seq ?_
    refine At.region tab_ok ?_
    conv => whnf
    refine ⟨rfl, ?_⟩
    conv => whnf
    repeat refine At.seq ?_
    refine At.block ?_
    refine At.loopH (fun p : Nat × Value => { N := Try.f76.ntmps, sl := [(5, some (.s (.c (.o 0 vo)))), (7, some (.s (.c (.p 2 bx 0)))), (8, some (.s (.c (.o 3 p.2)))), (14, some (.s (.c (.o 1 v2)))), (15, some (.i ys.length)), (16, some (.i k)), (20, some (.s (.c (.o 0 vo)))), (21, some (.i out.length)), (22, some (.i p.1))], gl := [], hp := [(3, .row p.2 56 3 ((lessRow y (out.take p.1)).map encS)), (2, .box bx 56 (encS y)), (0, .row vo 56 3 (out.map encS)), (1, .row v2 56 3 (ys.map encS))], S := [], ws := w }) (fun p : Nat × Value => p.1 ≤ out.length) (fun p : Nat × Value => out.length - p.1)
      (fun w' hw => ⟨(0, .slice none 0 0), Nat.zero_le _, Le.of rfl rfl ⟨rfl, rfl, rfl, rfl, rfl, rfl, rfl, congrArg (Value.int .i64) (by simp), rfl, trivial⟩, hw.nil rfl rfl rfl, ⟨⟨_, _, _, rfl⟩, ⟨_, _, rfl⟩, ⟨_, _, _, rfl⟩, ⟨_, _, _, rfl⟩, ⟨_, _, _, rfl⟩, trivial⟩, ⟨(nopS _).okH, (nopS _).okH, (nopS _).okH, trivial⟩⟩) ?_
    rintro ⟨j, vi⟩ hj
    simp only at hj ⊢
    repeat refine At.seq ?_
    refine At.region tab_ok ?_
    conv => whnf
    repeat refine At.seq ?_
    refine At.cond rfl (fun hc => At.skip ?_) (fun hc => At.exit ?_)
    · have hlt : j < out.length := by have := of_decide_eq_true hc; (try simp only [List.length_map] at this); omega
      obtain ⟨x, hx⟩ : ∃ x, out[j]? = some x := ⟨_, List.getElem?_eq_getElem hlt⟩
      have hny := lessRow_snoc (y := y) hx
      have hcl := lessRow_len y (out.take j)
      simp only [List.length_take] at hcl
      generalize lessRow y (out.take j) = row at *
      repeat refine At.seq ?_
      refine At.block ?_
      repeat refine At.seq ?_
      refine At.region tab_ok ?_
      conv => whnf
      refine ⟨rfl, ?_⟩
      conv => whnf
      refine ⟨by omega, ?_⟩
      conv => whnf
      refine ⟨by (try simp only [List.length_map]); omega, ?_⟩
      conv => whnf
      refine ⟨encS x, ⟨rfl, rfl, by omega, by rw [Int.toNat_natCast, List.getElem?_map, hx]; rfl⟩, ?_⟩
      conv => whnf
      intro by'
      conv => whnf
      repeat refine At.seq ?_
      refine At.region tab_ok ?_
      conv => whnf
      repeat refine At.seq ?_
      refine At.cond rfl (fun hq => ?_) (fun hq => ?_)
      · have hm : ¬ x.m = y.m := by simpa using hq
        repeat refine At.seq ?_
        refine At.region tab_ok ?_
        conv => whnf
        intro v3
        conv => whnf
        refine ⟨rfl, ?_⟩
        conv => whnf
        refine ⟨⟨rfl, by simp; omega⟩, ?_⟩
        conv => whnf
        intro v4
        conv => whnf
        refine At.exit ?_
        repeat refine At.seq ?_
        refine At.region tab_ok ?_
        conv => whnf
        refine ⟨⟨by omega, by omega⟩, ?_⟩
        conv => whnf
        refine At.nextH fun w' hw => ⟨(j + 1, v4), by simp only; omega, by simp only; omega, Le.of rfl rfl ⟨rfl, rfl, rfl, rfl, rfl, rfl, rfl, rfl, rfl, trivial⟩, hw.keep [3, 2, 0, 1] ?_ rfl rfl, ⟨⟨_, _, _, rfl⟩, ⟨_, _, rfl⟩, ⟨_, _, _, rfl⟩, ⟨_, _, _, rfl⟩, ⟨_, _, _, rfl⟩, trivial⟩, ⟨(nopS _).okH, (nopS _).okH, (nopS _).okH, trivial⟩⟩
        show [(3, LO.row _ _ _ _), (2, LO.box _ _ _), (0, LO.row _ _ _ _), (1, LO.row _ _ _ _)] = [(3, LO.row _ _ _ _), (2, LO.box _ _ _), (0, LO.row _ _ _ _), (1, LO.row _ _ _ _)]
        rw [hny, lessOne, if_neg hm, List.map_append (l₁ := row)]
        rfl
      · have hm : x.m = y.m := by simpa using hq
        refine At.skip ?_
        repeat refine At.seq ?_
        refine At.region tab_ok ?_
        conv => whnf
        intro v3
        conv => whnf
        refine ⟨rfl, ?_⟩
        conv => whnf
        refine ⟨⟨rfl, by simp; omega⟩, ?_⟩
        conv => whnf
        intro v4
        conv => whnf
        repeat refine At.seq ?_
        refine At.region tab_ok ?_
        conv => whnf
        refine ⟨⟨by omega, by omega⟩, ?_⟩
        conv => whnf
        refine At.nextH fun w' hw => ⟨(j + 1, v4), by simp only; omega, by simp only; omega, Le.of rfl rfl ⟨rfl, rfl, rfl, rfl, rfl, rfl, rfl, rfl, rfl, trivial⟩, hw.keep [3, 2, 0, 1] ?_ rfl rfl, ⟨⟨_, _, _, rfl⟩, ⟨_, _, rfl⟩, ⟨_, _, _, rfl⟩, ⟨_, _, _, rfl⟩, ⟨_, _, _, rfl⟩, trivial⟩, ⟨(nopS _).okH, (nopS _).okH, (nopS _).okH, trivial⟩⟩
        show [(3, LO.row _ _ _ _), (2, LO.box _ _ _), (0, LO.row _ _ _ _), (1, LO.row _ _ _ _)] = [(3, LO.row _ _ _ _), (2, LO.box _ _ _), (0, LO.row _ _ _ _), (1, LO.row _ _ _ _)]
        rw [hny, lessOne, if_pos hm, List.map_append (l₁ := row)]
        rfl
    · have hge : j = out.length := by have := of_decide_eq_false hc; omega
      subst hge
      rw [List.take_length]
      repeat refine At.seq ?_
      refine At.region tab_ok ?_
      conv => whnf
      refine ansR_call b67 (rd1 (nopS _)) (fun w' hw => norm_c _ [] vi w' (slS _ (hw.row (id := 3) rfl) (by omega)) (by omega)) ?_
      intro v5
      conv => whnf
      repeat refine At.seq ?_
      refine At.region tab_ok ?_
      conv => whnf
      refine ⟨⟨by omega, by omega⟩, ?_⟩
      conv => whnf
      refine At.nextH fun w' hw => ⟨(k + 1, v5), by simp only; omega, by simp only; omega, Le.of rfl rfl ⟨rfl, rfl, rfl, rfl, trivial⟩, hw.ren [4,1] ((by rw [hnx]; rfl)) rfl rfl, ⟨⟨_, _, _, rfl⟩, ⟨_, _, _, rfl⟩, trivial⟩, ⟨(nopS _).okH, (nopS _).okH, trivial⟩⟩
  · have hge : k = ys.length := by have := of_decide_eq_false hc; omega
    subst hge
    rw [List.take_length]
    repeat refine At.seq ?_
    refine At.region tab_ok ?_
    conv => whnf
    repeat refine At.seq ?_
    refine At.ret (At.doneB tab_ok hB _ rfl fun w' hw => ansR_row (id := 0) hw rfl rfl rfl)
theorem within_c (a b : List Span) (S S' : List Nat) (v u : Value) (w : World) (h : SlOf spT S w v a) (h' : SlOf spT S' w u b) (hN : a.length ≤ 100000) (hN' : b.length ≤ 100000) : Ans Try.prog 40 [v, u] (.b (decide ((minus a b).length = 0))) w := by
  replace h := h.avoid (S' := []) (fun b hb => by cases hb)
  replace h' := h'.avoid (S' := []) (fun b hb => by cases hb)
  refine calls_plainB [.x v, .x u] Try.func40 rfl rfl (Nat.le_of_ble_eq_true rfl) rfl fun B hB => ?_
  repeat refine At.seq ?_
  refine At.region tab_ok ?_
  conv => whnf
  repeat refine At.seq ?_
  refine At.region tab_ok ?_
  conv => whnf
  refine ansR_call b76 (rd1 (nopS _)) (fun w' hw => minus_c a b [] [] v u w' (h.fr hw.fr) (h'.fr hw.fr) hN hN') ?_
  intro v1
  conv => whnf
  refine ⟨rfl, ?_⟩
  conv => whnf
  repeat refine At.seq ?_
  refine At.ret (At.doneB tab_ok hB _ rfl fun w' hw => ⟨?_, hw.fr⟩)
  simp [RV.den, SV.den, CV.den]
theorem takeN_snoc {xs : List Span} {k : Nat} {x : Span} {n : Int} (hx : xs[k]? = some x) : takeN (xs.take (k + 1)) n = max (takeN (xs.take k) n) 0 - takeK (takeN (xs.take k) n) x := by
  rw [List.take_add_one, hx, takeN_append]; rfl
theorem takeF_snoc {xs : List Span} {k : Nat} {x : Span} {n : Int} (hx : xs[k]? = some x) : takeF (xs.take (k + 1)) n = takeF (xs.take k) n ++ [⟨x.m, x.f, x.f + takeK (takeN (xs.take k) n) x⟩] := by
  rw [List.take_add_one, hx, takeF_append]; rfl
theorem takeR_snoc {xs : List Span} {k : Nat} {x : Span} {n : Int} (hx : xs[k]? = some x) : takeR (xs.take (k + 1)) n = takeR (xs.take k) n ++ [⟨x.m, x.f + takeK (takeN (xs.take k) n) x, x.t⟩] := by
  rw [List.take_add_one, hx, takeR_append]; rfl
theorem takeS_c (a : List Span) (n : Int) (S : List Nat) (v : Value) (w : World) (h : SlOf spT S w v a) (hN : a.length ≤ 100000) (hn : inR n) : AnsR Try.prog 39 [v, vI n] [.row 56 3 ((norm (takeF (norm a) n)).map encS), .row 56 3 ((norm (takeR (norm a) n)).map encS)] w := by
  replace h := h.avoid (S' := []) (fun b hb => by cases hb)
  have hna := norm_len a
  have hva' := norm_valid (l := a)
  unfold inR at hn
  refine calls_plainB [.x v, .i n] Try.func39 rfl rfl (Nat.le_of_ble_eq_true rfl) rfl fun B hB => ?_
  repeat refine At.seq ?_
  refine At.region tab_ok ?_
  conv => whnf
  repeat refine At.seq ?_
  refine At.region tab_ok ?_
  conv => whnf
  repeat refine At.seq ?_
  refine At.region tab_ok ?_
  conv => whnf
  refine ansR_call b67 (rd1 (nopS (norm a))) (fun w' hw => norm_c a [] v w' (h.fr hw.fr) (by omega)) ?_
  intro v1
  conv => whnf
  refine ⟨rfl, ?_⟩
  conv => whnf
  generalize norm a = xs at *
  have hbd : ∀ k, takeN (xs.take k) n ≤ max n 0 ∧ min n 0 ≤ takeN (xs.take k) n := fun k => takeN_bd fun s hs => by have := valid_iff.1 (hva' s (List.mem_of_mem_take hs)); omega
  repeat refine At.seq ?_
  refine At.block ?_
  refine At.loopH (fun p : Nat × Value × Value => { N := Try.f39.ntmps, sl := [(1, some (.i (takeN (xs.take p.1) n))), (6, some (.s (.c (.o 1 p.2.1)))), (7, some (.s (.c (.o 2 p.2.2)))), (12, some (.s (.c (.o 0 v1)))), (13, some (.i xs.length)), (14, some (.i p.1))], gl := [], hp := [(2, .row p.2.2 56 3 ((takeR (xs.take p.1) n).map encS)), (1, .row p.2.1 56 3 ((takeF (xs.take p.1) n).map encS)), (0, .row v1 56 3 (xs.map encS))], S := [], ws := w }) (fun p : Nat × Value × Value => p.1 ≤ xs.length) (fun p : Nat × Value × Value => xs.length - p.1)
    (fun w' hw => ⟨(0, .slice none 0 0, .slice none 0 0), Nat.zero_le _, Le.of rfl rfl ⟨rfl, rfl, rfl, rfl, congrArg (Value.int .i64) (by simp), rfl, trivial⟩, hw.nil2 rfl rfl rfl, ⟨⟨_, _, _, rfl⟩, ⟨_, _, _, rfl⟩, ⟨_, _, _, rfl⟩, trivial⟩, ⟨(nopS _).okH, (nopS _).okH, (nopS _).okH, trivial⟩⟩) ?_
  rintro ⟨k, vf, vr⟩ hk
  simp only at hk ⊢
  repeat refine At.seq ?_
  refine At.region tab_ok ?_
  conv => whnf
  repeat refine At.seq ?_
  refine At.cond rfl (fun hc => At.skip ?_) (fun hc => At.exit ?_)
  · have hlt : k < xs.length := by have := of_decide_eq_true hc; (try simp only [List.length_map] at this); omega
    obtain ⟨x, hx⟩ : ∃ x, xs[k]? = some x := ⟨_, List.getElem?_eq_getElem hlt⟩
    have hN1 := takeN_snoc (n := n) hx
    have hF1 := takeF_snoc (n := n) hx
    have hR1 := takeR_snoc (n := n) hx
    have hFl := takeF_len (xs.take k) n
    have hRl := takeR_len (xs.take k) n
    simp only [List.length_take] at hFl hRl
    have hb1 := hbd k
    have vx := valid_iff.1 (hva' x (List.mem_of_getElem? hx))
    generalize takeN (xs.take k) n = q at *
    generalize takeF (xs.take k) n = F at *
    generalize takeR (xs.take k) n = G at *
    unfold takeK at *
    repeat refine At.seq ?_
    refine At.block ?_
    repeat refine At.seq ?_
    refine At.region tab_ok ?_
    conv => whnf
    refine ⟨rfl, ?_⟩
    conv => whnf
    refine ⟨by omega, ?_⟩
    conv => whnf
    refine ⟨by (try simp only [List.length_map]); omega, ?_⟩
    conv => whnf
    refine ⟨encS x, ⟨rfl, rfl, by omega, by rw [Int.toNat_natCast, List.getElem?_map, hx]; rfl⟩, ?_⟩
    conv => whnf
    intro bx
    conv => whnf
    repeat refine At.seq ?_
    refine At.region tab_ok ?_
    conv => whnf
    refine ⟨⟨by omega, by omega⟩, ?_⟩
    conv => whnf
    repeat refine At.seq ?_
    refine At.region tab_ok ?_
    conv => whnf
    refine ⟨⟨by omega, by omega⟩, ?_⟩
    conv => whnf
    repeat refine At.seq ?_
    refine At.region tab_ok ?_
    conv => whnf
    refine ⟨⟨by omega, by omega⟩, ?_⟩
    conv => whnf
    intro v2
    conv => whnf
    refine ⟨rfl, ?_⟩
    conv => whnf
    refine ⟨⟨rfl, by simp; omega⟩, ?_⟩
    conv => whnf
    intro v3
    conv => whnf
    repeat refine At.seq ?_
    refine At.region tab_ok ?_
    conv => whnf
    refine ⟨⟨by omega, by omega⟩, ?_⟩
    conv => whnf
    intro v4
    conv => whnf
    refine ⟨rfl, ?_⟩
    conv => whnf
    refine ⟨⟨rfl, by simp; omega⟩, ?_⟩
    conv => whnf
    intro v5
    conv => whnf
    repeat refine At.seq ?_
    refine At.region tab_ok ?_
    conv => whnf
    refine ⟨⟨by omega, by omega⟩, ?_⟩
    conv => whnf
    refine At.nextH fun w' hw => ⟨(k + 1, v3, v5), by simp only; omega, by simp only; omega, Le.of rfl rfl ⟨congrArg (Value.int .i64) (by simp only; rw [hN1]), rfl, rfl, rfl, rfl, rfl, trivial⟩, hw.keep [2, 1, 0] ?_ rfl rfl, ⟨⟨_, _, _, rfl⟩, ⟨_, _, _, rfl⟩, ⟨_, _, _, rfl⟩, trivial⟩, ⟨(nopS _).okH, (nopS _).okH, (nopS _).okH, trivial⟩⟩
    show [(2, LO.row _ _ _ _), (1, LO.row _ _ _ _), (0, LO.row _ _ _ _)] = [(2, LO.row _ _ _ _), (1, LO.row _ _ _ _), (0, LO.row _ _ _ _)]
    rw [hF1, hR1, List.map_append, List.map_append]
    rfl
  · have hge : k = xs.length := by have := of_decide_eq_false hc; omega
    subst hge
    have hFl := takeF_len xs n
    have hRl := takeR_len xs n
    rw [List.take_length]
    repeat refine At.seq ?_
    refine At.region tab_ok ?_
    conv => whnf
    refine ansR_call b67 (rd1 (nopS _)) (fun w' hw => norm_c _ [] vf w' (slS _ (hw.row (id := 1) rfl) (by omega)) (by omega)) ?_
    intro v6
    conv => whnf
    refine ansR_call b67 (rd1 (nopS _)) (fun w' hw => norm_c _ [] vr w' (slS _ (hw.row (id := 2) rfl) (by omega)) (by omega)) ?_
    intro v7
    conv => whnf
    repeat refine At.seq ?_
    refine At.ret (At.doneB tab_ok hB _ rfl fun w' hw => ansR_rows2 (i := 3) (j := 4) hw rfl rfl (by decide) rfl rfl)
end Go.Proofs.Ytjilbkioieicbaa
