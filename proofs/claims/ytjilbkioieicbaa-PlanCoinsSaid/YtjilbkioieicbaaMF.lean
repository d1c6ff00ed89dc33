/- Texts that the law uses: P10 W10 W11 W12 W13 W14. -/
import Derived.Test.YtjilbkioieicbaaME
/- The law RightsLent, in plain terms. -/
namespace Go.Proofs.Ytjilbkioieicbaa
open Go.Vc Rt
set_option linter.unusedVariables false
set_option linter.unusedSimpArgs false
def untilF (F : Int → Int → Option Sta) : Prop := ∀ m n x, F m n = some x → x.o = x.h → x.u = 0
theorem step_until {F : Int → Int → Option Sta} {d : Deed} (h : untilF F) : untilF (stepF F d) := by
  intro m n x hx hoh
  by_cases he : errF F d = 0
  · by_cases hh : Has d.spans m n
    · have hr := err_right he
      rcases coin_of he hh with ⟨hk, e1, e2⟩ | ⟨hk, y, e1, e2, e3, e4, e5⟩
      · rw [e2] at hx; cases hx; rfl
      · rw [e5] at hx; cases hx
        rcases right_kind hr with hk' | hk' | hk' | hk'
        · exact (hk hk').elim
        · rw [movedS_1 hk']
        · rw [movedS_2 hk'] at hoh
          simp only at hoh
          have := (right_who hr (.inr hk')).2
          rcases e4 with e4 | e4 | e4
          · exact (this (by omega)).elim
          · omega
          · omega
        · rw [movedS_3 hk'] at hoh ⊢; exact h m n y e1 hoh
    · rw [coin_not hh] at hx; exact h m n x hx hoh
  · unfold stepF at hx; rw [if_neg he] at hx; exact h m n x hx hoh
theorem until_lots : ∀ (n : Nat) (l : List Deed), l.length = n → (∀ d ∈ l, d.spans.length ≤ 8) → untilF (sta (lotsK l).1)
  | 0, l, hn, _ => by
    rw [List.eq_nil_of_length_eq_zero hn]
    intro m n x hx; cases hx
  | k + 1, l, hn, hs => by
    rcases List.eq_nil_or_concat l with rfl | ⟨l', d, rfl⟩
    · simp at hn
    · simp only [List.concat_eq_append] at *
      have ih := until_lots k l' (by simpa using hn) fun x hx => hs x (by simp [hx])
      have hg := good_lots _ l' rfl fun x hx => hs x (by simp [hx])
      rw [lotsK_snoc]
      simp only
      rw [(good_do hg (hs d (by simp))).2.2]
      exact step_until ih
theorem err_moved {F : Int → Int → Option Sta} {t : Deed} (hr : right t = true) (hk : t.kind ≠ 0) (hall : ∀ m n, Has t.spans m n → ∃ x, F m n = some x) : errF F t = errSet (fun c => ∃ m n x, Has t.spans m n ∧ F m n = some x ∧ mayS x t = c) := by
  unfold errF
  rw [if_neg (by rw [hr]; simp), if_neg hk, if_neg]
  rintro ⟨m, n, h1, h2⟩
  obtain ⟨x, hx⟩ := hall m n h1
  rw [h2] at hx; cases hx
theorem right_coin {t : Deed} (hr : right t = true) : ∃ m n, Has t.spans m n := by
  obtain ⟨_, _, _, h, _⟩ := right_parts hr
  obtain ⟨s, hs⟩ : ∃ s, s ∈ t.spans := List.exists_mem_of_length_pos h
  have := right_spans hr s hs
  exact ⟨s.m, s.f, s, hs, rfl, by omega, by omega⟩
theorem err_28 {F : Int → Int → Option Sta} {t : Deed} (hr : right t = true) (hk : t.kind ≠ 0) (h : ∀ m n, Has t.spans m n → ∃ x, F m n = some x ∧ mayS x t = 28) : errF F t = 28 := by
  rw [err_moved hr hk fun m n hh => let ⟨x, hx, _⟩ := h m n hh; ⟨x, hx⟩]
  have key : ∀ c, (∃ m n x, Has t.spans m n ∧ F m n = some x ∧ mayS x t = c) → c = 28 := by
    rintro c ⟨m, n, x, h1, h2, h3⟩
    obtain ⟨y, hy, hy'⟩ := h m n h1
    rw [h2] at hy; cases hy; omega
  unfold errSet
  rw [if_neg fun hc => by have := key 29 hc; omega, if_neg fun hc => by have := key 27 hc; omega, if_pos]
  obtain ⟨m, n, hh⟩ := right_coin hr
  obtain ⟨x, hx, hx'⟩ := h m n hh
  exact ⟨m, n, x, hh, hx, hx'⟩
theorem err_0 {F : Int → Int → Option Sta} {t : Deed} (hr : right t = true) (hk : t.kind ≠ 0) (h : ∀ m n, Has t.spans m n → ∃ x, F m n = some x ∧ mayS x t = 0) : errF F t = 0 := by
  rw [err_moved hr hk fun m n hh => let ⟨x, hx, _⟩ := h m n hh; ⟨x, hx⟩]
  have key : ∀ c, (∃ m n x, Has t.spans m n ∧ F m n = some x ∧ mayS x t = c) → c = 0 := by
    rintro c ⟨m, n, x, h1, h2, h3⟩
    obtain ⟨y, hy, hy'⟩ := h m n h1
    rw [h2] at hy; cases hy; omega
  exact errSet_of_zero (fun hc => by have := key 29 hc; omega) (fun hc => by have := key 27 hc; omega) (fun hc => by have := key 28 hc; omega)
theorem right_base {d : Deed} (h1 : 0 ≤ d.mark ∧ d.mark ≤ 1073741824) (h2 : isKey d.author = true) (h3 : 0 < d.spans.length) (h4 : normal d.spans = true) : ¬ (d.mark < 0 ∨ 1073741824 < d.mark ∨ isKey d.author = false ∨ d.spans.length = 0 ∨ normal d.spans = false) := by
  rintro (h | h | h | h | h)
  · omega
  · omega
  · rw [h2] at h; cases h
  · omega
  · rw [h4] at h; cases h
theorem right_mk1 {d : Deed} (h1 : 0 ≤ d.mark ∧ d.mark ≤ 1073741824) (h2 : isKey d.author = true) (h3 : 0 < d.spans.length) (h4 : normal d.spans = true) (hk : d.kind = 1) (h5 : isKey d.who = true) (h6 : d.who ≠ d.author) : right d = true := by
  unfold right; rw [if_neg (right_base h1 h2 h3 h4), if_neg (by omega), if_pos hk, h5]; simp [h6]
theorem right_mk2 {d : Deed} (h1 : 0 ≤ d.mark ∧ d.mark ≤ 1073741824) (h2 : isKey d.author = true) (h3 : 0 < d.spans.length) (h4 : normal d.spans = true) (hk : d.kind = 2) (h5 : isKey d.who = true) (h6 : d.who ≠ d.author) (h7 : 0 ≤ d.til ∧ d.til ≤ 1048576) : right d = true := by
  unfold right; rw [if_neg (right_base h1 h2 h3 h4), if_neg (by omega), if_neg (by omega), if_pos hk, h5]; simp [h6, h7]
theorem right_mk3 {d : Deed} (h1 : 0 ≤ d.mark ∧ d.mark ≤ 1073741824) (h2 : isKey d.author = true) (h3 : 0 < d.spans.length) (h4 : normal d.spans = true) (hk : d.kind = 3) : right d = true := by
  unfold right; rw [if_neg (right_base h1 h2 h3 h4), if_neg (by omega), if_neg (by omega), if_neg (by omega)]; simpa using hk
def lendD (a b til : Int) (spans : List Span) : Deed := ⟨1, 2, a, b, 0, til, spans⟩
def tryD (a b c : Int) (spans : List Span) : List Deed := [⟨0, 1, a, c, 0, 0, spans⟩, ⟨0, 3, a, 0, 0, 0, spans⟩, ⟨0, 1, b, c, 0, 0, spans⟩, ⟨0, 2, b, c, 0, 0, spans⟩, ⟨0, 1, b, a, 0, 0, spans⟩]
section
variable {L L1 : List Lot} {a b c til : Int} {spans : List Span}
theorem lent_coin (he : errF (sta L) (lendD a b til spans) = 0) (hs : sta L1 = stepF (sta L) (lendD a b til spans)) {m n : Int} (hh : Has spans m n) : sta L1 m n = some ⟨a, b, til, -1⟩ ∧ ∃ x, sta L m n = some x ∧ x.p = -1 ∧ x.h = a ∧ x.o = a := by
  rcases coin_of he hh with ⟨hk, _⟩ | ⟨_, x, e1, e2, e3, e4, e5⟩
  · cases hk
  · have hk2 : (lendD a b til spans).kind = 2 := rfl
    have ho : x.o = a := by rcases e4 with e4 | e4 | e4 <;> first | exact e4 | (have := hk2; omega)
    rw [hs, e5, movedS_2 hk2]
    exact ⟨by rw [ho, e2]; rfl, x, e1, e2, e3, ho⟩
theorem tries_law (hg : Good L) (hg1 : Good L1) (hu : untilF (sta L)) (he : errF (sta L) (lendD a b til spans) = 0) (hs : sta L1 = stepF (sta L) (lendD a b til spans)) (h8 : spans.length ≤ 8) (hc : isKey c = true) (hca : c ≠ a) (hcb : c ≠ b) :
    ∀ (i : Nat) t, (tryD a b c spans)[i]? = some t → (i < 4 → doB L1 t = (L1, 28)) ∧ (i = 4 → doB L1 t = (L, 0)) := by
  have hr := err_right he
  obtain ⟨_, _, ka, hpos, hnorm⟩ := right_parts hr
  obtain ⟨kb, hab⟩ := right_who hr (.inr rfl)
  change isKey a = true at ka
  change isKey b = true at kb
  change b ≠ a at hab
  change 0 < spans.length at hpos
  change normal spans = true at hnorm
  have hm0 : (0 : Int) ≤ 0 ∧ (0 : Int) ≤ 1073741824 := by omega
  have refuse : ∀ t : Deed, t.spans = spans → right t = true → t.kind ≠ 0 → mayS ⟨a, b, til, -1⟩ t = 28 → doB L1 t = (L1, 28) := by
    intro t hts hrt hkt hmay
    have e : errF (sta L1) t = 28 := err_28 hrt hkt fun m n hh => ⟨_, (lent_coin he hs (by rw [hts] at hh; exact hh)).1, hmay⟩
    obtain ⟨_, g2, _⟩ := good_do (d := t) hg1 (by rw [hts]; exact h8)
    rw [e] at g2
    exact Prod.ext (doB_refused hg1.mgd (by rw [g2]; decide)) g2
  intro i t ht
  match i, ht with
  | 0, ht =>
    cases ht
    refine ⟨fun _ => refuse _ rfl (right_mk1 hm0 ka hpos hnorm rfl hc hca) (by simp) ?_, fun h => by cases h⟩
    unfold mayS
    simp only
    rw [if_neg (by simp), if_neg (by omega), if_pos hab]
  | 1, ht =>
    cases ht
    refine ⟨fun _ => refuse _ rfl (right_mk3 hm0 ka hpos hnorm rfl) (by simp) ?_, fun h => by cases h⟩
    unfold mayS
    simp only
    rw [if_neg (by simp), if_neg (by omega), if_pos hab]
  | 2, ht =>
    cases ht
    refine ⟨fun _ => refuse _ rfl (right_mk1 hm0 kb hpos hnorm rfl hc hcb) (by simp) ?_, fun h => by cases h⟩
    unfold mayS
    simp only
    rw [if_neg (by simp), if_neg (by omega), if_neg (by simp), if_pos ⟨fun e => hab e.symm, by decide, .inr hca⟩]
  | 3, ht =>
    cases ht
    refine ⟨fun _ => refuse _ rfl (right_mk2 hm0 kb hpos hnorm rfl hc hcb (by simp)) (by simp) ?_, fun h => by cases h⟩
    unfold mayS
    simp only
    rw [if_neg (by simp), if_neg (by omega), if_neg (by simp), if_pos ⟨fun e => hab e.symm, by decide, .inl (by decide)⟩]
  | 4, ht =>
    cases ht
    refine ⟨fun h => by omega, fun _ => ?_⟩
    have hrt : right ⟨0, 1, b, a, 0, 0, spans⟩ = true := right_mk1 hm0 kb hpos hnorm rfl ka (fun e => hab e.symm)
    have e : errF (sta L1) ⟨0, 1, b, a, 0, 0, spans⟩ = 0 := err_0 hrt (by simp) fun m n hh => ⟨_, (lent_coin he hs hh).1, by
      unfold mayS
      simp only
      rw [if_neg (by simp), if_neg (by omega), if_neg (by simp), if_neg]
      rintro ⟨_, _, h | h⟩
      · exact h rfl
      · exact h rfl⟩
    obtain ⟨g1, g2, g3⟩ := good_do (d := ⟨0, 1, b, a, 0, 0, spans⟩) hg1 h8
    refine Prod.ext (g1.ext hg ?_) (by rw [g2, e])
    rw [g3]
    funext m n
    by_cases hh : Has spans m n
    · obtain ⟨c1, x, x1, x2, x3, x4⟩ := lent_coin he hs hh
      rcases coin_of e hh with ⟨hk, _⟩ | ⟨_, y, y1, _, _, _, y5⟩
      · cases hk
      · rw [y5, movedS_1 rfl, x1]
        rw [c1] at y1
        cases y1
        have := hu m n x x1 (by omega)
        rw [show x = ⟨a, a, 0, -1⟩ from Sta.ext' x4 x3 this x2]
    · rw [coin_not hh, hs, coin_not hh]
  | n + 5, ht => simp [tryD] at ht
theorem open_ext {p q : Lot → Bool} {f g : Sta → Bool} {A B : List Lot} (hp : ∀ l, p l = f (stL l)) (hq : ∀ l, q l = g (stL l)) (hA : Ord A) (hB : Ord B) (h : ∀ m n, (∃ x, sta A m n = some x ∧ x.p = -1 ∧ f x = true) ↔ (∃ x, sta B m n = some x ∧ x.p = -1 ∧ g x = true)) : norm (openL p A) = norm (openL q B) :=
  NF.ext (norm_nf _) (norm_nf _) fun m n => by rw [has_open hp hA, has_open hq hB]; exact h m n
theorem lent_rest (hg : Good L) (hg1 : Good L1) (he : errF (sta L) (lendD a b til spans) = 0) (hs : sta L1 = stepF (sta L) (lendD a b til spans)) :
    ownedL L1 a = ownedL L a ∧ (minus spans (heldL L1 b)).length = 0 ∧ (common spans (heldL L1 a)).length = 0 ∧ norm (openL (fun _ => true) L1) = norm (openL (fun _ => true) L) := by
  refine ⟨owned_ext hg1.ord hg.ord fun m n => ?_, got_held (d := lendD a b til spans) hg1.ord hs he (by unfold lendD; simp) (by unfold lendD; simp), gone_held (d := lendD a b til spans) hg1.ord hs he (by unfold lendD; simp), open_ext (f := fun _ => true) (g := fun _ => true) (fun l => rfl) (fun l => rfl) hg1.ord hg.ord fun m n => ?_⟩
  · by_cases hh : Has spans m n
    · obtain ⟨c1, x, x1, x2, x3, x4⟩ := lent_coin he hs hh
      rw [c1, x1]
      exact ⟨fun _ => ⟨x, rfl, x2, x4⟩, fun _ => ⟨_, rfl, rfl, rfl⟩⟩
    · rw [hs, coin_not hh]
  · by_cases hh : Has spans m n
    · obtain ⟨c1, x, x1, x2, x3, x4⟩ := lent_coin he hs hh
      rw [c1, x1]
      exact ⟨fun _ => ⟨x, rfl, x2, rfl⟩, fun _ => ⟨_, rfl, rfl, rfl⟩⟩
    · rw [hs, coin_not hh]
end
end Go.Proofs.Ytjilbkioieicbaa

/- Walks: slices.Grow, slices.Concat, entry.Union at spans. -/
namespace Go.Proofs.Ytjilbkioieicbaa
open Go.Vc Rt
set_option linter.unusedVariables false
set_option linter.unusedSimpArgs false
theorem grow_c (n : Int) (w : World) (h0 : 0 ≤ n) (h1 : n ≤ 1000000) : AnsR Try.prog 112 [.slice none 0 0, vI n] [.row 56 3 []] w := by
  refine calls_plainB [.x (.slice none 0 0), .i n] Try.func112 rfl rfl (Nat.le_of_ble_eq_true rfl) rfl fun B hB => ?_
  refine At.reshapeH fun w' hw => ⟨{ N := Try.f112.ntmps, sl := [(0, some (.s (.c (.o 0 (.slice none 0 0))))), (1, some (.i n))], gl := [], hp := [(0, .row (.slice none 0 0) 56 3 [])], S := [], ws := w }, Le.of rfl rfl ⟨rfl, rfl, trivial⟩, hw.nil rfl rfl rfl, ⟨⟨_, _, _, rfl⟩, trivial⟩, ⟨(nopS []).okH, trivial⟩, ?_⟩
  repeat refine At.seq ?_
  refine At.region tab_ok ?_
  conv => whnf
  repeat refine At.seq ?_
  refine At.region tab_ok ?_
  conv => whnf
  repeat refine At.seq ?_
  refine At.cond rfl (fun hq => ?_) (fun hq => At.skip ?_)
  · have := of_decide_eq_true hq; omega
  repeat refine At.seq ?_
  refine At.region tab_ok ?_
  conv => whnf
  refine ⟨rfl, ?_⟩
  conv => whnf
  refine ⟨rfl, ?_⟩
  conv => whnf
  refine ⟨⟨by simp [scap], by simp [scap]⟩, ?_⟩
  conv => whnf
  refine ⟨⟨by simp [scap]; omega, by simp [scap]; omega⟩, ?_⟩
  conv => whnf
  repeat refine At.seq ?_
  refine At.region tab_ok ?_
  conv => whnf
  repeat refine At.seq ?_
  refine At.cond rfl (fun hq => ?_) (fun hq => ?_)
  · have hpos : 0 < n := by have := of_decide_eq_true hq; simp [scap] at this; exact this
    repeat refine At.seq ?_
    refine At.region tab_ok ?_
    conv => whnf
    refine ⟨rfl, ?_⟩
    conv => whnf
    refine ⟨rfl, ?_⟩
    conv => whnf
    refine ⟨by simp [scap], ?_⟩
    conv => whnf
    refine ⟨by simp [scap], ?_⟩
    conv => whnf
    refine ⟨.inr (Int.le_refl _), ?_⟩
    conv => whnf
    refine ⟨[], ⟨fun w' hw => ⟨fun l hl => (by cases hl), fun l hl => (by cases hl), .inr ⟨by simp [subV, scap], rfl⟩⟩, fun l hl => (by cases hl), by simp [scap]; exact hpos, by simp [subV, scap]; exact hpos, by simp [scap]; omega⟩, ?_⟩
    conv => whnf
    intro v1
    conv => whnf
    refine ⟨rfl, ?_⟩
    conv => whnf
    refine ⟨rfl, ?_⟩
    conv => whnf
    refine ⟨by simp, ?_⟩
    conv => whnf
    refine ⟨by simp, ?_⟩
    conv => whnf
    refine ⟨.inl (by simp; omega), ?_⟩
    conv => whnf
    repeat refine At.seq ?_
    refine At.region tab_ok ?_
    conv => whnf
    repeat refine At.seq ?_
    refine At.ret (At.doneB tab_ok hB _ rfl fun w' hw => ?_)
    have hr := row_prefix (hw.row (id := 1) rfl) (n := 0) (by simp)
    refine ⟨[subV v1 3 0 0], rfl, ⟨hr, fun b hb => ?_, fun u hu => (by cases hu), rfl⟩, hw.fr⟩
    rcases hw.fresh (id := 1) rfl b (blkOf_sub b hb) with h | h
    · cases h
    · exact h
  · refine At.skip ?_
    repeat refine At.seq ?_
    refine At.region tab_ok ?_
    conv => whnf
    repeat refine At.seq ?_
    refine At.ret (At.doneB tab_ok hB _ rfl fun w' hw => ansR_row (id := 0) hw rfl rfl rfl)
def sumLen (xss : List (List Span)) : Nat := (xss.map List.length).sum
theorem concat_c (xss : List (List Span)) (v : Value) (w : World) (h : SlOf (slT spT) [] w v xss) (hN : xss.length ≤ 1000) (hS : sumLen xss ≤ 1000000) : AnsR Try.prog 81 [v] [.row 56 3 (xss.flatten.map encS)] w := by
  have hl := h.len
  have hflat : ∀ k, (xss.take k).flatten.length ≤ 1000000 := fun k => by
    rw [List.length_flatten]
    refine Nat.le_trans ?_ hS
    unfold sumLen
    conv => rhs; rw [← List.take_append_drop k xss]
    rw [List.map_append, List.sum_append]
    omega
  have hst : ∀ {k : Nat} {xs : List Span}, xss[k]? = some xs → (xss.take (k + 1)).flatten = (xss.take k).flatten ++ xs := fun {k xs} hx => by rw [List.take_add_one, hx]; simp
  refine calls_plainB [.x v] Try.func81 rfl rfl (Nat.le_of_ble_eq_true rfl) rfl fun B hB => ?_
  repeat refine At.seq ?_
  refine At.region tab_ok ?_
  conv => whnf
  repeat refine At.seq ?_
  refine At.region tab_ok ?_
  conv => whnf
  repeat refine At.seq ?_
  refine At.region tab_ok ?_
  conv => whnf
  refine ⟨h.sl, ?_⟩
  conv => whnf
  repeat refine At.seq ?_
  refine At.block ?_
  refine At.loopH (fun k : Nat => { N := Try.f81.ntmps, sl := [(0, some (.x v)), (3, some (.i ((xss.take k).flatten.length))), (9, some (.x v)), (10, some (.i xss.length)), (11, some (.i k))], gl := [], hp := [], S := [], ws := w }) (fun k : Nat => k ≤ xss.length) (fun k : Nat => xss.length - k)
    (fun w' hw => ⟨0, Nat.zero_le _, Le.of rfl rfl ⟨rfl, rfl, rfl, congrArg (Value.int .i64) (by rw [hl]), rfl, trivial⟩, hw.same rfl rfl rfl, trivial, trivial⟩) ?_
  intro k hk
  repeat refine At.seq ?_
  refine At.region tab_ok ?_
  conv => whnf
  repeat refine At.seq ?_
  refine At.cond rfl (fun hc => At.skip ?_) (fun hc => At.exit ?_)
  · have hltxs : k < xss.length := by have := of_decide_eq_true hc; (try simp only [List.length_map] at this); omega
    obtain ⟨xs, hxs⟩ : ∃ x, xss[k]? = some x := ⟨_, List.getElem?_eq_getElem hltxs⟩
    obtain ⟨_, ⟨u, rfl, hu⟩, hc2⟩ := h.at hxs
    have hf1 := hflat (k + 1)
    rw [hst hxs, List.length_append] at hf1
    repeat refine At.seq ?_
    refine At.block ?_
    repeat refine At.seq ?_
    refine At.region tab_ok ?_
    conv => whnf
    refine ⟨by omega, ?_⟩
    conv => whnf
    refine ⟨by omega, ?_⟩
    conv => whnf
    refine ⟨[.x u], fun w' hw => hc2 w' hw.fr, ?_⟩
    conv => whnf
    repeat refine At.seq ?_
    refine At.region tab_ok ?_
    conv => whnf
    refine ⟨hu.sl, ?_⟩
    conv => whnf
    refine ⟨by rw [hu.len]; exact ⟨by omega, by omega⟩, ?_⟩
    conv => whnf
    repeat refine At.seq ?_
    refine At.region tab_ok ?_
    conv => whnf
    repeat refine At.seq ?_
    refine At.cond rfl (fun hq => ?_) (fun hq => At.skip ?_)
    · have := of_decide_eq_true hq; rw [hu.len] at this; omega
    repeat refine At.seq ?_
    refine At.region tab_ok ?_
    conv => whnf
    refine ⟨⟨by omega, by omega⟩, ?_⟩
    conv => whnf
    refine At.nextH fun w' hw => ⟨k + 1, by omega, by omega, Le.of rfl rfl ⟨rfl, congrArg (Value.int .i64) (by rw [hu.len, hst hxs]; simp), rfl, rfl, rfl, trivial⟩, hw.keep [] rfl rfl rfl, trivial, trivial⟩
  have hge : k = xss.length := by have := of_decide_eq_false hc; omega
  subst hge
  rw [List.take_length]
  have hfl := hflat xss.length
  rw [List.take_length] at hfl
  repeat refine At.seq ?_
  refine At.region tab_ok ?_
  conv => whnf
  refine ansR_call b112 (rd1 (nopS [])) (fun w' hw => grow_c _ w' (by omega) (by omega)) ?_
  intro v1
  conv => whnf
  repeat refine At.seq ?_
  refine At.region tab_ok ?_
  conv => whnf
  refine ⟨h.sl, ?_⟩
  conv => whnf
  repeat refine At.seq ?_
  refine At.block ?_
  refine At.loopH (fun p : Nat × Value => { N := Try.f81.ntmps, sl := [(0, some (.x v)), (6, some (.s (.c (.o 0 p.2)))), (25, some (.x v)), (26, some (.i xss.length)), (27, some (.i p.1))], gl := [], hp := [(0, .row p.2 56 3 ((xss.take p.1).flatten.map encS))], S := [], ws := w }) (fun p : Nat × Value => p.1 ≤ xss.length) (fun p : Nat × Value => xss.length - p.1)
    (fun w' hw => ⟨(0, v1), Nat.zero_le _, Le.of rfl rfl ⟨rfl, rfl, rfl, congrArg (Value.int .i64) (by rw [hl]), rfl, trivial⟩, hw.keep [0] rfl rfl rfl, ⟨⟨_, _, _, rfl⟩, trivial⟩, ⟨(nopS _).okH, trivial⟩⟩) ?_
  rintro ⟨k, vo⟩ hk
  simp only at hk ⊢
  repeat refine At.seq ?_
  refine At.region tab_ok ?_
  conv => whnf
  repeat refine At.seq ?_
  refine At.cond rfl (fun hc => At.skip ?_) (fun hc => At.exit ?_)
  · have hltxs : k < xss.length := by have := of_decide_eq_true hc; (try simp only [List.length_map] at this); omega
    obtain ⟨xs, hxs⟩ : ∃ x, xss[k]? = some x := ⟨_, List.getElem?_eq_getElem hltxs⟩
    obtain ⟨_, ⟨u, rfl, hu⟩, hc2⟩ := h.at hxs
    have hf1 := hflat (k + 1)
    have hst1 := hst hxs
    rw [hst1, List.length_append] at hf1
    generalize (xss.take k).flatten = out at *
    repeat refine At.seq ?_
    refine At.block ?_
    repeat refine At.seq ?_
    refine At.region tab_ok ?_
    conv => whnf
    refine ⟨by omega, ?_⟩
    conv => whnf
    refine ⟨by omega, ?_⟩
    conv => whnf
    refine ⟨[.x u], fun w' hw => hc2 w' hw.fr, ?_⟩
    conv => whnf
    repeat refine At.seq ?_
    refine At.region tab_ok ?_
    conv => whnf
    refine ⟨xs.map encS, ⟨fun w' hw => (hu.fr hw.fr).src (fun _ => rfl), nopS _⟩, ?_⟩
    conv => whnf
    refine ⟨⟨rfl, by simp; omega⟩, ?_⟩
    conv => whnf
    intro v2
    conv => whnf
    repeat refine At.seq ?_
    refine At.region tab_ok ?_
    conv => whnf
    refine ⟨⟨by omega, by omega⟩, ?_⟩
    conv => whnf
    refine At.nextH fun w' hw => ⟨(k + 1, v2), by simp only; omega, by simp only; omega, Le.of rfl rfl ⟨rfl, rfl, rfl, rfl, rfl, trivial⟩, hw.keep [0] (by rw [hst1, List.map_append]; rfl) rfl rfl, ⟨⟨_, _, _, rfl⟩, trivial⟩, ⟨(nopS _).okH, trivial⟩⟩
  have hge : k = xss.length := by have := of_decide_eq_false hc; omega
  subst hge
  rw [List.take_length]
  repeat refine At.seq ?_
  refine At.region tab_ok ?_
  conv => whnf
  repeat refine At.seq ?_
  refine At.ret (At.doneB tab_ok hB _ rfl fun w' hw => ansR_row (id := 0) hw rfl rfl rfl)
/-- Two slices of the function's own, as a slice of slices. -/
theorem two_sl {w : World} {v v1 v2 : Value} {i j : Nat} {xs ys : List Span} (h : (LO.row v 52 1 [[.o i v1], [.o j v2]]).holds w) (h1 : SlOf spT [] w v1 xs) (h2 : SlOf spT [] w v2 ys) : SlOf (slT spT) [] w v [xs, ys] :=
  SlOf.of_rows h (fun _ _ => nilS) (by simp) ⟨⟨[.x v1], rfl, v1, rfl, h1⟩, ⟨[.x v2], rfl, v2, rfl, h2⟩, trivial⟩
def unionS (a b : List Span) : List Span := norm (a ++ b)
theorem union_c (a b : List Span) (S S' : List Nat) (v u : Value) (w : World) (h : SlOf spT S w v a) (h' : SlOf spT S' w u b) (hN : a.length ≤ 100000) (hN' : b.length ≤ 100000) : AnsR Try.prog 47 [v, u] [.row 56 3 ((unionS a b).map encS)] w := by
  replace h := h.avoid (S' := []) (fun b hb => by cases hb)
  replace h' := h'.avoid (S' := []) (fun b hb => by cases hb)
  refine calls_plainB [.x v, .x u] Try.func47 rfl rfl (Nat.le_of_ble_eq_true rfl) rfl fun B hB => ?_
  repeat refine At.seq ?_
  refine At.region tab_ok ?_
  conv => whnf
  repeat refine At.seq ?_
  refine At.region tab_ok ?_
  conv => whnf
  refine ⟨h.sl.one, ?_⟩
  conv => whnf
  refine ⟨h'.sl.one, ?_⟩
  conv => whnf
  intro v1
  conv => whnf
  refine ansR_call b81 (rd1 (nopS _)) (fun w' hw => concat_c [a, b] v1 w' (SlOf.of_rows (hw.row (id := 0) rfl) (fun _ _ => nilS) (by simp) ⟨⟨[.x v], rfl, v, rfl, h.fr hw.fr⟩, ⟨[.x u], rfl, u, rfl, h'.fr hw.fr⟩, trivial⟩) (by simp) (by simp [sumLen]; omega)) ?_
  intro v2
  conv => whnf
  refine ansR_call b67 (rd1 (nopS _)) (fun w' hw => norm_c _ [] v2 w' (slS _ (hw.row (id := 1) rfl) (by simp; omega)) (by simp; omega)) ?_
  intro v3
  conv => whnf
  repeat refine At.seq ?_
  refine At.ret (At.doneB tab_ok hB _ rfl fun w' hw => ansR_row (id := 2) hw (by simp [unionS]; rfl) rfl rfl)
end Go.Proofs.Ytjilbkioieicbaa

/- Walks: entry.Has, and the small functions of lease. -/
namespace Go.Proofs.Ytjilbkioieicbaa
open Go.Vc Rt
set_option linter.unusedVariables false
set_option linter.unusedSimpArgs false
def inSpan (m n : Int) (s : Span) : Bool := valid s && (decide (s.m = m) && (decide (s.f ≤ n) && decide (n < s.t)))
def hasS (l : List Span) (m n : Int) : Bool := l.any (inSpan m n)
theorem idx_any {α : Type} (p : α → Bool) (xs : List α) : decide (0 ≤ idxOf p xs) = xs.any p := by
  unfold idxOf
  split
  · rename_i i h
    rw [List.findIdx?_eq_some_iff_getElem] at h
    obtain ⟨h1, h2, _⟩ := h
    rw [decide_eq_true (by omega)]
    exact (List.any_eq_true.2 ⟨_, List.getElem_mem h1, h2⟩).symm
  · rename_i h
    rw [decide_eq_false (by omega)]
    rw [List.findIdx?_eq_none_iff] at h
    refine (Bool.eq_false_iff.2 fun hc => ?_).symm
    obtain ⟨x, hx, hp⟩ := List.any_eq_true.1 hc
    rw [h x hx] at hp; cases hp
theorem containsS_c (xs : List Span) (S : List Nat) (v : Value) (w : World) (h : SlOf spT S w v xs) (g : Nat) (caps : Array Value) (p : Span → Bool) (hg : Body Try.prog g)
    (hf : ∀ x ∈ xs, ∀ w', Ext w w' → Ans Try.prog g (vS x :: caps.toList) (.b (p x)) w') : Ans Try.prog 138 [v, .func (.func g) #[] caps] (.b (xs.any p)) w := by
  replace h := h.avoid (S' := []) (fun b hb => by cases hb)
  refine calls_plainB [.x v, .x (.func (.func g) #[] caps)] Try.func138 rfl rfl (Nat.le_of_ble_eq_true rfl) rfl fun B hB => ?_
  repeat refine At.seq ?_
  refine At.region tab_ok ?_
  conv => whnf
  repeat refine At.seq ?_
  refine At.region tab_ok ?_
  conv => whnf
  refine ans_call b128 rfl (fun w' hw => indexS_c xs [] v w' (h.fr hw.fr) g caps p hg (fun x hx w'' hx' => hf x hx w'' (hw.fr.trans hx'))) ?_
  conv => whnf
  repeat refine At.seq ?_
  refine At.ret (At.doneB tab_ok hB _ rfl fun w' hw => ⟨?_, hw.fr⟩)
  rw [← idx_any]
theorem has1_c (s : Span) (m n : Int) (bm bn : Nat) (w : World) (hm : (LO.box bm 3 [.i m]).holds w) (hn : (LO.box bn 3 [.i n]).holds w) (hne : bm ≠ bn) : Ans Try.prog 139 [vS s, ptr bm, ptr bn] (.b (inSpan m n s)) w := by
  have hh : Holds (St.enter Try.f139.ntmps [.s (.agg (encS s)), .s (.c (.p 0 bm 0)), .s (.c (.p 1 bn 0))] [(0, .box bm 3 [.i m]), (1, .box bn 3 [.i n])] [bm, bn] w) w := enter_objs (fun o ho => by simp at ho; rcases ho with rfl | rfl; exact hm; exact hn) (by simp [LO.blks, hne])
  refine calls_atB _ _ _ Try.func139 rfl rfl (Nat.le_of_ble_eq_true rfl) (WF.objs hh ⟨⟨_, _, rfl⟩, ⟨_, _, rfl⟩, trivial⟩ trivial) hh fun B hB => ?_
  repeat refine At.seq ?_
  refine At.region tab_ok ?_
  conv => whnf
  intro b1
  conv => whnf
  repeat refine At.seq ?_
  refine At.region tab_ok ?_
  conv => whnf
  refine ans_call b80 rfl (fun w' hw => valid_c s w') ?_
  conv => whnf
  repeat refine At.seq ?_
  refine At.ret (At.doneB tab_ok hB _ rfl fun w' hw => ⟨?_, hw.fr.ext fun c hc => ?_⟩)
  · simp only [RV.den, SV.den, CV.den, band, inSpan, Bool.and_assoc]
  · rcases List.mem_cons.1 hc with rfl | hc
    · exact (hw.box (id := 0) rfl).trans hm.symm
    · rw [List.mem_singleton.1 hc]; exact (hw.box (id := 1) rfl).trans hn.symm
theorem has_c (xs : List Span) (m n : Int) (S : List Nat) (v : Value) (w : World) (h : SlOf spT S w v xs) : Ans Try.prog 114 [v, vI m, vI n] (.b (hasS xs m n)) w := by
  replace h := h.avoid (S' := []) (fun b hb => by cases hb)
  refine calls_plainB [.x v, .i m, .i n] Try.func114 rfl rfl (Nat.le_of_ble_eq_true rfl) rfl fun B hB => ?_
  repeat refine At.seq ?_
  refine At.region tab_ok ?_
  conv => whnf
  intro bm
  conv => whnf
  intro bn
  conv => whnf
  repeat refine At.seq ?_
  refine At.region tab_ok ?_
  conv => whnf
  refine ans_call b138 rfl (fun w' hw => containsS_c xs [] v w' (h.fr hw.fr) 139 #[ptr bm, ptr bn] (inSpan m n) b139 (fun x _ w'' hx => has1_c x m n bm bn w'' (LO.holds_ext hx (hw.objs (0, .box bm 3 [.i m]) (by simp))) (LO.holds_ext hx (hw.objs (1, .box bn 3 [.i n]) (by simp)))
    (fun e => disj_of hw.nodup (i := 0) (j := 1) rfl rfl (by decide) bm (by simp [LO.blks]) (by simp [LO.blks, e])))) ?_
  conv => whnf
  repeat refine At.seq ?_
  refine At.ret (At.doneB tab_ok hB _ rfl fun w' hw => ⟨rfl, hw.fr⟩)
/-- The day that was seen of a key. -/
def ofK (seen : List Int) (k : Int) : Int := if k < 0 then -1 else seen.getD k.toNat (-1)
theorem of_c (seen : List Int) (k : Int) (S : List Nat) (v : Value) (w : World) (h : SlOf intT S w v seen) : Ans Try.prog 79 [v, vI k] (.i (ofK seen k)) w := by
  replace h := h.avoid (S' := []) (fun b hb => by cases hb)
  have hl := h.len
  refine calls_plainB [.x v, .i k] Try.func79 rfl rfl (Nat.le_of_ble_eq_true rfl) rfl fun B hB => ?_
  repeat refine At.seq ?_
  refine At.region tab_ok ?_
  conv => whnf
  repeat refine At.seq ?_
  refine At.region tab_ok ?_
  conv => whnf
  refine ⟨by simp only [gimp]; intro _; exact h.sl, ?_⟩
  conv => whnf
  repeat refine At.seq ?_
  refine At.cond rfl (fun hq => ?_) (fun hq => ?_)
  · repeat refine At.seq ?_
    refine At.region tab_ok ?_
    conv => whnf
    repeat refine At.seq ?_
    refine At.ret (At.doneB tab_ok hB _ rfl fun w' hw => ⟨?_, hw.fr⟩)
    simp only [bor, Bool.or_eq_true, decide_eq_true_eq] at hq
    unfold ofK
    split
    · rfl
    · rw [List.getD_eq_getElem?_getD, List.getElem?_eq_none (by omega)]; rfl
  · simp only [bor, Bool.or_eq_false_iff, decide_eq_false_iff_not] at hq
    refine At.skip ?_
    obtain ⟨x, hx⟩ : ∃ x, seen[k.toNat]? = some x := ⟨_, List.getElem?_eq_getElem (by omega)⟩
    repeat refine At.seq ?_
    refine At.region tab_ok ?_
    conv => whnf
    refine ⟨by omega, ?_⟩
    conv => whnf
    refine ⟨by omega, ?_⟩
    conv => whnf
    refine ⟨[.i x], fun w' hw => h.loadI (n := 1) hw.fr (by omega) hx rfl, ?_⟩
    conv => whnf
    repeat refine At.seq ?_
    refine At.ret (At.doneB tab_ok hB _ rfl fun w' hw => ⟨?_, hw.fr⟩)
    unfold ofK
    rw [if_neg (by omega), List.getD_eq_getElem?_getD, hx]
    rfl
/-- Whether a key may use a lot's coins. -/
def mayU (l : Lot) (key day seen : Int) : Int :=
  if l.p ≠ -1 then 29 else if key ≠ l.o ∧ key ≠ l.h then 27 else if key ≠ l.h ∧ seen ≤ l.u then 28 else if key ≠ l.o ∧ l.u < day then 25 else 0
theorem mayU_c (l : Lot) (key day seen : Int) (w : World) : Ans Try.prog 78 [vL l, vI key, vI day, vI seen] (.i (mayU l key day seen)) w := by
  refine calls_plainB [.s (.agg (encL l)), .i key, .i day, .i seen] Try.func78 rfl rfl (Nat.le_of_ble_eq_true rfl) rfl fun B hB => ?_
  repeat refine At.seq ?_
  refine At.region tab_ok ?_
  conv => whnf
  intro b1
  conv => whnf
  repeat refine At.seq ?_
  refine At.block ?_
  repeat refine At.seq ?_
  refine At.region tab_ok ?_
  conv => whnf
  repeat refine At.seq ?_
  refine At.cond rfl (fun hq => ?_) (fun hq => ?_)
  · repeat refine At.seq ?_
    refine At.region tab_ok ?_
    conv => whnf
    repeat refine At.seq ?_
    refine At.ret (At.doneB tab_ok hB _ rfl fun w' hw => ⟨?_, hw.fr⟩)
    simp at hq
    simp [mayU, hq, RV.den, SV.den, CV.den, ofConst]
  · have h1 : l.p = -1 := by simpa using hq
    repeat refine At.seq ?_
    refine At.region tab_ok ?_
    conv => whnf
    repeat refine At.seq ?_
    refine At.cond rfl (fun hq => ?_) (fun hq => ?_)
    · repeat refine At.seq ?_
      refine At.region tab_ok ?_
      conv => whnf
      repeat refine At.seq ?_
      refine At.ret (At.doneB tab_ok hB _ rfl fun w' hw => ⟨?_, hw.fr⟩)
      simp only [band, Bool.and_eq_true, Bool.not_eq_true', decide_eq_false_iff_not] at hq
      unfold mayU; rw [if_neg (by simpa using h1), if_pos hq]
    · have h2 : ¬ (key ≠ l.o ∧ key ≠ l.h) := by
        rintro ⟨a, b⟩; simp [a, b] at hq
      repeat refine At.seq ?_
      refine At.region tab_ok ?_
      conv => whnf
      repeat refine At.seq ?_
      refine At.cond rfl (fun hq => ?_) (fun hq => ?_)
      · repeat refine At.seq ?_
        refine At.region tab_ok ?_
        conv => whnf
        repeat refine At.seq ?_
        refine At.ret (At.doneB tab_ok hB _ rfl fun w' hw => ⟨?_, hw.fr⟩)
        simp only [band, Bool.and_eq_true, Bool.not_eq_true', decide_eq_false_iff_not, decide_eq_true_eq] at hq
        unfold mayU; rw [if_neg (by simpa using h1), if_neg h2, if_pos hq]
      · have h3 : ¬ (key ≠ l.h ∧ seen ≤ l.u) := by
          rintro ⟨a, b⟩; simp [a, b] at hq
        repeat refine At.seq ?_
        refine At.region tab_ok ?_
        conv => whnf
        repeat refine At.seq ?_
        refine At.cond rfl (fun hq => ?_) (fun hq => ?_)
        · repeat refine At.seq ?_
          refine At.region tab_ok ?_
          conv => whnf
          repeat refine At.seq ?_
          refine At.ret (At.doneB tab_ok hB _ rfl fun w' hw => ⟨?_, hw.fr⟩)
          simp only [band, Bool.and_eq_true, Bool.not_eq_true', decide_eq_false_iff_not, decide_eq_true_eq] at hq
          unfold mayU; rw [if_neg (by simpa using h1), if_neg h2, if_neg h3, if_pos hq]
        · have h4 : ¬ (key ≠ l.o ∧ l.u < day) := by
            rintro ⟨a, b⟩; simp [a, b] at hq
          refine At.skip ?_
          repeat refine At.seq ?_
          refine At.region tab_ok ?_
          conv => whnf
          repeat refine At.seq ?_
          refine At.ret (At.doneB tab_ok hB _ rfl fun w' hw => ⟨?_, hw.fr⟩)
          unfold mayU; rw [if_neg (by simpa using h1), if_neg h2, if_neg h3, if_neg h4]
theorem alike_c (a b : Lot) (w : World) : Ans Try.prog 115 [vL a, vL b] (.b (alike a b)) w := by
  refine calls_plainB [.s (.agg (encL a)), .s (.agg (encL b))] Try.func115 rfl rfl (Nat.le_of_ble_eq_true rfl) rfl fun B hB => ?_
  repeat refine At.seq ?_
  refine At.region tab_ok ?_
  conv => whnf
  intro b1
  conv => whnf
  intro b2
  conv => whnf
  repeat refine At.seq ?_
  refine At.region tab_ok ?_
  conv => whnf
  repeat refine At.seq ?_
  refine At.region tab_ok ?_
  conv => whnf
  repeat refine At.seq ?_
  refine At.region tab_ok ?_
  conv => whnf
  repeat refine At.seq ?_
  refine At.ret (At.doneB tab_ok hB _ rfl fun w' hw => ⟨?_, hw.fr⟩)
  refine congrArg (fun b => Ending.returned (Value.bool b)) ?_
  unfold alike
  rw [Bool.eq_iff_iff]
  simp
  constructor
  · rintro ⟨⟨a1, a2⟩, a3, a4, a5, a6⟩; exact ⟨a3, a4, a5, a6, a1, a2⟩
  · rintro ⟨a3, a4, a5, a6, a1, a2⟩; exact ⟨⟨a1, a2⟩, a3, a4, a5, a6⟩
theorem cmpF_c (a b : Span) (w : World) (h : inR (a.f - b.f)) : Ans Try.prog 137 [vS a, vS b] (.i (a.f - b.f)) w := by
  refine calls_plainB [.s (.agg (encS a)), .s (.agg (encS b))] Try.func137 rfl rfl (Nat.le_of_ble_eq_true rfl) rfl fun B hB => ?_
  repeat refine At.seq ?_
  refine At.region tab_ok ?_
  conv => whnf
  intro b1
  conv => whnf
  intro b2
  conv => whnf
  repeat refine At.seq ?_
  refine At.region tab_ok ?_
  conv => whnf
  refine ⟨h, ?_⟩
  conv => whnf
  repeat refine At.seq ?_
  refine At.ret (At.doneB tab_ok hB _ rfl fun w' hw => ⟨rfl, hw.fr⟩)
/-! ### Sorting by the first coin -/
/-- Spans within bounds. -/
def BSp : Type := { s : Span // 0 ≤ s.f ∧ s.f ≤ 1048576 }
instance : Inhabited BSp := ⟨⟨⟨0, 0, 0⟩, by decide⟩⟩
def encB (s : BSp) : List Value := encVS s.1
def cmpB (a b : BSp) : Int := a.1.f - b.1.f
theorem swoB : Sort.SWO (ltOf cmpB) where
  irrefl x := by rw [← Bool.not_eq_true]; unfold ltOf cmpB; simp
  trans x y z h1 h2 := by unfold ltOf cmpB at *; simp at *; omega
  ntrans x y z h1 h2 := by rw [← Bool.not_eq_true] at *; unfold ltOf cmpB at *; simp at *; omega
theorem cmpB_lays (blk off size : Nat) (w : World) : CmpLays Try.prog 137 #[] encB 3 cmpB blk off size w := by
  intro m os dk hs x y
  have hx := x.2
  have hy := y.2
  exact (cmpF_c x.1 y.1 _ ⟨by omega, by omega⟩).mono fun e w' ⟨he, hx⟩ => ⟨he, Ext.grow hx⟩
def BSp.s (x : BSp) : Span := x.1
theorem flatB_get (d : Array BSp) {j : Nat} (hj : j < d.size * 3) : (dens ((d.toList.map BSp.s).map encS).flatten)[j]? = some (Sort.flatK encB 3 d)[j]! := by
  have hlr : ∀ l ∈ (d.toList.map BSp.s).map encS, l.length = 3 := fun l hl => by obtain ⟨x, _, rfl⟩ := List.mem_map.1 hl; rfl
  have hq : j / 3 < d.size := by omega
  have e := flatten_get hlr (k := j / 3) (row := encS d[j / 3].s) (by simp [hq]) (j % 3) (by omega)
  rw [show j / 3 * 3 + j % 3 = j by omega] at e
  rw [Sort.get_flatK _ _ _ _ hj, getElem!_pos d (j / 3) hq]
  simp only [dens, List.getElem?_map, e]
  have h3 : j % 3 = 0 ∨ j % 3 = 1 ∨ j % 3 = 2 := by omega
  rcases h3 with h3 | h3 | h3 <;> rw [h3] <;> rfl
theorem sortB_c (xs : List BSp) (v : Value) (w : World) (h : (LO.row v 56 3 ((xs.map BSp.s).map encS)).holds w) (hN : xs.length ≤ 1000000) :
    Calls Try.prog 99 #[v, .func (.func 137) #[] #[]] w (fun e w' => ∃ ys : List BSp, e = .returned (.tuple #[]) ∧ ys.Perm xs ∧ ys.Pairwise (fun a b => a.1.f ≤ b.1.f) ∧ (LO.row v 56 3 ((ys.map BSp.s).map encS)).holds w' ∧ Fr (blkOf v) w w') := by
  have h' := h
  obtain ⟨⟨hlen, hv⟩, hL⟩ := h
  rcases hv with ⟨rfl, h0⟩ | ⟨g, o, cap, cur, rfl, hg, hnc, hcm, hcs, htake⟩
  · have hx : xs = [] := List.eq_nil_of_length_eq_zero (by simpa using h0)
    subst hx
    have hcon := AnyF.slices_SortFunc_none Try.sortSp none 0 (.func (.func 137) #[] #[]) w
    change Calls Try.prog 99 _ _ _ at hcon
    exact hcon.mono fun e w' ⟨he, hw⟩ => ⟨[], he, .nil, .nil, by rw [hw]; exact h', by rw [hw]; exact Fr.refl _ _⟩
  · simp only [List.length_map] at hnc hcs htake hlen ⊢
    have hgs : g < w.heap.size := (Array.getElem?_eq_some_iff.1 hg).1
    have hcell : ∀ j u, (dens ((xs.map BSp.s).map encS).flatten)[j]? = some u → w.cell? ⟨g, o + j, none⟩ = some u := by
      intro j u hu
      have hj : j < xs.length * 3 := by
        rcases Nat.lt_or_ge j (xs.length * 3) with h1 | h1
        · exact h1
        · rw [List.getElem?_eq_none (by omega)] at hu; cases hu
      rw [cell_of_row w g _ _ _ _ hg]
      rw [← htake, List.getElem?_take_of_lt hj, List.getElem?_drop] at hu
      simpa using hu
    have hH : Sort.HoldsK encB 3 w g o xs.toArray := by
      intro j hj
      simp only [Sort.size_flatK, List.size_toArray] at hj
      refine ⟨hcell j _ (flatB_get xs.toArray (by simpa using hj)), ?_⟩
      simp [World.frozen?, hg]
    have eg : ∀ args w, (callFunc 137 args).run Try.prog w = .ok (.enter 137 args) w := enters_of Try.func137 (by kernel_rfl) rfl
    have hcon := AnyQ.slices_SortFunc Try.sortSp 3 (fun w => ok_isAgg (P := Try.prog) (t := 56) (d := .struct (Try.prog.fieldsOf 56)) (by kernel_rfl) w) (fun w => by
      obtain ⟨i, hi, hs⟩ : ∃ i, Try.prog.info? 56 = some i ∧ i.size = 3 := by
        obtain ⟨i, d, hi, _, hs, _⟩ := chk_info (tab_ok 56 _ rfl)
        exact ⟨i, hi, hs⟩
      have := ok_sizeOf (P := Try.prog) hi w
      rw [hs] at this
      exact this) encB (fun _ => rfl) (fun x v hv => by simp [encB, encVS] at hv; rcases hv with rfl | rfl | rfl <;> rfl) cmpB swoB 137 #[] g o cap xs.toArray w eg (cmpB_lays g o _ w) hH hgs (by simp; omega)
    change Calls Try.prog 99 _ _ _ at hcon
    refine hcon.mono fun e w' ⟨he, d', n', os, hp, hs, hw⟩ => ⟨d'.toList, he, ?_, ?_, ?_, ?_⟩
    · have hp3 := hp.2.2
      have e1 : d'.extract 0 xs.toArray.size = d' := by rw [← hp.1]; simp
      have e2 : xs.toArray.extract 0 xs.toArray.size = xs.toArray := by simp
      rw [e1, e2] at hp3
      simpa using hp3
    · rw [List.pairwise_iff_getElem]
      intro i j hi hj hij
      have := hs i j (Nat.zero_le _) hij (by rw [← hp.1]; simpa using hj)
      rw [getElem!_pos d' j (by simpa using hj), getElem!_pos d' i (by simpa using hi), ← Bool.not_eq_true] at this
      unfold ltOf cmpB at this
      simp at this ⊢
      omega
    all_goals
      have hd : d'.size = xs.length := by rw [hp.1]; simp
      have hheap : w'.heap[g]? = some (.cells (Sort.putCells id o (Sort.flatK encB 3 d') cur) 56 (0, 0)) := by
        rw [hw]
        simp only [sortWorldK, Sort.grow, Sort.putRowK, Sort.putRow, Sort.mapBlock, Sort.ahead]
        rw [Array.getElem?_append_left (by simpa using hgs), Array.getElem?_modify, if_pos rfl, hg]
        rfl
    · have hrl : ∀ l ∈ (d'.toList.map BSp.s).map encS, l.length = 3 := fun l hl => by obtain ⟨x, _, rfl⟩ := List.mem_map.1 hl; rfl
      have hdl : (dens ((d'.toList.map BSp.s).map encS).flatten).length = xs.length * 3 := by simp only [dens, List.length_map]; rw [flatten_len hrl]; simp [hd]
      refine ⟨⟨by rw [hdl]; simp [hd], .inr ⟨g, o, cap, _, by simp [hd], hheap, by simp [hd]; omega, hcm, by simp [Sort.putCells]; exact hcs, ?_⟩⟩, hrl⟩
      apply List.ext_getElem?
      intro j
      by_cases hj : j < xs.length * 3
      · have e := flatB_get d' (j := j) (by omega)
        rw [List.getElem?_take_of_lt (by simp [hd]; omega), List.getElem?_drop, e]
        have hlt : o + j < cur.size := by
          have : xs.length * 3 ≤ cap * 3 := Nat.mul_le_mul_right _ hnc
          omega
        simp [Sort.putCells, hlt, hd, hj]
      · rw [List.getElem?_eq_none (by simp [hd]; omega), List.getElem?_eq_none (by omega)]
    · rw [hw]
      refine ⟨rfl, rfl, rfl, by simp [sortWorldK, Sort.grow, Sort.putRowK], fun k hk hn => ?_, by simp [sortWorldK, Sort.grow, Sort.putRowK]⟩
      have hne : g ≠ k := fun e => hn (by simp [blkOf, e])
      simp only [sortWorldK, Sort.grow, Sort.putRowK, Sort.putRow, Sort.mapBlock, Sort.ahead]
      rw [Array.getElem?_append_left (by simpa using hk), Array.getElem?_modify, if_neg hne]
/-- Spans within bounds are sorted by their first coins. -/
theorem sortF_c (xs : List Span) (v : Value) (w : World) (h : (LO.row v 56 3 (xs.map encS)).holds w) (hb : ∀ s ∈ xs, 0 ≤ s.f ∧ s.f ≤ 1048576) (hN : xs.length ≤ 1000000) :
    Calls Try.prog 99 #[v, .func (.func 137) #[] #[]] w (fun e w' => ∃ ys : List Span, e = .returned (.tuple #[]) ∧ ys.Perm xs ∧ ys.Pairwise (fun a b => a.f ≤ b.f) ∧ (LO.row v 56 3 (ys.map encS)).holds w' ∧ Fr (blkOf v) w w') := by
  obtain ⟨zs, hz⟩ : ∃ zs : List BSp, zs.map BSp.s = xs := by
    clear h hN
    induction xs with
    | nil => exact ⟨[], rfl⟩
    | cons x xs ih =>
      obtain ⟨zs, hz⟩ := ih fun s hs => hb s (List.mem_cons_of_mem _ hs)
      exact ⟨(show BSp from ⟨x, hb x (List.mem_cons_self ..)⟩) :: zs, congrArg (x :: ·) hz⟩
  subst hz
  refine (sortB_c zs v w h (by simpa using hN)).mono fun e w' ⟨ys, he, h1, h2, h3, h4⟩ => ⟨ys.map BSp.s, he, h1.map _, List.pairwise_map.2 h2, h3, h4⟩
end Go.Proofs.Ytjilbkioieicbaa

/- Walks: the pieces of a lot. -/
namespace Rt
set_option linter.unusedVariables false
set_option linter.unusedSimpArgs false
def insF (s : Span) : List Span → List Span
  | [] => [s]
  | x :: r => if s.f ≤ x.f then s :: x :: r else x :: insF s r
def isortF : List Span → List Span
  | [] => []
  | x :: r => insF x (isortF r)
theorem insF_perm (s : Span) : ∀ l, (insF s l).Perm (s :: l)
  | [] => .refl _
  | x :: r => by
    simp only [insF]
    split
    · exact .refl _
    · exact ((insF_perm s r).cons x).trans (.swap s x r)
theorem isortF_perm : ∀ l, (isortF l).Perm l
  | [] => .refl _
  | x :: r => (insF_perm x _).trans ((isortF_perm r).cons x)
theorem insF_sorted {s : Span} : ∀ {l : List Span}, l.Pairwise (fun a b => a.f ≤ b.f) → (insF s l).Pairwise (fun a b => a.f ≤ b.f)
  | [], _ => by simp [insF]
  | x :: r, h => by
    obtain ⟨h1, h2⟩ := List.pairwise_cons.1 h
    simp only [insF]
    split
    · refine List.pairwise_cons.2 ⟨fun y hy => ?_, h⟩
      rcases List.mem_cons.1 hy with rfl | hy
      · assumption
      · have := h1 y hy; omega
    · refine List.pairwise_cons.2 ⟨fun y hy => ?_, insF_sorted h2⟩
      rcases List.mem_cons.1 ((insF_perm s r).subset hy) with rfl | hy
      · omega
      · exact h1 y hy
theorem isortF_sorted : ∀ l, (isortF l).Pairwise (fun a b => a.f ≤ b.f)
  | [] => .nil
  | x :: r => insF_sorted (isortF_sorted r)
theorem sorted_unique : ∀ {a b : List Span}, a.Perm b → a.Pairwise (fun a b => a.f ≤ b.f) → b.Pairwise (fun a b => a.f ≤ b.f) → (∀ x ∈ a, ∀ y ∈ a, x.f = y.f → x = y) → a = b
  | [], b, hp, _, _, _ => (hp.nil_eq).symm ▸ rfl
  | x :: a, [], hp, _, _, _ => by have := hp.length_eq; simp at this
  | x :: a, y :: b, hp, ha, hb, hd => by
    obtain ⟨a1, a2⟩ := List.pairwise_cons.1 ha
    obtain ⟨b1, b2⟩ := List.pairwise_cons.1 hb
    have hxy : y.f ≤ x.f := by
      rcases List.mem_cons.1 (hp.subset (List.mem_cons_self ..)) with e | e
      · rw [e]; exact Int.le_refl _
      · exact b1 x e
    have hy : y ∈ x :: a := hp.symm.subset (List.mem_cons_self ..)
    have hyx : x.f ≤ y.f := by
      rcases List.mem_cons.1 hy with e | e
      · rw [e]; exact Int.le_refl _
      · exact a1 y e
    have e : x = y := hd x (List.mem_cons_self ..) y hy (by omega)
    subst e
    rw [sorted_unique hp.cons_inv a2 b2 fun u hu v hv => hd u (List.mem_cons_of_mem _ hu) v (List.mem_cons_of_mem _ hv)]
/-- The parts of a span that have coins of spans, and those that have none, in order. -/
def pieceSp (s : Span) (spans : List Span) : List Span := isortF (common [s] spans ++ minus [s] spans)
theorem common_valid {a b : List Span} : ∀ s ∈ common a b, valid s = true := norm_valid
theorem common_len (a b : List Span) (hb : (norm a).length ≤ 1) : (common a b).length ≤ b.length := by
  unfold common
  have h1 := norm_len_valid (comAll (norm a) (norm b))
  have h2 := List.length_filter_le valid (comAll (norm a) (norm b))
  have h3 := comAll_len (norm b) (norm a)
  have h4 := norm_len_valid b
  have h5 := List.length_filter_le valid b
  have h6 : (norm a).length * (norm b).length ≤ 1 * (norm b).length := Nat.mul_le_mul_right _ hb
  omega
theorem minus_len (a b : List Span) : (minus a b).length ≤ a.length + b.length := by
  have h1 := lessAll_len (ys := norm b) (out := norm a) (fun y hy => valid_lt (norm_valid y hy)) (norm_nf a)
  have h2 := norm_len_valid a
  have h3 := List.length_filter_le valid a
  have h4 := norm_len_valid b
  have h5 := List.length_filter_le valid b
  unfold minus
  omega
theorem norm_one_len (s : Span) : (norm [s]).length ≤ 1 := Nat.le_trans (norm_len_valid _) (Nat.le_trans (List.length_filter_le ..) (by simp))
theorem pieces_mark {s : Span} {spans : List Span} {x : Span} (hx : x ∈ common [s] spans ++ minus [s] spans) : x.f < x.t ∧ ∀ n, x.f ≤ n → n < x.t → valid s = true ∧ s.m = x.m ∧ s.f ≤ n ∧ n < s.t := by
  have hv : valid x = true := (List.mem_append.1 hx).elim (fun h => common_valid x h) (fun h => (minus_spec [s] spans).2.1 x h)
  refine ⟨valid_lt hv, fun n h1 h2 => ?_⟩
  have hh : Has (norm [s]) x.m n := by
    rcases List.mem_append.1 hx with h | h
    · exact (has_common.1 ⟨x, h, rfl, h1, h2⟩).1
    · exact (((minus_spec [s] spans).2.2 x.m n).1 ⟨x, h, rfl, h1, h2⟩).1
  obtain ⟨y, hy, h3, h4⟩ := has_norm.1 hh
  rw [List.mem_singleton.1 hy] at h3 h4
  exact ⟨h3, h4⟩
theorem nf_same_first {l : List Span} (h : NF l) {x y : Span} (hx : x ∈ l) (hy : y ∈ l) (hm : x.m = y.m) (hf : x.f = y.f) : x = y := by
  induction l with
  | nil => cases hx
  | cons z l ih =>
    have hz := (List.pairwise_cons.1 h.ord).1
    have nz := h.ne z (List.mem_cons_self ..)
    rcases List.mem_cons.1 hx with rfl | hx' <;> rcases List.mem_cons.1 hy with rfl | hy'
    · rfl
    · have := hz y hy'; unfold gap at this; omega
    · have := hz x hx'; unfold gap at this; omega
    · exact ih h.tail hx' hy'
theorem pieces_first {s : Span} {spans : List Span} : ∀ x ∈ common [s] spans ++ minus [s] spans, ∀ y ∈ common [s] spans ++ minus [s] spans, x.f = y.f → x = y := by
  intro x hx y hy hf
  obtain ⟨x1, x2⟩ := pieces_mark hx
  obtain ⟨y1, y2⟩ := pieces_mark hy
  have mx := (x2 x.f (by omega) x1).2.1
  have my := (y2 y.f (by omega) y1).2.1
  rcases List.mem_append.1 hx with hx | hx <;> rcases List.mem_append.1 hy with hy | hy
  · exact nf_same_first (norm_nf _) hx hy (by omega) hf
  · have h1 := (has_common.1 ⟨x, hx, rfl, Int.le_refl _, x1⟩).2
    have h2 := (((minus_spec [s] spans).2.2 y.m y.f).1 ⟨y, hy, rfl, Int.le_refl _, y1⟩).2
    rw [← hf, ← my, mx] at h2
    exact (h2 h1).elim
  · have h1 := (has_common.1 ⟨y, hy, rfl, Int.le_refl _, y1⟩).2
    have h2 := (((minus_spec [s] spans).2.2 x.m x.f).1 ⟨x, hx, rfl, Int.le_refl _, x1⟩).2
    rw [hf, ← mx, my] at h2
    exact (h2 h1).elim
  · exact nf_same_first (minus_spec [s] spans).1 hx hy (by omega) hf
theorem piece_of {s : Span} {spans ys : List Span} (hp : ys.Perm (common [s] spans ++ minus [s] spans)) (hs : ys.Pairwise (fun a b => a.f ≤ b.f)) : ys = pieceSp s spans :=
  sorted_unique (hp.trans (isortF_perm _).symm) hs (isortF_sorted _) fun x hx y hy => pieces_first x (hp.subset hx) y (hp.subset hy)
theorem piece_len (s : Span) (spans : List Span) : (pieceSp s spans).length ≤ 2 * spans.length + 1 := by
  unfold pieceSp
  have h1 := (isortF_perm (common [s] spans ++ minus [s] spans)).length_eq
  have h2 := common_len [s] spans (norm_one_len s)
  have h3 := minus_len [s] spans
  rw [h1, List.length_append]
  simp only [List.length_singleton] at h3
  omega
def withSp (l : Lot) (s : Span) : Lot := { l with s := s }
def pieceL (l : Lot) (spans : List Span) : List Lot := (pieceSp l.s spans).map (withSp l)
end Rt
namespace Go.Proofs.Ytjilbkioieicbaa
open Go.Vc Rt
set_option linter.unusedVariables false
set_option linter.unusedSimpArgs false
/-- A slice that is nil, as a row; objects are forgotten. -/
theorem Holds.nilK {st st' : St} {w : World} (h : Holds st w) (ids : List Nat) {id E size : Nat} (h1 : st'.hp = (id, .row (.slice none 0 0) E size []) :: keepIds ids st.hp) (h2 : st'.S = st.S) (h3 : st'.ws = st.ws) : Holds st' w := by
  have h' : Holds { st with hp := keepIds ids st.hp } w := h.keep ids rfl rfl rfl
  exact h'.nil (st' := st') h1 h2 h3
theorem pieces_c (l : Lot) (spans : List Span) (S : List Nat) (v : Value) (w : World) (h : SlOf spT S w v spans) (hN : spans.length ≤ 900) : AnsR Try.prog 113 [vL l, v] [.row 58 7 ((pieceL l spans).map encL)] w := by
  replace h := h.avoid (S' := []) (fun b hb => by cases hb)
  have hc1 := common_len [l.s] spans (norm_one_len l.s)
  have hm1 := minus_len [l.s] spans
  have hpl := piece_len l.s spans
  simp only [List.length_singleton] at hm1
  refine calls_plainB [.s (.agg (encL l)), .x v] Try.func113 rfl rfl (Nat.le_of_ble_eq_true rfl) rfl fun B hB => ?_
  repeat refine At.seq ?_
  refine At.region tab_ok ?_
  conv => whnf
  intro b2
  conv => whnf
  repeat refine At.seq ?_
  refine At.region tab_ok ?_
  conv => whnf
  intro v0
  conv => whnf
  repeat refine At.seq ?_
  refine At.region tab_ok ?_
  conv => whnf
  refine ansR_call b41 (rd1 (nopS _)) (fun w' hw => common_c [l.s] spans [] [] v0 v w' (slS [l.s] (hw.row (id := 1) rfl) (by simp)) (h.fr hw.fr) (by simp) (by omega)) ?_
  intro v1
  conv => whnf
  refine ansR_call b76 (rd1 (nopS _)) (fun w' hw => minus_c [l.s] spans [] [] v0 v w' (slS [l.s] (hw.row (id := 1) rfl) (by simp)) (h.fr hw.fr) (by simp) (by omega)) ?_
  intro v2
  conv => whnf
  intro v3
  conv => whnf
  refine ansR_call b81 (rd1 (nopS _)) (fun w' hw => concat_c [common [l.s] spans, minus [l.s] spans] v3 w' (two_sl (hw.row (id := 4) rfl) (slS _ (hw.row (id := 2) rfl) (by omega)) (slS _ (hw.row (id := 3) rfl) (by omega))) (by simp) (by simp [sumLen]; omega)) ?_
  intro v4
  conv => whnf
  repeat refine At.seq ?_
  refine At.region tab_ok ?_
  conv => whnf
  refine row_call (id := 5) b99 rfl (fun r v' L' => r = .tup [] ∧ v' = v4 ∧ L' = (pieceSp l.s spans).map encS) (fun w' hw => ?_) ?_
  · refine (sortF_c ([common [l.s] spans, minus [l.s] spans].flatten) v4 w' (hw.row (id := 5) rfl) (fun s hs => ?_) (by simp; omega)).mono ?_
    · simp only [List.flatten_cons, List.flatten_nil, List.append_nil] at hs
      have : valid s = true := (List.mem_append.1 hs).elim (fun h => common_valid s h) (fun h => (minus_spec [l.s] spans).2.1 s h)
      have := valid_iff.1 this
      omega
    · rintro e w'' ⟨ys, he, h1, h2, h3, h4⟩
      have e1 : ys = pieceSp l.s spans := piece_of (by simpa using h1) h2
      subst e1
      exact ⟨.tup [], v4, _, he, ⟨rfl, rfl, rfl⟩, h3, h4, fun b hb => .inl hb⟩
  rintro r v5 L' ⟨rfl, rfl, rfl⟩ hsl
  refine ⟨fun v hv => (by cases hv), nopS _, ?_⟩
  conv => whnf
  generalize hps : pieceSp l.s spans = ps at *
  have hpL : pieceL l spans = ps.map (withSp l) := by unfold pieceL; rw [hps]
  repeat refine At.seq ?_
  refine At.region tab_ok ?_
  conv => whnf
  repeat refine At.seq ?_
  refine At.region tab_ok ?_
  conv => whnf
  refine ⟨rfl, ?_⟩
  conv => whnf
  repeat refine At.seq ?_
  refine At.block ?_
  refine At.loopH (fun p : Nat × Value × Span => { N := Try.f113.ntmps, sl := [(2, some (.s (.c (.p 0 b2 0)))), (7, some (.s (.c (.o 6 p.2.1)))), (23, some (.s (.c (.o 5 v5)))), (24, some (.i ps.length)), (25, some (.i p.1))], gl := [], hp := [(6, .row p.2.1 58 7 (((ps.take p.1).map (withSp l)).map encL)), (5, .row v5 56 3 (ps.map encS)), (0, .box b2 58 (encL (withSp l p.2.2)))], S := [], ws := w }) (fun p : Nat × Value × Span => p.1 ≤ ps.length) (fun p : Nat × Value × Span => ps.length - p.1)
    (fun w' hw => ⟨(0, .slice none 0 0, l.s), Nat.zero_le _, Le.of rfl rfl ⟨rfl, rfl, rfl, congrArg (Value.int .i64) (by simp), rfl, trivial⟩, Holds.nilK hw [5,0] rfl rfl rfl, ⟨⟨_, _, rfl⟩, ⟨_, _, _, rfl⟩, ⟨_, _, _, rfl⟩, trivial⟩, ⟨(nopL _).okH, (nopS _).okH, trivial⟩⟩) ?_
  rintro ⟨k, vo, cur⟩ hk
  simp only at hk ⊢
  repeat refine At.seq ?_
  refine At.region tab_ok ?_
  conv => whnf
  repeat refine At.seq ?_
  refine At.cond rfl (fun hc => At.skip ?_) (fun hc => At.exit ?_)
  · have hlts : k < ps.length := by have := of_decide_eq_true hc; (try simp only [List.length_map] at this); omega
    obtain ⟨s, hs⟩ : ∃ x, ps[k]? = some x := ⟨_, List.getElem?_eq_getElem hlts⟩
    have hst : (ps.take (k + 1)).map (withSp l) = (ps.take k).map (withSp l) ++ [withSp l s] := by rw [List.take_add_one, hs]; simp
    have hlk : ((ps.take k).map (withSp l)).length = k := by simp; omega
    generalize (ps.take k).map (withSp l) = out at *
    repeat refine At.seq ?_
    refine At.block ?_
    repeat refine At.seq ?_
    refine At.region tab_ok ?_
    conv => whnf
    refine ⟨rfl, ?_⟩
    conv => whnf
    refine ⟨by omega, ?_⟩
    conv => whnf
    refine ⟨by (try simp only [List.length_map]); omega, ?_⟩
    conv => whnf
    refine ⟨encS s, ⟨rfl, rfl, by omega, by rw [Int.toNat_natCast, List.getElem?_map, hs]; rfl⟩, ?_⟩
    conv => whnf
    intro b9
    conv => whnf
    repeat refine At.seq ?_
    refine At.region tab_ok ?_
    conv => whnf
    repeat refine At.seq ?_
    refine At.region tab_ok ?_
    conv => whnf
    intro v6
    conv => whnf
    refine ⟨rfl, ?_⟩
    conv => whnf
    refine ⟨⟨rfl, by simp; omega⟩, ?_⟩
    conv => whnf
    intro v7
    conv => whnf
    repeat refine At.seq ?_
    refine At.region tab_ok ?_
    conv => whnf
    refine ⟨⟨by omega, by omega⟩, ?_⟩
    conv => whnf
    refine At.nextH fun w' hw => ⟨(k + 1, v7, s), by simp only; omega, by simp only; omega, Le.of rfl rfl ⟨rfl, rfl, rfl, rfl, rfl, trivial⟩, hw.keep [6, 5, 0] (by simp only; rw [hst, List.map_append]; rfl) rfl rfl, ⟨⟨_, _, rfl⟩, ⟨_, _, _, rfl⟩, ⟨_, _, _, rfl⟩, trivial⟩, ⟨(nopL _).okH, (nopS _).okH, trivial⟩⟩
  have hge : k = ps.length := by have := of_decide_eq_false hc; omega
  subst hge
  rw [List.take_length]
  repeat refine At.seq ?_
  refine At.region tab_ok ?_
  conv => whnf
  repeat refine At.seq ?_
  refine At.ret (At.doneB tab_ok hB _ rfl fun w' hw => ansR_row (id := 6) hw (by rw [hpL]; rfl) rfl rfl)
end Go.Proofs.Ytjilbkioieicbaa

/- Walks: what has come back. -/
namespace Go.Proofs.Ytjilbkioieicbaa
open Go.Vc Rt
set_option linter.unusedVariables false
set_option linter.unusedSimpArgs false
/-- A piece that has come back. -/
def bkB (d : Deed) (seen : List Int) (p : Lot) : Bool := decide (p.o = d.author) && !decide (p.h = p.o) && decide (p.p = -1) && hasS d.spans p.s.m p.s.f && decide (p.u < ofK seen p.h)
def bkL (d : Deed) (seen : List Int) (p : Lot) : Lot := if bkB d seen p then { p with h := p.o, u := 0 } else p
def bkPieces (d : Deed) (seen : List Int) (l : Lot) : List Lot := (pieceL l d.spans).map (bkL d seen)
def backRun (d : Deed) (seen : List Int) (L : List Lot) : List Lot := (L.flatMap (bkPieces d seen)).foldl joinL []
theorem pieceL_len (l : Lot) (spans : List Span) : (pieceL l spans).length ≤ 2 * spans.length + 1 := by unfold pieceL; rw [List.length_map]; exact piece_len l.s spans
theorem backs_len (d : Deed) (seen : List Int) : ∀ L : List Lot, (L.flatMap (bkPieces d seen)).length ≤ L.length * (2 * d.spans.length + 1)
  | [] => by simp
  | l :: L => by
    have ih := backs_len d seen L
    have : (bkPieces d seen l).length ≤ 2 * d.spans.length + 1 := by unfold bkPieces; rw [List.length_map]; exact pieceL_len l d.spans
    rw [List.flatMap_cons, List.length_append, List.length_cons, Nat.add_mul, Nat.one_mul]
    omega
theorem back_c (L : List Lot) (d : Deed) (seen : List Int) (v u z : Value) (w : World) (h : SlOf loT [] w v L) (hu : SlOf spT [] w u d.spans) (hz : SlOf intT [] w z seen) (hN : L.length ≤ 10000) (hS : d.spans.length ≤ 20) : AnsR Try.prog 82 [v, vD d u, z] [.row 58 7 ((backRun d seen L).map encL)] w := by
  have hl := h.len
  have hbl : ∀ k, k ≤ L.length → (((L.take k).flatMap (bkPieces d seen)).foldl joinL []).length ≤ k * 41 := fun k hk => by
    have h1 := joinsL_len ((L.take k).flatMap (bkPieces d seen)) []
    have h2 := backs_len d seen (L.take k)
    have h3 : (L.take k).length * (2 * d.spans.length + 1) ≤ k * 41 := Nat.mul_le_mul (by simp; omega) (by omega)
    simp only [List.length_nil] at h1
    omega
  refine calls_plainB [.x v, .s (.agg (encD d u)), .x z] Try.func82 rfl rfl (Nat.le_of_ble_eq_true rfl) rfl fun B hB => ?_
  repeat refine At.seq ?_
  refine At.region tab_ok ?_
  conv => whnf
  refine ⟨hu.sl.one, ?_⟩
  conv => whnf
  intro b4
  conv => whnf
  repeat refine At.seq ?_
  refine At.region tab_ok ?_
  conv => whnf
  repeat refine At.seq ?_
  refine At.region tab_ok ?_
  conv => whnf
  refine ⟨h.sl, ?_⟩
  conv => whnf
  repeat refine At.seq ?_
  refine At.block ?_
  refine At.loopH (fun p : Nat × Value => { N := Try.f82.ntmps, sl := [(2, some (.x z)), (4, some (.s (.c (.p 0 b4 0)))), (7, some (.s (.c (.o 1 p.2)))), (14, some (.x v)), (15, some (.i L.length)), (16, some (.i p.1))], gl := [], hp := [(1, .row p.2 58 7 ((((L.take p.1).flatMap (bkPieces d seen)).foldl joinL []).map encL)), (0, .box b4 54 (encD d u))], S := [], ws := w }) (fun p : Nat × Value => p.1 ≤ L.length) (fun p : Nat × Value => L.length - p.1)
    (fun w' hw => ⟨(0, .slice none 0 0), Nat.zero_le _, Le.of rfl rfl ⟨rfl, rfl, rfl, rfl, congrArg (Value.int .i64) (by rw [hl]), rfl, trivial⟩, hw.nil rfl rfl rfl, ⟨⟨_, _, rfl⟩, ⟨_, _, _, rfl⟩, trivial⟩, ⟨(nopL _).okH, trivial⟩⟩) ?_
  rintro ⟨k, vo⟩ hk
  simp only at hk ⊢
  repeat refine At.seq ?_
  refine At.region tab_ok ?_
  conv => whnf
  repeat refine At.seq ?_
  refine At.cond rfl (fun hc => At.skip ?_) (fun hc => At.exit ?_)
  · have hlt : k < L.length := by have := of_decide_eq_true hc; omega
    obtain ⟨l, hl_1⟩ : ∃ x, L[k]? = some x := ⟨_, List.getElem?_eq_getElem hlt⟩
    have hst : ((L.take (k + 1)).flatMap (bkPieces d seen)).foldl joinL [] = ((pieceL l d.spans).map (bkL d seen)).foldl joinL (((L.take k).flatMap (bkPieces d seen)).foldl joinL []) := by
      rw [List.take_add_one, hl_1, List.flatMap_append, List.foldl_append]; simp [bkPieces]
    have hb1 := hbl k hk
    generalize ((L.take k).flatMap (bkPieces d seen)).foldl joinL [] = out0 at *
    have hpl := pieceL_len l d.spans
    repeat refine At.seq ?_
    refine At.block ?_
    repeat refine At.seq ?_
    refine At.region tab_ok ?_
    conv => whnf
    refine ⟨by omega, ?_⟩
    conv => whnf
    refine ⟨by omega, ?_⟩
    conv => whnf
    refine ⟨encL l, fun w' hw => h.load (n := 7) hw.fr hl_1 rfl, ?_⟩
    conv => whnf
    intro b9
    conv => whnf
    repeat refine At.seq ?_
    refine At.region tab_ok ?_
    conv => whnf
    refine ansR_call b113 (rd1 (nopL _)) (fun w' hw => pieces_c l d.spans [] u w' (hu.fr hw.fr) (by omega)) ?_
    intro v1
    conv => whnf
    generalize pieceL l d.spans = ps at *
    refine ⟨rfl, ?_⟩
    conv => whnf
    repeat refine At.seq ?_
    refine At.block ?_
    refine At.loopH (fun p : Nat × Value => { N := Try.f82.ntmps, sl := [(2, some (.x z)), (4, some (.s (.c (.p 0 b4 0)))), (7, some (.s (.c (.o 1 p.2)))), (14, some (.x v)), (15, some (.i L.length)), (16, some (.i k)), (23, some (.s (.c (.o 3 v1)))), (24, some (.i ps.length)), (25, some (.i p.1))], gl := [], hp := [(3, .row v1 58 7 (ps.map encL)), (1, .row p.2 58 7 ((((ps.take p.1).map (bkL d seen)).foldl joinL out0).map encL)), (0, .box b4 54 (encD d u))], S := [], ws := w }) (fun p : Nat × Value => p.1 ≤ ps.length) (fun p : Nat × Value => ps.length - p.1)
      (fun w' hw => ⟨(0, vo), Nat.zero_le _, Le.of rfl rfl ⟨rfl, rfl, rfl, rfl, rfl, rfl, rfl, congrArg (Value.int .i64) (by simp), rfl, trivial⟩, hw.keep [3, 1, 0] rfl rfl rfl, ⟨⟨_, _, rfl⟩, ⟨_, _, _, rfl⟩, ⟨_, _, _, rfl⟩, trivial⟩, ⟨(nopL _).okH, (nopL _).okH, trivial⟩⟩) ?_
    rintro ⟨j, vi⟩ hj
    simp only at hj ⊢
    repeat refine At.seq ?_
    refine At.region tab_ok ?_
    conv => whnf
    repeat refine At.seq ?_
    refine At.cond rfl (fun hc => At.skip ?_) (fun hc => At.exit ?_)
    · have hlt : j < ps.length := by have := of_decide_eq_true hc; (try simp only [List.length_map] at this); omega
      obtain ⟨x, hx⟩ : ∃ x, ps[j]? = some x := ⟨_, List.getElem?_eq_getElem hlt⟩
      have hol := joinsL_len ((ps.take j).map (bkL d seen)) out0
      have hnx : ((ps.take (j + 1)).map (bkL d seen)).foldl joinL out0 = joinL (((ps.take j).map (bkL d seen)).foldl joinL out0) (bkL d seen x) := by rw [List.take_add_one, hx, List.map_append, List.foldl_append]; rfl
      generalize ((ps.take j).map (bkL d seen)).foldl joinL out0 = out at *
      simp only [List.length_map, List.length_take] at hol
      obtain ⟨r, hr⟩ := lastL out
      have hml : (out.map encL).length = out.length := by simp
      have hr' : ∀ {q : Int}, q = out.length - 1 → 0 ≤ q → (out.map encL)[q.toNat]? = some (encL r) := fun {q} e h0 => by
        rw [List.getElem?_map, show q.toNat = out.length - 1 by omega, hr (by omega)]; rfl
      repeat refine At.seq ?_
      refine At.block ?_
      repeat refine At.seq ?_
      refine At.region tab_ok ?_
      conv => whnf
      refine ⟨rfl, ?_⟩
      conv => whnf
      refine ⟨by omega, ?_⟩
      conv => whnf
      refine ⟨by (try simp only [List.length_map]); omega, ?_⟩
      conv => whnf
      refine ⟨encL x, ⟨rfl, rfl, by omega, by rw [Int.toNat_natCast, List.getElem?_map, hx]; rfl⟩, ?_⟩
      conv => whnf
      intro b11
      conv => whnf
      repeat refine At.seq ?_
      refine At.region tab_ok ?_
      conv => whnf
      repeat refine At.seq ?_
      refine At.draw tab_ok mixed (by kernel_rfl) ?_
      conv => whnf
      refine ⟨.b (hasS d.spans x.s.m x.s.f), by simp only [gimp]; intro _; exact ans_quiet b114 (fun w' hw => has_c d.spans x.s.m x.s.f [] u w' (hu.fr hw.fr)), ?_⟩
      conv => whnf
      refine ⟨.i (ofK seen x.h), by simp only [gimp]; intro _; exact ans_quiet b79 (fun w' hw => of_c seen x.h [] z w' (hz.fr hw.fr)), ?_⟩
      conv => whnf
      repeat refine At.seq ?_
      refine At.join (fun q : Unit => { N := Try.f82.ntmps, sl := [(2, some (.x z)), (4, some (.s (.c (.p 0 b4 0)))), (7, some (.s (.c (.o 1 vi)))), (11, some (.s (.c (.p 4 b11 0)))), (14, some (.x v)), (15, some (.i L.length)), (16, some (.i k)), (23, some (.s (.c (.o 3 v1)))), (24, some (.i ps.length)), (25, some (.i j))], gl := [], hp := [(4, .box b11 58 (encL (bkL d seen x))), (3, .row v1 58 7 (ps.map encL)), (1, .row vi 58 7 (out.map encL)), (0, .box b4 54 (encD d u))], S := [], ws := w }) (fun q : Unit => True) ?_ ?_
      · repeat refine At.seq ?_
        refine At.cond rfl (fun hq => ?_) (fun hq => ?_)
        · have hb : bkB d seen x = true := by
            simp only [band] at hq
            unfold bkB; exact hq
          repeat refine At.seq ?_
          refine At.region tab_ok ?_
          conv => whnf
          refine At.meet fun w' hw => ⟨(), trivial, Le.of rfl rfl ⟨rfl, rfl, rfl, rfl, rfl, rfl, rfl, rfl, rfl, rfl, trivial⟩, hw.keep [4, 3, 1, 0] (by unfold bkL; rw [if_pos hb]; rfl) rfl rfl, ⟨⟨_, _, rfl⟩, ⟨_, _, _, rfl⟩, ⟨_, _, rfl⟩, ⟨_, _, _, rfl⟩, trivial⟩, ⟨(nopL _).okH, (nopL _).okH, trivial⟩⟩
        · have hb : bkB d seen x = false := by
            simp only [band] at hq
            unfold bkB; exact hq
          refine At.skip ?_
          refine At.meet fun w' hw => ⟨(), trivial, Le.of rfl rfl ⟨rfl, rfl, rfl, rfl, rfl, rfl, rfl, rfl, rfl, rfl, trivial⟩, hw.keep [4, 3, 1, 0] (by unfold bkL; rw [if_neg (by rw [hb]; simp)]; rfl) rfl rfl, ⟨⟨_, _, rfl⟩, ⟨_, _, _, rfl⟩, ⟨_, _, rfl⟩, ⟨_, _, _, rfl⟩, trivial⟩, ⟨(nopL _).okH, (nopL _).okH, trivial⟩⟩
      intro _ _
      generalize bkL d seen x = y at *
      repeat refine At.seq ?_
      refine At.region tab_ok ?_
      conv => whnf
      refine ⟨rfl, ?_⟩
      conv => whnf
      repeat refine At.seq ?_
      refine At.draw tab_ok mixed (by kernel_rfl) ?_
      conv => whnf
      refine ⟨by simp only [gimp]; intros; rw [hml]; exact ⟨by omega, by omega⟩, ?_⟩
      conv => whnf
      refine ⟨by simp only [gimp]; intros; trivial, ?_⟩
      conv => whnf
      refine ⟨by simp only [gimp]; intro h1; have h1 := of_decide_eq_true h1; omega, ?_⟩
      conv => whnf
      refine ⟨by simp only [gimp]; intros; omega, ?_⟩
      conv => whnf
      refine ⟨encL r, by simp only [gimp]; intro h1; have h1 := of_decide_eq_true h1; exact ⟨trivial, trivial, by omega, hr' (by rw [hml]) (by omega)⟩, ?_⟩
      conv => whnf
      refine ⟨.b (alike r y), by simp only [gimp]; intro _; exact ans_quiet b115 (fun w' hw => alike_c r y w'), ?_⟩
      conv => whnf
      repeat refine At.seq ?_
      refine At.cond rfl (fun hq => ?_) (fun hq => ?_)
      · simp only [band, Bool.and_eq_true, decide_eq_true_eq] at hq
        have h0 : 0 < out.length := by rw [hml] at hq; omega
        have hjs := joinL_set h0 (hr h0) hq.2
        have hidx : (((out.map encL).length : Int) - 1).toNat = out.length - 1 := by rw [hml]; omega
        repeat refine At.seq ?_
        refine At.region tab_ok ?_
        conv => whnf
        refine ⟨by rw [hml]; exact ⟨by omega, by omega⟩, ?_⟩
        conv => whnf
        refine ⟨rfl, ?_⟩
        conv => whnf
        refine ⟨by omega, ?_⟩
        conv => whnf
        refine ⟨by omega, ?_⟩
        conv => whnf
        refine ⟨encL r, ⟨rfl, rfl, by omega, hr' (by rw [hml]) (by omega)⟩, ?_⟩
        conv => whnf
        refine At.exit ?_
        repeat refine At.seq ?_
        refine At.region tab_ok ?_
        conv => whnf
        refine ⟨⟨by omega, by omega⟩, ?_⟩
        conv => whnf
        refine At.nextH fun w' hw => ⟨(j + 1, vi), by simp only; omega, by simp only; omega, Le.of rfl rfl ⟨rfl, rfl, rfl, rfl, rfl, rfl, rfl, rfl, rfl, trivial⟩, hw.keep [3, 1, 0] (by rw [hnx, hjs, List.map_set, ← hidx]; rfl) rfl rfl, ⟨⟨_, _, rfl⟩, ⟨_, _, _, rfl⟩, ⟨_, _, _, rfl⟩, trivial⟩, ⟨(nopL _).okH, (nopL _).okH, trivial⟩⟩
      · have hja : joinL out y = out ++ [y] := joinL_app hr fun h0 => by
          simp only [band, Bool.and_eq_false_iff, decide_eq_false_iff_not] at hq
          rcases hq with hq | hq
          · rw [hml] at hq; omega
          · exact hq
        refine At.skip ?_
        repeat refine At.seq ?_
        refine At.region tab_ok ?_
        conv => whnf
        intro v2
        conv => whnf
        refine ⟨rfl, ?_⟩
        conv => whnf
        refine ⟨⟨rfl, by simp; omega⟩, ?_⟩
        conv => whnf
        intro v3
        conv => whnf
        repeat refine At.seq ?_
        refine At.region tab_ok ?_
        conv => whnf
        refine ⟨⟨by omega, by omega⟩, ?_⟩
        conv => whnf
        refine At.nextH fun w' hw => ⟨(j + 1, v3), by simp only; omega, by simp only; omega, Le.of rfl rfl ⟨rfl, rfl, rfl, rfl, rfl, rfl, rfl, rfl, rfl, trivial⟩, hw.keep [3, 1, 0] (by rw [hnx, hja, List.map_append]; rfl) rfl rfl, ⟨⟨_, _, rfl⟩, ⟨_, _, _, rfl⟩, ⟨_, _, _, rfl⟩, trivial⟩, ⟨(nopL _).okH, (nopL _).okH, trivial⟩⟩
    have hge : j = ps.length := by have := of_decide_eq_false hc; omega
    subst hge
    rw [List.take_length] at *
    repeat refine At.seq ?_
    refine At.region tab_ok ?_
    conv => whnf
    refine ⟨⟨by omega, by omega⟩, ?_⟩
    conv => whnf
    refine At.nextH fun w' hw => ⟨(k + 1, vi), by simp only; omega, by simp only; omega, Le.of rfl rfl ⟨rfl, rfl, rfl, rfl, rfl, rfl, trivial⟩, hw.keep [1, 0] (by rw [hst]; rfl) rfl rfl, ⟨⟨_, _, rfl⟩, ⟨_, _, _, rfl⟩, trivial⟩, ⟨(nopL _).okH, trivial⟩⟩
  have hge : k = L.length := by have := of_decide_eq_false hc; omega
  subst hge
  rw [List.take_length]
  repeat refine At.seq ?_
  refine At.region tab_ok ?_
  conv => whnf
  repeat refine At.seq ?_
  refine At.ret (At.doneB tab_ok hB _ rfl fun w' hw => ansR_row (id := 1) hw rfl rfl rfl)
end Go.Proofs.Ytjilbkioieicbaa

/- Walks: rights.Do, lease.Do. -/
namespace Go.Proofs.Ytjilbkioieicbaa
open Go.Vc Rt
set_option linter.unusedVariables false
set_option linter.unusedSimpArgs false
theorem cloneL_c (xs : List Lot) (S : List Nat) (v : Value) (w : World) (h : SlOf loT S w v xs) (hB : xs.length ≤ 1000000) : AnsR Try.prog 73 [v] [.row 58 7 (xs.map encL)] w := by
  replace h := h.avoid (S' := []) (fun b hb => by cases hb)
  refine calls_plainB [.x v] Try.func73 rfl rfl (Nat.le_of_ble_eq_true rfl) rfl fun B hB => ?_
  repeat refine At.seq ?_
  refine At.region tab_ok ?_
  conv => whnf
  repeat refine At.seq ?_
  refine At.region tab_ok ?_
  conv => whnf
  refine ⟨h.sl, ?_⟩
  conv => whnf
  repeat refine At.seq ?_
  refine At.cond rfl (fun hq => ?_) (fun hq => ?_)
  · have hx : xs = [] := by
      obtain ⟨a, n, c, rfl, hnil, _⟩ := h.sl
      have hl := h.len
      cases a with
      | none => simp [slen] at hl; exact List.eq_nil_of_length_eq_zero (by omega)
      | some a => simp [isNilS] at hq
    subst hx
    repeat refine At.seq ?_
    refine At.region tab_ok ?_
    conv => whnf
    repeat refine At.seq ?_
    refine At.ret (At.doneB tab_ok hB _ rfl fun w' hw => ansR_nil hw rfl rfl)
  · refine At.skip ?_
    repeat refine At.seq ?_
    refine At.region tab_ok ?_
    conv => whnf
    intro v1
    conv => whnf
    refine ⟨xs.map encL, ⟨fun w' hw => (h.fr hw.fr).src encL_ints, nopL xs⟩, ?_⟩
    conv => whnf
    refine ⟨⟨rfl, by simp; omega⟩, ?_⟩
    conv => whnf
    intro v2
    conv => whnf
    repeat refine At.seq ?_
    refine At.ret (At.doneB tab_ok hB _ rfl fun w' hw => ansR_row (id := 0) hw rfl rfl rfl)
theorem ansR_rowP {st : St} {w w' : World} {i : Nat} {v : Value} {E size : Nat} {L : List (List CV)} {n : Int} (hw : Holds st w') (hl : Vc.look st.hp i = some (.row v E size L)) (hS : st.S = []) (hws : st.ws = w) :
    ∃ vs, Ending.returned (RV.tup [.c (.o i v), .c (.i n)]).den = .returned (toRV (resSV [.row E size L, .p (.c (.i n))] vs)).den ∧ resOk w.heap.size w' [.row E size L, .p (.c (.i n))] vs ∧ Ext w w' := by
  subst hws
  refine ⟨[v], rfl, ⟨hw.row hl, fun b hb => ?_, fun u hu => (by cases hu), rfl⟩, by have := hw.fr; rw [hS] at this; exact this⟩
  rcases hw.fresh hl b hb with h | h
  · rw [hS] at h; cases h
  · exact h
theorem rdP {E size : Nat} {L : List (List CV)} {n : Int} (h : NoP L) : rdOk [.row E size L, .p (.c (.i n))] := ⟨h, rfl, trivial⟩
theorem rdo_c (L : List Lot) (d : Deed) (v u : Value) (w : World) (h : SlOf loT [] w v L) (hu : SlOf spT [] w u d.spans) (hN : L.length ≤ 1000000) (ho : DoOk L d) : AnsR Try.prog 33 [v, vD d u] [.row 58 7 ((doB L d).1.map encL), .p (.c (.i (doB L d).2))] w := by
  refine calls_plainB [.x v, .s (.agg (encD d u))] Try.func33 rfl rfl (Nat.le_of_ble_eq_true rfl) rfl fun B hB => ?_
  repeat refine At.seq ?_
  refine At.region tab_ok ?_
  conv => whnf
  refine ⟨hu.sl.one, ?_⟩
  conv => whnf
  intro b3
  conv => whnf
  repeat refine At.seq ?_
  refine At.region tab_ok ?_
  conv => whnf
  refine ansR_call b73 (rd1 (nopL _)) (fun w' hw => cloneL_c L [] v w' (h.fr hw.fr) hN) ?_
  intro v1
  conv => whnf
  intro b6
  conv => whnf
  repeat refine At.seq ?_
  refine At.region tab_ok ?_
  conv => whnf
  refine bk_call (i0 := 2) (i1 := 1) (L := L) (L' := (doB L d).1) (r := .i (doB L d).2) b66 rfl rfl (by decide) rfl (fun w' hw hb => do_c L d b6 v1 u w' hb ((hw.lift hu).avoid fun c hc => .inl ?_) ho) ?_
  · simp only [St.blks, List.flatMap_cons, List.flatMap_nil, LO.blks, List.mem_append, List.mem_singleton]
    rcases List.mem_cons.1 hc with rfl | hc
    · simp
    · simp [hc]
  rintro v2 hsl2
  conv => whnf
  repeat refine At.seq ?_
  refine At.region tab_ok ?_
  conv => whnf
  repeat refine At.seq ?_
  refine At.ret (At.doneB tab_ok hB _ rfl fun w' hw => ansR_rowP (i := 1) hw rfl rfl rfl)
/-- A lot of which coins of a deed are held too late. -/
def lateA (d : Deed) (l : Lot) : Bool := decide (l.h = d.author) && !decide (l.o = d.author) && decide (l.u < d.day)
def lateB (d : Deed) (l : Lot) : Bool := lateA d l && decide (0 < (common [l.s] d.spans).length)
def freeL (d : Deed) (seen : List Int) (L : List Lot) : List Lot := if d.kind = 0 then L else backRun d seen L
def leaseDo (d : Deed) (seen : List Int) (L : List Lot) : List Lot × Int :=
  if (doB (freeL d seen L) d).2 = 0 then (if d.kind ≠ 0 ∧ L.any (lateB d) = true then (L, 25) else ((doB (freeL d seen L) d).1, 0)) else (L, (doB (freeL d seen L) d).2)
theorem leaseDo20_c (L : List Lot) (d : Deed) (seen : List Int) (v u z : Value) (w : World) (h : SlOf loT [] w v L) (hu : SlOf spT [] w u d.spans) (hz : SlOf intT [] w z seen) (hN : L.length ≤ 10000) (hS : d.spans.length ≤ 20) (hF : (freeL d seen L).length ≤ 100000) (ho : DoOk (freeL d seen L) d) :
    AnsR Try.prog 48 [v, vD d u, z] [.row 58 7 ((leaseDo d seen L).1.map encL), .p (.c (.i (leaseDo d seen L).2))] w := by
  have hl := h.len
  refine calls_plainB [.x v, .s (.agg (encD d u)), .x z] Try.func48 rfl rfl (Nat.le_of_ble_eq_true rfl) rfl fun B hB => ?_
  repeat refine At.seq ?_
  refine At.region tab_ok ?_
  conv => whnf
  refine ⟨hu.sl.one, ?_⟩
  conv => whnf
  intro b4
  conv => whnf
  repeat refine At.seq ?_
  refine At.region tab_ok ?_
  conv => whnf
  refine ansR_call b73 (rd1 (nopL _)) (fun w' hw => cloneL_c L [] v w' (h.fr hw.fr) (by omega)) ?_
  intro v1
  conv => whnf
  repeat refine At.seq ?_
  refine At.region tab_ok ?_
  conv => whnf
  repeat refine At.seq ?_
  refine At.region tab_ok ?_
  conv => whnf
  repeat refine At.seq ?_
  refine At.cond rfl (fun hq => ?_) (fun hq => ?_)
  · have hk : ¬ d.kind = 0 := by simpa using hq
    have hfr : freeL d seen L = backRun d seen L := by unfold freeL; rw [if_neg hk]
    rw [hfr] at ho hF
    have hdo : leaseDo d seen L = if (doB (backRun d seen L) d).2 = 0 then (if L.any (lateB d) = true then (L, 25) else ((doB (backRun d seen L) d).1, 0)) else (L, (doB (backRun d seen L) d).2) := by
      unfold leaseDo; rw [hfr]; simp [hk]
    rw [hdo] at hB
    repeat refine At.seq ?_
    refine At.region tab_ok ?_
    conv => whnf
    refine ansR_call b82 (rd1 (nopL _)) (fun w' hw => back_c L d seen v u z w' (h.fr hw.fr) (hu.fr hw.fr) (hz.fr hw.fr) hN hS) ?_
    intro v2
    conv => whnf
    generalize backRun d seen L = F at *
    repeat refine At.seq ?_
    refine At.region tab_ok ?_
    conv => whnf
    refine ansR_call b33 (rdP (nopL _)) (fun w' hw => rdo_c F d v2 u w' (slL F (hw.row (id := 2) rfl) (by omega)) (hu.fr hw.fr) (by omega) ho) ?_
    intro v3
    conv => whnf
    generalize doB F d = D at *
    obtain ⟨Q, er⟩ := D
    simp only at hdo hB ⊢
    repeat refine At.seq ?_
    refine At.region tab_ok ?_
    conv => whnf
    repeat refine At.seq ?_
    refine At.cond rfl (fun hq => ?_) (fun hq => ?_)
    · have her : ¬ er = 0 := by simpa using hq
      rw [if_neg her] at hB
      repeat refine At.seq ?_
      refine At.region tab_ok ?_
      conv => whnf
      repeat refine At.seq ?_
      refine At.ret (At.doneB tab_ok hB _ rfl fun w' hw => ansR_rowP (i := 1) hw rfl rfl rfl)
    · have her : er = 0 := by simpa using hq
      subst her
      refine At.skip ?_
      repeat refine At.seq ?_
      refine At.region tab_ok ?_
      conv => whnf
      refine ⟨h.sl, ?_⟩
      conv => whnf
      repeat refine At.seq ?_
      refine At.block ?_
      refine At.loopH (fun k : Nat => { N := Try.f48.ntmps, sl := [(4, some (.s (.c (.p 0 b4 0)))), (8, some (.s (.c (.o 1 v1)))), (10, some (.s (.c (.o 3 v3)))), (35, some (.x v)), (36, some (.i L.length)), (37, some (.i k))], gl := [], hp := [(3, .row v3 58 7 (Q.map encL)), (1, .row v1 58 7 (L.map encL)), (0, .box b4 54 (encD d u))], S := [], ws := w }) (fun k : Nat => k ≤ L.length ∧ ∀ j y, j < k → L[j]? = some y → lateB d y = false) (fun k : Nat => L.length - k)
        (fun w' hw => ⟨0, ⟨Nat.zero_le _, fun j y hj => by omega⟩, Le.of rfl rfl ⟨rfl, rfl, rfl, rfl, congrArg (Value.int .i64) (by rw [hl]), rfl, trivial⟩, hw.keep [3, 1, 0] rfl rfl rfl, ⟨⟨_, _, rfl⟩, ⟨_, _, _, rfl⟩, ⟨_, _, _, rfl⟩, trivial⟩, ⟨(nopL _).okH, (nopL _).okH, trivial⟩⟩) ?_
      intro k ⟨hk', hall⟩
      repeat refine At.seq ?_
      refine At.region tab_ok ?_
      conv => whnf
      repeat refine At.seq ?_
      refine At.cond rfl (fun hc => At.skip ?_) (fun hc => At.exit ?_)
      · have hlt : k < L.length := by have := of_decide_eq_true hc; (try simp only [List.length_map] at this); omega
        obtain ⟨x, hx⟩ : ∃ x, L[k]? = some x := ⟨_, List.getElem?_eq_getElem hlt⟩
        repeat refine At.seq ?_
        refine At.block ?_
        repeat refine At.seq ?_
        refine At.region tab_ok ?_
        conv => whnf
        refine ⟨by omega, ?_⟩
        conv => whnf
        refine ⟨by omega, ?_⟩
        conv => whnf
        refine ⟨encL x, fun w' hw => h.load (n := 7) hw.fr hx rfl, ?_⟩
        conv => whnf
        intro b13
        conv => whnf
        repeat refine At.seq ?_
        refine At.join (fun q : Unit => { N := Try.f48.ntmps, sl := [(4, some (.s (.c (.p 0 b4 0)))), (8, some (.s (.c (.o 1 v1)))), (10, some (.s (.c (.o 3 v3)))), (13, some (.s (.c (.p 4 b13 0)))), (14, some (.b (lateA d x))), (35, some (.x v)), (36, some (.i L.length)), (37, some (.i k))], gl := [], hp := [(4, .box b13 58 (encL x)), (3, .row v3 58 7 (Q.map encL)), (1, .row v1 58 7 (L.map encL)), (0, .box b4 54 (encD d u))], S := [], ws := w }) (fun q : Unit => True) ?_ ?_
        · repeat refine At.seq ?_
          refine At.region tab_ok ?_
          conv => whnf
          refine At.meet fun w' hw => ⟨(), trivial, Le.of rfl rfl ⟨rfl, rfl, rfl, rfl, congrArg Value.bool (by simp only [band]; unfold lateA; rfl), rfl, rfl, rfl, trivial⟩, hw.keep [4, 3, 1, 0] rfl rfl rfl, ⟨⟨_, _, rfl⟩, ⟨_, _, _, rfl⟩, ⟨_, _, _, rfl⟩, ⟨_, _, rfl⟩, trivial⟩, ⟨(nopL _).okH, (nopL _).okH, trivial⟩⟩
        intro _ _
        have hkd : decide (d.kind = 0) = false := decide_eq_false hk
        repeat refine At.seq ?_
        refine At.join (fun q : Unit => { N := Try.f48.ntmps, sl := [(4, some (.s (.c (.p 0 b4 0)))), (8, some (.s (.c (.o 1 v1)))), (10, some (.s (.c (.o 3 v3)))), (35, some (.x v)), (36, some (.i L.length)), (37, some (.i k)), (75, some (.b (lateB d x)))], gl := [], hp := [(3, .row v3 58 7 (Q.map encL)), (1, .row v1 58 7 (L.map encL)), (0, .box b4 54 (encD d u))], S := [], ws := w }) (fun q : Unit => True) ?_ ?_
        · unfold lateB
          repeat refine At.seq ?_
          refine At.regionG tab_ok ?_
          conv => whnf
          cases hA : lateA d x
          · conv => whnf
            refine At.meet fun w' hw => ⟨(), trivial, Le.of rfl rfl ⟨rfl, rfl, rfl, rfl, rfl, rfl, rfl, trivial⟩, hw.keep [3, 1, 0] rfl rfl rfl, ⟨⟨_, _, rfl⟩, ⟨_, _, _, rfl⟩, ⟨_, _, _, rfl⟩, trivial⟩, ⟨(nopL _).okH, (nopL _).okH, trivial⟩⟩
          · conv => whnf
            rw [hkd]
            conv => whnf
            intro r0
            conv => whnf
            refine ansR_call b41 (rd1 (nopS _)) (fun w' hw => common_c [x.s] d.spans [] [] r0 u w' (slS [x.s] (hw.row (id := 5) rfl) (by simp)) (hu.fr hw.fr) (by simp) (by omega)) ?_
            intro r1
            conv => whnf
            refine ⟨rfl, ?_⟩
            conv => whnf
            refine At.meet fun w' hw => ⟨(), trivial, Le.of rfl rfl ⟨rfl, rfl, rfl, rfl, rfl, rfl, congrArg Value.bool (by simp), trivial⟩, hw.keep [3, 1, 0] rfl rfl rfl, ⟨⟨_, _, rfl⟩, ⟨_, _, _, rfl⟩, ⟨_, _, _, rfl⟩, trivial⟩, ⟨(nopL _).okH, (nopL _).okH, trivial⟩⟩
        intro _ _
        repeat refine At.seq ?_
        refine At.cond rfl (fun hq => ?_) (fun hq => ?_)
        · repeat refine At.seq ?_
          refine At.region tab_ok ?_
          conv => whnf
          have hany : L.any (lateB d) = true := List.any_eq_true.2 ⟨x, List.mem_of_getElem? hx, hq⟩
          rw [if_pos rfl, if_pos hany] at hB
          repeat refine At.seq ?_
          refine At.ret (At.doneB tab_ok hB _ rfl fun w' hw => ansR_rowP (i := 1) hw rfl rfl rfl)
        · refine At.skip ?_
          repeat refine At.seq ?_
          refine At.region tab_ok ?_
          conv => whnf
          refine ⟨⟨by omega, by omega⟩, ?_⟩
          conv => whnf
          refine At.nextH fun w' hw => ⟨k + 1, ⟨by omega, fun j y hj hy => by rcases Nat.lt_or_ge j k with hj' | hj'; exact hall j y hj' hy; obtain rfl : j = k := (by omega); rw [hx] at hy; cases hy; exact hq⟩, by omega, Le.of rfl rfl ⟨rfl, rfl, rfl, rfl, rfl, rfl, trivial⟩, hw.keep [3, 1, 0] rfl rfl rfl, ⟨⟨_, _, rfl⟩, ⟨_, _, _, rfl⟩, ⟨_, _, _, rfl⟩, trivial⟩, ⟨(nopL _).okH, (nopL _).okH, trivial⟩⟩
      · have hge : k = L.length := by have := of_decide_eq_false hc; omega
        have hany : ¬ L.any (lateB d) = true := fun hc => by
          obtain ⟨y, hy, hb⟩ := List.any_eq_true.1 hc
          obtain ⟨j, hj⟩ := List.getElem?_of_mem hy
          have := hall j y (by have := (List.getElem?_eq_some_iff.1 hj).1; omega) hj
          rw [this] at hb; cases hb
        rw [if_pos rfl, if_neg hany] at hB
        repeat refine At.seq ?_
        refine At.region tab_ok ?_
        conv => whnf
        repeat refine At.seq ?_
        refine At.ret (At.doneB tab_ok hB _ rfl fun w' hw => ansR_rowP (i := 3) hw rfl rfl rfl)
  · have hk : d.kind = 0 := by simpa using hq
    have hfr : freeL d seen L = L := by unfold freeL; rw [if_pos hk]
    rw [hfr] at ho hF
    have hdo : leaseDo d seen L = if (doB L d).2 = 0 then ((doB L d).1, 0) else (L, (doB L d).2) := by
      unfold leaseDo; rw [hfr]; simp [hk]
    rw [hdo] at hB
    refine At.skip ?_
    repeat refine At.seq ?_
    refine At.region tab_ok ?_
    conv => whnf
    refine ansR_call b33 (rdP (nopL _)) (fun w' hw => rdo_c L d v1 u w' (slL L (hw.row (id := 1) rfl) (by omega)) (hu.fr hw.fr) (by omega) ho) ?_
    intro v3
    conv => whnf
    generalize doB L d = D at *
    obtain ⟨Q, er⟩ := D
    simp only at hdo hB ⊢
    repeat refine At.seq ?_
    refine At.region tab_ok ?_
    conv => whnf
    repeat refine At.seq ?_
    refine At.cond rfl (fun hq => ?_) (fun hq => ?_)
    · have her : ¬ er = 0 := by simpa using hq
      rw [if_neg her] at hB
      repeat refine At.seq ?_
      refine At.region tab_ok ?_
      conv => whnf
      repeat refine At.seq ?_
      refine At.ret (At.doneB tab_ok hB _ rfl fun w' hw => ansR_rowP (i := 1) hw rfl rfl rfl)
    · have her : er = 0 := by simpa using hq
      subst her
      refine At.skip ?_
      repeat refine At.seq ?_
      refine At.region tab_ok ?_
      conv => whnf
      refine ⟨h.sl, ?_⟩
      conv => whnf
      repeat refine At.seq ?_
      refine At.block ?_
      refine At.loopH (fun k : Nat => { N := Try.f48.ntmps, sl := [(4, some (.s (.c (.p 0 b4 0)))), (8, some (.s (.c (.o 1 v1)))), (10, some (.s (.c (.o 2 v3)))), (35, some (.x v)), (36, some (.i L.length)), (37, some (.i k))], gl := [], hp := [(2, .row v3 58 7 (Q.map encL)), (1, .row v1 58 7 (L.map encL)), (0, .box b4 54 (encD d u))], S := [], ws := w }) (fun k : Nat => k ≤ L.length) (fun k : Nat => L.length - k)
        (fun w' hw => ⟨0, Nat.zero_le _, Le.of rfl rfl ⟨rfl, rfl, rfl, rfl, congrArg (Value.int .i64) (by rw [hl]), rfl, trivial⟩, hw.keep [2, 1, 0] rfl rfl rfl, ⟨⟨_, _, rfl⟩, ⟨_, _, _, rfl⟩, ⟨_, _, _, rfl⟩, trivial⟩, ⟨(nopL _).okH, (nopL _).okH, trivial⟩⟩) ?_
      intro k hk'
      repeat refine At.seq ?_
      refine At.region tab_ok ?_
      conv => whnf
      repeat refine At.seq ?_
      refine At.cond rfl (fun hc => At.skip ?_) (fun hc => At.exit ?_)
      · have hlt : k < L.length := by have := of_decide_eq_true hc; (try simp only [List.length_map] at this); omega
        obtain ⟨x, hx⟩ : ∃ x, L[k]? = some x := ⟨_, List.getElem?_eq_getElem hlt⟩
        repeat refine At.seq ?_
        refine At.block ?_
        repeat refine At.seq ?_
        refine At.region tab_ok ?_
        conv => whnf
        refine ⟨by omega, ?_⟩
        conv => whnf
        refine ⟨by omega, ?_⟩
        conv => whnf
        refine ⟨encL x, fun w' hw => h.load (n := 7) hw.fr hx rfl, ?_⟩
        conv => whnf
        intro b13
        conv => whnf
        repeat refine At.seq ?_
        refine At.join (fun q : Unit => { N := Try.f48.ntmps, sl := [(4, some (.s (.c (.p 0 b4 0)))), (8, some (.s (.c (.o 1 v1)))), (10, some (.s (.c (.o 2 v3)))), (13, some (.s (.c (.p 3 b13 0)))), (14, some (.b (lateA d x))), (35, some (.x v)), (36, some (.i L.length)), (37, some (.i k))], gl := [], hp := [(3, .box b13 58 (encL x)), (2, .row v3 58 7 (Q.map encL)), (1, .row v1 58 7 (L.map encL)), (0, .box b4 54 (encD d u))], S := [], ws := w }) (fun q : Unit => True) ?_ ?_
        · repeat refine At.seq ?_
          refine At.region tab_ok ?_
          conv => whnf
          refine At.meet fun w' hw => ⟨(), trivial, Le.of rfl rfl ⟨rfl, rfl, rfl, rfl, congrArg Value.bool (by simp only [band]; unfold lateA; rfl), rfl, rfl, rfl, trivial⟩, hw.keep [3, 2, 1, 0] rfl rfl rfl, ⟨⟨_, _, rfl⟩, ⟨_, _, _, rfl⟩, ⟨_, _, _, rfl⟩, ⟨_, _, rfl⟩, trivial⟩, ⟨(nopL _).okH, (nopL _).okH, trivial⟩⟩
        intro _ _
        have hkd : decide (d.kind = 0) = true := decide_eq_true hk
        repeat refine At.seq ?_
        refine At.join (fun q : Unit => { N := Try.f48.ntmps, sl := [(4, some (.s (.c (.p 0 b4 0)))), (8, some (.s (.c (.o 1 v1)))), (10, some (.s (.c (.o 2 v3)))), (35, some (.x v)), (36, some (.i L.length)), (37, some (.i k)), (75, some (.b false))], gl := [], hp := [(2, .row v3 58 7 (Q.map encL)), (1, .row v1 58 7 (L.map encL)), (0, .box b4 54 (encD d u))], S := [], ws := w }) (fun q : Unit => True) ?_ ?_
        · repeat refine At.seq ?_
          refine At.regionG tab_ok ?_
          conv => whnf
          cases hA : lateA d x
          · conv => whnf
            refine At.meet fun w' hw => ⟨(), trivial, Le.of rfl rfl ⟨rfl, rfl, rfl, rfl, rfl, rfl, rfl, trivial⟩, hw.keep [2, 1, 0] rfl rfl rfl, ⟨⟨_, _, rfl⟩, ⟨_, _, _, rfl⟩, ⟨_, _, _, rfl⟩, trivial⟩, ⟨(nopL _).okH, (nopL _).okH, trivial⟩⟩
          · conv => whnf
            rw [hkd]
            conv => whnf
            refine At.meet fun w' hw => ⟨(), trivial, Le.of rfl rfl ⟨rfl, rfl, rfl, rfl, rfl, rfl, rfl, trivial⟩, hw.keep [2, 1, 0] rfl rfl rfl, ⟨⟨_, _, rfl⟩, ⟨_, _, _, rfl⟩, ⟨_, _, _, rfl⟩, trivial⟩, ⟨(nopL _).okH, (nopL _).okH, trivial⟩⟩
        intro _ _
        repeat refine At.seq ?_
        refine At.cond (t := false) rfl (fun hq => by cases hq) (fun hq => At.skip ?_)
        repeat refine At.seq ?_
        refine At.region tab_ok ?_
        conv => whnf
        refine ⟨⟨by omega, by omega⟩, ?_⟩
        conv => whnf
        refine At.nextH fun w' hw => ⟨k + 1, by omega, by omega, Le.of rfl rfl ⟨rfl, rfl, rfl, rfl, rfl, rfl, trivial⟩, hw.keep [2, 1, 0] rfl rfl rfl, ⟨⟨_, _, rfl⟩, ⟨_, _, _, rfl⟩, ⟨_, _, _, rfl⟩, trivial⟩, ⟨(nopL _).okH, (nopL _).okH, trivial⟩⟩
      · rw [if_pos rfl] at hB
        repeat refine At.seq ?_
        refine At.region tab_ok ?_
        conv => whnf
        repeat refine At.seq ?_
        refine At.ret (At.doneB tab_ok hB _ rfl fun w' hw => ansR_rowP (i := 2) hw rfl rfl rfl)
theorem leaseDo_c (L : List Lot) (d : Deed) (seen : List Int) (v u z : Value) (w : World) (h : SlOf loT [] w v L) (hu : SlOf spT [] w u d.spans) (hz : SlOf intT [] w z seen) (hN : L.length ≤ 10000) (hS : d.spans.length ≤ 8) (hF : (freeL d seen L).length ≤ 100000) (ho : DoOk (freeL d seen L) d) :
    AnsR Try.prog 48 [v, vD d u, z] [.row 58 7 ((leaseDo d seen L).1.map encL), .p (.c (.i (leaseDo d seen L).2))] w :=
  leaseDo20_c L d seen v u z w h hu hz hN (by omega) hF ho
end Go.Proofs.Ytjilbkioieicbaa

