/- Texts that the law uses: P10 W10 W11 W12 W13 W14 P12 P19 P13 W15 S3. -/
import Derived.Test.YtjilbkioieicbaaGreatME
/- The law RightsLent, in plain terms. -/
namespace Go.Proofs.YtjilbkioieicbaaGreat
open Go.Vc Rt
set_option linter.unusedVariables false
set_option linter.unusedSimpArgs false
def untilF (F : Int → Int → Option Sta) : Prop := ∀ m n x, F m n = some x → x.o = x.h → x.u = 0
theorem step_until {F : Int → Int → Option Sta} {d : Deed} (h : untilF F) : untilF (stepF F d) := by
  intro m n x hx hoh
  by_cases he : errF F d = 0
  · by_cases hh : Has d.spans m n
    · have hr := err_right he
      rcases coin_of he hh with ⟨hk, e1, e2⟩ | ⟨hk, y, e1, e2, e3, e4, e5⟩
      · rw [e2] at hx; cases hx; rfl
      · rw [e5] at hx; cases hx
        rcases right_kind hr with hk' | hk' | hk' | hk'
        · exact (hk hk').elim
        · rw [movedS_1 hk']
        · rw [movedS_2 hk'] at hoh
          simp only at hoh
          have := (right_who hr (.inr hk')).2
          rcases e4 with e4 | e4 | e4
          · exact (this (by omega)).elim
          · omega
          · omega
        · rw [movedS_3 hk'] at hoh ⊢; exact h m n y e1 hoh
    · rw [coin_not hh] at hx; exact h m n x hx hoh
  · unfold stepF at hx; rw [if_neg he] at hx; exact h m n x hx hoh
theorem until_lots : ∀ (n : Nat) (l : List Deed), l.length = n → (∀ d ∈ l, d.spans.length ≤ 8) → untilF (sta (lotsK l).1)
  | 0, l, hn, _ => by
    rw [List.eq_nil_of_length_eq_zero hn]
    intro m n x hx; cases hx
  | k + 1, l, hn, hs => by
    rcases List.eq_nil_or_concat l with rfl | ⟨l', d, rfl⟩
    · simp at hn
    · simp only [List.concat_eq_append] at *
      have ih := until_lots k l' (by simpa using hn) fun x hx => hs x (by simp [hx])
      have hg := good_lots _ l' rfl fun x hx => hs x (by simp [hx])
      rw [lotsK_snoc]
      simp only
      rw [(good_do hg (hs d (by simp))).2.2]
      exact step_until ih
theorem err_moved {F : Int → Int → Option Sta} {t : Deed} (hr : right t = true) (hk : t.kind ≠ 0) (hall : ∀ m n, Has t.spans m n → ∃ x, F m n = some x) : errF F t = errSet (fun c => ∃ m n x, Has t.spans m n ∧ F m n = some x ∧ mayS x t = c) := by
  unfold errF
  rw [if_neg (by rw [hr]; simp), if_neg hk, if_neg]
  rintro ⟨m, n, h1, h2⟩
  obtain ⟨x, hx⟩ := hall m n h1
  rw [h2] at hx; cases hx
theorem right_coin {t : Deed} (hr : right t = true) : ∃ m n, Has t.spans m n := by
  obtain ⟨_, _, _, h, _⟩ := right_parts hr
  obtain ⟨s, hs⟩ : ∃ s, s ∈ t.spans := List.exists_mem_of_length_pos h
  have := right_spans hr s hs
  exact ⟨s.m, s.f, s, hs, rfl, by omega, by omega⟩
theorem err_28 {F : Int → Int → Option Sta} {t : Deed} (hr : right t = true) (hk : t.kind ≠ 0) (h : ∀ m n, Has t.spans m n → ∃ x, F m n = some x ∧ mayS x t = 28) : errF F t = 28 := by
  rw [err_moved hr hk fun m n hh => let ⟨x, hx, _⟩ := h m n hh; ⟨x, hx⟩]
  have key : ∀ c, (∃ m n x, Has t.spans m n ∧ F m n = some x ∧ mayS x t = c) → c = 28 := by
    rintro c ⟨m, n, x, h1, h2, h3⟩
    obtain ⟨y, hy, hy'⟩ := h m n h1
    rw [h2] at hy; cases hy; omega
  unfold errSet
  rw [if_neg fun hc => by have := key 29 hc; omega, if_neg fun hc => by have := key 27 hc; omega, if_pos]
  obtain ⟨m, n, hh⟩ := right_coin hr
  obtain ⟨x, hx, hx'⟩ := h m n hh
  exact ⟨m, n, x, hh, hx, hx'⟩
theorem err_0 {F : Int → Int → Option Sta} {t : Deed} (hr : right t = true) (hk : t.kind ≠ 0) (h : ∀ m n, Has t.spans m n → ∃ x, F m n = some x ∧ mayS x t = 0) : errF F t = 0 := by
  rw [err_moved hr hk fun m n hh => let ⟨x, hx, _⟩ := h m n hh; ⟨x, hx⟩]
  have key : ∀ c, (∃ m n x, Has t.spans m n ∧ F m n = some x ∧ mayS x t = c) → c = 0 := by
    rintro c ⟨m, n, x, h1, h2, h3⟩
    obtain ⟨y, hy, hy'⟩ := h m n h1
    rw [h2] at hy; cases hy; omega
  exact errSet_of_zero (fun hc => by have := key 29 hc; omega) (fun hc => by have := key 27 hc; omega) (fun hc => by have := key 28 hc; omega)
theorem right_base {d : Deed} (h1 : 0 ≤ d.mark ∧ d.mark ≤ 1073741824) (h2 : isKey d.author = true) (h3 : 0 < d.spans.length) (h4 : normal d.spans = true) : ¬ (d.mark < 0 ∨ 1073741824 < d.mark ∨ isKey d.author = false ∨ d.spans.length = 0 ∨ normal d.spans = false) := by
  rintro (h | h | h | h | h)
  · omega
  · omega
  · rw [h2] at h; cases h
  · omega
  · rw [h4] at h; cases h
theorem right_mk1 {d : Deed} (h1 : 0 ≤ d.mark ∧ d.mark ≤ 1073741824) (h2 : isKey d.author = true) (h3 : 0 < d.spans.length) (h4 : normal d.spans = true) (hk : d.kind = 1) (h5 : isKey d.who = true) (h6 : d.who ≠ d.author) : right d = true := by
  unfold right; rw [if_neg (right_base h1 h2 h3 h4), if_neg (by omega), if_pos hk, h5]; simp [h6]
theorem right_mk2 {d : Deed} (h1 : 0 ≤ d.mark ∧ d.mark ≤ 1073741824) (h2 : isKey d.author = true) (h3 : 0 < d.spans.length) (h4 : normal d.spans = true) (hk : d.kind = 2) (h5 : isKey d.who = true) (h6 : d.who ≠ d.author) (h7 : 0 ≤ d.til ∧ d.til ≤ 1048576) : right d = true := by
  unfold right; rw [if_neg (right_base h1 h2 h3 h4), if_neg (by omega), if_neg (by omega), if_pos hk, h5]; simp [h6, h7]
theorem right_mk3 {d : Deed} (h1 : 0 ≤ d.mark ∧ d.mark ≤ 1073741824) (h2 : isKey d.author = true) (h3 : 0 < d.spans.length) (h4 : normal d.spans = true) (hk : d.kind = 3) : right d = true := by
  unfold right; rw [if_neg (right_base h1 h2 h3 h4), if_neg (by omega), if_neg (by omega), if_neg (by omega)]; simpa using hk
def lendD (a b til : Int) (spans : List Span) : Deed := ⟨1, 2, a, b, 0, til, spans⟩
def tryD (a b c : Int) (spans : List Span) : List Deed := [⟨0, 1, a, c, 0, 0, spans⟩, ⟨0, 3, a, 0, 0, 0, spans⟩, ⟨0, 1, b, c, 0, 0, spans⟩, ⟨0, 2, b, c, 0, 0, spans⟩, ⟨0, 1, b, a, 0, 0, spans⟩]
section
variable {L L1 : List Lot} {a b c til : Int} {spans : List Span}
theorem lent_coin (he : errF (sta L) (lendD a b til spans) = 0) (hs : sta L1 = stepF (sta L) (lendD a b til spans)) {m n : Int} (hh : Has spans m n) : sta L1 m n = some ⟨a, b, til, -1⟩ ∧ ∃ x, sta L m n = some x ∧ x.p = -1 ∧ x.h = a ∧ x.o = a := by
  rcases coin_of he hh with ⟨hk, _⟩ | ⟨_, x, e1, e2, e3, e4, e5⟩
  · cases hk
  · have hk2 : (lendD a b til spans).kind = 2 := rfl
    have ho : x.o = a := by rcases e4 with e4 | e4 | e4 <;> first | exact e4 | (have := hk2; omega)
    rw [hs, e5, movedS_2 hk2]
    exact ⟨by rw [ho, e2]; rfl, x, e1, e2, e3, ho⟩
theorem tries_law (hg : Good L) (hg1 : Good L1) (hu : untilF (sta L)) (he : errF (sta L) (lendD a b til spans) = 0) (hs : sta L1 = stepF (sta L) (lendD a b til spans)) (h8 : spans.length ≤ 8) (hc : isKey c = true) (hca : c ≠ a) (hcb : c ≠ b) :
    ∀ (i : Nat) t, (tryD a b c spans)[i]? = some t → (i < 4 → doB L1 t = (L1, 28)) ∧ (i = 4 → doB L1 t = (L, 0)) := by
  have hr := err_right he
  obtain ⟨_, _, ka, hpos, hnorm⟩ := right_parts hr
  obtain ⟨kb, hab⟩ := right_who hr (.inr rfl)
  change isKey a = true at ka
  change isKey b = true at kb
  change b ≠ a at hab
  change 0 < spans.length at hpos
  change normal spans = true at hnorm
  have hm0 : (0 : Int) ≤ 0 ∧ (0 : Int) ≤ 1073741824 := by omega
  have refuse : ∀ t : Deed, t.spans = spans → right t = true → t.kind ≠ 0 → mayS ⟨a, b, til, -1⟩ t = 28 → doB L1 t = (L1, 28) := by
    intro t hts hrt hkt hmay
    have e : errF (sta L1) t = 28 := err_28 hrt hkt fun m n hh => ⟨_, (lent_coin he hs (by rw [hts] at hh; exact hh)).1, hmay⟩
    obtain ⟨_, g2, _⟩ := good_do (d := t) hg1 (by rw [hts]; exact h8)
    rw [e] at g2
    exact Prod.ext (doB_refused hg1.mgd (by rw [g2]; decide)) g2
  intro i t ht
  match i, ht with
  | 0, ht =>
    cases ht
    refine ⟨fun _ => refuse _ rfl (right_mk1 hm0 ka hpos hnorm rfl hc hca) (by simp) ?_, fun h => by cases h⟩
    unfold mayS
    simp only
    rw [if_neg (by simp), if_neg (by omega), if_pos hab]
  | 1, ht =>
    cases ht
    refine ⟨fun _ => refuse _ rfl (right_mk3 hm0 ka hpos hnorm rfl) (by simp) ?_, fun h => by cases h⟩
    unfold mayS
    simp only
    rw [if_neg (by simp), if_neg (by omega), if_pos hab]
  | 2, ht =>
    cases ht
    refine ⟨fun _ => refuse _ rfl (right_mk1 hm0 kb hpos hnorm rfl hc hcb) (by simp) ?_, fun h => by cases h⟩
    unfold mayS
    simp only
    rw [if_neg (by simp), if_neg (by omega), if_neg (by simp), if_pos ⟨fun e => hab e.symm, by decide, .inr hca⟩]
  | 3, ht =>
    cases ht
    refine ⟨fun _ => refuse _ rfl (right_mk2 hm0 kb hpos hnorm rfl hc hcb (by simp)) (by simp) ?_, fun h => by cases h⟩
    unfold mayS
    simp only
    rw [if_neg (by simp), if_neg (by omega), if_neg (by simp), if_pos ⟨fun e => hab e.symm, by decide, .inl (by decide)⟩]
  | 4, ht =>
    cases ht
    refine ⟨fun h => by omega, fun _ => ?_⟩
    have hrt : right ⟨0, 1, b, a, 0, 0, spans⟩ = true := right_mk1 hm0 kb hpos hnorm rfl ka (fun e => hab e.symm)
    have e : errF (sta L1) ⟨0, 1, b, a, 0, 0, spans⟩ = 0 := err_0 hrt (by simp) fun m n hh => ⟨_, (lent_coin he hs hh).1, by
      unfold mayS
      simp only
      rw [if_neg (by simp), if_neg (by omega), if_neg (by simp), if_neg]
      rintro ⟨_, _, h | h⟩
      · exact h rfl
      · exact h rfl⟩
    obtain ⟨g1, g2, g3⟩ := good_do (d := ⟨0, 1, b, a, 0, 0, spans⟩) hg1 h8
    refine Prod.ext (g1.ext hg ?_) (by rw [g2, e])
    rw [g3]
    funext m n
    by_cases hh : Has spans m n
    · obtain ⟨c1, x, x1, x2, x3, x4⟩ := lent_coin he hs hh
      rcases coin_of e hh with ⟨hk, _⟩ | ⟨_, y, y1, _, _, _, y5⟩
      · cases hk
      · rw [y5, movedS_1 rfl, x1]
        rw [c1] at y1
        cases y1
        have := hu m n x x1 (by omega)
        rw [show x = ⟨a, a, 0, -1⟩ from Sta.ext' x4 x3 this x2]
    · rw [coin_not hh, hs, coin_not hh]
  | n + 5, ht => simp [tryD] at ht
theorem open_ext {p q : Lot → Bool} {f g : Sta → Bool} {A B : List Lot} (hp : ∀ l, p l = f (stL l)) (hq : ∀ l, q l = g (stL l)) (hA : Ord A) (hB : Ord B) (h : ∀ m n, (∃ x, sta A m n = some x ∧ x.p = -1 ∧ f x = true) ↔ (∃ x, sta B m n = some x ∧ x.p = -1 ∧ g x = true)) : norm (openL p A) = norm (openL q B) :=
  NF.ext (norm_nf _) (norm_nf _) fun m n => by rw [has_open hp hA, has_open hq hB]; exact h m n
theorem lent_rest (hg : Good L) (hg1 : Good L1) (he : errF (sta L) (lendD a b til spans) = 0) (hs : sta L1 = stepF (sta L) (lendD a b til spans)) :
    ownedL L1 a = ownedL L a ∧ (minus spans (heldL L1 b)).length = 0 ∧ (common spans (heldL L1 a)).length = 0 ∧ norm (openL (fun _ => true) L1) = norm (openL (fun _ => true) L) := by
  refine ⟨owned_ext hg1.ord hg.ord fun m n => ?_, got_held (d := lendD a b til spans) hg1.ord hs he (by unfold lendD; simp) (by unfold lendD; simp), gone_held (d := lendD a b til spans) hg1.ord hs he (by unfold lendD; simp), open_ext (f := fun _ => true) (g := fun _ => true) (fun l => rfl) (fun l => rfl) hg1.ord hg.ord fun m n => ?_⟩
  · by_cases hh : Has spans m n
    · obtain ⟨c1, x, x1, x2, x3, x4⟩ := lent_coin he hs hh
      rw [c1, x1]
      exact ⟨fun _ => ⟨x, rfl, x2, x4⟩, fun _ => ⟨_, rfl, rfl, rfl⟩⟩
    · rw [hs, coin_not hh]
  · by_cases hh : Has spans m n
    · obtain ⟨c1, x, x1, x2, x3, x4⟩ := lent_coin he hs hh
      rw [c1, x1]
      exact ⟨fun _ => ⟨x, rfl, x2, rfl⟩, fun _ => ⟨_, rfl, rfl, rfl⟩⟩
    · rw [hs, coin_not hh]
end
end Go.Proofs.YtjilbkioieicbaaGreat

/- Walks: slices.Grow, slices.Concat, entry.Union at spans. -/
namespace Go.Proofs.YtjilbkioieicbaaGreat
open Go.Vc Rt
set_option linter.unusedVariables false
set_option linter.unusedSimpArgs false
theorem grow_c (n : Int) (w : World) (h0 : 0 ≤ n) (h1 : n ≤ 1000000) : AnsR Tryz.prog 77 [.slice none 0 0, vI n] [.row 25 3 []] w := by
  refine calls_plainB [.x (.slice none 0 0), .i n] Tryz.func77 rfl rfl (Nat.le_of_ble_eq_true rfl) rfl fun B hB => ?_
  refine At.reshapeH fun w' hw => ⟨{ N := Tryz.f77.ntmps, sl := [(0, some (.s (.c (.o 0 (.slice none 0 0))))), (1, some (.i n))], gl := [], hp := [(0, .row (.slice none 0 0) 25 3 [])], S := [], ws := w }, Le.of rfl rfl ⟨rfl, rfl, trivial⟩, hw.nil rfl rfl rfl, ⟨⟨_, _, _, rfl⟩, trivial⟩, ⟨(nopS []).okH, trivial⟩, ?_⟩
  repeat refine At.seq ?_
  refine At.region tab_ok ?_
  conv => whnf
  repeat refine At.seq ?_
  refine At.region tab_ok ?_
  conv => whnf
  repeat refine At.seq ?_
  refine At.cond rfl (fun hq => ?_) (fun hq => At.skip ?_)
  · have := of_decide_eq_true hq; omega
  repeat refine At.seq ?_
  refine At.region tab_ok ?_
  conv => whnf
  refine ⟨rfl, ?_⟩
  conv => whnf
  refine ⟨rfl, ?_⟩
  conv => whnf
  refine ⟨⟨by simp [scap], by simp [scap]⟩, ?_⟩
  conv => whnf
  refine ⟨⟨by simp [scap]; omega, by simp [scap]; omega⟩, ?_⟩
  conv => whnf
  repeat refine At.seq ?_
  refine At.region tab_ok ?_
  conv => whnf
  repeat refine At.seq ?_
  refine At.cond rfl (fun hq => ?_) (fun hq => ?_)
  · have hpos : 0 < n := by have := of_decide_eq_true hq; simp [scap] at this; exact this
    repeat refine At.seq ?_
    refine At.region tab_ok ?_
    conv => whnf
    refine ⟨rfl, ?_⟩
    conv => whnf
    refine ⟨rfl, ?_⟩
    conv => whnf
    refine ⟨by simp [scap], ?_⟩
    conv => whnf
    refine ⟨by simp [scap], ?_⟩
    conv => whnf
    refine ⟨.inr (Int.le_refl _), ?_⟩
    conv => whnf
    refine ⟨[], ⟨fun w' hw => ⟨fun l hl => (by cases hl), fun l hl => (by cases hl), .inr ⟨by simp [subV, scap], rfl⟩⟩, fun l hl => (by cases hl), by simp [scap]; exact hpos, by simp [subV, scap]; exact hpos, by simp [scap]; omega⟩, ?_⟩
    conv => whnf
    intro v1
    conv => whnf
    refine ⟨rfl, ?_⟩
    conv => whnf
    refine ⟨rfl, ?_⟩
    conv => whnf
    refine ⟨by simp, ?_⟩
    conv => whnf
    refine ⟨by simp, ?_⟩
    conv => whnf
    refine ⟨.inl (by simp; omega), ?_⟩
    conv => whnf
    repeat refine At.seq ?_
    refine At.region tab_ok ?_
    conv => whnf
    repeat refine At.seq ?_
    refine At.ret (At.doneB tab_ok hB _ rfl fun w' hw => ?_)
    have hr := row_prefix (hw.row (id := 1) rfl) (n := 0) (by simp)
    refine ⟨[subV v1 3 0 0], rfl, ⟨hr, fun b hb => ?_, fun u hu => (by cases hu), rfl⟩, hw.fr⟩
    rcases hw.fresh (id := 1) rfl b (blkOf_sub b hb) with h | h
    · cases h
    · exact h
  · refine At.skip ?_
    repeat refine At.seq ?_
    refine At.region tab_ok ?_
    conv => whnf
    repeat refine At.seq ?_
    refine At.ret (At.doneB tab_ok hB _ rfl fun w' hw => ansR_row (id := 0) hw rfl rfl rfl)
def sumLen (xss : List (List Span)) : Nat := (xss.map List.length).sum
theorem concat_c (xss : List (List Span)) (v : Value) (w : World) (h : SlOf (slT spT) [] w v xss) (hN : xss.length ≤ 1000) (hS : sumLen xss ≤ 1000000) : AnsR Tryz.prog 60 [v] [.row 25 3 (xss.flatten.map encS)] w := by
  have hl := h.len
  have hflat : ∀ k, (xss.take k).flatten.length ≤ 1000000 := fun k => by
    rw [List.length_flatten]
    refine Nat.le_trans ?_ hS
    unfold sumLen
    conv => rhs; rw [← List.take_append_drop k xss]
    rw [List.map_append, List.sum_append]
    omega
  have hst : ∀ {k : Nat} {xs : List Span}, xss[k]? = some xs → (xss.take (k + 1)).flatten = (xss.take k).flatten ++ xs := fun {k xs} hx => by rw [List.take_add_one, hx]; simp
  refine calls_plainB [.x v] Tryz.func60 rfl rfl (Nat.le_of_ble_eq_true rfl) rfl fun B hB => ?_
  repeat refine At.seq ?_
  refine At.region tab_ok ?_
  conv => whnf
  repeat refine At.seq ?_
  refine At.region tab_ok ?_
  conv => whnf
  repeat refine At.seq ?_
  refine At.region tab_ok ?_
  conv => whnf
  refine ⟨h.sl, ?_⟩
  conv => whnf
  repeat refine At.seq ?_
  refine At.block ?_
  refine At.loopH (fun k : Nat => { N := Tryz.f60.ntmps, sl := [(0, some (.x v)), (3, some (.i ((xss.take k).flatten.length))), (9, some (.x v)), (10, some (.i xss.length)), (11, some (.i k))], gl := [], hp := [], S := [], ws := w }) (fun k : Nat => k ≤ xss.length) (fun k : Nat => xss.length - k)
    (fun w' hw => ⟨0, Nat.zero_le _, Le.of rfl rfl ⟨rfl, rfl, rfl, congrArg (Value.int .i64) (by rw [hl]), rfl, trivial⟩, hw.same rfl rfl rfl, trivial, trivial⟩) ?_
  intro k hk
  repeat refine At.seq ?_
  refine At.region tab_ok ?_
  conv => whnf
  repeat refine At.seq ?_
  refine At.cond rfl (fun hc => At.skip ?_) (fun hc => At.exit ?_)
  · have hltxs : k < xss.length := by have := of_decide_eq_true hc; (try simp only [List.length_map] at this); omega
    obtain ⟨xs, hxs⟩ : ∃ x, xss[k]? = some x := ⟨_, List.getElem?_eq_getElem hltxs⟩
    obtain ⟨_, ⟨u, rfl, hu⟩, hc2⟩ := h.at hxs
    have hf1 := hflat (k + 1)
    rw [hst hxs, List.length_append] at hf1
    repeat refine At.seq ?_
    refine At.block ?_
    repeat refine At.seq ?_
    refine At.region tab_ok ?_
    conv => whnf
    refine ⟨by omega, ?_⟩
    conv => whnf
    refine ⟨by omega, ?_⟩
    conv => whnf
    refine ⟨[.x u], fun w' hw => hc2 w' hw.fr, ?_⟩
    conv => whnf
    repeat refine At.seq ?_
    refine At.region tab_ok ?_
    conv => whnf
    refine ⟨hu.sl, ?_⟩
    conv => whnf
    refine ⟨by rw [hu.len]; exact ⟨by omega, by omega⟩, ?_⟩
    conv => whnf
    repeat refine At.seq ?_
    refine At.region tab_ok ?_
    conv => whnf
    repeat refine At.seq ?_
    refine At.cond rfl (fun hq => ?_) (fun hq => At.skip ?_)
    · have := of_decide_eq_true hq; rw [hu.len] at this; omega
    repeat refine At.seq ?_
    refine At.region tab_ok ?_
    conv => whnf
    refine ⟨⟨by omega, by omega⟩, ?_⟩
    conv => whnf
    refine At.nextH fun w' hw => ⟨k + 1, by omega, by omega, Le.of rfl rfl ⟨rfl, congrArg (Value.int .i64) (by rw [hu.len, hst hxs]; simp), rfl, rfl, rfl, trivial⟩, hw.keep [] rfl rfl rfl, trivial, trivial⟩
  have hge : k = xss.length := by have := of_decide_eq_false hc; omega
  subst hge
  rw [List.take_length]
  have hfl := hflat xss.length
  rw [List.take_length] at hfl
  repeat refine At.seq ?_
  refine At.region tab_ok ?_
  conv => whnf
  refine ansR_call b112 (rd1 (nopS [])) (fun w' hw => grow_c _ w' (by omega) (by omega)) ?_
  intro v1
  conv => whnf
  repeat refine At.seq ?_
  refine At.region tab_ok ?_
  conv => whnf
  refine ⟨h.sl, ?_⟩
  conv => whnf
  repeat refine At.seq ?_
  refine At.block ?_
  refine At.loopH (fun p : Nat × Value => { N := Tryz.f60.ntmps, sl := [(0, some (.x v)), (6, some (.s (.c (.o 0 p.2)))), (25, some (.x v)), (26, some (.i xss.length)), (27, some (.i p.1))], gl := [], hp := [(0, .row p.2 25 3 ((xss.take p.1).flatten.map encS))], S := [], ws := w }) (fun p : Nat × Value => p.1 ≤ xss.length) (fun p : Nat × Value => xss.length - p.1)
    (fun w' hw => ⟨(0, v1), Nat.zero_le _, Le.of rfl rfl ⟨rfl, rfl, rfl, congrArg (Value.int .i64) (by rw [hl]), rfl, trivial⟩, hw.keep [0] rfl rfl rfl, ⟨⟨_, _, _, rfl⟩, trivial⟩, ⟨(nopS _).okH, trivial⟩⟩) ?_
  rintro ⟨k, vo⟩ hk
  simp only at hk ⊢
  repeat refine At.seq ?_
  refine At.region tab_ok ?_
  conv => whnf
  repeat refine At.seq ?_
  refine At.cond rfl (fun hc => At.skip ?_) (fun hc => At.exit ?_)
  · have hltxs : k < xss.length := by have := of_decide_eq_true hc; (try simp only [List.length_map] at this); omega
    obtain ⟨xs, hxs⟩ : ∃ x, xss[k]? = some x := ⟨_, List.getElem?_eq_getElem hltxs⟩
    obtain ⟨_, ⟨u, rfl, hu⟩, hc2⟩ := h.at hxs
    have hf1 := hflat (k + 1)
    have hst1 := hst hxs
    rw [hst1, List.length_append] at hf1
    generalize (xss.take k).flatten = out at *
    repeat refine At.seq ?_
    refine At.block ?_
    repeat refine At.seq ?_
    refine At.region tab_ok ?_
    conv => whnf
    refine ⟨by omega, ?_⟩
    conv => whnf
    refine ⟨by omega, ?_⟩
    conv => whnf
    refine ⟨[.x u], fun w' hw => hc2 w' hw.fr, ?_⟩
    conv => whnf
    repeat refine At.seq ?_
    refine At.region tab_ok ?_
    conv => whnf
    refine ⟨xs.map encS, ⟨fun w' hw => (hu.fr hw.fr).src (fun _ => rfl), nopS _⟩, ?_⟩
    conv => whnf
    refine ⟨⟨rfl, by simp; omega⟩, ?_⟩
    conv => whnf
    intro v2
    conv => whnf
    repeat refine At.seq ?_
    refine At.region tab_ok ?_
    conv => whnf
    refine ⟨⟨by omega, by omega⟩, ?_⟩
    conv => whnf
    refine At.nextH fun w' hw => ⟨(k + 1, v2), by simp only; omega, by simp only; omega, Le.of rfl rfl ⟨rfl, rfl, rfl, rfl, rfl, trivial⟩, hw.keep [0] (by rw [hst1, List.map_append]; rfl) rfl rfl, ⟨⟨_, _, _, rfl⟩, trivial⟩, ⟨(nopS _).okH, trivial⟩⟩
  have hge : k = xss.length := by have := of_decide_eq_false hc; omega
  subst hge
  rw [List.take_length]
  repeat refine At.seq ?_
  refine At.region tab_ok ?_
  conv => whnf
  repeat refine At.seq ?_
  refine At.ret (At.doneB tab_ok hB _ rfl fun w' hw => ansR_row (id := 0) hw rfl rfl rfl)
/-- Two slices of the function's own, as a slice of slices. -/
theorem two_sl {w : World} {v v1 v2 : Value} {i j : Nat} {xs ys : List Span} (h : (LO.row v 42 1 [[.o i v1], [.o j v2]]).holds w) (h1 : SlOf spT [] w v1 xs) (h2 : SlOf spT [] w v2 ys) : SlOf (slT spT) [] w v [xs, ys] :=
  SlOf.of_rows h (fun _ _ => nilS) (by simp) ⟨⟨[.x v1], rfl, v1, rfl, h1⟩, ⟨[.x v2], rfl, v2, rfl, h2⟩, trivial⟩
def unionS (a b : List Span) : List Span := norm (a ++ b)
end Go.Proofs.YtjilbkioieicbaaGreat

/- Walks: entry.Has, and the small functions of lease. -/
namespace Go.Proofs.YtjilbkioieicbaaGreat
open Go.Vc Rt
set_option linter.unusedVariables false
set_option linter.unusedSimpArgs false
def inSpan (m n : Int) (s : Span) : Bool := valid s && (decide (s.m = m) && (decide (s.f ≤ n) && decide (n < s.t)))
def hasS (l : List Span) (m n : Int) : Bool := l.any (inSpan m n)
theorem idx_any {α : Type} (p : α → Bool) (xs : List α) : decide (0 ≤ idxOf p xs) = xs.any p := by
  unfold idxOf
  split
  · rename_i i h
    rw [List.findIdx?_eq_some_iff_getElem] at h
    obtain ⟨h1, h2, _⟩ := h
    rw [decide_eq_true (by omega)]
    exact (List.any_eq_true.2 ⟨_, List.getElem_mem h1, h2⟩).symm
  · rename_i h
    rw [decide_eq_false (by omega)]
    rw [List.findIdx?_eq_none_iff] at h
    refine (Bool.eq_false_iff.2 fun hc => ?_).symm
    obtain ⟨x, hx, hp⟩ := List.any_eq_true.1 hc
    rw [h x hx] at hp; cases hp
theorem containsS_c (xs : List Span) (S : List Nat) (v : Value) (w : World) (h : SlOf spT S w v xs) (g : Nat) (caps : Array Value) (p : Span → Bool) (hg : Body Tryz.prog g)
    (hf : ∀ x ∈ xs, ∀ w', Ext w w' → Ans Tryz.prog g (vS x :: caps.toList) (.b (p x)) w') : Ans Tryz.prog 63 [v, .func (.func g) #[] caps] (.b (xs.any p)) w := by
  replace h := h.avoid (S' := []) (fun b hb => by cases hb)
  refine calls_plainB [.x v, .x (.func (.func g) #[] caps)] Tryz.func63 rfl rfl (Nat.le_of_ble_eq_true rfl) rfl fun B hB => ?_
  repeat refine At.seq ?_
  refine At.region tab_ok ?_
  conv => whnf
  repeat refine At.seq ?_
  refine At.region tab_ok ?_
  conv => whnf
  refine ans_call b128 rfl (fun w' hw => indexS_c xs [] v w' (h.fr hw.fr) g caps p hg (fun x hx w'' hx' => hf x hx w'' (hw.fr.trans hx'))) ?_
  conv => whnf
  repeat refine At.seq ?_
  refine At.ret (At.doneB tab_ok hB _ rfl fun w' hw => ⟨?_, hw.fr⟩)
  rw [← idx_any]
theorem has1_c (s : Span) (m n : Int) (bm bn : Nat) (w : World) (hm : (LO.box bm 3 [.i m]).holds w) (hn : (LO.box bn 3 [.i n]).holds w) (hne : bm ≠ bn) : Ans Tryz.prog 64 [vS s, ptr bm, ptr bn] (.b (inSpan m n s)) w := by
  have hh : Holds (St.enter Tryz.f64.ntmps [.s (.agg (encS s)), .s (.c (.p 0 bm 0)), .s (.c (.p 1 bn 0))] [(0, .box bm 3 [.i m]), (1, .box bn 3 [.i n])] [bm, bn] w) w := enter_objs (fun o ho => by simp at ho; rcases ho with rfl | rfl; exact hm; exact hn) (by simp [LO.blks, hne])
  refine calls_atB _ _ _ Tryz.func64 rfl rfl (Nat.le_of_ble_eq_true rfl) (WF.objs hh ⟨⟨_, _, rfl⟩, ⟨_, _, rfl⟩, trivial⟩ trivial) hh fun B hB => ?_
  repeat refine At.seq ?_
  refine At.region tab_ok ?_
  conv => whnf
  intro b1
  conv => whnf
  repeat refine At.seq ?_
  refine At.region tab_ok ?_
  conv => whnf
  refine ans_call b80 rfl (fun w' hw => valid_c s w') ?_
  conv => whnf
  repeat refine At.seq ?_
  refine At.ret (At.doneB tab_ok hB _ rfl fun w' hw => ⟨?_, hw.fr.ext fun c hc => ?_⟩)
  · simp only [RV.den, SV.den, CV.den, band, inSpan, Bool.and_assoc]
  · rcases List.mem_cons.1 hc with rfl | hc
    · exact (hw.box (id := 0) rfl).trans hm.symm
    · rw [List.mem_singleton.1 hc]; exact (hw.box (id := 1) rfl).trans hn.symm
theorem has_c (xs : List Span) (m n : Int) (S : List Nat) (v : Value) (w : World) (h : SlOf spT S w v xs) : Ans Tryz.prog 39 [v, vI m, vI n] (.b (hasS xs m n)) w := by
  replace h := h.avoid (S' := []) (fun b hb => by cases hb)
  refine calls_plainB [.x v, .i m, .i n] Tryz.func39 rfl rfl (Nat.le_of_ble_eq_true rfl) rfl fun B hB => ?_
  repeat refine At.seq ?_
  refine At.region tab_ok ?_
  conv => whnf
  intro bm
  conv => whnf
  intro bn
  conv => whnf
  repeat refine At.seq ?_
  refine At.region tab_ok ?_
  conv => whnf
  refine ans_call b138 rfl (fun w' hw => containsS_c xs [] v w' (h.fr hw.fr) 64 #[ptr bm, ptr bn] (inSpan m n) b139 (fun x _ w'' hx => has1_c x m n bm bn w'' (LO.holds_ext hx (hw.objs (0, .box bm 3 [.i m]) (by simp))) (LO.holds_ext hx (hw.objs (1, .box bn 3 [.i n]) (by simp)))
    (fun e => disj_of hw.nodup (i := 0) (j := 1) rfl rfl (by decide) bm (by simp [LO.blks]) (by simp [LO.blks, e])))) ?_
  conv => whnf
  repeat refine At.seq ?_
  refine At.ret (At.doneB tab_ok hB _ rfl fun w' hw => ⟨rfl, hw.fr⟩)
/-- The day that was seen of a key. -/
def ofK (seen : List Int) (k : Int) : Int := if k < 0 then -1 else seen.getD k.toNat (-1)
theorem of_c (seen : List Int) (k : Int) (S : List Nat) (v : Value) (w : World) (h : SlOf intT S w v seen) : Ans Tryz.prog 32 [v, vI k] (.i (ofK seen k)) w := by
  replace h := h.avoid (S' := []) (fun b hb => by cases hb)
  have hl := h.len
  refine calls_plainB [.x v, .i k] Tryz.func32 rfl rfl (Nat.le_of_ble_eq_true rfl) rfl fun B hB => ?_
  repeat refine At.seq ?_
  refine At.region tab_ok ?_
  conv => whnf
  repeat refine At.seq ?_
  refine At.region tab_ok ?_
  conv => whnf
  refine ⟨by simp only [gimp]; intro _; exact h.sl, ?_⟩
  conv => whnf
  repeat refine At.seq ?_
  refine At.cond rfl (fun hq => ?_) (fun hq => ?_)
  · repeat refine At.seq ?_
    refine At.region tab_ok ?_
    conv => whnf
    repeat refine At.seq ?_
    refine At.ret (At.doneB tab_ok hB _ rfl fun w' hw => ⟨?_, hw.fr⟩)
    simp only [bor, Bool.or_eq_true, decide_eq_true_eq] at hq
    unfold ofK
    split
    · rfl
    · rw [List.getD_eq_getElem?_getD, List.getElem?_eq_none (by omega)]; rfl
  · simp only [bor, Bool.or_eq_false_iff, decide_eq_false_iff_not] at hq
    refine At.skip ?_
    obtain ⟨x, hx⟩ : ∃ x, seen[k.toNat]? = some x := ⟨_, List.getElem?_eq_getElem (by omega)⟩
    repeat refine At.seq ?_
    refine At.region tab_ok ?_
    conv => whnf
    refine ⟨by omega, ?_⟩
    conv => whnf
    refine ⟨by omega, ?_⟩
    conv => whnf
    refine ⟨[.i x], fun w' hw => h.loadI (n := 1) hw.fr (by omega) hx rfl, ?_⟩
    conv => whnf
    repeat refine At.seq ?_
    refine At.ret (At.doneB tab_ok hB _ rfl fun w' hw => ⟨?_, hw.fr⟩)
    unfold ofK
    rw [if_neg (by omega), List.getD_eq_getElem?_getD, hx]
    rfl
/-- Whether a key may use a lot's coins. -/
def mayU (l : Lot) (key day seen : Int) : Int :=
  if l.p ≠ -1 then 29 else if key ≠ l.o ∧ key ≠ l.h then 27 else if key ≠ l.h ∧ seen ≤ l.u then 28 else if key ≠ l.o ∧ l.u < day then 25 else 0
theorem mayU_c (l : Lot) (key day seen : Int) (w : World) : Ans Tryz.prog 11 [vL l, vI key, vI day, vI seen] (.i (mayU l key day seen)) w := by
  refine calls_plainB [.s (.agg (encL l)), .i key, .i day, .i seen] Tryz.func11 rfl rfl (Nat.le_of_ble_eq_true rfl) rfl fun B hB => ?_
  repeat refine At.seq ?_
  refine At.region tab_ok ?_
  conv => whnf
  intro b1
  conv => whnf
  repeat refine At.seq ?_
  refine At.block ?_
  repeat refine At.seq ?_
  refine At.region tab_ok ?_
  conv => whnf
  repeat refine At.seq ?_
  refine At.cond rfl (fun hq => ?_) (fun hq => ?_)
  · repeat refine At.seq ?_
    refine At.region tab_ok ?_
    conv => whnf
    repeat refine At.seq ?_
    refine At.ret (At.doneB tab_ok hB _ rfl fun w' hw => ⟨?_, hw.fr⟩)
    simp at hq
    simp [mayU, hq, RV.den, SV.den, CV.den, ofConst]
  · have h1 : l.p = -1 := by simpa using hq
    repeat refine At.seq ?_
    refine At.region tab_ok ?_
    conv => whnf
    repeat refine At.seq ?_
    refine At.cond rfl (fun hq => ?_) (fun hq => ?_)
    · repeat refine At.seq ?_
      refine At.region tab_ok ?_
      conv => whnf
      repeat refine At.seq ?_
      refine At.ret (At.doneB tab_ok hB _ rfl fun w' hw => ⟨?_, hw.fr⟩)
      simp only [band, Bool.and_eq_true, Bool.not_eq_true', decide_eq_false_iff_not] at hq
      unfold mayU; rw [if_neg (by simpa using h1), if_pos hq]
    · have h2 : ¬ (key ≠ l.o ∧ key ≠ l.h) := by
        rintro ⟨a, b⟩; simp [a, b] at hq
      repeat refine At.seq ?_
      refine At.region tab_ok ?_
      conv => whnf
      repeat refine At.seq ?_
      refine At.cond rfl (fun hq => ?_) (fun hq => ?_)
      · repeat refine At.seq ?_
        refine At.region tab_ok ?_
        conv => whnf
        repeat refine At.seq ?_
        refine At.ret (At.doneB tab_ok hB _ rfl fun w' hw => ⟨?_, hw.fr⟩)
        simp only [band, Bool.and_eq_true, Bool.not_eq_true', decide_eq_false_iff_not, decide_eq_true_eq] at hq
        unfold mayU; rw [if_neg (by simpa using h1), if_neg h2, if_pos hq]
      · have h3 : ¬ (key ≠ l.h ∧ seen ≤ l.u) := by
          rintro ⟨a, b⟩; simp [a, b] at hq
        repeat refine At.seq ?_
        refine At.region tab_ok ?_
        conv => whnf
        repeat refine At.seq ?_
        refine At.cond rfl (fun hq => ?_) (fun hq => ?_)
        · repeat refine At.seq ?_
          refine At.region tab_ok ?_
          conv => whnf
          repeat refine At.seq ?_
          refine At.ret (At.doneB tab_ok hB _ rfl fun w' hw => ⟨?_, hw.fr⟩)
          simp only [band, Bool.and_eq_true, Bool.not_eq_true', decide_eq_false_iff_not, decide_eq_true_eq] at hq
          unfold mayU; rw [if_neg (by simpa using h1), if_neg h2, if_neg h3, if_pos hq]
        · have h4 : ¬ (key ≠ l.o ∧ l.u < day) := by
            rintro ⟨a, b⟩; simp [a, b] at hq
          refine At.skip ?_
          repeat refine At.seq ?_
          refine At.region tab_ok ?_
          conv => whnf
          repeat refine At.seq ?_
          refine At.ret (At.doneB tab_ok hB _ rfl fun w' hw => ⟨?_, hw.fr⟩)
          unfold mayU; rw [if_neg (by simpa using h1), if_neg h2, if_neg h3, if_neg h4]
theorem alike_c (a b : Lot) (w : World) : Ans Tryz.prog 40 [vL a, vL b] (.b (alike a b)) w := by
  refine calls_plainB [.s (.agg (encL a)), .s (.agg (encL b))] Tryz.func40 rfl rfl (Nat.le_of_ble_eq_true rfl) rfl fun B hB => ?_
  repeat refine At.seq ?_
  refine At.region tab_ok ?_
  conv => whnf
  intro b1
  conv => whnf
  intro b2
  conv => whnf
  repeat refine At.seq ?_
  refine At.region tab_ok ?_
  conv => whnf
  repeat refine At.seq ?_
  refine At.region tab_ok ?_
  conv => whnf
  repeat refine At.seq ?_
  refine At.region tab_ok ?_
  conv => whnf
  repeat refine At.seq ?_
  refine At.ret (At.doneB tab_ok hB _ rfl fun w' hw => ⟨?_, hw.fr⟩)
  refine congrArg (fun b => Ending.returned (Value.bool b)) ?_
  unfold alike
  rw [Bool.eq_iff_iff]
  simp
  constructor
  · rintro ⟨⟨a1, a2⟩, a3, a4, a5, a6⟩; exact ⟨a3, a4, a5, a6, a1, a2⟩
  · rintro ⟨a3, a4, a5, a6, a1, a2⟩; exact ⟨⟨a1, a2⟩, a3, a4, a5, a6⟩
theorem cmpF_c (a b : Span) (w : World) (h : inR (a.f - b.f)) : Ans Tryz.prog 62 [vS a, vS b] (.i (a.f - b.f)) w := by
  refine calls_plainB [.s (.agg (encS a)), .s (.agg (encS b))] Tryz.func62 rfl rfl (Nat.le_of_ble_eq_true rfl) rfl fun B hB => ?_
  repeat refine At.seq ?_
  refine At.region tab_ok ?_
  conv => whnf
  intro b1
  conv => whnf
  intro b2
  conv => whnf
  repeat refine At.seq ?_
  refine At.region tab_ok ?_
  conv => whnf
  refine ⟨h, ?_⟩
  conv => whnf
  repeat refine At.seq ?_
  refine At.ret (At.doneB tab_ok hB _ rfl fun w' hw => ⟨rfl, hw.fr⟩)
/-! ### Sorting by the first coin -/
/-- Spans within bounds. -/
def BSp : Type := { s : Span // 0 ≤ s.f ∧ s.f ≤ 1048576 }
instance : Inhabited BSp := ⟨⟨⟨0, 0, 0⟩, by decide⟩⟩
def encB (s : BSp) : List Value := encVS s.1
def cmpB (a b : BSp) : Int := a.1.f - b.1.f
theorem swoB : Sort.SWO (ltOf cmpB) where
  irrefl x := by rw [← Bool.not_eq_true]; unfold ltOf cmpB; simp
  trans x y z h1 h2 := by unfold ltOf cmpB at *; simp at *; omega
  ntrans x y z h1 h2 := by rw [← Bool.not_eq_true] at *; unfold ltOf cmpB at *; simp at *; omega
theorem cmpB_lays (blk off size : Nat) (w : World) : CmpLays Tryz.prog 62 #[] encB 3 cmpB blk off size w := by
  intro m os dk hs x y
  have hx := x.2
  have hy := y.2
  exact (cmpF_c x.1 y.1 _ ⟨by omega, by omega⟩).mono fun e w' ⟨he, hx⟩ => ⟨he, Ext.grow hx⟩
def BSp.s (x : BSp) : Span := x.1
theorem flatB_get (d : Array BSp) {j : Nat} (hj : j < d.size * 3) : (dens ((d.toList.map BSp.s).map encS).flatten)[j]? = some (Sort.flatK encB 3 d)[j]! := by
  have hlr : ∀ l ∈ (d.toList.map BSp.s).map encS, l.length = 3 := fun l hl => by obtain ⟨x, _, rfl⟩ := List.mem_map.1 hl; rfl
  have hq : j / 3 < d.size := by omega
  have e := flatten_get hlr (k := j / 3) (row := encS d[j / 3].s) (by simp [hq]) (j % 3) (by omega)
  rw [show j / 3 * 3 + j % 3 = j by omega] at e
  rw [Sort.get_flatK _ _ _ _ hj, getElem!_pos d (j / 3) hq]
  simp only [dens, List.getElem?_map, e]
  have h3 : j % 3 = 0 ∨ j % 3 = 1 ∨ j % 3 = 2 := by omega
  rcases h3 with h3 | h3 | h3 <;> rw [h3] <;> rfl
theorem sortB_c (xs : List BSp) (v : Value) (w : World) (h : (LO.row v 25 3 ((xs.map BSp.s).map encS)).holds w) (hN : xs.length ≤ 1000000) :
    Calls Tryz.prog 55 #[v, .func (.func 62) #[] #[]] w (fun e w' => ∃ ys : List BSp, e = .returned (.tuple #[]) ∧ ys.Perm xs ∧ ys.Pairwise (fun a b => a.1.f ≤ b.1.f) ∧ (LO.row v 25 3 ((ys.map BSp.s).map encS)).holds w' ∧ Fr (blkOf v) w w') := by
  have h' := h
  obtain ⟨⟨hlen, hv⟩, hL⟩ := h
  rcases hv with ⟨rfl, h0⟩ | ⟨g, o, cap, cur, rfl, hg, hnc, hcm, hcs, htake⟩
  · have hx : xs = [] := List.eq_nil_of_length_eq_zero (by simpa using h0)
    subst hx
    have hcon := AnyF.slices_SortFunc_none Tryz.sortSp none 0 (.func (.func 62) #[] #[]) w
    change Calls Tryz.prog 55 _ _ _ at hcon
    exact hcon.mono fun e w' ⟨he, hw⟩ => ⟨[], he, .nil, .nil, by rw [hw]; exact h', by rw [hw]; exact Fr.refl _ _⟩
  · simp only [List.length_map] at hnc hcs htake hlen ⊢
    have hgs : g < w.heap.size := (Array.getElem?_eq_some_iff.1 hg).1
    have hcell : ∀ j u, (dens ((xs.map BSp.s).map encS).flatten)[j]? = some u → w.cell? ⟨g, o + j, none⟩ = some u := by
      intro j u hu
      have hj : j < xs.length * 3 := by
        rcases Nat.lt_or_ge j (xs.length * 3) with h1 | h1
        · exact h1
        · rw [List.getElem?_eq_none (by omega)] at hu; cases hu
      rw [cell_of_row w g _ _ _ _ hg]
      rw [← htake, List.getElem?_take_of_lt hj, List.getElem?_drop] at hu
      simpa using hu
    have hH : Sort.HoldsK encB 3 w g o xs.toArray := by
      intro j hj
      simp only [Sort.size_flatK, List.size_toArray] at hj
      refine ⟨hcell j _ (flatB_get xs.toArray (by simpa using hj)), ?_⟩
      simp [World.frozen?, hg]
    have eg : ∀ args w, (callFunc 62 args).run Tryz.prog w = .ok (.enter 62 args) w := enters_of Tryz.func62 (by kernel_rfl) rfl
    have hcon := AnyQ.slices_SortFunc Tryz.sortSp 3 (fun w => ok_isAgg (P := Tryz.prog) (t := 25) (d := .struct (Tryz.prog.fieldsOf 25)) (by kernel_rfl) w) (fun w => by
      obtain ⟨i, hi, hs⟩ : ∃ i, Tryz.prog.info? 25 = some i ∧ i.size = 3 := by
        obtain ⟨i, d, hi, _, hs, _⟩ := chk_info (tab_ok 25 _ rfl)
        exact ⟨i, hi, hs⟩
      have := ok_sizeOf (P := Tryz.prog) hi w
      rw [hs] at this
      exact this) encB (fun _ => rfl) (fun x v hv => by simp [encB, encVS] at hv; rcases hv with rfl | rfl | rfl <;> rfl) cmpB swoB 62 #[] g o cap xs.toArray w eg (cmpB_lays g o _ w) hH hgs (by simp; omega)
    change Calls Tryz.prog 55 _ _ _ at hcon
    refine hcon.mono fun e w' ⟨he, d', n', os, hp, hs, hw⟩ => ⟨d'.toList, he, ?_, ?_, ?_, ?_⟩
    · have hp3 := hp.2.2
      have e1 : d'.extract 0 xs.toArray.size = d' := by rw [← hp.1]; simp
      have e2 : xs.toArray.extract 0 xs.toArray.size = xs.toArray := by simp
      rw [e1, e2] at hp3
      simpa using hp3
    · rw [List.pairwise_iff_getElem]
      intro i j hi hj hij
      have := hs i j (Nat.zero_le _) hij (by rw [← hp.1]; simpa using hj)
      rw [getElem!_pos d' j (by simpa using hj), getElem!_pos d' i (by simpa using hi), ← Bool.not_eq_true] at this
      unfold ltOf cmpB at this
      simp at this ⊢
      omega
    all_goals
      have hd : d'.size = xs.length := by rw [hp.1]; simp
      have hheap : w'.heap[g]? = some (.cells (Sort.putCells id o (Sort.flatK encB 3 d') cur) 25 (0, 0)) := by
        rw [hw]
        simp only [sortWorldK, Sort.grow, Sort.putRowK, Sort.putRow, Sort.mapBlock, Sort.ahead]
        rw [Array.getElem?_append_left (by simpa using hgs), Array.getElem?_modify, if_pos rfl, hg]
        rfl
    · have hrl : ∀ l ∈ (d'.toList.map BSp.s).map encS, l.length = 3 := fun l hl => by obtain ⟨x, _, rfl⟩ := List.mem_map.1 hl; rfl
      have hdl : (dens ((d'.toList.map BSp.s).map encS).flatten).length = xs.length * 3 := by simp only [dens, List.length_map]; rw [flatten_len hrl]; simp [hd]
      refine ⟨⟨by rw [hdl]; simp [hd], .inr ⟨g, o, cap, _, by simp [hd], hheap, by simp [hd]; omega, hcm, by simp [Sort.putCells]; exact hcs, ?_⟩⟩, hrl⟩
      apply List.ext_getElem?
      intro j
      by_cases hj : j < xs.length * 3
      · have e := flatB_get d' (j := j) (by omega)
        rw [List.getElem?_take_of_lt (by simp [hd]; omega), List.getElem?_drop, e]
        have hlt : o + j < cur.size := by
          have : xs.length * 3 ≤ cap * 3 := Nat.mul_le_mul_right _ hnc
          omega
        simp [Sort.putCells, hlt, hd, hj]
      · rw [List.getElem?_eq_none (by simp [hd]; omega), List.getElem?_eq_none (by omega)]
    · rw [hw]
      refine ⟨rfl, rfl, rfl, by simp [sortWorldK, Sort.grow, Sort.putRowK], fun k hk hn => ?_, by simp [sortWorldK, Sort.grow, Sort.putRowK]⟩
      have hne : g ≠ k := fun e => hn (by simp [blkOf, e])
      simp only [sortWorldK, Sort.grow, Sort.putRowK, Sort.putRow, Sort.mapBlock, Sort.ahead]
      rw [Array.getElem?_append_left (by simpa using hk), Array.getElem?_modify, if_neg hne]
/-- Spans within bounds are sorted by their first coins. -/
theorem sortF_c (xs : List Span) (v : Value) (w : World) (h : (LO.row v 25 3 (xs.map encS)).holds w) (hb : ∀ s ∈ xs, 0 ≤ s.f ∧ s.f ≤ 1048576) (hN : xs.length ≤ 1000000) :
    Calls Tryz.prog 55 #[v, .func (.func 62) #[] #[]] w (fun e w' => ∃ ys : List Span, e = .returned (.tuple #[]) ∧ ys.Perm xs ∧ ys.Pairwise (fun a b => a.f ≤ b.f) ∧ (LO.row v 25 3 (ys.map encS)).holds w' ∧ Fr (blkOf v) w w') := by
  obtain ⟨zs, hz⟩ : ∃ zs : List BSp, zs.map BSp.s = xs := by
    clear h hN
    induction xs with
    | nil => exact ⟨[], rfl⟩
    | cons x xs ih =>
      obtain ⟨zs, hz⟩ := ih fun s hs => hb s (List.mem_cons_of_mem _ hs)
      exact ⟨(show BSp from ⟨x, hb x (List.mem_cons_self ..)⟩) :: zs, congrArg (x :: ·) hz⟩
  subst hz
  refine (sortB_c zs v w h (by simpa using hN)).mono fun e w' ⟨ys, he, h1, h2, h3, h4⟩ => ⟨ys.map BSp.s, he, h1.map _, List.pairwise_map.2 h2, h3, h4⟩
end Go.Proofs.YtjilbkioieicbaaGreat

/- Walks: the pieces of a lot. -/
namespace Rt
set_option linter.unusedVariables false
set_option linter.unusedSimpArgs false
def insF (s : Span) : List Span → List Span
  | [] => [s]
  | x :: r => if s.f ≤ x.f then s :: x :: r else x :: insF s r
def isortF : List Span → List Span
  | [] => []
  | x :: r => insF x (isortF r)
theorem insF_perm (s : Span) : ∀ l, (insF s l).Perm (s :: l)
  | [] => .refl _
  | x :: r => by
    simp only [insF]
    split
    · exact .refl _
    · exact ((insF_perm s r).cons x).trans (.swap s x r)
theorem isortF_perm : ∀ l, (isortF l).Perm l
  | [] => .refl _
  | x :: r => (insF_perm x _).trans ((isortF_perm r).cons x)
theorem insF_sorted {s : Span} : ∀ {l : List Span}, l.Pairwise (fun a b => a.f ≤ b.f) → (insF s l).Pairwise (fun a b => a.f ≤ b.f)
  | [], _ => by simp [insF]
  | x :: r, h => by
    obtain ⟨h1, h2⟩ := List.pairwise_cons.1 h
    simp only [insF]
    split
    · refine List.pairwise_cons.2 ⟨fun y hy => ?_, h⟩
      rcases List.mem_cons.1 hy with rfl | hy
      · assumption
      · have := h1 y hy; omega
    · refine List.pairwise_cons.2 ⟨fun y hy => ?_, insF_sorted h2⟩
      rcases List.mem_cons.1 ((insF_perm s r).subset hy) with rfl | hy
      · omega
      · exact h1 y hy
theorem isortF_sorted : ∀ l, (isortF l).Pairwise (fun a b => a.f ≤ b.f)
  | [] => .nil
  | x :: r => insF_sorted (isortF_sorted r)
theorem sorted_unique : ∀ {a b : List Span}, a.Perm b → a.Pairwise (fun a b => a.f ≤ b.f) → b.Pairwise (fun a b => a.f ≤ b.f) → (∀ x ∈ a, ∀ y ∈ a, x.f = y.f → x = y) → a = b
  | [], b, hp, _, _, _ => (hp.nil_eq).symm ▸ rfl
  | x :: a, [], hp, _, _, _ => by have := hp.length_eq; simp at this
  | x :: a, y :: b, hp, ha, hb, hd => by
    obtain ⟨a1, a2⟩ := List.pairwise_cons.1 ha
    obtain ⟨b1, b2⟩ := List.pairwise_cons.1 hb
    have hxy : y.f ≤ x.f := by
      rcases List.mem_cons.1 (hp.subset (List.mem_cons_self ..)) with e | e
      · rw [e]; exact Int.le_refl _
      · exact b1 x e
    have hy : y ∈ x :: a := hp.symm.subset (List.mem_cons_self ..)
    have hyx : x.f ≤ y.f := by
      rcases List.mem_cons.1 hy with e | e
      · rw [e]; exact Int.le_refl _
      · exact a1 y e
    have e : x = y := hd x (List.mem_cons_self ..) y hy (by omega)
    subst e
    rw [sorted_unique hp.cons_inv a2 b2 fun u hu v hv => hd u (List.mem_cons_of_mem _ hu) v (List.mem_cons_of_mem _ hv)]
/-- The parts of a span that have coins of spans, and those that have none, in order. -/
def pieceSp (s : Span) (spans : List Span) : List Span := isortF (common [s] spans ++ minus [s] spans)
theorem common_valid {a b : List Span} : ∀ s ∈ common a b, valid s = true := norm_valid
theorem common_len (a b : List Span) (hb : (norm a).length ≤ 1) : (common a b).length ≤ b.length := by
  unfold common
  have h1 := norm_len_valid (comAll (norm a) (norm b))
  have h2 := List.length_filter_le valid (comAll (norm a) (norm b))
  have h3 := comAll_len (norm b) (norm a)
  have h4 := norm_len_valid b
  have h5 := List.length_filter_le valid b
  have h6 : (norm a).length * (norm b).length ≤ 1 * (norm b).length := Nat.mul_le_mul_right _ hb
  omega
theorem minus_len (a b : List Span) : (minus a b).length ≤ a.length + b.length := by
  have h1 := lessAll_len (ys := norm b) (out := norm a) (fun y hy => valid_lt (norm_valid y hy)) (norm_nf a)
  have h2 := norm_len_valid a
  have h3 := List.length_filter_le valid a
  have h4 := norm_len_valid b
  have h5 := List.length_filter_le valid b
  unfold minus
  omega
theorem norm_one_len (s : Span) : (norm [s]).length ≤ 1 := Nat.le_trans (norm_len_valid _) (Nat.le_trans (List.length_filter_le ..) (by simp))
theorem pieces_mark {s : Span} {spans : List Span} {x : Span} (hx : x ∈ common [s] spans ++ minus [s] spans) : x.f < x.t ∧ ∀ n, x.f ≤ n → n < x.t → valid s = true ∧ s.m = x.m ∧ s.f ≤ n ∧ n < s.t := by
  have hv : valid x = true := (List.mem_append.1 hx).elim (fun h => common_valid x h) (fun h => (minus_spec [s] spans).2.1 x h)
  refine ⟨valid_lt hv, fun n h1 h2 => ?_⟩
  have hh : Has (norm [s]) x.m n := by
    rcases List.mem_append.1 hx with h | h
    · exact (has_common.1 ⟨x, h, rfl, h1, h2⟩).1
    · exact (((minus_spec [s] spans).2.2 x.m n).1 ⟨x, h, rfl, h1, h2⟩).1
  obtain ⟨y, hy, h3, h4⟩ := has_norm.1 hh
  rw [List.mem_singleton.1 hy] at h3 h4
  exact ⟨h3, h4⟩
theorem nf_same_first {l : List Span} (h : NF l) {x y : Span} (hx : x ∈ l) (hy : y ∈ l) (hm : x.m = y.m) (hf : x.f = y.f) : x = y := by
  induction l with
  | nil => cases hx
  | cons z l ih =>
    have hz := (List.pairwise_cons.1 h.ord).1
    have nz := h.ne z (List.mem_cons_self ..)
    rcases List.mem_cons.1 hx with rfl | hx' <;> rcases List.mem_cons.1 hy with rfl | hy'
    · rfl
    · have := hz y hy'; unfold gap at this; omega
    · have := hz x hx'; unfold gap at this; omega
    · exact ih h.tail hx' hy'
theorem pieces_first {s : Span} {spans : List Span} : ∀ x ∈ common [s] spans ++ minus [s] spans, ∀ y ∈ common [s] spans ++ minus [s] spans, x.f = y.f → x = y := by
  intro x hx y hy hf
  obtain ⟨x1, x2⟩ := pieces_mark hx
  obtain ⟨y1, y2⟩ := pieces_mark hy
  have mx := (x2 x.f (by omega) x1).2.1
  have my := (y2 y.f (by omega) y1).2.1
  rcases List.mem_append.1 hx with hx | hx <;> rcases List.mem_append.1 hy with hy | hy
  · exact nf_same_first (norm_nf _) hx hy (by omega) hf
  · have h1 := (has_common.1 ⟨x, hx, rfl, Int.le_refl _, x1⟩).2
    have h2 := (((minus_spec [s] spans).2.2 y.m y.f).1 ⟨y, hy, rfl, Int.le_refl _, y1⟩).2
    rw [← hf, ← my, mx] at h2
    exact (h2 h1).elim
  · have h1 := (has_common.1 ⟨y, hy, rfl, Int.le_refl _, y1⟩).2
    have h2 := (((minus_spec [s] spans).2.2 x.m x.f).1 ⟨x, hx, rfl, Int.le_refl _, x1⟩).2
    rw [hf, ← mx, my] at h2
    exact (h2 h1).elim
  · exact nf_same_first (minus_spec [s] spans).1 hx hy (by omega) hf
theorem piece_of {s : Span} {spans ys : List Span} (hp : ys.Perm (common [s] spans ++ minus [s] spans)) (hs : ys.Pairwise (fun a b => a.f ≤ b.f)) : ys = pieceSp s spans :=
  sorted_unique (hp.trans (isortF_perm _).symm) hs (isortF_sorted _) fun x hx y hy => pieces_first x (hp.subset hx) y (hp.subset hy)
theorem piece_len (s : Span) (spans : List Span) : (pieceSp s spans).length ≤ 2 * spans.length + 1 := by
  unfold pieceSp
  have h1 := (isortF_perm (common [s] spans ++ minus [s] spans)).length_eq
  have h2 := common_len [s] spans (norm_one_len s)
  have h3 := minus_len [s] spans
  rw [h1, List.length_append]
  simp only [List.length_singleton] at h3
  omega
def withSp (l : Lot) (s : Span) : Lot := { l with s := s }
def pieceL (l : Lot) (spans : List Span) : List Lot := (pieceSp l.s spans).map (withSp l)
end Rt
namespace Go.Proofs.YtjilbkioieicbaaGreat
open Go.Vc Rt
set_option linter.unusedVariables false
set_option linter.unusedSimpArgs false
/-- A slice that is nil, as a row; objects are forgotten. -/
theorem Holds.nilK {st st' : St} {w : World} (h : Holds st w) (ids : List Nat) {id E size : Nat} (h1 : st'.hp = (id, .row (.slice none 0 0) E size []) :: keepIds ids st.hp) (h2 : st'.S = st.S) (h3 : st'.ws = st.ws) : Holds st' w := by
  have h' : Holds { st with hp := keepIds ids st.hp } w := h.keep ids rfl rfl rfl
  exact h'.nil (st' := st') h1 h2 h3
theorem pieces_c (l : Lot) (spans : List Span) (S : List Nat) (v : Value) (w : World) (h : SlOf spT S w v spans) (hN : spans.length ≤ 900) : AnsR Tryz.prog 38 [vL l, v] [.row 27 7 ((pieceL l spans).map encL)] w := by
  replace h := h.avoid (S' := []) (fun b hb => by cases hb)
  have hc1 := common_len [l.s] spans (norm_one_len l.s)
  have hm1 := minus_len [l.s] spans
  have hpl := piece_len l.s spans
  simp only [List.length_singleton] at hm1
  refine calls_plainB [.s (.agg (encL l)), .x v] Tryz.func38 rfl rfl (Nat.le_of_ble_eq_true rfl) rfl fun B hB => ?_
  repeat refine At.seq ?_
  refine At.region tab_ok ?_
  conv => whnf
  intro b2
  conv => whnf
  repeat refine At.seq ?_
  refine At.region tab_ok ?_
  conv => whnf
  intro v0
  conv => whnf
  repeat refine At.seq ?_
  refine At.region tab_ok ?_
  conv => whnf
  refine ansR_call b41 (rd1 (nopS _)) (fun w' hw => common_c [l.s] spans [] [] v0 v w' (slS [l.s] (hw.row (id := 1) rfl) (by simp)) (h.fr hw.fr) (by simp) (by omega)) ?_
  intro v1
  conv => whnf
  refine ansR_call b76 (rd1 (nopS _)) (fun w' hw => minus_c [l.s] spans [] [] v0 v w' (slS [l.s] (hw.row (id := 1) rfl) (by simp)) (h.fr hw.fr) (by simp) (by omega)) ?_
  intro v2
  conv => whnf
  intro v3
  conv => whnf
  refine ansR_call b81 (rd1 (nopS _)) (fun w' hw => concat_c [common [l.s] spans, minus [l.s] spans] v3 w' (two_sl (hw.row (id := 4) rfl) (slS _ (hw.row (id := 2) rfl) (by omega)) (slS _ (hw.row (id := 3) rfl) (by omega))) (by simp) (by simp [sumLen]; omega)) ?_
  intro v4
  conv => whnf
  repeat refine At.seq ?_
  refine At.region tab_ok ?_
  conv => whnf
  refine row_call (id := 5) b99 rfl (fun r v' L' => r = .tup [] ∧ v' = v4 ∧ L' = (pieceSp l.s spans).map encS) (fun w' hw => ?_) ?_
  · refine (sortF_c ([common [l.s] spans, minus [l.s] spans].flatten) v4 w' (hw.row (id := 5) rfl) (fun s hs => ?_) (by simp; omega)).mono ?_
    · simp only [List.flatten_cons, List.flatten_nil, List.append_nil] at hs
      have : valid s = true := (List.mem_append.1 hs).elim (fun h => common_valid s h) (fun h => (minus_spec [l.s] spans).2.1 s h)
      have := valid_iff.1 this
      omega
    · rintro e w'' ⟨ys, he, h1, h2, h3, h4⟩
      have e1 : ys = pieceSp l.s spans := piece_of (by simpa using h1) h2
      subst e1
      exact ⟨.tup [], v4, _, he, ⟨rfl, rfl, rfl⟩, h3, h4, fun b hb => .inl hb⟩
  rintro r v5 L' ⟨rfl, rfl, rfl⟩ hsl
  refine ⟨fun v hv => (by cases hv), nopS _, ?_⟩
  conv => whnf
  generalize hps : pieceSp l.s spans = ps at *
  have hpL : pieceL l spans = ps.map (withSp l) := by unfold pieceL; rw [hps]
  repeat refine At.seq ?_
  refine At.region tab_ok ?_
  conv => whnf
  repeat refine At.seq ?_
  refine At.region tab_ok ?_
  conv => whnf
  refine ⟨rfl, ?_⟩
  conv => whnf
  repeat refine At.seq ?_
  refine At.block ?_
  refine At.loopH (fun p : Nat × Value × Span => { N := Tryz.f38.ntmps, sl := [(2, some (.s (.c (.p 0 b2 0)))), (7, some (.s (.c (.o 6 p.2.1)))), (23, some (.s (.c (.o 5 v5)))), (24, some (.i ps.length)), (25, some (.i p.1))], gl := [], hp := [(6, .row p.2.1 27 7 (((ps.take p.1).map (withSp l)).map encL)), (5, .row v5 25 3 (ps.map encS)), (0, .box b2 27 (encL (withSp l p.2.2)))], S := [], ws := w }) (fun p : Nat × Value × Span => p.1 ≤ ps.length) (fun p : Nat × Value × Span => ps.length - p.1)
    (fun w' hw => ⟨(0, .slice none 0 0, l.s), Nat.zero_le _, Le.of rfl rfl ⟨rfl, rfl, rfl, congrArg (Value.int .i64) (by simp), rfl, trivial⟩, Holds.nilK hw [5,0] rfl rfl rfl, ⟨⟨_, _, rfl⟩, ⟨_, _, _, rfl⟩, ⟨_, _, _, rfl⟩, trivial⟩, ⟨(nopL _).okH, (nopS _).okH, trivial⟩⟩) ?_
  rintro ⟨k, vo, cur⟩ hk
  simp only at hk ⊢
  repeat refine At.seq ?_
  refine At.region tab_ok ?_
  conv => whnf
  repeat refine At.seq ?_
  refine At.cond rfl (fun hc => At.skip ?_) (fun hc => At.exit ?_)
  · have hlts : k < ps.length := by have := of_decide_eq_true hc; (try simp only [List.length_map] at this); omega
    obtain ⟨s, hs⟩ : ∃ x, ps[k]? = some x := ⟨_, List.getElem?_eq_getElem hlts⟩
    have hst : (ps.take (k + 1)).map (withSp l) = (ps.take k).map (withSp l) ++ [withSp l s] := by rw [List.take_add_one, hs]; simp
    have hlk : ((ps.take k).map (withSp l)).length = k := by simp; omega
    generalize (ps.take k).map (withSp l) = out at *
    repeat refine At.seq ?_
    refine At.block ?_
    repeat refine At.seq ?_
    refine At.region tab_ok ?_
    conv => whnf
    refine ⟨rfl, ?_⟩
    conv => whnf
    refine ⟨by omega, ?_⟩
    conv => whnf
    refine ⟨by (try simp only [List.length_map]); omega, ?_⟩
    conv => whnf
    refine ⟨encS s, ⟨rfl, rfl, by omega, by rw [Int.toNat_natCast, List.getElem?_map, hs]; rfl⟩, ?_⟩
    conv => whnf
    intro b9
    conv => whnf
    repeat refine At.seq ?_
    refine At.region tab_ok ?_
    conv => whnf
    repeat refine At.seq ?_
    refine At.region tab_ok ?_
    conv => whnf
    intro v6
    conv => whnf
    refine ⟨rfl, ?_⟩
    conv => whnf
    refine ⟨⟨rfl, by simp; omega⟩, ?_⟩
    conv => whnf
    intro v7
    conv => whnf
    repeat refine At.seq ?_
    refine At.region tab_ok ?_
    conv => whnf
    refine ⟨⟨by omega, by omega⟩, ?_⟩
    conv => whnf
    refine At.nextH fun w' hw => ⟨(k + 1, v7, s), by simp only; omega, by simp only; omega, Le.of rfl rfl ⟨rfl, rfl, rfl, rfl, rfl, trivial⟩, hw.keep [6, 5, 0] (by simp only; rw [hst, List.map_append]; rfl) rfl rfl, ⟨⟨_, _, rfl⟩, ⟨_, _, _, rfl⟩, ⟨_, _, _, rfl⟩, trivial⟩, ⟨(nopL _).okH, (nopS _).okH, trivial⟩⟩
  have hge : k = ps.length := by have := of_decide_eq_false hc; omega
  subst hge
  rw [List.take_length]
  repeat refine At.seq ?_
  refine At.region tab_ok ?_
  conv => whnf
  repeat refine At.seq ?_
  refine At.ret (At.doneB tab_ok hB _ rfl fun w' hw => ansR_row (id := 6) hw (by rw [hpL]; rfl) rfl rfl)
end Go.Proofs.YtjilbkioieicbaaGreat

/- Walks: what has come back. -/
namespace Go.Proofs.YtjilbkioieicbaaGreat
open Go.Vc Rt
set_option linter.unusedVariables false
set_option linter.unusedSimpArgs false
/-- A piece that has come back. -/
def bkB (d : Deed) (seen : List Int) (p : Lot) : Bool := decide (p.o = d.author) && !decide (p.h = p.o) && decide (p.p = -1) && hasS d.spans p.s.m p.s.f && decide (p.u < ofK seen p.h)
def bkL (d : Deed) (seen : List Int) (p : Lot) : Lot := if bkB d seen p then { p with h := p.o, u := 0 } else p
def bkPieces (d : Deed) (seen : List Int) (l : Lot) : List Lot := (pieceL l d.spans).map (bkL d seen)
def backRun (d : Deed) (seen : List Int) (L : List Lot) : List Lot := (L.flatMap (bkPieces d seen)).foldl joinL []
theorem pieceL_len (l : Lot) (spans : List Span) : (pieceL l spans).length ≤ 2 * spans.length + 1 := by unfold pieceL; rw [List.length_map]; exact piece_len l.s spans
theorem backs_len (d : Deed) (seen : List Int) : ∀ L : List Lot, (L.flatMap (bkPieces d seen)).length ≤ L.length * (2 * d.spans.length + 1)
  | [] => by simp
  | l :: L => by
    have ih := backs_len d seen L
    have : (bkPieces d seen l).length ≤ 2 * d.spans.length + 1 := by unfold bkPieces; rw [List.length_map]; exact pieceL_len l d.spans
    rw [List.flatMap_cons, List.length_append, List.length_cons, Nat.add_mul, Nat.one_mul]
    omega
theorem back_c (L : List Lot) (d : Deed) (seen : List Int) (v u z : Value) (w : World) (h : SlOf loT [] w v L) (hu : SlOf spT [] w u d.spans) (hz : SlOf intT [] w z seen) (hN : L.length ≤ 10000) (hS : d.spans.length ≤ 20) : AnsR Tryz.prog 23 [v, vD d u, z] [.row 27 7 ((backRun d seen L).map encL)] w := by
  have hl := h.len
  have hbl : ∀ k, k ≤ L.length → (((L.take k).flatMap (bkPieces d seen)).foldl joinL []).length ≤ k * 41 := fun k hk => by
    have h1 := joinsL_len ((L.take k).flatMap (bkPieces d seen)) []
    have h2 := backs_len d seen (L.take k)
    have h3 : (L.take k).length * (2 * d.spans.length + 1) ≤ k * 41 := Nat.mul_le_mul (by simp; omega) (by omega)
    simp only [List.length_nil] at h1
    omega
  refine calls_plainB [.x v, .s (.agg (encD d u)), .x z] Tryz.func23 rfl rfl (Nat.le_of_ble_eq_true rfl) rfl fun B hB => ?_
  repeat refine At.seq ?_
  refine At.region tab_ok ?_
  conv => whnf
  refine ⟨hu.sl.one, ?_⟩
  conv => whnf
  intro b4
  conv => whnf
  repeat refine At.seq ?_
  refine At.region tab_ok ?_
  conv => whnf
  repeat refine At.seq ?_
  refine At.region tab_ok ?_
  conv => whnf
  refine ⟨h.sl, ?_⟩
  conv => whnf
  repeat refine At.seq ?_
  refine At.block ?_
  refine At.loopH (fun p : Nat × Value => { N := Tryz.f23.ntmps, sl := [(2, some (.x z)), (4, some (.s (.c (.p 0 b4 0)))), (7, some (.s (.c (.o 1 p.2)))), (14, some (.x v)), (15, some (.i L.length)), (16, some (.i p.1))], gl := [], hp := [(1, .row p.2 27 7 ((((L.take p.1).flatMap (bkPieces d seen)).foldl joinL []).map encL)), (0, .box b4 44 (encD d u))], S := [], ws := w }) (fun p : Nat × Value => p.1 ≤ L.length) (fun p : Nat × Value => L.length - p.1)
    (fun w' hw => ⟨(0, .slice none 0 0), Nat.zero_le _, Le.of rfl rfl ⟨rfl, rfl, rfl, rfl, congrArg (Value.int .i64) (by rw [hl]), rfl, trivial⟩, hw.nil rfl rfl rfl, ⟨⟨_, _, rfl⟩, ⟨_, _, _, rfl⟩, trivial⟩, ⟨(nopL _).okH, trivial⟩⟩) ?_
  rintro ⟨k, vo⟩ hk
  simp only at hk ⊢
  repeat refine At.seq ?_
  refine At.region tab_ok ?_
  conv => whnf
  repeat refine At.seq ?_
  refine At.cond rfl (fun hc => At.skip ?_) (fun hc => At.exit ?_)
  · have hlt : k < L.length := by have := of_decide_eq_true hc; omega
    obtain ⟨l, hl_1⟩ : ∃ x, L[k]? = some x := ⟨_, List.getElem?_eq_getElem hlt⟩
    have hst : ((L.take (k + 1)).flatMap (bkPieces d seen)).foldl joinL [] = ((pieceL l d.spans).map (bkL d seen)).foldl joinL (((L.take k).flatMap (bkPieces d seen)).foldl joinL []) := by
      rw [List.take_add_one, hl_1, List.flatMap_append, List.foldl_append]; simp [bkPieces]
    have hb1 := hbl k hk
    generalize ((L.take k).flatMap (bkPieces d seen)).foldl joinL [] = out0 at *
    have hpl := pieceL_len l d.spans
    repeat refine At.seq ?_
    refine At.block ?_
    repeat refine At.seq ?_
    refine At.region tab_ok ?_
    conv => whnf
    refine ⟨by omega, ?_⟩
    conv => whnf
    refine ⟨by omega, ?_⟩
    conv => whnf
    refine ⟨encL l, fun w' hw => h.load (n := 7) hw.fr hl_1 rfl, ?_⟩
    conv => whnf
    intro b9
    conv => whnf
    repeat refine At.seq ?_
    refine At.region tab_ok ?_
    conv => whnf
    refine ansR_call b113 (rd1 (nopL _)) (fun w' hw => pieces_c l d.spans [] u w' (hu.fr hw.fr) (by omega)) ?_
    intro v1
    conv => whnf
    generalize pieceL l d.spans = ps at *
    refine ⟨rfl, ?_⟩
    conv => whnf
    repeat refine At.seq ?_
    refine At.block ?_
    refine At.loopH (fun p : Nat × Value => { N := Tryz.f23.ntmps, sl := [(2, some (.x z)), (4, some (.s (.c (.p 0 b4 0)))), (7, some (.s (.c (.o 1 p.2)))), (14, some (.x v)), (15, some (.i L.length)), (16, some (.i k)), (23, some (.s (.c (.o 3 v1)))), (24, some (.i ps.length)), (25, some (.i p.1))], gl := [], hp := [(3, .row v1 27 7 (ps.map encL)), (1, .row p.2 27 7 ((((ps.take p.1).map (bkL d seen)).foldl joinL out0).map encL)), (0, .box b4 44 (encD d u))], S := [], ws := w }) (fun p : Nat × Value => p.1 ≤ ps.length) (fun p : Nat × Value => ps.length - p.1)
      (fun w' hw => ⟨(0, vo), Nat.zero_le _, Le.of rfl rfl ⟨rfl, rfl, rfl, rfl, rfl, rfl, rfl, congrArg (Value.int .i64) (by simp), rfl, trivial⟩, hw.keep [3, 1, 0] rfl rfl rfl, ⟨⟨_, _, rfl⟩, ⟨_, _, _, rfl⟩, ⟨_, _, _, rfl⟩, trivial⟩, ⟨(nopL _).okH, (nopL _).okH, trivial⟩⟩) ?_
    rintro ⟨j, vi⟩ hj
    simp only at hj ⊢
    repeat refine At.seq ?_
    refine At.region tab_ok ?_
    conv => whnf
    repeat refine At.seq ?_
    refine At.cond rfl (fun hc => At.skip ?_) (fun hc => At.exit ?_)
    · have hlt : j < ps.length := by have := of_decide_eq_true hc; (try simp only [List.length_map] at this); omega
      obtain ⟨x, hx⟩ : ∃ x, ps[j]? = some x := ⟨_, List.getElem?_eq_getElem hlt⟩
      have hol := joinsL_len ((ps.take j).map (bkL d seen)) out0
      have hnx : ((ps.take (j + 1)).map (bkL d seen)).foldl joinL out0 = joinL (((ps.take j).map (bkL d seen)).foldl joinL out0) (bkL d seen x) := by rw [List.take_add_one, hx, List.map_append, List.foldl_append]; rfl
      generalize ((ps.take j).map (bkL d seen)).foldl joinL out0 = out at *
      simp only [List.length_map, List.length_take] at hol
      obtain ⟨r, hr⟩ := lastL out
      have hml : (out.map encL).length = out.length := by simp
      have hr' : ∀ {q : Int}, q = out.length - 1 → 0 ≤ q → (out.map encL)[q.toNat]? = some (encL r) := fun {q} e h0 => by
        rw [List.getElem?_map, show q.toNat = out.length - 1 by omega, hr (by omega)]; rfl
      repeat refine At.seq ?_
      refine At.block ?_
      repeat refine At.seq ?_
      refine At.region tab_ok ?_
      conv => whnf
      refine ⟨rfl, ?_⟩
      conv => whnf
      refine ⟨by omega, ?_⟩
      conv => whnf
      refine ⟨by (try simp only [List.length_map]); omega, ?_⟩
      conv => whnf
      refine ⟨encL x, ⟨rfl, rfl, by omega, by rw [Int.toNat_natCast, List.getElem?_map, hx]; rfl⟩, ?_⟩
      conv => whnf
      intro b11
      conv => whnf
      repeat refine At.seq ?_
      refine At.region tab_ok ?_
      conv => whnf
      repeat refine At.seq ?_
      refine At.draw tab_ok mixed (by kernel_rfl) ?_
      conv => whnf
      refine ⟨.b (hasS d.spans x.s.m x.s.f), by simp only [gimp]; intro _; exact ans_quiet b114 (fun w' hw => has_c d.spans x.s.m x.s.f [] u w' (hu.fr hw.fr)), ?_⟩
      conv => whnf
      refine ⟨.i (ofK seen x.h), by simp only [gimp]; intro _; exact ans_quiet b79 (fun w' hw => of_c seen x.h [] z w' (hz.fr hw.fr)), ?_⟩
      conv => whnf
      repeat refine At.seq ?_
      refine At.join (fun q : Unit => { N := Tryz.f23.ntmps, sl := [(2, some (.x z)), (4, some (.s (.c (.p 0 b4 0)))), (7, some (.s (.c (.o 1 vi)))), (11, some (.s (.c (.p 4 b11 0)))), (14, some (.x v)), (15, some (.i L.length)), (16, some (.i k)), (23, some (.s (.c (.o 3 v1)))), (24, some (.i ps.length)), (25, some (.i j))], gl := [], hp := [(4, .box b11 27 (encL (bkL d seen x))), (3, .row v1 27 7 (ps.map encL)), (1, .row vi 27 7 (out.map encL)), (0, .box b4 44 (encD d u))], S := [], ws := w }) (fun q : Unit => True) ?_ ?_
      · repeat refine At.seq ?_
        refine At.cond rfl (fun hq => ?_) (fun hq => ?_)
        · have hb : bkB d seen x = true := by
            simp only [band] at hq
            unfold bkB; exact hq
          repeat refine At.seq ?_
          refine At.region tab_ok ?_
          conv => whnf
          refine At.meet fun w' hw => ⟨(), trivial, Le.of rfl rfl ⟨rfl, rfl, rfl, rfl, rfl, rfl, rfl, rfl, rfl, rfl, trivial⟩, hw.keep [4, 3, 1, 0] (by unfold bkL; rw [if_pos hb]; rfl) rfl rfl, ⟨⟨_, _, rfl⟩, ⟨_, _, _, rfl⟩, ⟨_, _, rfl⟩, ⟨_, _, _, rfl⟩, trivial⟩, ⟨(nopL _).okH, (nopL _).okH, trivial⟩⟩
        · have hb : bkB d seen x = false := by
            simp only [band] at hq
            unfold bkB; exact hq
          refine At.skip ?_
          refine At.meet fun w' hw => ⟨(), trivial, Le.of rfl rfl ⟨rfl, rfl, rfl, rfl, rfl, rfl, rfl, rfl, rfl, rfl, trivial⟩, hw.keep [4, 3, 1, 0] (by unfold bkL; rw [if_neg (by rw [hb]; simp)]; rfl) rfl rfl, ⟨⟨_, _, rfl⟩, ⟨_, _, _, rfl⟩, ⟨_, _, rfl⟩, ⟨_, _, _, rfl⟩, trivial⟩, ⟨(nopL _).okH, (nopL _).okH, trivial⟩⟩
      intro _ _
      generalize bkL d seen x = y at *
      repeat refine At.seq ?_
      refine At.region tab_ok ?_
      conv => whnf
      refine ⟨rfl, ?_⟩
      conv => whnf
      repeat refine At.seq ?_
      refine At.draw tab_ok mixed (by kernel_rfl) ?_
      conv => whnf
      refine ⟨by simp only [gimp]; intros; rw [hml]; exact ⟨by omega, by omega⟩, ?_⟩
      conv => whnf
      refine ⟨by simp only [gimp]; intros; trivial, ?_⟩
      conv => whnf
      refine ⟨by simp only [gimp]; intro h1; have h1 := of_decide_eq_true h1; omega, ?_⟩
      conv => whnf
      refine ⟨by simp only [gimp]; intros; omega, ?_⟩
      conv => whnf
      refine ⟨encL r, by simp only [gimp]; intro h1; have h1 := of_decide_eq_true h1; exact ⟨trivial, trivial, by omega, hr' (by rw [hml]) (by omega)⟩, ?_⟩
      conv => whnf
      refine ⟨.b (alike r y), by simp only [gimp]; intro _; exact ans_quiet b115 (fun w' hw => alike_c r y w'), ?_⟩
      conv => whnf
      repeat refine At.seq ?_
      refine At.cond rfl (fun hq => ?_) (fun hq => ?_)
      · simp only [band, Bool.and_eq_true, decide_eq_true_eq] at hq
        have h0 : 0 < out.length := by rw [hml] at hq; omega
        have hjs := joinL_set h0 (hr h0) hq.2
        have hidx : (((out.map encL).length : Int) - 1).toNat = out.length - 1 := by rw [hml]; omega
        repeat refine At.seq ?_
        refine At.region tab_ok ?_
        conv => whnf
        refine ⟨by rw [hml]; exact ⟨by omega, by omega⟩, ?_⟩
        conv => whnf
        refine ⟨rfl, ?_⟩
        conv => whnf
        refine ⟨by omega, ?_⟩
        conv => whnf
        refine ⟨by omega, ?_⟩
        conv => whnf
        refine ⟨encL r, ⟨rfl, rfl, by omega, hr' (by rw [hml]) (by omega)⟩, ?_⟩
        conv => whnf
        refine At.exit ?_
        repeat refine At.seq ?_
        refine At.region tab_ok ?_
        conv => whnf
        refine ⟨⟨by omega, by omega⟩, ?_⟩
        conv => whnf
        refine At.nextH fun w' hw => ⟨(j + 1, vi), by simp only; omega, by simp only; omega, Le.of rfl rfl ⟨rfl, rfl, rfl, rfl, rfl, rfl, rfl, rfl, rfl, trivial⟩, hw.keep [3, 1, 0] (by rw [hnx, hjs, List.map_set, ← hidx]; rfl) rfl rfl, ⟨⟨_, _, rfl⟩, ⟨_, _, _, rfl⟩, ⟨_, _, _, rfl⟩, trivial⟩, ⟨(nopL _).okH, (nopL _).okH, trivial⟩⟩
      · have hja : joinL out y = out ++ [y] := joinL_app hr fun h0 => by
          simp only [band, Bool.and_eq_false_iff, decide_eq_false_iff_not] at hq
          rcases hq with hq | hq
          · rw [hml] at hq; omega
          · exact hq
        refine At.skip ?_
        repeat refine At.seq ?_
        refine At.region tab_ok ?_
        conv => whnf
        intro v2
        conv => whnf
        refine ⟨rfl, ?_⟩
        conv => whnf
        refine ⟨⟨rfl, by simp; omega⟩, ?_⟩
        conv => whnf
        intro v3
        conv => whnf
        repeat refine At.seq ?_
        refine At.region tab_ok ?_
        conv => whnf
        refine ⟨⟨by omega, by omega⟩, ?_⟩
        conv => whnf
        refine At.nextH fun w' hw => ⟨(j + 1, v3), by simp only; omega, by simp only; omega, Le.of rfl rfl ⟨rfl, rfl, rfl, rfl, rfl, rfl, rfl, rfl, rfl, trivial⟩, hw.keep [3, 1, 0] (by rw [hnx, hja, List.map_append]; rfl) rfl rfl, ⟨⟨_, _, rfl⟩, ⟨_, _, _, rfl⟩, ⟨_, _, _, rfl⟩, trivial⟩, ⟨(nopL _).okH, (nopL _).okH, trivial⟩⟩
    have hge : j = ps.length := by have := of_decide_eq_false hc; omega
    subst hge
    rw [List.take_length] at *
    repeat refine At.seq ?_
    refine At.region tab_ok ?_
    conv => whnf
    refine ⟨⟨by omega, by omega⟩, ?_⟩
    conv => whnf
    refine At.nextH fun w' hw => ⟨(k + 1, vi), by simp only; omega, by simp only; omega, Le.of rfl rfl ⟨rfl, rfl, rfl, rfl, rfl, rfl, trivial⟩, hw.keep [1, 0] (by rw [hst]; rfl) rfl rfl, ⟨⟨_, _, rfl⟩, ⟨_, _, _, rfl⟩, trivial⟩, ⟨(nopL _).okH, trivial⟩⟩
  have hge : k = L.length := by have := of_decide_eq_false hc; omega
  subst hge
  rw [List.take_length]
  repeat refine At.seq ?_
  refine At.region tab_ok ?_
  conv => whnf
  repeat refine At.seq ?_
  refine At.ret (At.doneB tab_ok hB _ rfl fun w' hw => ansR_row (id := 1) hw rfl rfl rfl)
end Go.Proofs.YtjilbkioieicbaaGreat

/- Walks: rights.Do, lease.Do. -/
namespace Go.Proofs.YtjilbkioieicbaaGreat
open Go.Vc Rt
set_option linter.unusedVariables false
set_option linter.unusedSimpArgs false
theorem cloneL_c (xs : List Lot) (S : List Nat) (v : Value) (w : World) (h : SlOf loT S w v xs) (hB : xs.length ≤ 1000000) : AnsR Tryz.prog 22 [v] [.row 27 7 (xs.map encL)] w := by
  replace h := h.avoid (S' := []) (fun b hb => by cases hb)
  refine calls_plainB [.x v] Tryz.func22 rfl rfl (Nat.le_of_ble_eq_true rfl) rfl fun B hB => ?_
  repeat refine At.seq ?_
  refine At.region tab_ok ?_
  conv => whnf
  repeat refine At.seq ?_
  refine At.region tab_ok ?_
  conv => whnf
  refine ⟨h.sl, ?_⟩
  conv => whnf
  repeat refine At.seq ?_
  refine At.cond rfl (fun hq => ?_) (fun hq => ?_)
  · have hx : xs = [] := by
      obtain ⟨a, n, c, rfl, hnil, _⟩ := h.sl
      have hl := h.len
      cases a with
      | none => simp [slen] at hl; exact List.eq_nil_of_length_eq_zero (by omega)
      | some a => simp [isNilS] at hq
    subst hx
    repeat refine At.seq ?_
    refine At.region tab_ok ?_
    conv => whnf
    repeat refine At.seq ?_
    refine At.ret (At.doneB tab_ok hB _ rfl fun w' hw => ansR_nil hw rfl rfl)
  · refine At.skip ?_
    repeat refine At.seq ?_
    refine At.region tab_ok ?_
    conv => whnf
    intro v1
    conv => whnf
    refine ⟨xs.map encL, ⟨fun w' hw => (h.fr hw.fr).src encL_ints, nopL xs⟩, ?_⟩
    conv => whnf
    refine ⟨⟨rfl, by simp; omega⟩, ?_⟩
    conv => whnf
    intro v2
    conv => whnf
    repeat refine At.seq ?_
    refine At.ret (At.doneB tab_ok hB _ rfl fun w' hw => ansR_row (id := 0) hw rfl rfl rfl)
theorem ansR_rowP {st : St} {w w' : World} {i : Nat} {v : Value} {E size : Nat} {L : List (List CV)} {n : Int} (hw : Holds st w') (hl : Vc.look st.hp i = some (.row v E size L)) (hS : st.S = []) (hws : st.ws = w) :
    ∃ vs, Ending.returned (RV.tup [.c (.o i v), .c (.i n)]).den = .returned (toRV (resSV [.row E size L, .p (.c (.i n))] vs)).den ∧ resOk w.heap.size w' [.row E size L, .p (.c (.i n))] vs ∧ Ext w w' := by
  subst hws
  refine ⟨[v], rfl, ⟨hw.row hl, fun b hb => ?_, fun u hu => (by cases hu), rfl⟩, by have := hw.fr; rw [hS] at this; exact this⟩
  rcases hw.fresh hl b hb with h | h
  · rw [hS] at h; cases h
  · exact h
theorem rdP {E size : Nat} {L : List (List CV)} {n : Int} (h : NoP L) : rdOk [.row E size L, .p (.c (.i n))] := ⟨h, rfl, trivial⟩
theorem rdo_c (L : List Lot) (d : Deed) (v u : Value) (w : World) (h : SlOf loT [] w v L) (hu : SlOf spT [] w u d.spans) (hN : L.length ≤ 1000000) (ho : DoOk L d) : AnsR Tryz.prog 24 [v, vD d u] [.row 27 7 ((doB L d).1.map encL), .p (.c (.i (doB L d).2))] w := by
  refine calls_plainB [.x v, .s (.agg (encD d u))] Tryz.func24 rfl rfl (Nat.le_of_ble_eq_true rfl) rfl fun B hB => ?_
  repeat refine At.seq ?_
  refine At.region tab_ok ?_
  conv => whnf
  refine ⟨hu.sl.one, ?_⟩
  conv => whnf
  intro b3
  conv => whnf
  repeat refine At.seq ?_
  refine At.region tab_ok ?_
  conv => whnf
  refine ansR_call b73 (rd1 (nopL _)) (fun w' hw => cloneL_c L [] v w' (h.fr hw.fr) hN) ?_
  intro v1
  conv => whnf
  intro b6
  conv => whnf
  repeat refine At.seq ?_
  refine At.region tab_ok ?_
  conv => whnf
  refine bk_call (i0 := 2) (i1 := 1) (L := L) (L' := (doB L d).1) (r := .i (doB L d).2) b66 rfl rfl (by decide) rfl (fun w' hw hb => do_c L d b6 v1 u w' hb ((hw.lift hu).avoid fun c hc => .inl ?_) ho) ?_
  · simp only [St.blks, List.flatMap_cons, List.flatMap_nil, LO.blks, List.mem_append, List.mem_singleton]
    rcases List.mem_cons.1 hc with rfl | hc
    · simp
    · simp [hc]
  rintro v2 hsl2
  conv => whnf
  repeat refine At.seq ?_
  refine At.region tab_ok ?_
  conv => whnf
  repeat refine At.seq ?_
  refine At.ret (At.doneB tab_ok hB _ rfl fun w' hw => ansR_rowP (i := 1) hw rfl rfl rfl)
/-- A lot of which coins of a deed are held too late. -/
def lateA (d : Deed) (l : Lot) : Bool := decide (l.h = d.author) && !decide (l.o = d.author) && decide (l.u < d.day)
def lateB (d : Deed) (l : Lot) : Bool := lateA d l && decide (0 < (common [l.s] d.spans).length)
def freeL (d : Deed) (seen : List Int) (L : List Lot) : List Lot := if d.kind = 0 then L else backRun d seen L
def leaseDo (d : Deed) (seen : List Int) (L : List Lot) : List Lot × Int :=
  if (doB (freeL d seen L) d).2 = 0 then (if d.kind ≠ 0 ∧ L.any (lateB d) = true then (L, 25) else ((doB (freeL d seen L) d).1, 0)) else (L, (doB (freeL d seen L) d).2)
theorem leaseDo20_c (L : List Lot) (d : Deed) (seen : List Int) (v u z : Value) (w : World) (h : SlOf loT [] w v L) (hu : SlOf spT [] w u d.spans) (hz : SlOf intT [] w z seen) (hN : L.length ≤ 10000) (hS : d.spans.length ≤ 20) (hF : (freeL d seen L).length ≤ 100000) (ho : DoOk (freeL d seen L) d) :
    AnsR Tryz.prog 13 [v, vD d u, z] [.row 27 7 ((leaseDo d seen L).1.map encL), .p (.c (.i (leaseDo d seen L).2))] w := by
  have hl := h.len
  refine calls_plainB [.x v, .s (.agg (encD d u)), .x z] Tryz.func13 rfl rfl (Nat.le_of_ble_eq_true rfl) rfl fun B hB => ?_
  repeat refine At.seq ?_
  refine At.region tab_ok ?_
  conv => whnf
  refine ⟨hu.sl.one, ?_⟩
  conv => whnf
  intro b4
  conv => whnf
  repeat refine At.seq ?_
  refine At.region tab_ok ?_
  conv => whnf
  refine ansR_call b73 (rd1 (nopL _)) (fun w' hw => cloneL_c L [] v w' (h.fr hw.fr) (by omega)) ?_
  intro v1
  conv => whnf
  repeat refine At.seq ?_
  refine At.region tab_ok ?_
  conv => whnf
  repeat refine At.seq ?_
  refine At.region tab_ok ?_
  conv => whnf
  repeat refine At.seq ?_
  refine At.cond rfl (fun hq => ?_) (fun hq => ?_)
  · have hk : ¬ d.kind = 0 := by simpa using hq
    have hfr : freeL d seen L = backRun d seen L := by unfold freeL; rw [if_neg hk]
    rw [hfr] at ho hF
    have hdo : leaseDo d seen L = if (doB (backRun d seen L) d).2 = 0 then (if L.any (lateB d) = true then (L, 25) else ((doB (backRun d seen L) d).1, 0)) else (L, (doB (backRun d seen L) d).2) := by
      unfold leaseDo; rw [hfr]; simp [hk]
    rw [hdo] at hB
    repeat refine At.seq ?_
    refine At.region tab_ok ?_
    conv => whnf
    refine ansR_call b82 (rd1 (nopL _)) (fun w' hw => back_c L d seen v u z w' (h.fr hw.fr) (hu.fr hw.fr) (hz.fr hw.fr) hN hS) ?_
    intro v2
    conv => whnf
    generalize backRun d seen L = F at *
    repeat refine At.seq ?_
    refine At.region tab_ok ?_
    conv => whnf
    refine ansR_call b33 (rdP (nopL _)) (fun w' hw => rdo_c F d v2 u w' (slL F (hw.row (id := 2) rfl) (by omega)) (hu.fr hw.fr) (by omega) ho) ?_
    intro v3
    conv => whnf
    generalize doB F d = D at *
    obtain ⟨Q, er⟩ := D
    simp only at hdo hB ⊢
    repeat refine At.seq ?_
    refine At.region tab_ok ?_
    conv => whnf
    repeat refine At.seq ?_
    refine At.cond rfl (fun hq => ?_) (fun hq => ?_)
    · have her : ¬ er = 0 := by simpa using hq
      rw [if_neg her] at hB
      repeat refine At.seq ?_
      refine At.region tab_ok ?_
      conv => whnf
      repeat refine At.seq ?_
      refine At.ret (At.doneB tab_ok hB _ rfl fun w' hw => ansR_rowP (i := 1) hw rfl rfl rfl)
    · have her : er = 0 := by simpa using hq
      subst her
      refine At.skip ?_
      repeat refine At.seq ?_
      refine At.region tab_ok ?_
      conv => whnf
      refine ⟨h.sl, ?_⟩
      conv => whnf
      repeat refine At.seq ?_
      refine At.block ?_
      refine At.loopH (fun k : Nat => { N := Tryz.f13.ntmps, sl := [(4, some (.s (.c (.p 0 b4 0)))), (8, some (.s (.c (.o 1 v1)))), (10, some (.s (.c (.o 3 v3)))), (35, some (.x v)), (36, some (.i L.length)), (37, some (.i k))], gl := [], hp := [(3, .row v3 27 7 (Q.map encL)), (1, .row v1 27 7 (L.map encL)), (0, .box b4 44 (encD d u))], S := [], ws := w }) (fun k : Nat => k ≤ L.length ∧ ∀ j y, j < k → L[j]? = some y → lateB d y = false) (fun k : Nat => L.length - k)
        (fun w' hw => ⟨0, ⟨Nat.zero_le _, fun j y hj => by omega⟩, Le.of rfl rfl ⟨rfl, rfl, rfl, rfl, congrArg (Value.int .i64) (by rw [hl]), rfl, trivial⟩, hw.keep [3, 1, 0] rfl rfl rfl, ⟨⟨_, _, rfl⟩, ⟨_, _, _, rfl⟩, ⟨_, _, _, rfl⟩, trivial⟩, ⟨(nopL _).okH, (nopL _).okH, trivial⟩⟩) ?_
      intro k ⟨hk', hall⟩
      repeat refine At.seq ?_
      refine At.region tab_ok ?_
      conv => whnf
      repeat refine At.seq ?_
      refine At.cond rfl (fun hc => At.skip ?_) (fun hc => At.exit ?_)
      · have hlt : k < L.length := by have := of_decide_eq_true hc; (try simp only [List.length_map] at this); omega
        obtain ⟨x, hx⟩ : ∃ x, L[k]? = some x := ⟨_, List.getElem?_eq_getElem hlt⟩
        repeat refine At.seq ?_
        refine At.block ?_
        repeat refine At.seq ?_
        refine At.region tab_ok ?_
        conv => whnf
        refine ⟨by omega, ?_⟩
        conv => whnf
        refine ⟨by omega, ?_⟩
        conv => whnf
        refine ⟨encL x, fun w' hw => h.load (n := 7) hw.fr hx rfl, ?_⟩
        conv => whnf
        intro b13
        conv => whnf
        repeat refine At.seq ?_
        refine At.join (fun q : Unit => { N := Tryz.f13.ntmps, sl := [(4, some (.s (.c (.p 0 b4 0)))), (8, some (.s (.c (.o 1 v1)))), (10, some (.s (.c (.o 3 v3)))), (13, some (.s (.c (.p 4 b13 0)))), (14, some (.b (lateA d x))), (35, some (.x v)), (36, some (.i L.length)), (37, some (.i k))], gl := [], hp := [(4, .box b13 27 (encL x)), (3, .row v3 27 7 (Q.map encL)), (1, .row v1 27 7 (L.map encL)), (0, .box b4 44 (encD d u))], S := [], ws := w }) (fun q : Unit => True) ?_ ?_
        · repeat refine At.seq ?_
          refine At.region tab_ok ?_
          conv => whnf
          refine At.meet fun w' hw => ⟨(), trivial, Le.of rfl rfl ⟨rfl, rfl, rfl, rfl, congrArg Value.bool (by simp only [band]; unfold lateA; rfl), rfl, rfl, rfl, trivial⟩, hw.keep [4, 3, 1, 0] rfl rfl rfl, ⟨⟨_, _, rfl⟩, ⟨_, _, _, rfl⟩, ⟨_, _, _, rfl⟩, ⟨_, _, rfl⟩, trivial⟩, ⟨(nopL _).okH, (nopL _).okH, trivial⟩⟩
        intro _ _
        have hkd : decide (d.kind = 0) = false := decide_eq_false hk
        repeat refine At.seq ?_
        refine At.join (fun q : Unit => { N := Tryz.f13.ntmps, sl := [(4, some (.s (.c (.p 0 b4 0)))), (8, some (.s (.c (.o 1 v1)))), (10, some (.s (.c (.o 3 v3)))), (35, some (.x v)), (36, some (.i L.length)), (37, some (.i k)), (75, some (.b (lateB d x)))], gl := [], hp := [(3, .row v3 27 7 (Q.map encL)), (1, .row v1 27 7 (L.map encL)), (0, .box b4 44 (encD d u))], S := [], ws := w }) (fun q : Unit => True) ?_ ?_
        · unfold lateB
          repeat refine At.seq ?_
          refine At.regionG tab_ok ?_
          conv => whnf
          cases hA : lateA d x
          · conv => whnf
            refine At.meet fun w' hw => ⟨(), trivial, Le.of rfl rfl ⟨rfl, rfl, rfl, rfl, rfl, rfl, rfl, trivial⟩, hw.keep [3, 1, 0] rfl rfl rfl, ⟨⟨_, _, rfl⟩, ⟨_, _, _, rfl⟩, ⟨_, _, _, rfl⟩, trivial⟩, ⟨(nopL _).okH, (nopL _).okH, trivial⟩⟩
          · conv => whnf
            rw [hkd]
            conv => whnf
            intro r0
            conv => whnf
            refine ansR_call b41 (rd1 (nopS _)) (fun w' hw => common_c [x.s] d.spans [] [] r0 u w' (slS [x.s] (hw.row (id := 5) rfl) (by simp)) (hu.fr hw.fr) (by simp) (by omega)) ?_
            intro r1
            conv => whnf
            refine ⟨rfl, ?_⟩
            conv => whnf
            refine At.meet fun w' hw => ⟨(), trivial, Le.of rfl rfl ⟨rfl, rfl, rfl, rfl, rfl, rfl, congrArg Value.bool (by simp), trivial⟩, hw.keep [3, 1, 0] rfl rfl rfl, ⟨⟨_, _, rfl⟩, ⟨_, _, _, rfl⟩, ⟨_, _, _, rfl⟩, trivial⟩, ⟨(nopL _).okH, (nopL _).okH, trivial⟩⟩
        intro _ _
        repeat refine At.seq ?_
        refine At.cond rfl (fun hq => ?_) (fun hq => ?_)
        · repeat refine At.seq ?_
          refine At.region tab_ok ?_
          conv => whnf
          have hany : L.any (lateB d) = true := List.any_eq_true.2 ⟨x, List.mem_of_getElem? hx, hq⟩
          rw [if_pos rfl, if_pos hany] at hB
          repeat refine At.seq ?_
          refine At.ret (At.doneB tab_ok hB _ rfl fun w' hw => ansR_rowP (i := 1) hw rfl rfl rfl)
        · refine At.skip ?_
          repeat refine At.seq ?_
          refine At.region tab_ok ?_
          conv => whnf
          refine ⟨⟨by omega, by omega⟩, ?_⟩
          conv => whnf
          refine At.nextH fun w' hw => ⟨k + 1, ⟨by omega, fun j y hj hy => by rcases Nat.lt_or_ge j k with hj' | hj'; exact hall j y hj' hy; obtain rfl : j = k := (by omega); rw [hx] at hy; cases hy; exact hq⟩, by omega, Le.of rfl rfl ⟨rfl, rfl, rfl, rfl, rfl, rfl, trivial⟩, hw.keep [3, 1, 0] rfl rfl rfl, ⟨⟨_, _, rfl⟩, ⟨_, _, _, rfl⟩, ⟨_, _, _, rfl⟩, trivial⟩, ⟨(nopL _).okH, (nopL _).okH, trivial⟩⟩
      · have hge : k = L.length := by have := of_decide_eq_false hc; omega
        have hany : ¬ L.any (lateB d) = true := fun hc => by
          obtain ⟨y, hy, hb⟩ := List.any_eq_true.1 hc
          obtain ⟨j, hj⟩ := List.getElem?_of_mem hy
          have := hall j y (by have := (List.getElem?_eq_some_iff.1 hj).1; omega) hj
          rw [this] at hb; cases hb
        rw [if_pos rfl, if_neg hany] at hB
        repeat refine At.seq ?_
        refine At.region tab_ok ?_
        conv => whnf
        repeat refine At.seq ?_
        refine At.ret (At.doneB tab_ok hB _ rfl fun w' hw => ansR_rowP (i := 3) hw rfl rfl rfl)
  · have hk : d.kind = 0 := by simpa using hq
    have hfr : freeL d seen L = L := by unfold freeL; rw [if_pos hk]
    rw [hfr] at ho hF
    have hdo : leaseDo d seen L = if (doB L d).2 = 0 then ((doB L d).1, 0) else (L, (doB L d).2) := by
      unfold leaseDo; rw [hfr]; simp [hk]
    rw [hdo] at hB
    refine At.skip ?_
    repeat refine At.seq ?_
    refine At.region tab_ok ?_
    conv => whnf
    refine ansR_call b33 (rdP (nopL _)) (fun w' hw => rdo_c L d v1 u w' (slL L (hw.row (id := 1) rfl) (by omega)) (hu.fr hw.fr) (by omega) ho) ?_
    intro v3
    conv => whnf
    generalize doB L d = D at *
    obtain ⟨Q, er⟩ := D
    simp only at hdo hB ⊢
    repeat refine At.seq ?_
    refine At.region tab_ok ?_
    conv => whnf
    repeat refine At.seq ?_
    refine At.cond rfl (fun hq => ?_) (fun hq => ?_)
    · have her : ¬ er = 0 := by simpa using hq
      rw [if_neg her] at hB
      repeat refine At.seq ?_
      refine At.region tab_ok ?_
      conv => whnf
      repeat refine At.seq ?_
      refine At.ret (At.doneB tab_ok hB _ rfl fun w' hw => ansR_rowP (i := 1) hw rfl rfl rfl)
    · have her : er = 0 := by simpa using hq
      subst her
      refine At.skip ?_
      repeat refine At.seq ?_
      refine At.region tab_ok ?_
      conv => whnf
      refine ⟨h.sl, ?_⟩
      conv => whnf
      repeat refine At.seq ?_
      refine At.block ?_
      refine At.loopH (fun k : Nat => { N := Tryz.f13.ntmps, sl := [(4, some (.s (.c (.p 0 b4 0)))), (8, some (.s (.c (.o 1 v1)))), (10, some (.s (.c (.o 2 v3)))), (35, some (.x v)), (36, some (.i L.length)), (37, some (.i k))], gl := [], hp := [(2, .row v3 27 7 (Q.map encL)), (1, .row v1 27 7 (L.map encL)), (0, .box b4 44 (encD d u))], S := [], ws := w }) (fun k : Nat => k ≤ L.length) (fun k : Nat => L.length - k)
        (fun w' hw => ⟨0, Nat.zero_le _, Le.of rfl rfl ⟨rfl, rfl, rfl, rfl, congrArg (Value.int .i64) (by rw [hl]), rfl, trivial⟩, hw.keep [2, 1, 0] rfl rfl rfl, ⟨⟨_, _, rfl⟩, ⟨_, _, _, rfl⟩, ⟨_, _, _, rfl⟩, trivial⟩, ⟨(nopL _).okH, (nopL _).okH, trivial⟩⟩) ?_
      intro k hk'
      repeat refine At.seq ?_
      refine At.region tab_ok ?_
      conv => whnf
      repeat refine At.seq ?_
      refine At.cond rfl (fun hc => At.skip ?_) (fun hc => At.exit ?_)
      · have hlt : k < L.length := by have := of_decide_eq_true hc; (try simp only [List.length_map] at this); omega
        obtain ⟨x, hx⟩ : ∃ x, L[k]? = some x := ⟨_, List.getElem?_eq_getElem hlt⟩
        repeat refine At.seq ?_
        refine At.block ?_
        repeat refine At.seq ?_
        refine At.region tab_ok ?_
        conv => whnf
        refine ⟨by omega, ?_⟩
        conv => whnf
        refine ⟨by omega, ?_⟩
        conv => whnf
        refine ⟨encL x, fun w' hw => h.load (n := 7) hw.fr hx rfl, ?_⟩
        conv => whnf
        intro b13
        conv => whnf
        repeat refine At.seq ?_
        refine At.join (fun q : Unit => { N := Tryz.f13.ntmps, sl := [(4, some (.s (.c (.p 0 b4 0)))), (8, some (.s (.c (.o 1 v1)))), (10, some (.s (.c (.o 2 v3)))), (13, some (.s (.c (.p 3 b13 0)))), (14, some (.b (lateA d x))), (35, some (.x v)), (36, some (.i L.length)), (37, some (.i k))], gl := [], hp := [(3, .box b13 27 (encL x)), (2, .row v3 27 7 (Q.map encL)), (1, .row v1 27 7 (L.map encL)), (0, .box b4 44 (encD d u))], S := [], ws := w }) (fun q : Unit => True) ?_ ?_
        · repeat refine At.seq ?_
          refine At.region tab_ok ?_
          conv => whnf
          refine At.meet fun w' hw => ⟨(), trivial, Le.of rfl rfl ⟨rfl, rfl, rfl, rfl, congrArg Value.bool (by simp only [band]; unfold lateA; rfl), rfl, rfl, rfl, trivial⟩, hw.keep [3, 2, 1, 0] rfl rfl rfl, ⟨⟨_, _, rfl⟩, ⟨_, _, _, rfl⟩, ⟨_, _, _, rfl⟩, ⟨_, _, rfl⟩, trivial⟩, ⟨(nopL _).okH, (nopL _).okH, trivial⟩⟩
        intro _ _
        have hkd : decide (d.kind = 0) = true := decide_eq_true hk
        repeat refine At.seq ?_
        refine At.join (fun q : Unit => { N := Tryz.f13.ntmps, sl := [(4, some (.s (.c (.p 0 b4 0)))), (8, some (.s (.c (.o 1 v1)))), (10, some (.s (.c (.o 2 v3)))), (35, some (.x v)), (36, some (.i L.length)), (37, some (.i k)), (75, some (.b false))], gl := [], hp := [(2, .row v3 27 7 (Q.map encL)), (1, .row v1 27 7 (L.map encL)), (0, .box b4 44 (encD d u))], S := [], ws := w }) (fun q : Unit => True) ?_ ?_
        · repeat refine At.seq ?_
          refine At.regionG tab_ok ?_
          conv => whnf
          cases hA : lateA d x
          · conv => whnf
            refine At.meet fun w' hw => ⟨(), trivial, Le.of rfl rfl ⟨rfl, rfl, rfl, rfl, rfl, rfl, rfl, trivial⟩, hw.keep [2, 1, 0] rfl rfl rfl, ⟨⟨_, _, rfl⟩, ⟨_, _, _, rfl⟩, ⟨_, _, _, rfl⟩, trivial⟩, ⟨(nopL _).okH, (nopL _).okH, trivial⟩⟩
          · conv => whnf
            rw [hkd]
            conv => whnf
            refine At.meet fun w' hw => ⟨(), trivial, Le.of rfl rfl ⟨rfl, rfl, rfl, rfl, rfl, rfl, rfl, trivial⟩, hw.keep [2, 1, 0] rfl rfl rfl, ⟨⟨_, _, rfl⟩, ⟨_, _, _, rfl⟩, ⟨_, _, _, rfl⟩, trivial⟩, ⟨(nopL _).okH, (nopL _).okH, trivial⟩⟩
        intro _ _
        repeat refine At.seq ?_
        refine At.cond (t := false) rfl (fun hq => by cases hq) (fun hq => At.skip ?_)
        repeat refine At.seq ?_
        refine At.region tab_ok ?_
        conv => whnf
        refine ⟨⟨by omega, by omega⟩, ?_⟩
        conv => whnf
        refine At.nextH fun w' hw => ⟨k + 1, by omega, by omega, Le.of rfl rfl ⟨rfl, rfl, rfl, rfl, rfl, rfl, trivial⟩, hw.keep [2, 1, 0] rfl rfl rfl, ⟨⟨_, _, rfl⟩, ⟨_, _, _, rfl⟩, ⟨_, _, _, rfl⟩, trivial⟩, ⟨(nopL _).okH, (nopL _).okH, trivial⟩⟩
      · rw [if_pos rfl] at hB
        repeat refine At.seq ?_
        refine At.region tab_ok ?_
        conv => whnf
        repeat refine At.seq ?_
        refine At.ret (At.doneB tab_ok hB _ rfl fun w' hw => ansR_rowP (i := 2) hw rfl rfl rfl)
theorem leaseDo_c (L : List Lot) (d : Deed) (seen : List Int) (v u z : Value) (w : World) (h : SlOf loT [] w v L) (hu : SlOf spT [] w u d.spans) (hz : SlOf intT [] w z seen) (hN : L.length ≤ 10000) (hS : d.spans.length ≤ 8) (hF : (freeL d seen L).length ≤ 100000) (ho : DoOk (freeL d seen L) d) :
    AnsR Tryz.prog 13 [v, vD d u, z] [.row 27 7 ((leaseDo d seen L).1.map encL), .p (.c (.i (leaseDo d seen L).2))] w :=
  leaseDo20_c L d seen v u z w h hu hz hN (by omega) hF ho
end Go.Proofs.YtjilbkioieicbaaGreat


/- Coins that are lent for a time, in plain terms. -/
namespace Go.Proofs.YtjilbkioieicbaaGreat
open Go.Vc Rt
set_option linter.unusedVariables false
set_option linter.unusedSimpArgs false
/-! ### Cutting at all ends -/
def cutAll (ss : List Span) (L : List Lot) : List Lot := ss.foldl (fun L s => cutAt s L) L
theorem cutAll_spec : ∀ (ss : List Span) {L : List Lot}, Ord L → Ord (cutAll ss L) ∧ (∀ m n, sta (cutAll ss L) m n = sta L m n) ∧ (cutAll ss L).length ≤ L.length + 2 * ss.length ∧ (∀ m n, NoCut L m n → NoCut (cutAll ss L) m n) ∧ ∀ s ∈ ss, NoCut (cutAll ss L) s.m s.f ∧ NoCut (cutAll ss L) s.m s.t
  | [], L, h => ⟨h, fun m n => rfl, by simp [cutAll], fun m n h => h, fun s hs => by cases hs⟩
  | s :: ss, L, h => by
    obtain ⟨h1, h2, h3, h4, h5⟩ := cutAll_spec ss (cutAt_ord (s := s) h)
    have hl := cut_len s L
    refine ⟨h1, fun m n => (h2 m n).trans sta_cut, ?_, fun m n hn => h4 m n (split_keep (split_keep hn)), fun x hx => ?_⟩
    · show (cutAll ss (cutAt s L)).length ≤ _
      simp only [List.length_cons]; omega
    · rcases List.mem_cons.1 hx with rfl | hx
      · obtain ⟨a, b⟩ := cut_nocut (s := x) h
        exact ⟨h4 _ _ a, h4 _ _ b⟩
      · exact h5 x hx
theorem in_out {ss : List Span} {l : Lot} {A : List Lot} (h : ∀ s ∈ ss, NoCut A s.m s.f ∧ NoCut A s.m s.t) (hl : l ∈ A) {n : Int} (hn : inLot l.s.m n l = true) (hok : l.s.f < l.s.t) : Has ss l.s.m n ↔ Has ss l.s.m l.s.f := by
  obtain ⟨_, n1, n2⟩ := inLot_iff.1 hn
  constructor
  · rintro ⟨s, hs, h1, h2, h3⟩
    have := inSp_iff.1 (nocut_in (h s hs).1 (h s hs).2 hl (n := n) (by rw [h1]; exact hn) ⟨h2, h3⟩)
    exact ⟨s, hs, h1, by omega, by omega⟩
  · rintro ⟨s, hs, h1, h2, h3⟩
    have := inSp_iff.1 (nocut_in (h s hs).1 (h s hs).2 hl (n := l.s.f) (by rw [h1]; exact inLot_iff.2 ⟨rfl, by omega, by omega⟩) ⟨h2, h3⟩)
    exact ⟨s, hs, h1, by omega, by omega⟩
theorem hasS_iff {l : List Span} {m n : Int} : hasS l m n = true ↔ Has (norm l) m n := by
  rw [has_norm]
  unfold hasS inSpan
  rw [List.any_eq_true]
  simp only [Bool.and_eq_true, decide_eq_true_eq]
def bkS (d : Deed) (seen : List Int) (x : Sta) : Sta := if x.o = d.author ∧ x.h ≠ x.o ∧ x.p = -1 ∧ x.u < ofK seen x.h then ⟨x.o, x.o, 0, x.p⟩ else x
theorem bkL_s (d : Deed) (seen : List Int) : keepS (bkL d seen) := fun l => by unfold bkL; split <;> rfl
theorem bkL_in {d : Deed} {seen : List Int} {l : Lot} (h : Has (norm d.spans) l.s.m l.s.f) : stL (bkL d seen l) = bkS d seen (stL l) := by
  have hh := hasS_iff.2 h
  unfold bkL bkS bkB
  rw [hh]
  simp only [Bool.and_true, Bool.and_eq_true, Bool.not_eq_true', decide_eq_true_eq, decide_eq_false_iff_not]
  by_cases hc : ((l.o = d.author ∧ ¬ l.h = l.o) ∧ l.p = -1) ∧ l.u < ofK seen l.h
  · rw [if_pos hc, if_pos ⟨hc.1.1.1, hc.1.1.2, hc.1.2, hc.2⟩]; rfl
  · rw [if_neg hc, if_neg fun h => hc ⟨⟨⟨h.1, h.2.1⟩, h.2.2.1⟩, h.2.2.2⟩]
theorem bkL_out {d : Deed} {seen : List Int} {l : Lot} (h : ¬ Has (norm d.spans) l.s.m l.s.f) : bkL d seen l = l := by
  have hh : hasS d.spans l.s.m l.s.f = false := Bool.eq_false_iff.2 fun hc => h (hasS_iff.1 hc)
  unfold bkL bkB
  rw [hh]
  simp
open Classical in
noncomputable def backF (F : Int → Int → Option Sta) (d : Deed) (seen : List Int) (m n : Int) : Option Sta := if Has (norm d.spans) m n then (F m n).map (bkS d seen) else F m n
/-- Lots none of which reaches over an end of the spans. -/
theorem sta_back {d : Deed} {seen : List Int} {A : List Lot} (hA : Ord A) (hio : ∀ l ∈ A, ∀ n, inLot l.s.m n l = true → (Has (norm d.spans) l.s.m n ↔ Has (norm d.spans) l.s.m l.s.f)) : ∀ m n, sta (A.map (bkL d seen)) m n = backF (sta A) d seen m n := by
  intro m n
  have hm : ∀ l, inLot m n (bkL d seen l) = inLot m n l := fun l => inLot_s (bkL_s d seen l)
  induction A with
  | nil => unfold backF; simp [sta_nil]
  | cons l A ih =>
    have ih := ih (ord_tail hA) fun x hx => hio x (List.mem_cons_of_mem _ hx)
    rw [List.map_cons, sta_cons, hm]
    unfold backF at ih ⊢
    rw [sta_cons]
    by_cases hl : inLot m n l = true
    · have hm' := (inLot_iff.1 hl).1
      subst hm'
      have := hio l (List.mem_cons_self ..) n hl
      rw [if_pos hl, if_pos hl]
      by_cases hh : Has (norm d.spans) l.s.m n
      · rw [if_pos hh, bkL_in (this.1 hh)]; rfl
      · rw [if_neg hh, bkL_out fun h => hh (this.2 h)]
    · rw [if_neg hl, if_neg hl, ih]
/-! ### Pieces -/
theorem pieceSp_mem {s : Span} {spans : List Span} {x : Span} : x ∈ pieceSp s spans ↔ x ∈ common [s] spans ++ minus [s] spans := (isortF_perm _).mem_iff
theorem share {s : Span} {spans : List Span} {x y : Span} (hx : x ∈ common [s] spans ++ minus [s] spans) (hy : y ∈ common [s] spans ++ minus [s] spans) {n : Int} (h1 : x.f ≤ n ∧ n < x.t) (h2 : y.f ≤ n ∧ n < y.t) : x = y := by
  have mx := ((pieces_mark hx).2 n h1.1 h1.2).2.1
  have my := ((pieces_mark hy).2 n h2.1 h2.2).2.1
  have key : ∀ {l : List Span}, NF l → x ∈ l → y ∈ l → x = y := by
    intro l h
    induction l with
    | nil => intro h; cases h
    | cons z l ih =>
      intro hx hy
      have hz := (List.pairwise_cons.1 h.ord).1
      rcases List.mem_cons.1 hx with rfl | hx' <;> rcases List.mem_cons.1 hy with rfl | hy'
      · rfl
      · have := hz y hy'; unfold gap at this; omega
      · have := hz x hx'; unfold gap at this; omega
      · exact ih h.tail hx' hy'
  rcases List.mem_append.1 hx with hx | hx <;> rcases List.mem_append.1 hy with hy | hy
  · exact key (norm_nf _) hx hy
  · have a := (has_common.1 ⟨x, hx, rfl, h1.1, h1.2⟩).2
    have b := (((minus_spec [s] spans).2.2 y.m n).1 ⟨y, hy, rfl, h2.1, h2.2⟩).2
    rw [← my, mx] at b; exact (b a).elim
  · have a := (has_common.1 ⟨y, hy, rfl, h2.1, h2.2⟩).2
    have b := (((minus_spec [s] spans).2.2 x.m n).1 ⟨x, hx, rfl, h1.1, h1.2⟩).2
    rw [← mx, my] at b; exact (b a).elim
  · exact key (minus_spec [s] spans).1 hx hy
theorem nf_nodup {l : List Span} (h : NF l) : l.Nodup := by
  rw [List.nodup_iff_pairwise_ne]
  refine h.ord.imp_of_mem fun {a b} ha hb hg e => ?_
  subst e
  have := h.ne a ha
  unfold gap at hg; omega
theorem pieces_nodup (s : Span) (spans : List Span) : (common [s] spans ++ minus [s] spans).Nodup := by
  rw [List.nodup_append]
  refine ⟨nf_nodup (norm_nf _), nf_nodup (minus_spec [s] spans).1, fun x hx y hy e => ?_⟩
  subst e
  have hlt : x.f < x.t := valid_lt (common_valid x hx)
  exact (((minus_spec [s] spans).2.2 x.m x.f).1 ⟨x, hy, rfl, by omega, by omega⟩).2 (has_common.1 ⟨x, hx, rfl, by omega, by omega⟩).2
theorem pieces_ord (s : Span) (spans : List Span) : (pieceSp s spans).Pairwise (fun x y => x.t ≤ y.f) := by
  have hnd : (pieceSp s spans).Nodup := (isortF_perm _).nodup_iff.2 (pieces_nodup s spans)
  have hso := isortF_sorted (common [s] spans ++ minus [s] spans)
  rw [List.nodup_iff_pairwise_ne] at hnd
  refine (List.Pairwise.and hso hnd).imp_of_mem fun {x y} hx hy ⟨h1, h2⟩ => ?_
  have hx' := pieceSp_mem.1 hx
  have hy' := pieceSp_mem.1 hy
  have y1 := (pieces_mark hy').1
  rcases Int.lt_or_le y.f x.t with h | h
  · exact (h2 (share hx' hy' (n := y.f) ⟨h1, h⟩ ⟨by omega, y1⟩)).elim
  · exact h
theorem pieces_has {s : Span} {spans : List Span} (hv : valid s = true) {m n : Int} : Has (pieceSp s spans) m n ↔ s.m = m ∧ s.f ≤ n ∧ n < s.t := by
  constructor
  · rintro ⟨x, hx, rfl, h1, h2⟩
    exact ((pieces_mark (pieceSp_mem.1 hx)).2 n h1 h2).2
  · intro h
    have h0 : Has (norm [s]) m n := has_norm.2 ⟨s, by simp, hv, h⟩
    by_cases hb : Has (norm spans) m n
    · obtain ⟨x, hx, h'⟩ := has_common.2 ⟨h0, hb⟩
      exact ⟨x, pieceSp_mem.2 (List.mem_append_left _ hx), h'⟩
    · obtain ⟨x, hx, h'⟩ := ((minus_spec [s] spans).2.2 m n).2 ⟨h0, hb⟩
      exact ⟨x, pieceSp_mem.2 (List.mem_append_right _ hx), h'⟩
theorem pieces_io {s : Span} {spans : List Span} {x : Span} (hx : x ∈ pieceSp s spans) {n : Int} (h : x.f ≤ n ∧ n < x.t) : Has (norm spans) x.m n ↔ Has (norm spans) x.m x.f := by
  have hlt : x.f < x.t := (pieces_mark (pieceSp_mem.1 hx)).1
  rcases List.mem_append.1 (pieceSp_mem.1 hx) with hx | hx
  · exact ⟨fun _ => (has_common.1 ⟨x, hx, rfl, by omega, by omega⟩).2, fun _ => (has_common.1 ⟨x, hx, rfl, h.1, h.2⟩).2⟩
  · exact ⟨fun a => ((((minus_spec [s] spans).2.2 x.m n).1 ⟨x, hx, rfl, h.1, h.2⟩).2 a).elim, fun a => ((((minus_spec [s] spans).2.2 x.m x.f).1 ⟨x, hx, rfl, by omega, by omega⟩).2 a).elim⟩
theorem lotOk_valid {l : Lot} (h : lotOk l) : valid l.s = true := valid_iff.2 h
theorem pieceL_mem {l : Lot} {spans : List Span} {p : Lot} (hp : p ∈ pieceL l spans) : ∃ x ∈ pieceSp l.s spans, p = withSp l x := by
  obtain ⟨x, hx, rfl⟩ := List.mem_map.1 hp; exact ⟨x, hx, rfl⟩
theorem pieceL_ord {l : Lot} {spans : List Span} (h : lotOk l) : Ord (pieceL l spans) := by
  refine ⟨fun p hp => ?_, List.pairwise_map.2 ((pieces_ord l.s spans).imp_of_mem fun {x y} hx hy hxy => ?_)⟩
  · obtain ⟨x, hx, rfl⟩ := pieceL_mem hp
    obtain ⟨h1, h2⟩ := pieces_mark (pieceSp_mem.1 hx)
    have a := (h2 x.f (by omega) h1).2
    have b := (h2 (x.t - 1) (by omega) (by omega)).2
    unfold lotOk at h ⊢
    simp only [withSp]
    omega
  · obtain ⟨h1, h2⟩ := pieces_mark (pieceSp_mem.1 hx)
    obtain ⟨h3, h4⟩ := pieces_mark (pieceSp_mem.1 hy)
    have a := (h2 x.f (by omega) h1).2.1
    have b := (h4 y.f (by omega) h3).2.1
    unfold bef withSp
    simp only
    omega
theorem pieceL_in {l : Lot} {spans : List Span} {p : Lot} (hp : p ∈ pieceL l spans) : p.s.m = l.s.m ∧ l.s.f ≤ p.s.f ∧ p.s.t ≤ l.s.t ∧ p.s.f < p.s.t ∧ stL p = stL l := by
  obtain ⟨x, hx, rfl⟩ := pieceL_mem hp
  obtain ⟨h1, h2⟩ := pieces_mark (pieceSp_mem.1 hx)
  have a := (h2 x.f (by omega) h1).2
  have b := (h2 (x.t - 1) (by omega) (by omega)).2
  simp only [withSp]
  exact ⟨by omega, by omega, by omega, by omega, rfl⟩
theorem pieceL_sta {l : Lot} {spans : List Span} (h : lotOk l) (m n : Int) : sta (pieceL l spans) m n = if inLot m n l = true then some (stL l) else none := by
  by_cases hl : inLot m n l = true
  · rw [if_pos hl]
    obtain ⟨x, hx, h1⟩ := (pieces_has (spans := spans) (lotOk_valid h)).2 (inLot_iff.1 hl)
    have hp : withSp l x ∈ pieceL l spans := List.mem_map.2 ⟨x, hx, rfl⟩
    exact sta_some (pieceL_ord h) hp (inLot_iff.2 h1)
  · rw [if_neg hl, sta_none]
    rintro ⟨p, hp, hc⟩
    obtain ⟨a, b, c, _⟩ := pieceL_in hp
    have := inLot_iff.1 hc
    exact hl (inLot_iff.2 ⟨by omega, by omega, by omega⟩)
theorem piecesAll_spec {spans : List Span} : ∀ {L : List Lot}, Ord L → Ord (L.flatMap fun l => pieceL l spans) ∧ (∀ m n, sta (L.flatMap fun l => pieceL l spans) m n = sta L m n) ∧ ∀ p ∈ L.flatMap (fun l => pieceL l spans), ∃ l ∈ L, p ∈ pieceL l spans
  | [], _ => ⟨⟨fun l hl => (by cases hl), .nil⟩, fun m n => rfl, fun p hp => by cases hp⟩
  | l :: L, h => by
    obtain ⟨h1, h2, h3⟩ := piecesAll_spec (spans := spans) (ord_tail h)
    have hl := h.ok l (List.mem_cons_self ..)
    have ho := pieceL_ord (spans := spans) hl
    rw [List.flatMap_cons]
    refine ⟨⟨fun p hp => (List.mem_append.1 hp).elim (ho.ok p) (h1.ok p), List.pairwise_append.2 ⟨ho.ord, h1.ord, fun p hp q hq => ?_⟩⟩, fun m n => ?_, fun p hp => ?_⟩
    · obtain ⟨x, hx, hq⟩ := h3 q hq
      have hb := (List.pairwise_cons.1 h.ord).1 x hx
      obtain ⟨a1, a2, a3, a4, _⟩ := pieceL_in hp
      obtain ⟨b1, b2, b3, b4, _⟩ := pieceL_in hq
      unfold bef at hb ⊢
      omega
    · rw [sta_append, pieceL_sta hl, h2, sta_cons]
      split <;> rfl
    · rcases List.mem_append.1 hp with hp | hp
      · exact ⟨l, List.mem_cons_self .., hp⟩
      · obtain ⟨x, hx, hp⟩ := h3 p hp; exact ⟨x, List.mem_cons_of_mem _ hx, hp⟩
theorem backRun_eq (d : Deed) (seen : List Int) (L : List Lot) : backRun d seen L = mergeL ((L.flatMap fun l => pieceL l d.spans).map (bkL d seen)) := by
  unfold backRun mergeL bkPieces
  rw [List.map_flatMap]
theorem back_specN {L : List Lot} (h : Ord L) (d : Deed) (seen : List Int) : Ord (backRun d seen L) ∧ Mgd (backRun d seen L) ∧ sta (backRun d seen L) = backF (sta L) d seen ∧ (backRun d seen L).length ≤ L.length + 2 * d.spans.length := by
  obtain ⟨h1, h2, h3⟩ := piecesAll_spec (spans := d.spans) h
  have hA : Ord ((L.flatMap fun l => pieceL l d.spans).map (bkL d seen)) := ord_congr (by rw [List.map_map]; exact List.map_congr_left fun l _ => (bkL_s d seen l).symm) h1
  have hs : sta (backRun d seen L) = backF (sta L) d seen := by
    rw [backRun_eq]
    refine sta_fun fun m n => ?_
    rw [sta_merge hA, sta_back h1 (fun p hp n hn => ?_)]
    · unfold backF; rw [h2]
    · obtain ⟨l, _, hp⟩ := h3 p hp
      obtain ⟨x, hx, rfl⟩ := pieceL_mem hp
      have := inLot_iff.1 hn
      exact pieces_io hx ⟨this.2.1, this.2.2⟩
  have ho : Ord (backRun d seen L) := by rw [backRun_eq]; exact merge_ord hA
  have hm : Mgd (backRun d seen L) := by rw [backRun_eq]; exact merge_mgd _
  refine ⟨ho, hm, hs, ?_⟩
  obtain ⟨c1, c2, c3, _, c5⟩ := cutAll_spec (norm d.spans) h
  have hC : Ord ((cutAll (norm d.spans) L).map (bkL d seen)) := ord_congr (by rw [List.map_map]; exact List.map_congr_left fun l _ => (bkL_s d seen l).symm) c1
  have e : backRun d seen L = mergeL ((cutAll (norm d.spans) L).map (bkL d seen)) := by
    refine lots_ext ho (merge_ord hC) hm (merge_mgd _) ?_
    rw [hs]
    funext m n
    rw [sta_merge hC, sta_back c1 (fun l hl n hn => in_out c5 hl hn (by have := c1.ok l hl; unfold lotOk at this; omega))]
    unfold backF; rw [c2]
  have := merge_len ((cutAll (norm d.spans) L).map (bkL d seen))
  have := norm_len d.spans
  rw [e]
  rw [List.length_map] at *
  omega
theorem back_spec {L : List Lot} (h : Ord L) (d : Deed) (seen : List Int) (h8 : d.spans.length ≤ 8) : Ord (backRun d seen L) ∧ Mgd (backRun d seen L) ∧ sta (backRun d seen L) = backF (sta L) d seen ∧ (backRun d seen L).length ≤ L.length + 16 := by
  obtain ⟨a, b, c, e⟩ := back_specN h d seen
  exact ⟨a, b, c, by omega⟩
end Go.Proofs.YtjilbkioieicbaaGreat

/- Deeds of any number of spans. -/
namespace Go.Proofs.YtjilbkioieicbaaGreat
open Go.Vc Rt
set_option linter.unusedVariables false
set_option linter.unusedSimpArgs false
theorem doB_good {L : List Lot} {d : Deed} (h : Good L) : Good (doB L d).1 ∧ (doB L d).2 = errF (sta L) d ∧ sta (doB L d).1 = stepF (sta L) d := by
  have k : Ord (doB L d).1 ∧ Mgd (doB L d).1 := by
    unfold doB
    split
    · rename_i hr
      split
      · rename_i hk
        exact ⟨merge_ord (takeB_ord h.ord hr hk), merge_mgd _⟩
      · exact ⟨merge_ord (moveB_ord h.ord hr).1, merge_mgd _⟩
    · exact ⟨h.ord, h.mgd⟩
  obtain ⟨f1, f2⟩ := do_F (d := d) h.ord h.full
  have e := sta_fun f2
  exact ⟨⟨k.1, k.2, by rw [e]; exact step_full h.full, by rw [e]; exact step_key h.key⟩, f1, e⟩
theorem doB_len {L : List Lot} {d : Deed} (h : Ord L) : (doB L d).1.length ≤ L.length + 4 * d.spans.length := by
  unfold doB
  split
  · rename_i hr
    have hne := right_ne hr
    split
    · have := merge_len (takeB L d).1; have := takeB_len L d; simp only; omega
    · have := merge_len (moveB L d).1; have := (moveB_ord h hr).2; simp only; omega
  · simp only; omega
theorem doOk_many {L : List Lot} {d : Deed} (h : Ord L) (hl : L.length ≤ 100000) (hs : d.spans.length ≤ 10000) : DoOk L d where
  len := by omega
  spans := by omega
  sorted := fun _ => ord_sorted h
  range := fun hr l hl' => by
    have h1 := h.ok l hl'
    have h2 := right_parts hr
    unfold lotOk at h1
    exact ⟨by omega, by omega⟩
  valid := fun hr s hs' => by have := right_spans hr s hs'; omega
  again := fun hr hk h1 h2 k s hks => by
    obtain ⟨m1, m2, m3, m4⟩ := mvRun_spec (d := d) (l := d.spans) (e := 0) h
    have hc := m4 h1
    have key : ∀ x ∈ d.spans, Cov (mvRun d d.spans L 0).1 x.m x.f ∧ Cov (mvRun d d.spans L 0).1 x.m (x.t - 1) ∧ x.f < x.t := fun x hx => by
      have := hc x hx
      rw [m2, m2]
      exact ⟨this.1, this.2, by have := right_spans hr x hx; omega⟩
    obtain ⟨n1, n2, n3⟩ := mv2_spec (d := d) (l := d.spans.take k) m1 (fun x hx => key x (List.mem_of_mem_take hx))
    have hks' := key s (List.mem_of_getElem? hks)
    exact cutB_of n1 ((n2 _ _).2 hks'.1) ((n2 _ _).2 hks'.2.1) hks'.2.2
  out := fun hr hk => by have := (moveB_ord (d := d) h hr).2; omega
end Go.Proofs.YtjilbkioieicbaaGreat

/- Deeds with coins that are lent for a time, as functions of coins. -/
namespace Go.Proofs.YtjilbkioieicbaaGreat
open Go.Vc Rt
set_option linter.unusedVariables false
set_option linter.unusedSimpArgs false
theorem back_some {F : Int → Int → Option Sta} {d : Deed} {seen : List Int} {m n : Int} : (∃ x, backF F d seen m n = some x) ↔ ∃ x, F m n = some x := by
  unfold backF
  split
  · cases F m n with
    | none => simp
    | some x => simp
  · rfl
theorem back_full {F : Int → Int → Option Sta} {d : Deed} {seen : List Int} (h : FullF F) : FullF (backF F d seen) := fun m n k h0 h1 h2 => back_some.2 (h m n k h0 h1 (back_some.1 h2))
theorem bkS_o (d : Deed) (seen : List Int) (x : Sta) : (bkS d seen x).o = x.o ∧ (bkS d seen x).p = x.p ∧ ((bkS d seen x).h = x.h ∨ (bkS d seen x).h = x.o) := by
  unfold bkS; split
  · exact ⟨rfl, rfl, .inr rfl⟩
  · exact ⟨rfl, rfl, .inl rfl⟩
theorem back_key {F : Int → Int → Option Sta} {d : Deed} {seen : List Int} (h : keyF F) : keyF (backF F d seen) := by
  intro m n x hx
  unfold backF at hx
  split at hx
  · cases hF : F m n with
    | none => rw [hF] at hx; cases hx
    | some y =>
      rw [hF] at hx
      simp at hx
      subst hx
      obtain ⟨a, _, c⟩ := bkS_o d seen y
      obtain ⟨k1, k2⟩ := h m n y hF
      refine ⟨by rw [a]; exact k1, ?_⟩
      rcases c with c | c <;> rw [c] <;> assumption
  · exact h m n x hx
theorem good_back {L : List Lot} (h : Good L) (d : Deed) (seen : List Int) (h8 : d.spans.length ≤ 8) : Good (backRun d seen L) ∧ sta (backRun d seen L) = backF (sta L) d seen ∧ (backRun d seen L).length ≤ L.length + 16 := by
  obtain ⟨h1, h2, h3, h4⟩ := back_spec h.ord d seen h8
  exact ⟨⟨h1, h2, by rw [h3]; exact back_full h.full, by rw [h3]; exact back_key h.key⟩, h3, h4⟩
/-- The coins as a deed finds them. -/
noncomputable def freeF (F : Int → Int → Option Sta) (d : Deed) (seen : List Int) : Int → Int → Option Sta := if d.kind = 0 then F else backF F d seen
theorem good_free {L : List Lot} (h : Good L) (d : Deed) (seen : List Int) (h8 : d.spans.length ≤ 8) : Good (freeL d seen L) ∧ sta (freeL d seen L) = freeF (sta L) d seen ∧ (freeL d seen L).length ≤ L.length + 16 := by
  unfold freeL freeF
  split
  · exact ⟨h, rfl, by omega⟩
  · exact good_back h d seen h8
def Late (F : Int → Int → Option Sta) (d : Deed) : Prop := ∃ m n x, Has (norm d.spans) m n ∧ F m n = some x ∧ x.h = d.author ∧ x.o ≠ d.author ∧ x.u < d.day
theorem late_iff {L : List Lot} (h : Ord L) (d : Deed) : L.any (lateB d) = true ↔ Late (sta L) d := by
  rw [List.any_eq_true]
  constructor
  · rintro ⟨l, hl, hb⟩
    unfold lateB lateA at hb
    simp only [Bool.and_eq_true, Bool.not_eq_true', decide_eq_true_eq, decide_eq_false_iff_not] at hb
    obtain ⟨⟨⟨a, b⟩, c⟩, e⟩ := hb
    have hne : ¬ (common [l.s] d.spans).length = 0 := by omega
    rw [common_empty] at hne
    obtain ⟨m, hne⟩ := Classical.not_forall.1 hne
    obtain ⟨n, hne⟩ := Classical.not_forall.1 hne
    have h1 : Has (norm [l.s]) m n := Classical.byContradiction fun h => hne fun h' => (h h').elim
    have h2 : Has (norm d.spans) m n := Classical.byContradiction fun h => hne fun _ => h
    obtain ⟨s, hs, _, hm⟩ := has_norm.1 h1
    rw [List.mem_singleton.1 hs] at hm
    exact ⟨m, n, stL l, h2, sta_some h hl (inLot_iff.2 hm), a, b, c⟩
  · rintro ⟨m, n, x, h1, h2, h3, h4, h5⟩
    obtain ⟨l, hl, hc, rfl⟩ := sta_mem h2
    refine ⟨l, hl, ?_⟩
    have hv := lotOk_valid (h.ok l hl)
    have hn : (common [l.s] d.spans).length ≠ 0 := fun h0 => (common_empty _ _).1 h0 m n (has_norm.2 ⟨l.s, by simp, hv, inLot_iff.1 hc⟩) h1
    unfold lateB lateA
    simp only [Bool.and_eq_true, Bool.not_eq_true', decide_eq_true_eq, decide_eq_false_iff_not]
    exact ⟨⟨⟨h3, h4⟩, h5⟩, by omega⟩
open Classical in
noncomputable def errLF (F : Int → Int → Option Sta) (d : Deed) (seen : List Int) : Int :=
  if errF (freeF F d seen) d = 0 then (if d.kind ≠ 0 ∧ Late F d then 25 else 0) else errF (freeF F d seen) d
open Classical in
noncomputable def stepLF (F : Int → Int → Option Sta) (d : Deed) (seen : List Int) : Int → Int → Option Sta := if errLF F d seen = 0 then stepF (freeF F d seen) d else F
theorem good_lease {L : List Lot} (h : Good L) (d : Deed) (seen : List Int) (h8 : d.spans.length ≤ 8) : Good (leaseDo d seen L).1 ∧ (leaseDo d seen L).2 = errLF (sta L) d seen ∧ sta (leaseDo d seen L).1 = stepLF (sta L) d seen ∧ (leaseDo d seen L).1.length ≤ L.length + 48 ∧ ((leaseDo d seen L).2 ≠ 0 → (leaseDo d seen L).1 = L) := by
  obtain ⟨f1, f2, f3⟩ := good_free h d seen h8
  obtain ⟨g1, g2, g3⟩ := good_do (d := d) f1 h8
  have hlen := (doB_keeps f1.ord f1.mgd h8).2.2
  rw [f2] at g2 g3
  have hl := late_iff h.ord d
  unfold leaseDo errLF stepLF errLF
  rw [g2]
  by_cases e0 : errF (freeF (sta L) d seen) d = 0
  · rw [if_pos e0, if_pos e0]
    by_cases hc : d.kind ≠ 0 ∧ L.any (lateB d) = true
    · have hc' : d.kind ≠ 0 ∧ Late (sta L) d := ⟨hc.1, hl.1 hc.2⟩
      rw [if_pos hc, if_pos hc']
      refine ⟨h, rfl, ?_, by simp only; omega, fun _ => rfl⟩
      rw [if_neg (by decide)]
    · have hc' : ¬ (d.kind ≠ 0 ∧ Late (sta L) d) := fun h' => hc ⟨h'.1, hl.2 h'.2⟩
      rw [if_neg hc, if_neg hc']
      refine ⟨g1, rfl, ?_, by simp only; omega, fun h => (h rfl).elim⟩
      rw [if_pos rfl]; exact g3
  · rw [if_neg e0, if_neg e0]
    refine ⟨h, rfl, ?_, by simp only; omega, fun _ => rfl⟩
    rw [if_neg e0]
/-! ### All deeds -/
def pairUp (l : List Deed) (seen : List (List Int)) : List (Deed × List Int) := l.zipIdx.map fun p => (p.1, seen.getD p.2 [])
def leaseF (ps : List (Deed × List Int)) : List Lot × List Int := ps.foldl (fun p x => ((leaseDo x.1 x.2 p.1).1, p.2 ++ [(leaseDo x.1 x.2 p.1).2])) ([], [])
def leaseK (l : List Deed) (seen : List (List Int)) : List Lot × List Int := leaseF (pairUp l seen)
theorem leaseF_snoc (ps : List (Deed × List Int)) (x : Deed × List Int) : leaseF (ps ++ [x]) = ((leaseDo x.1 x.2 (leaseF ps).1).1, (leaseF ps).2 ++ [(leaseDo x.1 x.2 (leaseF ps).1).2]) := by
  unfold leaseF; rw [List.foldl_append]; rfl
theorem pairUp_len (l : List Deed) (seen : List (List Int)) : (pairUp l seen).length = l.length := by simp [pairUp]
theorem pairUp_get {l : List Deed} {seen : List (List Int)} {k : Nat} {d : Deed} (h : l[k]? = some d) : (pairUp l seen)[k]? = some (d, seen.getD k []) := by
  unfold pairUp; simp [h]
theorem pairUp_mem {l : List Deed} {seen : List (List Int)} {x : Deed × List Int} (h : x ∈ pairUp l seen) : x.1 ∈ l := by
  unfold pairUp at h
  obtain ⟨p, hp, rfl⟩ := List.mem_map.1 h
  exact (List.mem_zipIdx hp).2.2 ▸ List.getElem_mem _
theorem leaseF_good : ∀ (n : Nat) (ps : List (Deed × List Int)), ps.length = n → (∀ x ∈ ps, x.1.spans.length ≤ 8) → Good (leaseF ps).1 ∧ (leaseF ps).1.length ≤ 48 * ps.length ∧ (leaseF ps).2.length = ps.length
  | 0, ps, hn, _ => by
    rw [List.eq_nil_of_length_eq_zero hn]
    exact ⟨good_nil, by simp [leaseF], by simp [leaseF]⟩
  | n + 1, ps, hn, hs => by
    rcases List.eq_nil_or_concat ps with rfl | ⟨qs, x, rfl⟩
    · simp at hn
    · simp only [List.concat_eq_append] at *
      obtain ⟨h1, h2, h3⟩ := leaseF_good n qs (by simpa using hn) fun y hy => hs y (by simp [hy])
      have hx := hs x (by simp)
      obtain ⟨g1, _, _, g4, _⟩ := good_lease h1 x.1 x.2 hx
      rw [leaseF_snoc]
      refine ⟨g1, ?_, by simp [h3]⟩
      simp only [List.length_append, List.length_singleton]
      omega
theorem leaseF_ok {L : List Lot} (h : Good L) (hl : L.length ≤ 10000) {d : Deed} {seen : List Int} (h8 : d.spans.length ≤ 8) : (freeL d seen L).length ≤ 100000 ∧ DoOk (freeL d seen L) d := by
  obtain ⟨f1, _, f3⟩ := good_free h d seen h8
  exact ⟨by omega, doOk_of f1.ord (by omega) h8⟩
/-! ### Deeds of more spans -/
theorem good_freeN {L : List Lot} (h : Good L) (d : Deed) (seen : List Int) : Good (freeL d seen L) ∧ sta (freeL d seen L) = freeF (sta L) d seen ∧ (freeL d seen L).length ≤ L.length + 2 * d.spans.length := by
  unfold freeL freeF
  split
  · exact ⟨h, rfl, by omega⟩
  · obtain ⟨h1, h2, h3, h4⟩ := back_specN h.ord d seen
    exact ⟨⟨h1, h2, by rw [h3]; exact back_full h.full, by rw [h3]; exact back_key h.key⟩, h3, h4⟩
theorem good_leaseN {L : List Lot} (h : Good L) (d : Deed) (seen : List Int) : Good (leaseDo d seen L).1 ∧ (leaseDo d seen L).2 = errLF (sta L) d seen ∧ sta (leaseDo d seen L).1 = stepLF (sta L) d seen ∧ (leaseDo d seen L).1.length ≤ L.length + 6 * d.spans.length ∧ ((leaseDo d seen L).2 ≠ 0 → (leaseDo d seen L).1 = L) := by
  obtain ⟨f1, f2, f3⟩ := good_freeN h d seen
  obtain ⟨g1, g2, g3⟩ := doB_good (d := d) f1
  have hlen := doB_len (d := d) f1.ord
  rw [f2] at g2 g3
  have hl := late_iff h.ord d
  unfold leaseDo errLF stepLF errLF
  rw [g2]
  by_cases e0 : errF (freeF (sta L) d seen) d = 0
  · rw [if_pos e0, if_pos e0]
    by_cases hc : d.kind ≠ 0 ∧ L.any (lateB d) = true
    · have hc' : d.kind ≠ 0 ∧ Late (sta L) d := ⟨hc.1, hl.1 hc.2⟩
      rw [if_pos hc, if_pos hc']
      refine ⟨h, rfl, ?_, by simp only; omega, fun _ => rfl⟩
      rw [if_neg (by decide)]
    · have hc' : ¬ (d.kind ≠ 0 ∧ Late (sta L) d) := fun h' => hc ⟨h'.1, hl.2 h'.2⟩
      rw [if_neg hc, if_neg hc']
      refine ⟨g1, rfl, ?_, by simp only; omega, fun h => (h rfl).elim⟩
      rw [if_pos rfl]; exact g3
  · rw [if_neg e0, if_neg e0]
    refine ⟨h, rfl, ?_, by simp only; omega, fun _ => rfl⟩
    rw [if_neg e0]
theorem leaseF_goodN : ∀ (n : Nat) (ps : List (Deed × List Int)), ps.length = n → (∀ x ∈ ps, x.1.spans.length ≤ 20) → Good (leaseF ps).1 ∧ (leaseF ps).1.length ≤ 120 * ps.length ∧ (leaseF ps).2.length = ps.length
  | 0, ps, hn, _ => by
    rw [List.eq_nil_of_length_eq_zero hn]
    exact ⟨good_nil, by simp [leaseF], by simp [leaseF]⟩
  | n + 1, ps, hn, hs => by
    rcases List.eq_nil_or_concat ps with rfl | ⟨qs, x, rfl⟩
    · simp at hn
    · simp only [List.concat_eq_append] at *
      obtain ⟨h1, h2, h3⟩ := leaseF_goodN n qs (by simpa using hn) fun y hy => hs y (by simp [hy])
      have hx := hs x (by simp)
      obtain ⟨g1, _, _, g4, _⟩ := good_leaseN h1 x.1 x.2
      rw [leaseF_snoc]
      refine ⟨g1, ?_, by simp [h3]⟩
      simp only [List.length_append, List.length_singleton]
      omega
theorem leaseF_okN {L : List Lot} (h : Good L) (hl : L.length ≤ 10000) {d : Deed} {seen : List Int} (h8 : d.spans.length ≤ 20) : (freeL d seen L).length ≤ 100000 ∧ DoOk (freeL d seen L) d := by
  obtain ⟨f1, _, f3⟩ := good_freeN h d seen
  exact ⟨by omega, doOk_many f1.ord (by omega) (by omega)⟩
end Go.Proofs.YtjilbkioieicbaaGreat

/- Walks: lease.Lots, lease.Usable, limits. -/
namespace Go.Proofs.YtjilbkioieicbaaGreat
open Go.Vc Rt
set_option linter.unusedVariables false
set_option linter.unusedSimpArgs false
abbrev seT : Ty (List Int) := slT intT
theorem nilI (w : World) : SlOf intT [] w (.slice none 0 0) [] := ⟨⟨none, 0, 0, rfl, fun _ => ⟨rfl, rfl⟩, Nat.le_refl _⟩, rfl, by simp, fun a n c e => (by cases e), fun i x hx => (by simp at hx)⟩
theorem leaseLots20_c (l : List Deed) (seen : List (List Int)) (v z : Value) (w : World) (h : SlOf deT [] w v l) (hz : SlOf seT [] w z seen) (hN : l.length ≤ 50) (h8 : ∀ d ∈ l, d.spans.length ≤ 20) :
    AnsR Tryz.prog 7 [v, z] [.row 27 7 ((leaseK l seen).1.map encL), .row 38 1 ((leaseK l seen).2.map encI)] w := by
  have hl := h.len
  have hzl := hz.len
  obtain ⟨U, hU⟩ := slices_of h
  have hgood : ∀ k, Good (leaseF ((pairUp l seen).take k)).1 ∧ (leaseF ((pairUp l seen).take k)).1.length ≤ 6000 ∧ (leaseF ((pairUp l seen).take k)).2.length ≤ 50 := fun k => by
    obtain ⟨a, b, c⟩ := leaseF_goodN _ ((pairUp l seen).take k) rfl fun x hx => h8 x.1 (pairUp_mem (List.mem_of_mem_take hx))
    have : ((pairUp l seen).take k).length ≤ 50 := by simp [pairUp_len]; omega
    exact ⟨a, by omega, by omega⟩
  refine calls_plainB [.x v, .x z] Tryz.func7 rfl rfl (Nat.le_of_ble_eq_true rfl) rfl fun B hB => ?_
  repeat refine At.seq ?_
  refine At.region tab_ok ?_
  conv => whnf
  repeat refine At.seq ?_
  refine At.region tab_ok ?_
  conv => whnf
  repeat refine At.seq ?_
  refine At.region tab_ok ?_
  conv => whnf
  repeat refine At.seq ?_
  refine At.region tab_ok ?_
  conv => whnf
  refine ⟨h.sl, ?_⟩
  conv => whnf
  repeat refine At.seq ?_
  refine At.block ?_
  refine At.loopH (fun p : Nat × Value × Value => { N := Tryz.f7.ntmps, sl := [(1, some (.x z)), (6, some (.s (.c (.o 0 p.2.1)))), (7, some (.s (.c (.o 1 p.2.2)))), (13, some (.x v)), (14, some (.i l.length)), (15, some (.i p.1))], gl := [], hp := [(0, .row p.2.1 27 7 ((leaseF ((pairUp l seen).take p.1)).1.map encL)), (1, .row p.2.2 38 1 ((leaseF ((pairUp l seen).take p.1)).2.map encI))], S := [], ws := w }) (fun p : Nat × Value × Value => p.1 ≤ l.length) (fun p : Nat × Value × Value => l.length - p.1)
    (fun w' hw => ⟨(0, .slice none 0 0, .slice none 0 0), Nat.zero_le _, Le.of rfl rfl ⟨rfl, rfl, rfl, rfl, congrArg (Value.int .i64) (by rw [hl]), rfl, trivial⟩, hw.nil2 rfl rfl rfl, ⟨⟨_, _, _, rfl⟩, ⟨_, _, _, rfl⟩, trivial⟩, ⟨(nopL _).okH, (nopI _).okH, trivial⟩⟩) ?_
  rintro ⟨k, vl, ve⟩ hk
  simp only at hk ⊢
  repeat refine At.seq ?_
  refine At.region tab_ok ?_
  conv => whnf
  repeat refine At.seq ?_
  refine At.cond rfl (fun hc => At.skip ?_) (fun hc => At.exit ?_)
  · have hltd : k < l.length := by have := of_decide_eq_true hc; (try simp only [List.length_map] at this); omega
    obtain ⟨d, hd⟩ : ∃ x, l[k]? = some x := ⟨_, List.getElem?_eq_getElem hltd⟩
    obtain ⟨hu, hcells⟩ := hU k d hd
    have hd8 := h8 d (List.mem_of_getElem? hd)
    obtain ⟨hg, hlen, hle⟩ := hgood k
    have hst : leaseF ((pairUp l seen).take (k + 1)) = ((leaseDo d (seen.getD k []) (leaseF ((pairUp l seen).take k)).1).1, (leaseF ((pairUp l seen).take k)).2 ++ [(leaseDo d (seen.getD k []) (leaseF ((pairUp l seen).take k)).1).2]) := by
      rw [List.take_add_one, pairUp_get hd]; exact leaseF_snoc _ _
    generalize leaseF ((pairUp l seen).take k) = P at *
    obtain ⟨L, es⟩ := P
    simp only at hg hlen hle hst ⊢
    obtain ⟨hok1, hok2⟩ := leaseF_okN (seen := seen.getD k []) hg (by omega) hd8
    repeat refine At.seq ?_
    refine At.block ?_
    repeat refine At.seq ?_
    refine At.region tab_ok ?_
    conv => whnf
    refine ⟨by omega, ?_⟩
    conv => whnf
    refine ⟨by omega, ?_⟩
    conv => whnf
    refine ⟨encD d (U k), fun w' hw => hcells w' hw.fr, ?_⟩
    conv => whnf
    intro b9
    conv => whnf
    refine ⟨hu.sl.one, ?_⟩
    conv => whnf
    repeat refine At.seq ?_
    refine At.region tab_ok ?_
    conv => whnf
    repeat refine At.seq ?_
    refine At.region tab_ok ?_
    conv => whnf
    refine ⟨hz.sl, ?_⟩
    conv => whnf
    repeat refine At.seq ?_
    refine At.join (fun s : Value => { N := Tryz.f7.ntmps, sl := [(1, some (.x z)), (6, some (.s (.c (.o 0 vl)))), (7, some (.s (.c (.o 1 ve)))), (9, some (.s (.c (.p 2 b9 0)))), (10, some (.x s)), (13, some (.x v)), (14, some (.i l.length)), (15, some (.i k))], gl := [], hp := [(2, .box b9 44 (encD d (U k))), (0, .row vl 27 7 (L.map encL)), (1, .row ve 38 1 (es.map encI))], S := [], ws := w }) (fun s : Value => SlOf intT [] w s (seen.getD k [])) ?_ ?_
    · repeat refine At.seq ?_
      refine At.cond rfl (fun hq => ?_) (fun hq => ?_)
      · have hk2 : k < seen.length := by have := of_decide_eq_true hq; omega
        obtain ⟨xs, hxs⟩ : ∃ x, seen[k]? = some x := ⟨_, List.getElem?_eq_getElem hk2⟩
        obtain ⟨_, ⟨s, rfl, hs⟩, hc2⟩ := hz.at hxs
        have e : seen.getD k [] = xs := by rw [List.getD_eq_getElem?_getD, hxs]; rfl
        repeat refine At.seq ?_
        refine At.region tab_ok ?_
        conv => whnf
        refine ⟨by omega, ?_⟩
        conv => whnf
        refine ⟨by omega, ?_⟩
        conv => whnf
        refine ⟨[.x s], fun w' hw => hc2 w' hw.fr, ?_⟩
        conv => whnf
        refine At.meet fun w' hw => ⟨s, by rw [e]; exact hs, Le.of rfl rfl ⟨rfl, rfl, rfl, rfl, rfl, rfl, rfl, rfl, trivial⟩, hw.keep [2, 0, 1] rfl rfl rfl, ⟨⟨_, _, _, rfl⟩, ⟨_, _, _, rfl⟩, ⟨_, _, rfl⟩, trivial⟩, ⟨(nopL _).okH, (nopI _).okH, trivial⟩⟩
      · have hk2 : seen.length ≤ k := by have := of_decide_eq_false hq; omega
        have e : seen.getD k [] = [] := by rw [List.getD_eq_getElem?_getD, List.getElem?_eq_none hk2]; rfl
        refine At.skip ?_
        refine At.meet fun w' hw => ⟨.slice none 0 0, by rw [e]; exact nilI w, Le.of rfl rfl ⟨rfl, rfl, rfl, rfl, rfl, rfl, rfl, rfl, trivial⟩, hw.keep [2, 0, 1] rfl rfl rfl, ⟨⟨_, _, _, rfl⟩, ⟨_, _, _, rfl⟩, ⟨_, _, rfl⟩, trivial⟩, ⟨(nopL _).okH, (nopI _).okH, trivial⟩⟩
    intro s hs
    generalize seen.getD k [] = sk at *
    repeat refine At.seq ?_
    refine At.region tab_ok ?_
    conv => whnf
    refine ansR_call b48 (rdP (nopL _)) (fun w' hw => leaseDo20_c L d sk vl (U k) s w' (slL L (hw.row (id := 0) rfl) (by omega)) (hu.fr hw.fr) (hs.fr hw.fr) (by omega) hd8 hok1 hok2) ?_
    intro v3
    conv => whnf
    generalize leaseDo d sk L = D at *
    obtain ⟨Q, er⟩ := D
    simp only at hst ⊢
    repeat refine At.seq ?_
    refine At.region tab_ok ?_
    conv => whnf
    repeat refine At.seq ?_
    refine At.region tab_ok ?_
    conv => whnf
    intro v4
    conv => whnf
    refine ⟨rfl, ?_⟩
    conv => whnf
    refine ⟨⟨rfl, by simp; omega⟩, ?_⟩
    conv => whnf
    intro v5
    conv => whnf
    repeat refine At.seq ?_
    refine At.region tab_ok ?_
    conv => whnf
    refine ⟨⟨by omega, by omega⟩, ?_⟩
    conv => whnf
    refine At.nextH fun w' hw => ⟨(k + 1, v3, v5), by simp only; omega, by simp only; omega, Le.of rfl rfl ⟨rfl, rfl, rfl, rfl, rfl, rfl, trivial⟩, hw.ren [3,1] ((by simp only; rw [hst, List.map_append]; rfl)) rfl rfl, ⟨⟨_, _, _, rfl⟩, ⟨_, _, _, rfl⟩, trivial⟩, ⟨(nopL _).okH, (nopI _).okH, trivial⟩⟩
  have hge : k = l.length := by have := of_decide_eq_false hc; omega
  have hta : (pairUp l seen).take k = pairUp l seen := List.take_of_length_le (by rw [pairUp_len]; omega)
  rw [hta]
  repeat refine At.seq ?_
  refine At.region tab_ok ?_
  conv => whnf
  repeat refine At.seq ?_
  refine At.ret (At.doneB tab_ok hB _ rfl fun w' hw => ansR_rows2 (i := 0) (j := 1) hw rfl rfl (by decide) rfl rfl)
theorem leaseLots_c (l : List Deed) (seen : List (List Int)) (v z : Value) (w : World) (h : SlOf deT [] w v l) (hz : SlOf seT [] w z seen) (hN : l.length ≤ 50) (h8 : ∀ d ∈ l, d.spans.length ≤ 8) :
    AnsR Tryz.prog 7 [v, z] [.row 27 7 ((leaseK l seen).1.map encL), .row 38 1 ((leaseK l seen).2.map encI)] w :=
  leaseLots20_c l seen v z w h hz hN fun d hd => Nat.le_trans (h8 d hd) (by omega)
/-- The coins that a key may use. -/
def usableL (L : List Lot) (key day : Int) (seen : List Int) : List Span := norm ((L.filter fun l => decide (mayU l key day (ofK seen l.h) = 0)).map (·.s))
theorem usableL_len (L : List Lot) (key day : Int) (seen : List Int) : (usableL L key day seen).length ≤ L.length := by
  unfold usableL
  refine Nat.le_trans (norm_len _) ?_
  rw [List.length_map]
  exact List.length_filter_le ..
theorem usable_c (L : List Lot) (key day : Int) (seen : List Int) (v z : Value) (w : World) (h : SlOf loT [] w v L) (hz : SlOf intT [] w z seen) (hN : L.length ≤ 1000000) : AnsR Tryz.prog 16 [v, vI key, vI day, z] [.row 25 3 ((usableL L key day seen).map encS)] w := by
  have hl := h.len
  have hus : usableL L key day seen = norm ((L.filter fun l => decide (mayU l key day (ofK seen l.h) = 0)).map (·.s)) := rfl
  have hst : ∀ {k : Nat} {x : Lot}, L[k]? = some x → ((L.take (k + 1)).filter fun l => decide (mayU l key day (ofK seen l.h) = 0)).map (·.s) = ((L.take k).filter fun l => decide (mayU l key day (ofK seen l.h) = 0)).map (·.s) ++ (if mayU x key day (ofK seen x.h) = 0 then [x.s] else []) := fun {k x} hx => by
    rw [List.take_add_one, hx, List.filter_append, List.map_append]
    congr 1
    simp only [Option.toList_some, List.filter_cons, List.filter_nil]
    split <;> simp_all
  have hln : ∀ k, (((L.take k).filter fun l => decide (mayU l key day (ofK seen l.h) = 0)).map (·.s)).length ≤ k := fun k => by
    rw [List.length_map]
    exact Nat.le_trans (List.length_filter_le ..) (by simp; omega)
  rw [hus]
  refine calls_plainB [.x v, .i key, .i day, .x z] Tryz.func16 rfl rfl (Nat.le_of_ble_eq_true rfl) rfl fun B hB => ?_
  repeat refine At.seq ?_
  refine At.region tab_ok ?_
  conv => whnf
  repeat refine At.seq ?_
  refine At.region tab_ok ?_
  conv => whnf
  repeat refine At.seq ?_
  refine At.region tab_ok ?_
  conv => whnf
  refine ⟨h.sl, ?_⟩
  conv => whnf
  repeat refine At.seq ?_
  refine At.block ?_
  refine At.loopH (fun p : Nat × Value => { N := Tryz.f16.ntmps, sl := [(1, some (.i key)), (2, some (.i day)), (3, some (.x z)), (9, some (.s (.c (.o 0 p.2)))), (12, some (.x v)), (13, some (.i L.length)), (14, some (.i p.1))], gl := [], hp := [(0, .row p.2 25 3 ((((L.take p.1).filter fun l => decide (mayU l key day (ofK seen l.h) = 0)).map (·.s)).map encS))], S := [], ws := w }) (fun p : Nat × Value => p.1 ≤ L.length) (fun p : Nat × Value => L.length - p.1)
    (fun w' hw => ⟨(0, .slice none 0 0), Nat.zero_le _, Le.of rfl rfl ⟨rfl, rfl, rfl, rfl, rfl, congrArg (Value.int .i64) (by rw [hl]), rfl, trivial⟩, hw.nil rfl rfl rfl, ⟨⟨_, _, _, rfl⟩, trivial⟩, ⟨(nopS _).okH, trivial⟩⟩) ?_
  rintro ⟨k, vo⟩ hk
  simp only at hk ⊢
  repeat refine At.seq ?_
  refine At.region tab_ok ?_
  conv => whnf
  repeat refine At.seq ?_
  refine At.cond rfl (fun hc => At.skip ?_) (fun hc => At.exit ?_)
  · have hlt : k < L.length := by have := of_decide_eq_true hc; (try simp only [List.length_map] at this); omega
    obtain ⟨x, hx⟩ : ∃ x, L[k]? = some x := ⟨_, List.getElem?_eq_getElem hlt⟩
    have hs1 := hst hx
    have hl1 := hln k
    generalize ((L.take k).filter fun l => decide (mayU l key day (ofK seen l.h) = 0)).map (·.s) = out at *
    repeat refine At.seq ?_
    refine At.block ?_
    repeat refine At.seq ?_
    refine At.region tab_ok ?_
    conv => whnf
    refine ⟨by omega, ?_⟩
    conv => whnf
    refine ⟨by omega, ?_⟩
    conv => whnf
    refine ⟨encL x, fun w' hw => h.load (n := 7) hw.fr hx rfl, ?_⟩
    conv => whnf
    intro b11
    conv => whnf
    repeat refine At.seq ?_
    refine At.draw tab_ok mixed (by kernel_rfl) ?_
    conv => whnf
    refine ⟨.i (ofK seen x.h), ans_quiet b79 (fun w' hw => of_c seen x.h [] z w' (hz.fr hw.fr)), ?_⟩
    conv => whnf
    refine ⟨.i (mayU x key day (ofK seen x.h)), ans_quiet b78 (fun w' hw => mayU_c x key day (ofK seen x.h) w'), ?_⟩
    conv => whnf
    repeat refine At.seq ?_
    refine At.cond rfl (fun hq => ?_) (fun hq => ?_)
    · have hm : mayU x key day (ofK seen x.h) = 0 := of_decide_eq_true hq
      repeat refine At.seq ?_
      refine At.region tab_ok ?_
      conv => whnf
      intro v2
      conv => whnf
      refine ⟨rfl, ?_⟩
      conv => whnf
      refine ⟨⟨rfl, by simp; omega⟩, ?_⟩
      conv => whnf
      intro v3
      conv => whnf
      repeat refine At.seq ?_
      refine At.region tab_ok ?_
      conv => whnf
      refine ⟨⟨by omega, by omega⟩, ?_⟩
      conv => whnf
      refine At.nextH fun w' hw => ⟨(k + 1, v3), by simp only; omega, by simp only; omega, Le.of rfl rfl ⟨rfl, rfl, rfl, rfl, rfl, rfl, rfl, trivial⟩, hw.keep [0] (by simp only; rw [hs1, if_pos hm, List.map_append]; rfl) rfl rfl, ⟨⟨_, _, _, rfl⟩, trivial⟩, ⟨(nopS _).okH, trivial⟩⟩
    · have hm : ¬ mayU x key day (ofK seen x.h) = 0 := of_decide_eq_false hq
      refine At.skip ?_
      repeat refine At.seq ?_
      refine At.region tab_ok ?_
      conv => whnf
      refine ⟨⟨by omega, by omega⟩, ?_⟩
      conv => whnf
      refine At.nextH fun w' hw => ⟨(k + 1, vo), by simp only; omega, by simp only; omega, Le.of rfl rfl ⟨rfl, rfl, rfl, rfl, rfl, rfl, rfl, trivial⟩, hw.keep [0] (by simp only; rw [hs1, if_neg hm, List.append_nil]; rfl) rfl rfl, ⟨⟨_, _, _, rfl⟩, trivial⟩, ⟨(nopS _).okH, trivial⟩⟩
  have hge : k = L.length := by have := of_decide_eq_false hc; omega
  subst hge
  have hl1 := hln L.length
  rw [List.take_length] at hl1 ⊢
  repeat refine At.seq ?_
  refine At.region tab_ok ?_
  conv => whnf
  refine ansR_call b67 (rd1 (nopS _)) (fun w' hw => norm_c _ [] vo w' (slS _ (hw.row (id := 0) rfl) (by omega)) (by omega)) ?_
  intro v4
  conv => whnf
  repeat refine At.seq ?_
  refine At.ret (At.doneB tab_ok hB _ rfl fun w' hw => ansR_row (id := 1) hw rfl rfl rfl)
def few28 (l : List (List Int)) : Bool := decide (l.length ≤ 20) && l.all (fun x => decide (x.length ≤ 12))
theorem few28_spec {l : List (List Int)} (h : few28 l = true) : l.length ≤ 20 ∧ ∀ x ∈ l, x.length ≤ 12 := by
  unfold few28 at h; simp at h; exact h
theorem few28_c (l : List (List Int)) (v : Value) (w : World) (h : SlOf seT [] w v l) : Ans Tryz.prog 6 [v] (.b (few28 l)) w := by
  have hl := h.len
  have hsm := h.small
  refine calls_plainB [.x v] Tryz.func6 rfl rfl (Nat.le_of_ble_eq_true rfl) rfl fun B hB => ?_
  repeat refine At.seq ?_
  refine At.region tab_ok ?_
  conv => whnf
  repeat refine At.seq ?_
  refine At.region tab_ok ?_
  conv => whnf
  repeat refine At.seq ?_
  refine At.block ?_
  refine At.loopH (fun k : Nat => { N := Tryz.f6.ntmps, sl := [(0, some (.x v)), (3, some (.i k))], gl := [], hp := [], S := [], ws := w }) (fun k : Nat => k ≤ l.length ∧ k ≤ 21 ∧ ∀ j x, j < k → l[j]? = some x → x.length ≤ 12) (fun k : Nat => l.length - k)
    (fun w' hw => ⟨0, ⟨Nat.zero_le _, by omega, fun j x hj => by omega⟩, Le.of rfl rfl ⟨rfl, rfl, trivial⟩, hw.same rfl rfl rfl, trivial, trivial⟩) ?_
  intro k ⟨hk, hk21, hall⟩
  repeat refine At.seq ?_
  refine At.region tab_ok ?_
  conv => whnf
  refine ⟨h.sl, ?_⟩
  conv => whnf
  repeat refine At.seq ?_
  refine At.cond rfl (fun hc => At.skip ?_) (fun hc => At.exit ?_)
  · have hc' : k < l.length ∧ k < 21 := by simp only [band, Bool.and_eq_true, decide_eq_true_eq] at hc; omega
    obtain ⟨x, hx⟩ : ∃ x, l[k]? = some x := ⟨_, List.getElem?_eq_getElem hc'.1⟩
    obtain ⟨_, ⟨u, rfl, hu⟩, hc2⟩ := h.at hx
    have hul := hu.len
    repeat refine At.seq ?_
    refine At.block ?_
    repeat refine At.seq ?_
    refine At.region tab_ok ?_
    conv => whnf
    refine ⟨by omega, ?_⟩
    conv => whnf
    refine ⟨by omega, ?_⟩
    conv => whnf
    refine ⟨[.x u], fun w' hw => hc2 w' hw.fr, ?_⟩
    conv => whnf
    refine ⟨hu.sl, ?_⟩
    conv => whnf
    repeat refine At.seq ?_
    refine At.cond rfl (fun hq => ?_) (fun hq => ?_)
    · repeat refine At.seq ?_
      refine At.region tab_ok ?_
      conv => whnf
      repeat refine At.seq ?_
      refine At.ret (At.doneB tab_ok hB _ rfl fun w' hw => ⟨?_, hw.fr⟩)
      have h1 : ¬ x.length ≤ 12 := by have := of_decide_eq_true hq; omega
      have : few28 l = false := Bool.eq_false_iff.2 fun hf => h1 ((few28_spec hf).2 x (List.mem_of_getElem? hx))
      rw [this]
    · have h1 : x.length ≤ 12 := by have := of_decide_eq_false hq; omega
      refine At.skip ?_
      repeat refine At.seq ?_
      refine At.region tab_ok ?_
      conv => whnf
      refine ⟨⟨by omega, by omega⟩, ?_⟩
      conv => whnf
      refine At.nextH fun w' hw => ⟨k + 1, ⟨by omega, by omega, fun j y hj hy => by rcases Nat.lt_or_ge j k with hj' | hj'; exact hall j y hj' hy; obtain rfl : j = k := (by omega); rw [hx] at hy; cases hy; exact h1⟩, by omega, Le.of rfl rfl ⟨rfl, rfl, trivial⟩, hw.keep [] rfl rfl rfl, trivial, trivial⟩
  have hc' : ¬ (k < l.length ∧ k < 21) := by simp only [band, Bool.and_eq_false_iff, decide_eq_false_iff_not] at hc; omega
  repeat refine At.seq ?_
  refine At.region tab_ok ?_
  conv => whnf
  refine ⟨h.sl, ?_⟩
  conv => whnf
  repeat refine At.seq ?_
  refine At.ret (At.doneB tab_ok hB _ rfl fun w' hw => ⟨?_, hw.fr⟩)
  refine congrArg (fun b => Ending.returned (Value.bool b)) ?_
  by_cases h20 : l.length ≤ 20
  · have hall' : ∀ x ∈ l, x.length ≤ 12 := fun x hx => by
      obtain ⟨j, hj⟩ := List.getElem?_of_mem hx
      exact hall j x (by have := (List.getElem?_eq_some_iff.1 hj).1; omega) hj
    rw [decide_eq_true (by omega)]
    unfold few28
    simp [h20]
    exact hall'
  · rw [decide_eq_false (by omega)]
    unfold few28
    simp [h20]
end Go.Proofs.YtjilbkioieicbaaGreat

/- Walks: the examples of layer 28. -/
namespace Go.Proofs.YtjilbkioieicbaaGreat
open Go.Vc Rt
set_option linter.unusedVariables false
set_option linter.unusedSimpArgs false
def deed28 (kind author who f t day : Int) : Deed := ⟨9, kind, author, who, day, 0, [⟨0, f, t⟩]⟩
def encQ (d : Deed) (id : Nat) (v : Value) : List CV := [.i d.mark, .i d.kind, .i d.author, .i d.who, .i d.day, .i d.til, .o id v]
theorem deed28_c (kind author who f t day : Int) (w : World) : Calls Tryz.prog 18 #[vI kind, vI author, vI who, vI f, vI t, vI day] w (fun e w' => ∃ v, e = .returned (vD (deed28 kind author who f t day) v) ∧ (LO.row v 25 3 ([⟨0, f, t⟩].map encS)).holds w' ∧ (∀ b ∈ blkOf v, w.heap.size ≤ b) ∧ Ext w w') := by
  refine calls_plainB [.i kind, .i author, .i who, .i f, .i t, .i day] Tryz.func18 rfl rfl (Nat.le_of_ble_eq_true rfl) rfl fun B hB => ?_
  repeat refine At.seq ?_
  refine At.region tab_ok ?_
  conv => whnf
  intro b12
  conv => whnf
  repeat refine At.seq ?_
  refine At.region tab_ok ?_
  conv => whnf
  intro v1
  conv => whnf
  repeat refine At.seq ?_
  refine At.ret (At.doneB tab_ok hB _ rfl fun w' hw => ⟨v1, rfl, hw.row (id := 1) rfl, fun b hb => ?_, hw.fr⟩)
  rcases hw.fresh (id := 1) rfl b hb with h | h
  · cases h
  · exact h
theorem deed_call {st : St} {dd : Option Nat} {K : St → Prop} (kind author who f t day : Int) (hk : ∀ v : Value, st.pushK (.row v 25 3 ([⟨0, f, t⟩].map encS)) (fun n st' => goPut st' dd (.s (.agg (encQ (deed28 kind author who f t day) n v))) K)) : UCall Tryz.prog st 18 [vI kind, vI author, vI who, vI f, vI t, vI day] dd K :=
  .inl ⟨b77, fun hwf w hw => (deed28_c kind author who f t day w).mono fun e w' ⟨v, he, hr, hf, hx⟩ => by
    have hk := hk v
    simp only [pushK_eq] at hk
    refine ⟨.s (.agg (encQ (deed28 kind author who f t day) (nid st.hp) v)), st.push (.row v 25 3 ([⟨0, f, t⟩].map encS)), he, push_same, hwf.push ⟨rows_some hr, (nopS _).ok⟩, ?_, (hw.ext hx).pushO hr (fun b hb => ⟨fun hm => ?_, .inr (Nat.le_trans hw.fr.size (hf b hb))⟩), hk⟩
    · intro c hc
      simp [encQ] at hc
      rcases hc with rfl | rfl | rfl | rfl | rfl | rfl | rfl <;> first | trivial | exact ownsAt_slice hr.1
    · have := hw.blk_lt b hm
      have := hf b hb
      omega⟩
def xTake : Deed := ⟨0, 0, 3, 0, 0, 0, [⟨0, 0, 10⟩]⟩
def xLend : Deed := ⟨9, 2, 3, 5, 1, 20, [⟨0, 0, 4⟩]⟩
def xL : List Lot := [⟨⟨0, 0, 4⟩, 3, 5, 20, -1⟩, ⟨⟨0, 4, 10⟩, 3, 3, 0, -1⟩]
def xPass : Deed := deed28 1 3 6 0 2 30
def xX : List Lot := [⟨⟨0, 0, 2⟩, 6, 6, 0, -1⟩, ⟨⟨0, 2, 4⟩, 3, 5, 20, -1⟩, ⟨⟨0, 4, 10⟩, 3, 3, 0, -1⟩]
def xY : List Lot := [⟨⟨0, 0, 2⟩, 3, 5, 20, 9⟩, ⟨⟨0, 2, 4⟩, 3, 5, 20, -1⟩, ⟨⟨0, 4, 10⟩, 3, 3, 0, -1⟩]
def xE : List Lot := [⟨⟨0, 0, 2⟩, 3, 3, 0, -1⟩, ⟨⟨0, 2, 4⟩, 3, 5, 20, -1⟩, ⟨⟨0, 4, 10⟩, 3, 3, 0, -1⟩]
def xZ : List Lot := [⟨⟨0, 0, 1⟩, 3, 5, 20, -1⟩, ⟨⟨0, 1, 2⟩, 3, 5, 20, 9⟩, ⟨⟨0, 2, 4⟩, 3, 5, 20, -1⟩, ⟨⟨0, 4, 10⟩, 3, 3, 0, -1⟩]
theorem x_lots : leaseK [xTake, xLend] [] = (xL, [0, 0]) := by kernel_rfl
theorem x_a : leaseDo xPass [0, 0, 0, 0, 0, 20] xL = (xL, 28) := by kernel_rfl
theorem x_b : leaseDo xPass [0, 0, 0, 0, 0, 21] xL = (xX, 0) := by kernel_rfl
theorem x_c : leaseDo (deed28 3 5 0 0 2 20) [] xL = (xY, 0) := by kernel_rfl
theorem x_d : leaseDo (deed28 3 5 0 0 2 21) [] xL = (xL, 25) := by kernel_rfl
theorem x_e : leaseDo (deed28 1 5 3 0 2 20) [] xL = (xE, 0) := by kernel_rfl
theorem x_f : leaseDo (deed28 1 5 3 0 2 21) [] xL = (xL, 25) := by kernel_rfl
theorem x_g : leaseDo (deed28 3 5 0 1 2 20) [] xL = (xZ, 0) := by kernel_rfl
theorem x_h : leaseDo xPass [0, 0, 0, 0, 0, 21] xZ = (xZ, 29) := by kernel_rfl
theorem x_u1 : usableL xL 5 20 [] = [⟨0, 0, 4⟩] := by kernel_rfl
theorem x_u2 : usableL xL 5 21 [] = [] := by kernel_rfl
theorem x_u3 : usableL xL 3 0 [] = [⟨0, 4, 10⟩] := by kernel_rfl
theorem x_n1 : count [⟨0, 0, 4⟩] = 4 := by kernel_rfl
theorem x_n2 : count [⟨0, 4, 10⟩] = 6 := by kernel_rfl
theorem x_o : norm (openL (fun l => decide (l.o = 6)) xX) = [⟨0, 0, 2⟩] := by kernel_rfl
theorem x_n3 : count [⟨0, 0, 2⟩] = 2 := by kernel_rfl
theorem x_s : count (norm (openL (fun _ => true) xY)) = 8 := by kernel_rfl
theorem x_m : mayU ⟨⟨0, 0, 4⟩, 3, 5, 20, -1⟩ 4 0 0 = 27 := by kernel_rfl
theorem x_8 : ∀ d ∈ [xTake, xLend], d.spans.length ≤ 8 := by decide
theorem x_good : Good xL := by
  have := (leaseF_good _ (pairUp [xTake, xLend] []) rfl fun x hx => x_8 x.1 (pairUp_mem hx)).1
  change Good (leaseK [xTake, xLend] []).1 at this
  rw [x_lots] at this; exact this
theorem x_goodZ : Good xZ := by
  have := (good_lease x_good (deed28 3 5 0 1 2 20) [] (by decide)).1
  rw [x_g] at this; exact this
theorem nilSe (w : World) : SlOf seT [] w (.slice none 0 0) [] := ⟨⟨none, 0, 0, rfl, fun _ => ⟨rfl, rfl⟩, Nat.le_refl _⟩, rfl, by simp, fun a n c e => (by cases e), fun i x hx => (by simp at hx)⟩
theorem small28_c (w : World) : Ans Tryz.prog 4 [] (.b true) w := by
  refine calls_plainB [] Tryz.func4 rfl rfl (Nat.le_of_ble_eq_true rfl) rfl fun B hB => ?_
  repeat refine At.seq ?_
  refine At.region tab_ok ?_
  conv => whnf
  repeat refine At.seq ?_
  refine At.region tab_ok ?_
  conv => whnf
  intro r0
  conv => whnf
  intro b1
  conv => whnf
  repeat refine At.seq ?_
  refine At.region tab_ok ?_
  conv => whnf
  refine deed_call 2 3 5 0 4 1 ?_
  intro r2
  conv => whnf
  intro b2
  conv => whnf
  repeat refine At.seq ?_
  refine At.region tab_ok ?_
  conv => whnf
  repeat refine At.seq ?_
  refine At.region tab_ok ?_
  conv => whnf
  intro vd
  conv => whnf
  refine ansR_call b44 (rd2 (nopL _) (nopI _)) (fun w' hw => leaseLots_c [xTake, xLend] [] vd (.slice none 0 0) w' (SlOf.of_rows (hw.row (id := 4) rfl) (fun _ _ => nilS) (by decide) ⟨⟨encD xTake r0, rfl, r0, rfl, slS [⟨0, 0, 10⟩] (hw.row (id := 0) rfl) (by decide)⟩, ⟨encD xLend r2, rfl, r2, rfl, slS [⟨0, 0, 4⟩] (hw.row (id := 2) rfl) (by decide)⟩, trivial⟩) (nilSe w') (by decide) x_8) ?_
  rw [x_lots]
  intro vl
  conv => whnf
  intro ve
  conv => whnf
  repeat refine At.seq ?_
  refine At.regionG tab_ok ?_
  conv => whnf
  refine ⟨rfl, ?_⟩
  conv => whnf
  refine ⟨rfl, ?_⟩
  conv => whnf
  repeat refine At.seq ?_
  refine At.cond (t := false) rfl (fun hq => by cases hq) (fun hq => At.skip ?_)
  repeat refine At.seq ?_
  refine At.region tab_ok ?_
  conv => whnf
  refine deed_call 1 3 6 0 2 30 ?_
  intro r7
  conv => whnf
  intro b5
  conv => whnf
  repeat refine At.seq ?_
  refine At.region tab_ok ?_
  conv => whnf
  intro q1
  conv => whnf
  refine ansR_call b48 (rdP (nopL _)) (fun w' hw => leaseDo_c xL xPass [0, 0, 0, 0, 0, 20] vl r7 q1 w' (slL xL (hw.row (id := 5) rfl) (by decide)) (slS _ (hw.row (id := 7) rfl) (by decide)) (slI [0, 0, 0, 0, 0, 20] (hw.row (id := 9) rfl) (by decide)) (by decide) (by decide) (leaseF_ok x_good (by decide) (by decide)).1 (leaseF_ok x_good (by decide) (by decide)).2) ?_
  rw [x_a]
  intro va
  conv => whnf
  repeat refine At.seq ?_
  refine At.region tab_ok ?_
  conv => whnf
  intro q2
  conv => whnf
  refine ansR_call b48 (rdP (nopL _)) (fun w' hw => leaseDo_c xL xPass [0, 0, 0, 0, 0, 21] vl r7 q2 w' (slL xL (hw.row (id := 5) rfl) (by decide)) (slS _ (hw.row (id := 7) rfl) (by decide)) (slI [0, 0, 0, 0, 0, 21] (hw.row (id := 11) rfl) (by decide)) (by decide) (by decide) (leaseF_ok x_good (by decide) (by decide)).1 (leaseF_ok x_good (by decide) (by decide)).2) ?_
  rw [x_b]
  intro vx
  conv => whnf
  repeat refine At.seq ?_
  refine At.region tab_ok ?_
  conv => whnf
  refine deed_call 3 5 0 0 2 20 ?_
  intro r13
  conv => whnf
  refine ansR_call b48 (rdP (nopL _)) (fun w' hw => leaseDo_c xL (deed28 3 5 0 0 2 20) [] vl r13 (.slice none 0 0) w' (slL xL (hw.row (id := 5) rfl) (by decide)) (slS _ (hw.row (id := 13) rfl) (by decide)) (nilI w') (by decide) (by decide) (leaseF_ok x_good (by decide) (by decide)).1 (leaseF_ok x_good (by decide) (by decide)).2) ?_
  rw [x_c]
  intro vy
  conv => whnf
  repeat refine At.seq ?_
  refine At.region tab_ok ?_
  conv => whnf
  refine deed_call 3 5 0 0 2 21 ?_
  intro r15
  conv => whnf
  refine ansR_call b48 (rdP (nopL _)) (fun w' hw => leaseDo_c xL (deed28 3 5 0 0 2 21) [] vl r15 (.slice none 0 0) w' (slL xL (hw.row (id := 5) rfl) (by decide)) (slS _ (hw.row (id := 15) rfl) (by decide)) (nilI w') (by decide) (by decide) (leaseF_ok x_good (by decide) (by decide)).1 (leaseF_ok x_good (by decide) (by decide)).2) ?_
  rw [x_d]
  intro v16
  conv => whnf
  repeat refine At.seq ?_
  refine At.region tab_ok ?_
  conv => whnf
  refine deed_call 1 5 3 0 2 20 ?_
  intro r17
  conv => whnf
  refine ansR_call b48 (rdP (nopL _)) (fun w' hw => leaseDo_c xL (deed28 1 5 3 0 2 20) [] vl r17 (.slice none 0 0) w' (slL xL (hw.row (id := 5) rfl) (by decide)) (slS _ (hw.row (id := 17) rfl) (by decide)) (nilI w') (by decide) (by decide) (leaseF_ok x_good (by decide) (by decide)).1 (leaseF_ok x_good (by decide) (by decide)).2) ?_
  rw [x_e]
  intro v18
  conv => whnf
  repeat refine At.seq ?_
  refine At.region tab_ok ?_
  conv => whnf
  refine deed_call 1 5 3 0 2 21 ?_
  intro r19
  conv => whnf
  refine ansR_call b48 (rdP (nopL _)) (fun w' hw => leaseDo_c xL (deed28 1 5 3 0 2 21) [] vl r19 (.slice none 0 0) w' (slL xL (hw.row (id := 5) rfl) (by decide)) (slS _ (hw.row (id := 19) rfl) (by decide)) (nilI w') (by decide) (by decide) (leaseF_ok x_good (by decide) (by decide)).1 (leaseF_ok x_good (by decide) (by decide)).2) ?_
  rw [x_f]
  intro v20
  conv => whnf
  repeat refine At.seq ?_
  refine At.region tab_ok ?_
  conv => whnf
  refine deed_call 3 5 0 1 2 20 ?_
  intro r21
  conv => whnf
  refine ansR_call b48 (rdP (nopL _)) (fun w' hw => leaseDo_c xL (deed28 3 5 0 1 2 20) [] vl r21 (.slice none 0 0) w' (slL xL (hw.row (id := 5) rfl) (by decide)) (slS _ (hw.row (id := 21) rfl) (by decide)) (nilI w') (by decide) (by decide) (leaseF_ok x_good (by decide) (by decide)).1 (leaseF_ok x_good (by decide) (by decide)).2) ?_
  rw [x_g]
  intro vz
  conv => whnf
  repeat refine At.seq ?_
  refine At.region tab_ok ?_
  conv => whnf
  intro q3
  conv => whnf
  refine ansR_call b48 (rdP (nopL _)) (fun w' hw => leaseDo_c xZ xPass [0, 0, 0, 0, 0, 21] vz r7 q3 w' (slL xZ (hw.row (id := 22) rfl) (by decide)) (slS _ (hw.row (id := 7) rfl) (by decide)) (slI [0, 0, 0, 0, 0, 21] (hw.row (id := 23) rfl) (by decide)) (by decide) (by decide) (leaseF_ok x_goodZ (by decide) (by decide)).1 (leaseF_ok x_goodZ (by decide) (by decide)).2) ?_
  rw [x_h]
  intro v24
  conv => whnf
  repeat refine At.seq ?_
  refine At.regionG tab_ok ?_
  conv => whnf
  refine ⟨rfl, ?_⟩
  conv => whnf
  refine ⟨by decide, ?_⟩
  conv => whnf
  refine ⟨by decide, ?_⟩
  conv => whnf
  refine ⟨encI 0, ⟨rfl, rfl, by decide, rfl⟩, ?_⟩
  conv => whnf
  refine ⟨rfl, ?_⟩
  conv => whnf
  refine ⟨by decide, ?_⟩
  conv => whnf
  refine ⟨by decide, ?_⟩
  conv => whnf
  refine ⟨encI 0, ⟨rfl, rfl, by decide, rfl⟩, ?_⟩
  conv => whnf
  repeat refine At.seq ?_
  refine At.region tab_ok ?_
  conv => whnf
  refine ansR_call b45 (rd1 (nopS _)) (fun w' hw => usable_c xL 5 20 [] vl (.slice none 0 0) w' (slL xL (hw.row (id := 5) rfl) (by decide)) (nilI w') (by decide)) ?_
  rw [x_u1]
  intro vu
  conv => whnf
  repeat refine At.seq ?_
  refine At.regionG tab_ok ?_
  conv => whnf
  refine ans_call b27 rfl (fun w' hw => count_c [⟨0, 0, 4⟩] [] vu w' (slS _ (hw.row (id := 25) rfl) (by decide)) (by decide)) ?_
  rw [x_n1]
  conv => whnf
  refine ansR_call b45 (rd1 (nopS _)) (fun w' hw => usable_c xL 5 21 [] vl (.slice none 0 0) w' (slL xL (hw.row (id := 5) rfl) (by decide)) (nilI w') (by decide)) ?_
  rw [x_u2]
  intro v26
  conv => whnf
  refine ⟨rfl, ?_⟩
  conv => whnf
  refine ansR_call b45 (rd1 (nopS _)) (fun w' hw => usable_c xL 3 0 [] vl (.slice none 0 0) w' (slL xL (hw.row (id := 5) rfl) (by decide)) (nilI w') (by decide)) ?_
  rw [x_u3]
  intro v27
  conv => whnf
  refine ans_call b27 rfl (fun w' hw => count_c [⟨0, 4, 10⟩] [] v27 w' (slS _ (hw.row (id := 27) rfl) (by decide)) (by decide)) ?_
  rw [x_n2]
  conv => whnf
  refine ansR_call b28 (rd1 (nopS _)) (fun w' hw => owned_c xX 6 [] vx w' (slL xX (hw.row (id := 12) rfl) (by decide)) (by decide)) ?_
  rw [x_o]
  intro v28
  conv => whnf
  refine ans_call b27 rfl (fun w' hw => count_c [⟨0, 0, 2⟩] [] v28 w' (slS _ (hw.row (id := 28) rfl) (by decide)) (by decide)) ?_
  rw [x_n3]
  conv => whnf
  refine ans_call b30 rfl (fun w' hw => sum_c xY [] vy w' (slL xY (hw.row (id := 14) rfl) (by decide)) (by decide)) ?_
  rw [x_s]
  conv => whnf
  refine ⟨rfl, ?_⟩
  conv => whnf
  refine ⟨by decide, ?_⟩
  conv => whnf
  refine ⟨by decide, ?_⟩
  conv => whnf
  refine ⟨encL ⟨⟨0, 0, 4⟩, 3, 5, 20, -1⟩, ⟨rfl, rfl, by decide, rfl⟩, ?_⟩
  conv => whnf
  refine ans_call b78 rfl (fun w' hw => mayU_c ⟨⟨0, 0, 4⟩, 3, 5, 20, -1⟩ 4 0 0 w') ?_
  rw [x_m]
  conv => whnf
  repeat refine At.seq ?_
  refine At.ret (At.doneB tab_ok hB _ rfl fun w' hw => ⟨rfl, hw.fr⟩)
end Go.Proofs.YtjilbkioieicbaaGreat

