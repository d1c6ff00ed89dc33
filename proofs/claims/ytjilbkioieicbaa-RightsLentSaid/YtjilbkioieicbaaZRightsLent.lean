/- The law RightsLent: for every input the call returns true and the arguments read as before; no condition. -/
import Derived.Test.YtjilbkioieicbaaME
import Derived.Test.YtjilbkioieicbaaRows
import Derived.WalkKit
import Derived.ProofKit
import Derived.OpenShut
import Derived.Carry
/- The law RightsLent, in plain terms. -/
namespace Go.Proofs.Ytjilbkioieicbaa
open Go.Vc Rt
set_option linter.unusedVariables false
set_option linter.unusedSimpArgs false
def untilF (F : Int → Int → Option Sta) : Prop := ∀ m n x, F m n = some x → x.o = x.h → x.u = 0
theorem step_until {F : Int → Int → Option Sta} {d : Deed} (h : untilF F) : untilF (stepF F d) := by
  intro m n x hx hoh
  by_cases he : errF F d = 0
  · by_cases hh : Has d.spans m n
    · have hr := err_right he
      rcases coin_of he hh with ⟨hk, e1, e2⟩ | ⟨hk, y, e1, e2, e3, e4, e5⟩
      · rw [e2] at hx; cases hx; rfl
      · rw [e5] at hx; cases hx
        rcases right_kind hr with hk' | hk' | hk' | hk'
        · exact (hk hk').elim
        · rw [movedS_1 hk']
        · rw [movedS_2 hk'] at hoh
          simp only at hoh
          have := (right_who hr (.inr hk')).2
          rcases e4 with e4 | e4 | e4
          · exact (this (by omega)).elim
          · omega
          · omega
        · rw [movedS_3 hk'] at hoh ⊢; exact h m n y e1 hoh
    · rw [coin_not hh] at hx; exact h m n x hx hoh
  · unfold stepF at hx; rw [if_neg he] at hx; exact h m n x hx hoh
theorem until_lots : ∀ (n : Nat) (l : List Deed), l.length = n → (∀ d ∈ l, d.spans.length ≤ 8) → untilF (sta (lotsK l).1)
  | 0, l, hn, _ => by
    rw [List.eq_nil_of_length_eq_zero hn]
    intro m n x hx; cases hx
  | k + 1, l, hn, hs => by
    rcases List.eq_nil_or_concat l with rfl | ⟨l', d, rfl⟩
    · simp at hn
    · simp only [List.concat_eq_append] at *
      have ih := until_lots k l' (by simpa using hn) fun x hx => hs x (by simp [hx])
      have hg := good_lots _ l' rfl fun x hx => hs x (by simp [hx])
      rw [lotsK_snoc]
      simp only
      rw [(good_do hg (hs d (by simp))).2.2]
      exact step_until ih
theorem err_moved {F : Int → Int → Option Sta} {t : Deed} (hr : right t = true) (hk : t.kind ≠ 0) (hall : ∀ m n, Has t.spans m n → ∃ x, F m n = some x) : errF F t = errSet (fun c => ∃ m n x, Has t.spans m n ∧ F m n = some x ∧ mayS x t = c) := by
  unfold errF
  rw [if_neg (by rw [hr]; simp), if_neg hk, if_neg]
  rintro ⟨m, n, h1, h2⟩
  obtain ⟨x, hx⟩ := hall m n h1
  rw [h2] at hx; cases hx
theorem right_coin {t : Deed} (hr : right t = true) : ∃ m n, Has t.spans m n := by
  obtain ⟨_, _, _, h, _⟩ := right_parts hr
  obtain ⟨s, hs⟩ : ∃ s, s ∈ t.spans := List.exists_mem_of_length_pos h
  have := right_spans hr s hs
  exact ⟨s.m, s.f, s, hs, rfl, by omega, by omega⟩
theorem err_28 {F : Int → Int → Option Sta} {t : Deed} (hr : right t = true) (hk : t.kind ≠ 0) (h : ∀ m n, Has t.spans m n → ∃ x, F m n = some x ∧ mayS x t = 28) : errF F t = 28 := by
  rw [err_moved hr hk fun m n hh => let ⟨x, hx, _⟩ := h m n hh; ⟨x, hx⟩]
  have key : ∀ c, (∃ m n x, Has t.spans m n ∧ F m n = some x ∧ mayS x t = c) → c = 28 := by
    rintro c ⟨m, n, x, h1, h2, h3⟩
    obtain ⟨y, hy, hy'⟩ := h m n h1
    rw [h2] at hy; cases hy; omega
  unfold errSet
  rw [if_neg fun hc => by have := key 29 hc; omega, if_neg fun hc => by have := key 27 hc; omega, if_pos]
  obtain ⟨m, n, hh⟩ := right_coin hr
  obtain ⟨x, hx, hx'⟩ := h m n hh
  exact ⟨m, n, x, hh, hx, hx'⟩
theorem err_0 {F : Int → Int → Option Sta} {t : Deed} (hr : right t = true) (hk : t.kind ≠ 0) (h : ∀ m n, Has t.spans m n → ∃ x, F m n = some x ∧ mayS x t = 0) : errF F t = 0 := by
  rw [err_moved hr hk fun m n hh => let ⟨x, hx, _⟩ := h m n hh; ⟨x, hx⟩]
  have key : ∀ c, (∃ m n x, Has t.spans m n ∧ F m n = some x ∧ mayS x t = c) → c = 0 := by
    rintro c ⟨m, n, x, h1, h2, h3⟩
    obtain ⟨y, hy, hy'⟩ := h m n h1
    rw [h2] at hy; cases hy; omega
  exact errSet_of_zero (fun hc => by have := key 29 hc; omega) (fun hc => by have := key 27 hc; omega) (fun hc => by have := key 28 hc; omega)
theorem right_base {d : Deed} (h1 : 0 ≤ d.mark ∧ d.mark ≤ 1073741824) (h2 : isKey d.author = true) (h3 : 0 < d.spans.length) (h4 : normal d.spans = true) : ¬ (d.mark < 0 ∨ 1073741824 < d.mark ∨ isKey d.author = false ∨ d.spans.length = 0 ∨ normal d.spans = false) := by
  rintro (h | h | h | h | h)
  · omega
  · omega
  · rw [h2] at h; cases h
  · omega
  · rw [h4] at h; cases h
theorem right_mk1 {d : Deed} (h1 : 0 ≤ d.mark ∧ d.mark ≤ 1073741824) (h2 : isKey d.author = true) (h3 : 0 < d.spans.length) (h4 : normal d.spans = true) (hk : d.kind = 1) (h5 : isKey d.who = true) (h6 : d.who ≠ d.author) : right d = true := by
  unfold right; rw [if_neg (right_base h1 h2 h3 h4), if_neg (by omega), if_pos hk, h5]; simp [h6]
theorem right_mk2 {d : Deed} (h1 : 0 ≤ d.mark ∧ d.mark ≤ 1073741824) (h2 : isKey d.author = true) (h3 : 0 < d.spans.length) (h4 : normal d.spans = true) (hk : d.kind = 2) (h5 : isKey d.who = true) (h6 : d.who ≠ d.author) (h7 : 0 ≤ d.til ∧ d.til ≤ 1048576) : right d = true := by
  unfold right; rw [if_neg (right_base h1 h2 h3 h4), if_neg (by omega), if_neg (by omega), if_pos hk, h5]; simp [h6, h7]
theorem right_mk3 {d : Deed} (h1 : 0 ≤ d.mark ∧ d.mark ≤ 1073741824) (h2 : isKey d.author = true) (h3 : 0 < d.spans.length) (h4 : normal d.spans = true) (hk : d.kind = 3) : right d = true := by
  unfold right; rw [if_neg (right_base h1 h2 h3 h4), if_neg (by omega), if_neg (by omega), if_neg (by omega)]; simpa using hk
def lendD (a b til : Int) (spans : List Span) : Deed := ⟨1, 2, a, b, 0, til, spans⟩
def tryD (a b c : Int) (spans : List Span) : List Deed := [⟨0, 1, a, c, 0, 0, spans⟩, ⟨0, 3, a, 0, 0, 0, spans⟩, ⟨0, 1, b, c, 0, 0, spans⟩, ⟨0, 2, b, c, 0, 0, spans⟩, ⟨0, 1, b, a, 0, 0, spans⟩]
section
variable {L L1 : List Lot} {a b c til : Int} {spans : List Span}
theorem lent_coin (he : errF (sta L) (lendD a b til spans) = 0) (hs : sta L1 = stepF (sta L) (lendD a b til spans)) {m n : Int} (hh : Has spans m n) : sta L1 m n = some ⟨a, b, til, -1⟩ ∧ ∃ x, sta L m n = some x ∧ x.p = -1 ∧ x.h = a ∧ x.o = a := by
  rcases coin_of he hh with ⟨hk, _⟩ | ⟨_, x, e1, e2, e3, e4, e5⟩
  · cases hk
  · have hk2 : (lendD a b til spans).kind = 2 := rfl
    have ho : x.o = a := by rcases e4 with e4 | e4 | e4 <;> first | exact e4 | (have := hk2; omega)
    rw [hs, e5, movedS_2 hk2]
    exact ⟨by rw [ho, e2]; rfl, x, e1, e2, e3, ho⟩
theorem tries_law (hg : Good L) (hg1 : Good L1) (hu : untilF (sta L)) (he : errF (sta L) (lendD a b til spans) = 0) (hs : sta L1 = stepF (sta L) (lendD a b til spans)) (h8 : spans.length ≤ 8) (hc : isKey c = true) (hca : c ≠ a) (hcb : c ≠ b) :
    ∀ (i : Nat) t, (tryD a b c spans)[i]? = some t → (i < 4 → doB L1 t = (L1, 28)) ∧ (i = 4 → doB L1 t = (L, 0)) := by
  have hr := err_right he
  obtain ⟨_, _, ka, hpos, hnorm⟩ := right_parts hr
  obtain ⟨kb, hab⟩ := right_who hr (.inr rfl)
  change isKey a = true at ka
  change isKey b = true at kb
  change b ≠ a at hab
  change 0 < spans.length at hpos
  change normal spans = true at hnorm
  have hm0 : (0 : Int) ≤ 0 ∧ (0 : Int) ≤ 1073741824 := by omega
  have refuse : ∀ t : Deed, t.spans = spans → right t = true → t.kind ≠ 0 → mayS ⟨a, b, til, -1⟩ t = 28 → doB L1 t = (L1, 28) := by
    intro t hts hrt hkt hmay
    have e : errF (sta L1) t = 28 := err_28 hrt hkt fun m n hh => ⟨_, (lent_coin he hs (by rw [hts] at hh; exact hh)).1, hmay⟩
    obtain ⟨_, g2, _⟩ := good_do (d := t) hg1 (by rw [hts]; exact h8)
    rw [e] at g2
    exact Prod.ext (doB_refused hg1.mgd (by rw [g2]; decide)) g2
  intro i t ht
  match i, ht with
  | 0, ht =>
    cases ht
    refine ⟨fun _ => refuse _ rfl (right_mk1 hm0 ka hpos hnorm rfl hc hca) (by simp) ?_, fun h => by cases h⟩
    unfold mayS
    simp only
    rw [if_neg (by simp), if_neg (by omega), if_pos hab]
  | 1, ht =>
    cases ht
    refine ⟨fun _ => refuse _ rfl (right_mk3 hm0 ka hpos hnorm rfl) (by simp) ?_, fun h => by cases h⟩
    unfold mayS
    simp only
    rw [if_neg (by simp), if_neg (by omega), if_pos hab]
  | 2, ht =>
    cases ht
    refine ⟨fun _ => refuse _ rfl (right_mk1 hm0 kb hpos hnorm rfl hc hcb) (by simp) ?_, fun h => by cases h⟩
    unfold mayS
    simp only
    rw [if_neg (by simp), if_neg (by omega), if_neg (by simp), if_pos ⟨fun e => hab e.symm, by decide, .inr hca⟩]
  | 3, ht =>
    cases ht
    refine ⟨fun _ => refuse _ rfl (right_mk2 hm0 kb hpos hnorm rfl hc hcb (by simp)) (by simp) ?_, fun h => by cases h⟩
    unfold mayS
    simp only
    rw [if_neg (by simp), if_neg (by omega), if_neg (by simp), if_pos ⟨fun e => hab e.symm, by decide, .inl (by decide)⟩]
  | 4, ht =>
    cases ht
    refine ⟨fun h => by omega, fun _ => ?_⟩
    have hrt : right ⟨0, 1, b, a, 0, 0, spans⟩ = true := right_mk1 hm0 kb hpos hnorm rfl ka (fun e => hab e.symm)
    have e : errF (sta L1) ⟨0, 1, b, a, 0, 0, spans⟩ = 0 := err_0 hrt (by simp) fun m n hh => ⟨_, (lent_coin he hs hh).1, by
      unfold mayS
      simp only
      rw [if_neg (by simp), if_neg (by omega), if_neg (by simp), if_neg]
      rintro ⟨_, _, h | h⟩
      · exact h rfl
      · exact h rfl⟩
    obtain ⟨g1, g2, g3⟩ := good_do (d := ⟨0, 1, b, a, 0, 0, spans⟩) hg1 h8
    refine Prod.ext (g1.ext hg ?_) (by rw [g2, e])
    rw [g3]
    funext m n
    by_cases hh : Has spans m n
    · obtain ⟨c1, x, x1, x2, x3, x4⟩ := lent_coin he hs hh
      rcases coin_of e hh with ⟨hk, _⟩ | ⟨_, y, y1, _, _, _, y5⟩
      · cases hk
      · rw [y5, movedS_1 rfl, x1]
        rw [c1] at y1
        cases y1
        have := hu m n x x1 (by omega)
        rw [show x = ⟨a, a, 0, -1⟩ from Sta.ext' x4 x3 this x2]
    · rw [coin_not hh, hs, coin_not hh]
  | n + 5, ht => simp [tryD] at ht
theorem open_ext {p q : Lot → Bool} {f g : Sta → Bool} {A B : List Lot} (hp : ∀ l, p l = f (stL l)) (hq : ∀ l, q l = g (stL l)) (hA : Ord A) (hB : Ord B) (h : ∀ m n, (∃ x, sta A m n = some x ∧ x.p = -1 ∧ f x = true) ↔ (∃ x, sta B m n = some x ∧ x.p = -1 ∧ g x = true)) : norm (openL p A) = norm (openL q B) :=
  NF.ext (norm_nf _) (norm_nf _) fun m n => by rw [has_open hp hA, has_open hq hB]; exact h m n
theorem lent_rest (hg : Good L) (hg1 : Good L1) (he : errF (sta L) (lendD a b til spans) = 0) (hs : sta L1 = stepF (sta L) (lendD a b til spans)) :
    ownedL L1 a = ownedL L a ∧ (minus spans (heldL L1 b)).length = 0 ∧ (common spans (heldL L1 a)).length = 0 ∧ norm (openL (fun _ => true) L1) = norm (openL (fun _ => true) L) := by
  refine ⟨owned_ext hg1.ord hg.ord fun m n => ?_, got_held (d := lendD a b til spans) hg1.ord hs he (by unfold lendD; simp) (by unfold lendD; simp), gone_held (d := lendD a b til spans) hg1.ord hs he (by unfold lendD; simp), open_ext (f := fun _ => true) (g := fun _ => true) (fun l => rfl) (fun l => rfl) hg1.ord hg.ord fun m n => ?_⟩
  · by_cases hh : Has spans m n
    · obtain ⟨c1, x, x1, x2, x3, x4⟩ := lent_coin he hs hh
      rw [c1, x1]
      exact ⟨fun _ => ⟨x, rfl, x2, x4⟩, fun _ => ⟨_, rfl, rfl, rfl⟩⟩
    · rw [hs, coin_not hh]
  · by_cases hh : Has spans m n
    · obtain ⟨c1, x, x1, x2, x3, x4⟩ := lent_coin he hs hh
      rw [c1, x1]
      exact ⟨fun _ => ⟨x, rfl, x2, rfl⟩, fun _ => ⟨_, rfl, rfl, rfl⟩⟩
    · rw [hs, coin_not hh]
end
end Go.Proofs.Ytjilbkioieicbaa

/- The law RightsLent (stokvellaw27): what the call computes. -/
namespace Go.Proofs.Ytjilbkioieicbaa
open Go.Vc Rt
set_option linter.unusedVariables false
set_option linter.unusedSimpArgs false
theorem sl_all {w w' : World} {v u : Value} {l : List Deed} {d : Deed} {R : List (List CV)} (h : (LO.row v 54 7 (R ++ [encD d u])).holds w') (hx : Ext w w') (hr : relAll deT [] w l R) (hu : SlOf spT [] w u d.spans) (hl : l.length ≤ 1954687338211) : SlOf deT [] w' v (l ++ [d]) :=
  SlOf.of_rows h (fun _ _ => nilS) (by simp; omega) (relAll_append (relAll_fr hx hr) (relAll_deed (hu.fr hx)))
theorem lent_c (l : List Deed) (spans : List Span) (a b til : Int) (v u : Value) (w : World) (h : SlOf deT [] w v l) (hu : SlOf spT [] w u spans) (hb : l.length ≤ 1954687338211) : Ans Try.prog 11 [v, u, vI a, vI b, vI til] (.b true) w := by
  have hl := h.len
  have hsm := h.small
  obtain ⟨R, hRl, hrel, hsrc, hnp, hone⟩ := slRows h (fun x l hx => deed_one hx)
  have hu : SlOf spT [] w u ((lendD a b til spans)).spans := hu
  have hnp1 : NoP (R ++ [encD (lendD a b til spans) u]) := NoP.app hnp (NoP.one (encD_one hu.sl.one))
  have hone1 : ∀ l ∈ R ++ [encD (lendD a b til spans) u], ∀ c ∈ l, c.den.oneCell' = true := one_app hone (one_one (encD_one hu.sl.one))
  refine calls_plainB [.x v, .x u, .i a, .i b, .i til] Try.func11 rfl rfl (Nat.le_of_ble_eq_true rfl) rfl fun B hB => ?_
  repeat refine At.seq ?_
  refine At.region tab_ok ?_
  conv => whnf
  repeat refine At.seq ?_
  refine At.region tab_ok ?_
  conv => whnf
  refine ans_call b24 rfl (fun w' hw => small27_c w') ?_
  conv => whnf
  repeat refine At.seq ?_
  refine At.region tab_ok ?_
  conv => whnf
  refine ⟨hu.sl.one, ?_⟩
  conv => whnf
  intro b12
  conv => whnf
  refine ⟨hu.sl.one, ?_⟩
  conv => whnf
  repeat refine At.seq ?_
  refine At.join (fun q : Unit => { N := Try.f11.ntmps, sl := [(0, some (.x v)), (1, some (.x u)), (2, some (.i a)), (3, some (.i b)), (4, some (.i til)), (11, some (.b true)), (12, some (.s (.c (.p 0 b12 0)))), (36, some (.b (!few (l ++ [(lendD a b til spans)]) 13)))], gl := [], hp := [(0, .box b12 54 (encD (lendD a b til spans) u))], S := [], ws := w }) (fun q : Unit => True) ?_ ?_
  · repeat refine At.seq ?_
    refine At.planG tab_ok mixed [(0, .box b12 54 (encD (lendD a b til spans) u))] (.take 1 (.take 3 (.br 0 (.br 2 (.br 4 (.br 5 (.br 6 (.take 7 (.done)) (.nob)) (.nob)) (.nob)) (.br 4 (.br 2 (.br 5 (.br 6 (.take 7 (.done)) (.nob)) (.nob)) (.nob)) (.nob))) (.br 4 (.br 0 (.br 2 (.br 5 (.br 6 (.take 7 (.done)) (.nob)) (.nob)) (.nob)) (.nob)) (.nob))))) (by kernel_rfl) (by kernel_rfl) ⟨rfl, trivial⟩ ?_
    conv => whnf
    refine ⟨?_, ?_, trivial⟩
    · conv => whnf
      intro r0
      conv => whnf
      refine ⟨⟨⟨rfl, trivial⟩, fun w' hw => hw.fr⟩, ?_⟩
      conv => whnf
      refine ⟨?_, ?_, trivial⟩
      · conv => whnf
        refine ⟨R, ⟨fun w' hw => hsrc w' hw.fr, hnp⟩, ?_⟩
        conv => whnf
        refine ⟨⟨rfl, by simp; omega⟩, ?_⟩
        conv => whnf
        intro r1
        conv => whnf
        refine ⟨⟨⟨rfl, trivial⟩, fun w' hw => hw.fr⟩, ?_⟩
        conv => whnf
        refine ⟨?_, trivial⟩
        conv => whnf
        refine ⟨hu.sl.one, ?_⟩
        conv => whnf
        intro r2
        conv => whnf
        refine ⟨⟨⟨rfl, trivial⟩, fun w' hw => hw.fr⟩, ?_⟩
        conv => whnf
        refine ⟨?_, trivial⟩
        conv => whnf
        refine ⟨rfl, ?_⟩
        conv => whnf
        refine ⟨hu.sl.one, ?_⟩
        conv => whnf
        refine ⟨⟨rfl, by simp; omega⟩, ?_⟩
        conv => whnf
        intro r3
        conv => whnf
        refine ⟨⟨⟨rfl, trivial⟩, fun w' hw => hw.fr⟩, ?_⟩
        conv => whnf
        refine ⟨?_, trivial⟩
        conv => whnf
        refine ans_call b25 rfl (fun w' hw => few_c (l ++ [(lendD a b til spans)]) 13 [] _ w' (sl_all (hw.row (id := 1) rfl) hw.fr hrel hu (by omega))) ?_
        conv => whnf
        refine ⟨⟨⟨rfl, trivial⟩, fun w' hw => hw.fr⟩, ?_⟩
        conv => whnf
        refine At.meet fun w' hw => ⟨(), trivial, Le.of rfl rfl ⟨rfl, rfl, rfl, rfl, rfl, rfl, rfl, rfl, trivial⟩, hw.keep [0] rfl rfl rfl, ⟨⟨_, _, rfl⟩, trivial⟩, trivial⟩
      · conv => whnf
        refine ⟨hu.sl.one, ?_⟩
        conv => whnf
        intro r2
        conv => whnf
        refine ⟨⟨⟨rfl, trivial⟩, fun w' hw => hw.fr⟩, ?_⟩
        conv => whnf
        refine ⟨?_, trivial⟩
        conv => whnf
        refine ⟨R, ⟨fun w' hw => hsrc w' hw.fr, hnp⟩, ?_⟩
        conv => whnf
        refine ⟨⟨rfl, by simp; omega⟩, ?_⟩
        conv => whnf
        intro r1
        conv => whnf
        refine ⟨⟨⟨rfl, trivial⟩, fun w' hw => hw.fr⟩, ?_⟩
        conv => whnf
        refine ⟨?_, trivial⟩
        conv => whnf
        refine ⟨rfl, ?_⟩
        conv => whnf
        refine ⟨hu.sl.one, ?_⟩
        conv => whnf
        refine ⟨⟨rfl, by simp; omega⟩, ?_⟩
        conv => whnf
        intro r3
        conv => whnf
        refine ⟨⟨⟨rfl, trivial⟩, fun w' hw => hw.fr⟩, ?_⟩
        conv => whnf
        refine ⟨?_, trivial⟩
        conv => whnf
        refine ans_call b25 rfl (fun w' hw => few_c (l ++ [(lendD a b til spans)]) 13 [] _ w' (sl_all (hw.row (id := 1) rfl) hw.fr hrel hu (by omega))) ?_
        conv => whnf
        refine ⟨⟨⟨rfl, trivial⟩, fun w' hw => hw.fr⟩, ?_⟩
        conv => whnf
        refine At.meet fun w' hw => ⟨(), trivial, Le.of rfl rfl ⟨rfl, rfl, rfl, rfl, rfl, rfl, rfl, rfl, trivial⟩, hw.keep [0] rfl rfl rfl, ⟨⟨_, _, rfl⟩, trivial⟩, trivial⟩
    · conv => whnf
      refine ⟨hu.sl.one, ?_⟩
      conv => whnf
      intro r2
      conv => whnf
      refine ⟨⟨⟨rfl, trivial⟩, fun w' hw => hw.fr⟩, ?_⟩
      conv => whnf
      refine ⟨?_, trivial⟩
      conv => whnf
      intro r0
      conv => whnf
      refine ⟨⟨⟨rfl, trivial⟩, fun w' hw => hw.fr⟩, ?_⟩
      conv => whnf
      refine ⟨?_, trivial⟩
      conv => whnf
      refine ⟨R, ⟨fun w' hw => hsrc w' hw.fr, hnp⟩, ?_⟩
      conv => whnf
      refine ⟨⟨rfl, by simp; omega⟩, ?_⟩
      conv => whnf
      intro r1
      conv => whnf
      refine ⟨⟨⟨rfl, trivial⟩, fun w' hw => hw.fr⟩, ?_⟩
      conv => whnf
      refine ⟨?_, trivial⟩
      conv => whnf
      refine ⟨rfl, ?_⟩
      conv => whnf
      refine ⟨hu.sl.one, ?_⟩
      conv => whnf
      refine ⟨⟨rfl, by simp; omega⟩, ?_⟩
      conv => whnf
      intro r3
      conv => whnf
      refine ⟨⟨⟨rfl, trivial⟩, fun w' hw => hw.fr⟩, ?_⟩
      conv => whnf
      refine ⟨?_, trivial⟩
      conv => whnf
      refine ans_call b25 rfl (fun w' hw => few_c (l ++ [(lendD a b til spans)]) 13 [] _ w' (sl_all (hw.row (id := 2) rfl) hw.fr hrel hu (by omega))) ?_
      conv => whnf
      refine ⟨⟨⟨rfl, trivial⟩, fun w' hw => hw.fr⟩, ?_⟩
      conv => whnf
      refine At.meet fun w' hw => ⟨(), trivial, Le.of rfl rfl ⟨rfl, rfl, rfl, rfl, rfl, rfl, rfl, rfl, trivial⟩, hw.keep [0] rfl rfl rfl, ⟨⟨_, _, rfl⟩, trivial⟩, trivial⟩
  intro _ _
  repeat refine At.seq ?_
  refine At.cond rfl (fun hq => ?_) (fun hq => ?_)
  · repeat refine At.seq ?_
    refine At.region tab_ok ?_
    conv => whnf
    repeat refine At.seq ?_
    refine At.ret (At.doneB tab_ok hB _ rfl fun w' hw => ⟨rfl, hw.fr⟩)
  have hfew : few (l ++ [(lendD a b til spans)]) 13 = true := by simpa using hq
  obtain ⟨hn, hsp⟩ := few_spec hfew
  have hn : l.length ≤ 12 := by simp at hn; omega
  have hspl : ∀ d ∈ l, d.spans.length ≤ 8 := fun d hd => hsp d (List.mem_append_left _ hd)
  have hsp0 : spans.length ≤ 8 := hsp (lendD a b til spans) (by simp)
  have hes := lotsK_errs l
  have hsn := lotsK_snoc l (lendD a b til spans)
  have hg := good_lots _ l rfl hspl
  have hun := until_lots _ l rfl hspl
  have hg1 := good_lots _ (l ++ [(lendD a b til spans)]) rfl hsp
  have hlen := (lotsK_keeps _ l rfl hspl).2.2
  have hlen1 := (lotsK_keeps _ (l ++ [(lendD a b til spans)]) rfl hsp).2.2
  obtain ⟨_, he, hst⟩ := good_do (d := (lendD a b til spans)) hg hsp0
  refine At.skip ?_
  repeat refine At.seq ?_
  refine At.region tab_ok ?_
  conv => whnf
  refine ansR_call b26 (rd2 (nopL _) (nopI _)) (fun w' hw => lots_c l [] v w' (h.fr hw.fr) (by omega) (lots_ok hspl (by omega))) ?_
  intro vb
  conv => whnf
  intro vbe
  conv => whnf
  repeat refine At.seq ?_
  refine At.join (fun va : Value => { N := Try.f11.ntmps, sl := [(0, some (.x v)), (1, some (.x u)), (2, some (.i a)), (3, some (.i b)), (4, some (.i til)), (11, some (.b true)), (13, some (.s (.c (.o 1 vb)))), (15, some (.s (.c (.o 2 va))))], gl := [], hp := [(2, .row va 54 7 (R ++ [encD (lendD a b til spans) u])), (1, .row vb 58 7 ((lotsK l).1.map encL)), (0, .box b12 54 (encD (lendD a b til spans) u))], S := [], ws := w }) (fun va : Value => True) ?_ ?_
  · repeat refine At.seq ?_
    refine At.planG tab_ok mixed [(1, .row vb 58 7 ((lotsK l).1.map encL)), (0, .box b12 54 (encD (lendD a b til spans) u))] (.take 1 (.take 3 (.br 0 (.br 2 (.br 4 (.br 5 (.take 6 (.done)) (.nob)) (.nob)) (.br 4 (.br 2 (.br 5 (.take 6 (.done)) (.nob)) (.nob)) (.nob))) (.br 4 (.br 0 (.br 2 (.br 5 (.take 6 (.done)) (.nob)) (.nob)) (.nob)) (.nob))))) (by kernel_rfl) (by kernel_rfl) ⟨rfl, rfl, trivial⟩ ?_
    conv => whnf
    refine ⟨?_, ?_, trivial⟩
    · conv => whnf
      intro r0
      conv => whnf
      refine ⟨⟨⟨rfl, rfl, trivial⟩, fun w' hw => hw.fr⟩, ?_⟩
      conv => whnf
      refine ⟨?_, ?_, trivial⟩
      · conv => whnf
        refine ⟨R, ⟨fun w' hw => hsrc w' hw.fr, hnp⟩, ?_⟩
        conv => whnf
        refine ⟨⟨rfl, by simp; omega⟩, ?_⟩
        conv => whnf
        intro r1
        conv => whnf
        refine ⟨⟨⟨rfl, rfl, trivial⟩, fun w' hw => hw.fr⟩, ?_⟩
        conv => whnf
        refine ⟨?_, trivial⟩
        conv => whnf
        refine ⟨hu.sl.one, ?_⟩
        conv => whnf
        intro r2
        conv => whnf
        refine ⟨⟨⟨rfl, rfl, trivial⟩, fun w' hw => hw.fr⟩, ?_⟩
        conv => whnf
        refine ⟨?_, trivial⟩
        conv => whnf
        refine ⟨rfl, ?_⟩
        conv => whnf
        refine ⟨hu.sl.one, ?_⟩
        conv => whnf
        refine ⟨⟨rfl, by simp; omega⟩, ?_⟩
        conv => whnf
        intro r3
        conv => whnf
        refine ⟨⟨⟨rfl, rfl, trivial⟩, fun w' hw => hw.fr⟩, ?_⟩
        conv => whnf
        refine At.meet fun w' hw => ⟨r3, trivial, Le.of rfl rfl ⟨rfl, rfl, rfl, rfl, rfl, rfl, rfl, rfl, trivial⟩, hw.ren [3,1,0] rfl rfl rfl, ⟨⟨_, _, _, rfl⟩, ⟨_, _, _, rfl⟩, trivial⟩, ⟨(hnp1).okH, (nopL _).okH, trivial⟩⟩
      · conv => whnf
        refine ⟨hu.sl.one, ?_⟩
        conv => whnf
        intro r2
        conv => whnf
        refine ⟨⟨⟨rfl, rfl, trivial⟩, fun w' hw => hw.fr⟩, ?_⟩
        conv => whnf
        refine ⟨?_, trivial⟩
        conv => whnf
        refine ⟨R, ⟨fun w' hw => hsrc w' hw.fr, hnp⟩, ?_⟩
        conv => whnf
        refine ⟨⟨rfl, by simp; omega⟩, ?_⟩
        conv => whnf
        intro r1
        conv => whnf
        refine ⟨⟨⟨rfl, rfl, trivial⟩, fun w' hw => hw.fr⟩, ?_⟩
        conv => whnf
        refine ⟨?_, trivial⟩
        conv => whnf
        refine ⟨rfl, ?_⟩
        conv => whnf
        refine ⟨hu.sl.one, ?_⟩
        conv => whnf
        refine ⟨⟨rfl, by simp; omega⟩, ?_⟩
        conv => whnf
        intro r3
        conv => whnf
        refine ⟨⟨⟨rfl, rfl, trivial⟩, fun w' hw => hw.fr⟩, ?_⟩
        conv => whnf
        refine At.meet fun w' hw => ⟨r3, trivial, Le.of rfl rfl ⟨rfl, rfl, rfl, rfl, rfl, rfl, rfl, rfl, trivial⟩, hw.ren [3,1,0] rfl rfl rfl, ⟨⟨_, _, _, rfl⟩, ⟨_, _, _, rfl⟩, trivial⟩, ⟨(hnp1).okH, (nopL _).okH, trivial⟩⟩
    · conv => whnf
      refine ⟨hu.sl.one, ?_⟩
      conv => whnf
      intro r2
      conv => whnf
      refine ⟨⟨⟨rfl, rfl, trivial⟩, fun w' hw => hw.fr⟩, ?_⟩
      conv => whnf
      refine ⟨?_, trivial⟩
      conv => whnf
      intro r0
      conv => whnf
      refine ⟨⟨⟨rfl, rfl, trivial⟩, fun w' hw => hw.fr⟩, ?_⟩
      conv => whnf
      refine ⟨?_, trivial⟩
      conv => whnf
      refine ⟨R, ⟨fun w' hw => hsrc w' hw.fr, hnp⟩, ?_⟩
      conv => whnf
      refine ⟨⟨rfl, by simp; omega⟩, ?_⟩
      conv => whnf
      intro r1
      conv => whnf
      refine ⟨⟨⟨rfl, rfl, trivial⟩, fun w' hw => hw.fr⟩, ?_⟩
      conv => whnf
      refine ⟨?_, trivial⟩
      conv => whnf
      refine ⟨rfl, ?_⟩
      conv => whnf
      refine ⟨hu.sl.one, ?_⟩
      conv => whnf
      refine ⟨⟨rfl, by simp; omega⟩, ?_⟩
      conv => whnf
      intro r3
      conv => whnf
      refine ⟨⟨⟨rfl, rfl, trivial⟩, fun w' hw => hw.fr⟩, ?_⟩
      conv => whnf
      refine At.meet fun w' hw => ⟨r3, trivial, Le.of rfl rfl ⟨rfl, rfl, rfl, rfl, rfl, rfl, rfl, rfl, trivial⟩, hw.ren [4,1,0] rfl rfl rfl, ⟨⟨_, _, _, rfl⟩, ⟨_, _, _, rfl⟩, trivial⟩, ⟨(hnp1).okH, (nopL _).okH, trivial⟩⟩
  intro va _
  repeat refine At.seq ?_
  refine At.region tab_ok ?_
  conv => whnf
  refine ansR_call b26 (rd2 (nopL _) (nopI _)) (fun w' hw => lots_c (l ++ [(lendD a b til spans)]) [] va w' (sl_all (hw.row (id := 2) rfl) hw.fr hrel hu (by omega)) (by simp; omega) (lots_ok hsp (by simp; omega))) ?_
  rw [hsn] at hlen1 hg1 ⊢
  intro vl
  conv => whnf
  intro ve
  conv => whnf
  generalize (lotsK l).1 = L at *
  generalize (lotsK l).2 = es at *
  generalize hdo : doB L (lendD a b til spans) = D at *
  obtain ⟨L1, er⟩ := D
  simp only [List.length_append, List.length_singleton] at hlen hlen1 hg1 he hst ⊢
  repeat refine At.seq ?_
  refine At.region tab_ok ?_
  conv => whnf
  refine ⟨rfl, ?_⟩
  conv => whnf
  refine ⟨rfl, ?_⟩
  conv => whnf
  repeat refine At.seq ?_
  refine At.cond rfl (fun hq => ?_) (fun hq => At.skip ?_)
  · simp [hes, hRl] at hq
  have hge : (es ++ [er])[l.length]? = some er := by rw [List.getElem?_append_right (by omega)]; simp [hes]
  have hel : (es ++ [er]).length = l.length + 1 := by simp [hes]
  generalize es ++ [er] = es1 at *
  repeat refine At.seq ?_
  refine At.region tab_ok ?_
  conv => whnf
  refine ⟨h.sl, ?_⟩
  conv => whnf
  refine ⟨rfl, ?_⟩
  conv => whnf
  refine ⟨by omega, ?_⟩
  conv => whnf
  refine ⟨by simp; omega, ?_⟩
  conv => whnf
  refine ⟨encI er, ⟨rfl, rfl, by omega, by rw [hl, Int.toNat_natCast, List.getElem?_map, hge]; rfl⟩, ?_⟩
  conv => whnf
  repeat refine At.seq ?_
  refine At.cond rfl (fun hq => ?_) (fun hq => At.skip ?_)
  · repeat refine At.seq ?_
    refine At.region tab_ok ?_
    conv => whnf
    repeat refine At.seq ?_
    refine At.ret (At.doneB tab_ok hB _ rfl fun w' hw => ⟨rfl, hw.fr⟩)
  have her : er = 0 := by simpa using hq
  subst her
  replace he := he.symm
  repeat refine At.seq ?_
  refine At.region tab_ok ?_
  conv => whnf
  repeat refine At.seq ?_
  refine At.block ?_
  refine At.loopH (fun k : Nat => { N := Try.f11.ntmps, sl := [(0, some (.x v)), (1, some (.x u)), (2, some (.i a)), (3, some (.i b)), (4, some (.i til)), (11, some (.b true)), (13, some (.s (.c (.o 1 vb)))), (15, some (.s (.c (.o 2 va)))), (16, some (.s (.c (.o 3 vl)))), (18, some (.i k))], gl := [], hp := [(3, .row vl 58 7 (L1.map encL)), (2, .row va 54 7 (R ++ [encD (lendD a b til spans) u])), (1, .row vb 58 7 (L.map encL))], S := [], ws := w }) (fun k : Nat => k ≤ 2 ∧ ∀ j : Nat, j < k → (j : Int) = a ∨ (j : Int) = b) (fun k : Nat => 2 - k)
    (fun w' hw => ⟨0, ⟨by omega, fun j hj => by omega⟩, Le.of rfl rfl ⟨rfl, rfl, rfl, rfl, rfl, rfl, rfl, rfl, rfl, rfl, trivial⟩, hw.keep [3, 2, 1] rfl rfl rfl, ⟨⟨_, _, _, rfl⟩, ⟨_, _, _, rfl⟩, ⟨_, _, _, rfl⟩, trivial⟩, ⟨(nopL _).okH, (hnp1).okH, (nopL _).okH, trivial⟩⟩) ?_
  intro k ⟨hk, hall⟩
  repeat refine At.seq ?_
  refine At.region tab_ok ?_
  conv => whnf
  repeat refine At.seq ?_
  refine At.cond rfl (fun hc => At.skip ?_) (fun hc => At.exit ?_)
  · have hkk : (k : Int) = a ∨ (k : Int) = b := by simpa [bor] using hc
    have hk2 : k < 2 := by
      rcases Nat.lt_or_ge k 2 with h1 | h1
      · exact h1
      · have e0 := hall 0 (by omega)
        have e1 := hall 1 (by omega)
        omega
    repeat refine At.seq ?_
    refine At.block ?_
    repeat refine At.seq ?_
    refine At.region tab_ok ?_
    conv => whnf
    refine ⟨⟨by omega, by omega⟩, ?_⟩
    conv => whnf
    refine At.nextH fun w' hw => ⟨k + 1, ⟨by omega, fun j hj => by rcases Nat.lt_or_ge j k with h1 | h1; exact hall j h1; have : j = k := (by omega); subst this; exact hkk⟩, by omega, Le.of rfl rfl ⟨rfl, rfl, rfl, rfl, rfl, rfl, rfl, rfl, rfl, rfl, trivial⟩, hw.keep [3, 2, 1] rfl rfl rfl, ⟨⟨_, _, _, rfl⟩, ⟨_, _, _, rfl⟩, ⟨_, _, _, rfl⟩, trivial⟩, ⟨(nopL _).okH, (hnp1).okH, (nopL _).okH, trivial⟩⟩
  have hkk : (k : Int) ≠ a ∧ (k : Int) ≠ b := by
    simp only [bor, Bool.or_eq_false_iff, decide_eq_false_iff_not] at hc; exact hc
  have hkey : isKey (k : Int) = true := by unfold isKey; simp; omega
  have htry := tries_law (c := (k : Int)) hg hg1 hun he hst hsp0 hkey hkk.1 hkk.2
  have hown := lent_rest hg hg1 he hst
  have htl : (tryD a b k spans).length = 5 := rfl
  have hts : ∀ t ∈ tryD a b k spans, t.spans = spans := fun t ht => by simp [tryD] at ht; rcases ht with rfl | rfl | rfl | rfl | rfl <;> rfl
  have hnt : NoP ((tryD a b k spans).map (fun t => encD t u)) := fun r hr c hc => by
    obtain ⟨t, _, rfl⟩ := List.mem_map.1 hr
    exact (encD_one hu.sl.one c hc).2
  repeat refine At.seq ?_
  refine At.region tab_ok ?_
  conv => whnf
  refine ⟨hu.sl.one, ?_⟩
  conv => whnf
  refine ⟨hu.sl.one, ?_⟩
  conv => whnf
  refine ⟨hu.sl.one, ?_⟩
  conv => whnf
  refine ⟨hu.sl.one, ?_⟩
  conv => whnf
  refine ⟨hu.sl.one, ?_⟩
  conv => whnf
  refine ⟨hu.sl.one, ?_⟩
  conv => whnf
  refine ⟨hu.sl.one, ?_⟩
  conv => whnf
  refine ⟨hu.sl.one, ?_⟩
  conv => whnf
  refine ⟨hu.sl.one, ?_⟩
  conv => whnf
  refine ⟨hu.sl.one, ?_⟩
  conv => whnf
  intro vt
  conv => whnf
  repeat refine At.seq ?_
  refine At.region tab_ok ?_
  conv => whnf
  repeat refine At.seq ?_
  refine At.block ?_
  refine At.loopH (fun i : Nat => { N := Try.f11.ntmps, sl := [(0, some (.x v)), (1, some (.x u)), (2, some (.i a)), (3, some (.i b)), (11, some (.b true)), (13, some (.s (.c (.o 1 vb)))), (15, some (.s (.c (.o 2 va)))), (16, some (.s (.c (.o 3 vl)))), (19, some (.s (.c (.o 4 vt)))), (20, some (.i i))], gl := [], hp := [(4, .row vt 54 7 ((tryD a b k spans).map (fun t => encD t u))), (3, .row vl 58 7 (L1.map encL)), (2, .row va 54 7 (R ++ [encD (lendD a b til spans) u])), (1, .row vb 58 7 (L.map encL))], S := [], ws := w }) (fun i : Nat => i ≤ 5) (fun i : Nat => 5 - i)
    (fun w' hw => ⟨0, by omega, Le.of rfl rfl ⟨rfl, rfl, rfl, rfl, rfl, rfl, rfl, rfl, rfl, rfl, trivial⟩, hw.keep [4, 3, 2, 1] rfl rfl rfl, ⟨⟨_, _, _, rfl⟩, ⟨_, _, _, rfl⟩, ⟨_, _, _, rfl⟩, ⟨_, _, _, rfl⟩, trivial⟩, ⟨(hnt).okH, (nopL _).okH, (hnp1).okH, (nopL _).okH, trivial⟩⟩) ?_
  generalize tryD a b k spans = tr at *
  intro i hi
  repeat refine At.seq ?_
  refine At.region tab_ok ?_
  conv => whnf
  repeat refine At.seq ?_
  refine At.cond rfl (fun hc => At.skip ?_) (fun hc => At.exit ?_)
  · have hi5 : i < tr.length := by have := of_decide_eq_true hc; omega
    obtain ⟨t, ht⟩ : ∃ t, tr[i]? = some t := ⟨_, List.getElem?_eq_getElem hi5⟩
    have hts0 := hts t (List.mem_of_getElem? ht)
    have hut : SlOf spT [] w u t.spans := by rw [hts0]; exact hu
    obtain ⟨ht1, ht2⟩ := htry i t ht
    have hsp2 : ∀ d ∈ (l ++ [(lendD a b til spans)]) ++ [t], d.spans.length ≤ 8 := fun d hd => by
      rcases List.mem_append.1 hd with hd | hd
      · exact hsp d hd
      · rw [List.mem_singleton.1 hd, hts0]; exact hsp0
    have hsn2 := lotsK_snoc (l ++ [(lendD a b til spans)]) t
    rw [hsn] at hsn2
    simp only at hsn2
    have hlen2 := (lotsK_keeps _ ((l ++ [(lendD a b til spans)]) ++ [t]) rfl hsp2).2.2
    rw [hsn2] at hlen2
    have hrel1 : relAll deT [] w (l ++ [(lendD a b til spans)]) (R ++ [encD (lendD a b til spans) u]) := relAll_append hrel (relAll_deed hu)
    repeat refine At.seq ?_
    refine At.block ?_
    repeat refine At.seq ?_
    refine At.join (fun p : Value × Value => { N := Try.f11.ntmps, sl := [(0, some (.x v)), (1, some (.x u)), (2, some (.i a)), (3, some (.i b)), (11, some (.b true)), (13, some (.s (.c (.o 1 vb)))), (15, some (.s (.c (.o 2 va)))), (16, some (.s (.c (.o 3 vl)))), (19, some (.s (.c (.o 4 vt)))), (20, some (.i i)), (21, some (.s (.c (.o 5 p.1)))), (22, some (.s (.c (.o 6 p.2))))], gl := [], hp := [(6, .row p.2 30 1 ((es1 ++ [(doB L1 t).2]).map encI)), (5, .row p.1 58 7 ((doB L1 t).1.map encL)), (4, .row vt 54 7 (tr.map (fun t => encD t u))), (3, .row vl 58 7 (L1.map encL)), (2, .row va 54 7 (R ++ [encD (lendD a b til spans) u])), (1, .row vb 58 7 (L.map encL))], S := [], ws := w }) (fun p : Value × Value => True) ?_ ?_
    · repeat refine At.seq ?_
      refine At.planG tab_ok mixed [(4, .row vt 54 7 (tr.map (fun t => encD t u))), (3, .row vl 58 7 (L1.map encL)), (2, .row va 54 7 (R ++ [encD (lendD a b til spans) u])), (1, .row vb 58 7 (L.map encL))] (.take 1 (.take 3 (.take 4 (.take 5 (.take 6 (.br 0 (.br 2 (.br 7 (.br 8 (.br 9 (.take 10 (.take 11 (.take 12 (.take 13 (.take 14 (.done)))))) (.nob)) (.nob)) (.nob)) (.br 7 (.br 2 (.br 8 (.br 9 (.take 10 (.take 11 (.take 12 (.take 13 (.take 14 (.done)))))) (.nob)) (.nob)) (.nob)) (.nob))) (.br 7 (.br 0 (.br 2 (.br 8 (.br 9 (.take 10 (.take 11 (.take 12 (.take 13 (.take 14 (.done)))))) (.nob)) (.nob)) (.nob)) (.nob)) (.nob)))))))) (by kernel_rfl) (by kernel_rfl) ⟨rfl, rfl, rfl, rfl, trivial⟩ ?_
      conv => whnf
      refine ⟨rfl, ?_⟩
      conv => whnf
      refine ⟨by omega, ?_⟩
      conv => whnf
      refine ⟨by simp; omega, ?_⟩
      conv => whnf
      refine ⟨encD t u, ⟨rfl, rfl, by omega, by rw [Int.toNat_natCast, List.getElem?_map, ht]; rfl⟩, ?_⟩
      conv => whnf
      refine ⟨?_, ?_, trivial⟩
      · conv => whnf
        intro r0
        conv => whnf
        refine ⟨⟨⟨rfl, rfl, rfl, rfl, trivial⟩, fun w' hw => hw.fr⟩, ?_⟩
        conv => whnf
        refine ⟨?_, ?_, trivial⟩
        · conv => whnf
          refine ⟨rfl, ?_⟩
          conv => whnf
          refine obl_rows hone1 ?_
          conv => whnf
          refine ⟨⟨rfl, by simp; omega⟩, ?_⟩
          conv => whnf
          intro r1
          conv => whnf
          refine ⟨⟨⟨rfl, rfl, rfl, rfl, trivial⟩, fun w' hw => hw.fr⟩, ?_⟩
          conv => whnf
          refine ⟨?_, trivial⟩
          conv => whnf
          refine ⟨hu.sl.one, ?_⟩
          conv => whnf
          intro r2
          conv => whnf
          refine ⟨⟨⟨rfl, rfl, rfl, rfl, trivial⟩, fun w' hw => hw.fr⟩, ?_⟩
          conv => whnf
          refine ⟨?_, trivial⟩
          conv => whnf
          refine ⟨rfl, ?_⟩
          conv => whnf
          refine ⟨hu.sl.one, ?_⟩
          conv => whnf
          refine ⟨⟨rfl, by simp; omega⟩, ?_⟩
          conv => whnf
          intro r3
          conv => whnf
          refine ⟨⟨⟨rfl, rfl, rfl, rfl, trivial⟩, fun w' hw => hw.fr⟩, ?_⟩
          conv => whnf
          refine ⟨?_, trivial⟩
          conv => whnf
          refine ansR_call b26 (rd2 (nopL _) (nopI _)) (fun w' hw => lots_c ((l ++ [(lendD a b til spans)]) ++ [t]) [] _ w' (sl_all (hw.row (id := 5) rfl) hw.fr hrel1 hut (by simp; omega)) (by simp; omega) (lots_ok hsp2 (by simp; omega))) ?_
          rw [hsn2]
          intro vf
          conv => whnf
          intro vfe
          conv => whnf
          refine ⟨⟨⟨rfl, rfl, rfl, rfl, trivial⟩, fun w' hw => hw.fr⟩, ?_⟩
          conv => whnf
          refine At.meet fun w' hw => ⟨(vf, vfe), trivial, Le.of rfl rfl ⟨rfl, rfl, rfl, rfl, rfl, rfl, rfl, rfl, rfl, rfl, rfl, rfl, trivial⟩, hw.ren [8,7,4,3,2,1] rfl rfl rfl, ⟨⟨_, _, _, rfl⟩, ⟨_, _, _, rfl⟩, ⟨_, _, _, rfl⟩, ⟨_, _, _, rfl⟩, ⟨_, _, _, rfl⟩, ⟨_, _, _, rfl⟩, trivial⟩, ⟨(nopI _).okH, (nopL _).okH, (hnt).okH, (nopL _).okH, (hnp1).okH, (nopL _).okH, trivial⟩⟩
        · conv => whnf
          refine ⟨hu.sl.one, ?_⟩
          conv => whnf
          intro r2
          conv => whnf
          refine ⟨⟨⟨rfl, rfl, rfl, rfl, trivial⟩, fun w' hw => hw.fr⟩, ?_⟩
          conv => whnf
          refine ⟨?_, trivial⟩
          conv => whnf
          refine ⟨rfl, ?_⟩
          conv => whnf
          refine obl_rows hone1 ?_
          conv => whnf
          refine ⟨⟨rfl, by simp; omega⟩, ?_⟩
          conv => whnf
          intro r1
          conv => whnf
          refine ⟨⟨⟨rfl, rfl, rfl, rfl, trivial⟩, fun w' hw => hw.fr⟩, ?_⟩
          conv => whnf
          refine ⟨?_, trivial⟩
          conv => whnf
          refine ⟨rfl, ?_⟩
          conv => whnf
          refine ⟨hu.sl.one, ?_⟩
          conv => whnf
          refine ⟨⟨rfl, by simp; omega⟩, ?_⟩
          conv => whnf
          intro r3
          conv => whnf
          refine ⟨⟨⟨rfl, rfl, rfl, rfl, trivial⟩, fun w' hw => hw.fr⟩, ?_⟩
          conv => whnf
          refine ⟨?_, trivial⟩
          conv => whnf
          refine ansR_call b26 (rd2 (nopL _) (nopI _)) (fun w' hw => lots_c ((l ++ [(lendD a b til spans)]) ++ [t]) [] _ w' (sl_all (hw.row (id := 5) rfl) hw.fr hrel1 hut (by simp; omega)) (by simp; omega) (lots_ok hsp2 (by simp; omega))) ?_
          rw [hsn2]
          intro vf
          conv => whnf
          intro vfe
          conv => whnf
          refine ⟨⟨⟨rfl, rfl, rfl, rfl, trivial⟩, fun w' hw => hw.fr⟩, ?_⟩
          conv => whnf
          refine At.meet fun w' hw => ⟨(vf, vfe), trivial, Le.of rfl rfl ⟨rfl, rfl, rfl, rfl, rfl, rfl, rfl, rfl, rfl, rfl, rfl, rfl, trivial⟩, hw.ren [8,7,4,3,2,1] rfl rfl rfl, ⟨⟨_, _, _, rfl⟩, ⟨_, _, _, rfl⟩, ⟨_, _, _, rfl⟩, ⟨_, _, _, rfl⟩, ⟨_, _, _, rfl⟩, ⟨_, _, _, rfl⟩, trivial⟩, ⟨(nopI _).okH, (nopL _).okH, (hnt).okH, (nopL _).okH, (hnp1).okH, (nopL _).okH, trivial⟩⟩
      · conv => whnf
        refine ⟨hu.sl.one, ?_⟩
        conv => whnf
        intro r2
        conv => whnf
        refine ⟨⟨⟨rfl, rfl, rfl, rfl, trivial⟩, fun w' hw => hw.fr⟩, ?_⟩
        conv => whnf
        refine ⟨?_, trivial⟩
        conv => whnf
        intro r0
        conv => whnf
        refine ⟨⟨⟨rfl, rfl, rfl, rfl, trivial⟩, fun w' hw => hw.fr⟩, ?_⟩
        conv => whnf
        refine ⟨?_, trivial⟩
        conv => whnf
        refine ⟨rfl, ?_⟩
        conv => whnf
        refine obl_rows hone1 ?_
        conv => whnf
        refine ⟨⟨rfl, by simp; omega⟩, ?_⟩
        conv => whnf
        intro r1
        conv => whnf
        refine ⟨⟨⟨rfl, rfl, rfl, rfl, trivial⟩, fun w' hw => hw.fr⟩, ?_⟩
        conv => whnf
        refine ⟨?_, trivial⟩
        conv => whnf
        refine ⟨rfl, ?_⟩
        conv => whnf
        refine ⟨hu.sl.one, ?_⟩
        conv => whnf
        refine ⟨⟨rfl, by simp; omega⟩, ?_⟩
        conv => whnf
        intro r3
        conv => whnf
        refine ⟨⟨⟨rfl, rfl, rfl, rfl, trivial⟩, fun w' hw => hw.fr⟩, ?_⟩
        conv => whnf
        refine ⟨?_, trivial⟩
        conv => whnf
        refine ansR_call b26 (rd2 (nopL _) (nopI _)) (fun w' hw => lots_c ((l ++ [(lendD a b til spans)]) ++ [t]) [] _ w' (sl_all (hw.row (id := 6) rfl) hw.fr hrel1 hut (by simp; omega)) (by simp; omega) (lots_ok hsp2 (by simp; omega))) ?_
        rw [hsn2]
        intro vf
        conv => whnf
        intro vfe
        conv => whnf
        refine ⟨⟨⟨rfl, rfl, rfl, rfl, trivial⟩, fun w' hw => hw.fr⟩, ?_⟩
        conv => whnf
        refine At.meet fun w' hw => ⟨(vf, vfe), trivial, Le.of rfl rfl ⟨rfl, rfl, rfl, rfl, rfl, rfl, rfl, rfl, rfl, rfl, rfl, rfl, trivial⟩, hw.ren [8,7,4,3,2,1] rfl rfl rfl, ⟨⟨_, _, _, rfl⟩, ⟨_, _, _, rfl⟩, ⟨_, _, _, rfl⟩, ⟨_, _, _, rfl⟩, ⟨_, _, _, rfl⟩, ⟨_, _, _, rfl⟩, trivial⟩, ⟨(nopI _).okH, (nopL _).okH, (hnt).okH, (nopL _).okH, (hnp1).okH, (nopL _).okH, trivial⟩⟩
    rintro ⟨vf, vfe⟩ _
    simp only
    repeat refine At.seq ?_
    refine At.region tab_ok ?_
    conv => whnf
    refine ⟨rfl, ?_⟩
    conv => whnf
    refine ⟨rfl, ?_⟩
    conv => whnf
    refine ⟨⟨by simp; omega, by simp; omega⟩, ?_⟩
    conv => whnf
    repeat refine At.seq ?_
    refine At.cond rfl (fun hq => ?_) (fun hq => At.skip ?_)
    · simp [hel, hRl] at hq
    repeat refine At.seq ?_
    refine At.join (fun q : Unit => { N := Try.f11.ntmps, sl := [(0, some (.x v)), (1, some (.x u)), (2, some (.i a)), (3, some (.i b)), (11, some (.b true)), (13, some (.s (.c (.o 1 vb)))), (15, some (.s (.c (.o 2 va)))), (16, some (.s (.c (.o 3 vl)))), (19, some (.s (.c (.o 4 vt)))), (20, some (.i i)), (152, some (.b false))], gl := [], hp := [(4, .row vt 54 7 (tr.map (fun t => encD t u))), (3, .row vl 58 7 (L1.map encL)), (2, .row va 54 7 (R ++ [encD (lendD a b til spans) u])), (1, .row vb 58 7 (L.map encL))], S := [], ws := w }) (fun q : Unit => True) ?_ ?_
    · have hgt : ∀ e, (doB L1 t).2 = e → ((es1 ++ [(doB L1 t).2]).map encI)[((R ++ [encD (lendD a b til spans) u]).length : Int).toNat]? = some (encI e) := fun e he => by
        rw [Int.toNat_natCast, List.getElem?_map, List.getElem?_append_right (by simp; omega)]
        simp [hel, hRl, he]
      repeat refine At.seq ?_
      refine At.regionG tab_ok ?_
      conv => whnf
      by_cases h4 : i < 4
      · have e4 : decide ((i : Int) = 4) = false := decide_eq_false (by omega)
        rw [decide_eq_true (show (i : Int) < 4 by omega)]
        conv => whnf
        refine ⟨rfl, ?_⟩
        conv => whnf
        refine ⟨rfl, ?_⟩
        conv => whnf
        refine ⟨by omega, ?_⟩
        conv => whnf
        refine ⟨by simp; omega, ?_⟩
        conv => whnf
        refine ⟨encI 28, ⟨rfl, rfl, by omega, hgt 28 (by rw [ht1 h4])⟩, ?_⟩
        conv => whnf
        rw [ht1 h4] at hlen2 ⊢
        refine ans_call b31 (r := .b true) rfl (fun w' hw => by
          have := sameLots_c L1 L1 [] [] vf vl w' (slL L1 (hw.row (id := 5) rfl) (by simp at hlen2; omega)) (slL L1 (hw.row (id := 3) rfl) (by simp at hlen2; omega))
          rw [decide_eq_true (rfl : L1 = L1)] at this
          exact this) ?_
        conv => whnf
        rw [e4]
        conv => whnf
        refine At.meet fun w' hw => ⟨(), trivial, Le.of rfl rfl ⟨rfl, rfl, rfl, rfl, rfl, rfl, rfl, rfl, rfl, rfl, rfl, trivial⟩, hw.keep [4, 3, 2, 1] rfl rfl rfl, ⟨⟨_, _, _, rfl⟩, ⟨_, _, _, rfl⟩, ⟨_, _, _, rfl⟩, ⟨_, _, _, rfl⟩, trivial⟩, ⟨(hnt).okH, (nopL _).okH, (hnp1).okH, (nopL _).okH, trivial⟩⟩
      · have hi4 : i = 4 := by omega
        rw [decide_eq_false (show ¬ (i : Int) < 4 by omega)]
        conv => whnf
        rw [decide_eq_true (show (i : Int) = 4 by omega)]
        conv => whnf
        refine ⟨rfl, ?_⟩
        conv => whnf
        refine ⟨rfl, ?_⟩
        conv => whnf
        refine ⟨by omega, ?_⟩
        conv => whnf
        refine ⟨by simp; omega, ?_⟩
        conv => whnf
        refine ⟨encI 0, ⟨rfl, rfl, by omega, hgt 0 (by rw [ht2 hi4])⟩, ?_⟩
        conv => whnf
        rw [ht2 hi4] at hlen2 ⊢
        refine ans_call b31 (r := .b true) rfl (fun w' hw => by
          have := sameLots_c L L [] [] vf vb w' (slL L (hw.row (id := 5) rfl) (by simp at hlen2; omega)) (slL L (hw.row (id := 1) rfl) (by simp at hlen2; omega))
          rw [decide_eq_true (rfl : L = L)] at this
          exact this) ?_
        conv => whnf
        refine At.meet fun w' hw => ⟨(), trivial, Le.of rfl rfl ⟨rfl, rfl, rfl, rfl, rfl, rfl, rfl, rfl, rfl, rfl, rfl, trivial⟩, hw.keep [4, 3, 2, 1] rfl rfl rfl, ⟨⟨_, _, _, rfl⟩, ⟨_, _, _, rfl⟩, ⟨_, _, _, rfl⟩, ⟨_, _, _, rfl⟩, trivial⟩, ⟨(hnt).okH, (nopL _).okH, (hnp1).okH, (nopL _).okH, trivial⟩⟩
    intro _ _
    repeat refine At.seq ?_
    refine At.cond (t := false) rfl (fun hq => by cases hq) (fun hq => At.skip ?_)
    repeat refine At.seq ?_
    refine At.region tab_ok ?_
    conv => whnf
    refine ⟨⟨by omega, by omega⟩, ?_⟩
    conv => whnf
    refine At.nextH fun w' hw => ⟨i + 1, by omega, by omega, Le.of rfl rfl ⟨rfl, rfl, rfl, rfl, rfl, rfl, rfl, rfl, rfl, rfl, trivial⟩, hw.keep [4, 3, 2, 1] rfl rfl rfl, ⟨⟨_, _, _, rfl⟩, ⟨_, _, _, rfl⟩, ⟨_, _, _, rfl⟩, ⟨_, _, _, rfl⟩, trivial⟩, ⟨(hnt).okH, (nopL _).okH, (hnp1).okH, (nopL _).okH, trivial⟩⟩
  obtain ⟨o1, o2, o3, o4⟩ := hown
  have hb1 := ownedL_len L1 a
  have hb2 := ownedL_len L a
  have hb3 := heldL_len L1 b
  have hb4 := heldL_len L1 a
  repeat refine At.seq ?_
  refine At.regionG tab_ok ?_
  conv => whnf
  refine ansR_call b28 (rd1 (nopS _)) (fun w' hw => owned_c L1 a [] vl w' (slL L1 (hw.row (id := 3) rfl) (by omega)) (by omega)) ?_
  intro w1
  conv => whnf
  refine ansR_call b28 (rd1 (nopS _)) (fun w' hw => owned_c L a [] vb w' (slL L (hw.row (id := 1) rfl) (by omega)) (by omega)) ?_
  intro w2
  conv => whnf
  refine ans_call b35 (r := .b true) rfl (fun w' hw => by
    have := sameSpans_c (ownedL L1 a) (ownedL L a) [] [] w1 w2 w' (slS _ (hw.row (id := 5) rfl) (by omega)) (slS _ (hw.row (id := 6) rfl) (by omega))
    rw [decide_eq_true o1] at this
    exact this) ?_
  conv => whnf
  refine ansR_call b29 (rd1 (nopS _)) (fun w' hw => held_c L1 b [] vl w' (slL L1 (hw.row (id := 3) rfl) (by omega)) (by omega)) ?_
  intro w3
  conv => whnf
  refine ans_call b40 (r := .b true) rfl (fun w' hw => by
    have := within_c spans (heldL L1 b) [] [] u w3 w' (hu.fr hw.fr) (slS _ (hw.row (id := 7) rfl) (by omega)) (by omega) (by omega)
    rw [decide_eq_true o2] at this
    exact this) ?_
  conv => whnf
  refine ansR_call b29 (rd1 (nopS _)) (fun w' hw => held_c L1 a [] vl w' (slL L1 (hw.row (id := 3) rfl) (by omega)) (by omega)) ?_
  intro w4
  conv => whnf
  refine ansR_call b41 (rd1 (nopS _)) (fun w' hw => common_c spans (heldL L1 a) [] [] u w4 w' (hu.fr hw.fr) (slS _ (hw.row (id := 8) rfl) (by omega)) (by omega) (by omega)) ?_
  rw [List.eq_nil_of_length_eq_zero o3]
  intro w5
  conv => whnf
  refine ⟨rfl, ?_⟩
  conv => whnf
  refine ans_call b30 rfl (fun w' hw => sum_c L1 [] vl w' (slL L1 (hw.row (id := 3) rfl) (by omega)) (by omega)) ?_
  conv => whnf
  refine ans_call b30 rfl (fun w' hw => sum_c L [] vb w' (slL L (hw.row (id := 1) rfl) (by omega)) (by omega)) ?_
  conv => whnf
  rw [o4]
  repeat refine At.seq ?_
  refine At.ret (At.doneB tab_ok hB _ rfl fun w' hw => ⟨?_, hw.fr⟩)
  simp [RV.den, SV.den, CV.den]
end Go.Proofs.Ytjilbkioieicbaa



namespace Go.Proofs.Ytjilbkioieicbaa.rightsLent
open Go.ChangeShapes Go.WideShapes Go.ChangeAt Go.RowKit
set_option linter.unusedVariables false
theorem own : ownKnob Try.prog.godebug = none := by kernel_rfl
set_option maxRecDepth 100000 in
theorem lifted (os : Os) (started : os.Started) (H : Type) (enc : TypeId × Value → H) :
    ReturnsInHanded {} Try.checked os 11 .any (Rows.rightsLentSpec.pre6 enc Try.prog Try.f11 Rows.rightsLentRow.domain false) (Rows.rightsLentSpec.post enc Try.prog Try.f11 false true false false) := by
  refine returnsInHanded_of_change_sized (C := Try.checked) own started (by kernel_rfl) Try.func11
    (ChangeSpec.witness6 (enc := enc) (C := Try.checked) false ⟨#[], #[.slice none 0 0, .slice none 0 0, .int .i64 0, .int .i64 0, .int .i64 0], []⟩ 8 (by kernel_rfl) (by kernel_rfl) (by kernel_rfl) (by kernel_rfl)) ?_
  intro W base args ds gs before hval0 hW hcnd hwt _
  have hval : ∀ (j : Nat) t v, Try.f11.params[j]? = some t → args[j]? = some v → Value.okWide Try.prog W .any base t v := hval0
  have hW' := hW
  obtain ⟨p, q, hA0, hV, rfl, hfz, hnd⟩ := hW
  have hA : DataW.TrodAll enc Try.prog W 0 (fun _ => true) true Try.f11.params.toList args.toList ds p := hA0
  rw [Try.params11] at hA hval
  obtain ⟨v0, vs0, d0, ds0, p0, q0, hargs, rfl, rfl, h0, r0⟩ := trodAll_cons hA
  obtain ⟨v1, vs1, d1, ds1, p1, q1, rfl, rfl, rfl, h1, r1⟩ := trodAll_cons r0
  obtain ⟨v2, vs2, d2, ds2, p2, q2, rfl, rfl, rfl, h2, r2⟩ := trodAll_cons r1
  obtain ⟨v3, vs3, d3, ds3, p3, q3, rfl, rfl, rfl, h3, r3⟩ := trodAll_cons r2
  obtain ⟨v4, vs4, d4, ds4, p4, q4, rfl, rfl, rfl, h4, r4⟩ := trodAll_cons r3
  obtain ⟨rfl, rfl, rfl⟩ := trodAll_nil r4
  obtain rfl : args = #[v0, v1, v2, v3, v4] := by cases args; simp_all
  obtain ⟨rfl, rfl⟩ := trodVars_none hV
  have k0 := h0
  have lt0 : ∀ x ∈ p0, x.block < W.heap.size := fun x hx => hW'.lt x (by simp [hx])
  obtain ⟨l0, s0⟩ := deeds_open (okWide_slice u45 (hval 0 45 v0 rfl rfl)) h0
  have k1 := h1
  have lt1 : ∀ x ∈ p1, x.block < W.heap.size := fun x hx => hW'.lt x (by simp [hx])
  obtain ⟨l1, s1⟩ := spans_open (okWide_slice u52 (hval 1 52 v1 rfl rfl)) h1
  obtain ⟨a2, rfl, rfl, rfl, w2⟩ := open_int u3 (hval 2 3 v2 rfl rfl) h2
  obtain ⟨a3, rfl, rfl, rfl, w3⟩ := open_int u3 (hval 3 3 v3 rfl rfl) h3
  obtain ⟨a4, rfl, rfl, rfl, w4⟩ := open_int u3 (hval 4 3 v4 rfl rfl) h4
  have B0 := deeds_bd (slice_bound u45 s0 k0 hwt (j := 0) rfl rfl)
  clear hA0 hval0
  simp only [List.append_nil] at hW'
  refine (lent_c l0 l1 a2 a3 a4 v0 v1 W s0 s1 B0).mono fun e W' ⟨he, hx⟩ => ?_
  subst he
  exact ⟨_, rfl, _, _, _, [], _, [], hW', trodAll_cons_mk (shut_bool u4 _) trodAll_mk0, (trodAll_cons_mk (Below.trod laid (by kernel_rfl) (of_decide_eq_true (by kernel_rfl)) k0 hx.below lt0) (trodAll_cons_mk (Below.trod laid (by kernel_rfl) (of_decide_eq_true (by kernel_rfl)) k1 hx.below lt1) (trodAll_cons_mk (shut_int u3 w2) (trodAll_cons_mk (shut_int u3 w3) (trodAll_cons_mk (shut_int u3 w4) trodAll_mk0))))), rfl, hx.below.frame _, fun h => by cases h⟩

theorem over : Rows.rightsLentRow.holds Try.pinned (OpenSpec.ofChange Rows.rightsLentSpec) :=
  OpenClaim.holds_of_wide 11 Try.f11 rfl rfl rfl rfl rfl rfl rfl ⟨rfl, rfl, rfl, rfl, rfl⟩ rfl rfl rfl rfl rfl (by kernel_rfl) Try.func11 (by kernel_rfl)
    (of_decide_eq_true (by kernel_rfl)) (by unfold Func.isWrapper; first | (rw [if_pos (by decide +kernel)]; kernel_rfl) | (rw [if_neg (by decide +kernel)]; exact ⟨rfl, rfl⟩))
    (fun os started H enc _ => lifted os started H enc)

/-- The statement. -/
theorem proved : Rows.RightsLentSaid :=
  over
#print axioms proved
end Go.Proofs.Ytjilbkioieicbaa.rightsLent

