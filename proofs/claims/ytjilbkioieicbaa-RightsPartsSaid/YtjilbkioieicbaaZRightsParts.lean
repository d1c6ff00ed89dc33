/- The law RightsParts: for every input the call returns true and the arguments read as before; no condition. -/
import Derived.Test.YtjilbkioieicbaaME
import Derived.Test.YtjilbkioieicbaaRows
import Derived.WalkKit
import Derived.ProofKit
import Derived.OpenShut
import Derived.Carry
/- The law RightsLent, in plain terms. -/
namespace Go.Proofs.Ytjilbkioieicbaa
open Go.Vc Rt
set_option linter.unusedVariables false
set_option linter.unusedSimpArgs false
def untilF (F : Int → Int → Option Sta) : Prop := ∀ m n x, F m n = some x → x.o = x.h → x.u = 0
theorem step_until {F : Int → Int → Option Sta} {d : Deed} (h : untilF F) : untilF (stepF F d) := by
  intro m n x hx hoh
  by_cases he : errF F d = 0
  · by_cases hh : Has d.spans m n
    · have hr := err_right he
      rcases coin_of he hh with ⟨hk, e1, e2⟩ | ⟨hk, y, e1, e2, e3, e4, e5⟩
      · rw [e2] at hx; cases hx; rfl
      · rw [e5] at hx; cases hx
        rcases right_kind hr with hk' | hk' | hk' | hk'
        · exact (hk hk').elim
        · rw [movedS_1 hk']
        · rw [movedS_2 hk'] at hoh
          simp only at hoh
          have := (right_who hr (.inr hk')).2
          rcases e4 with e4 | e4 | e4
          · exact (this (by omega)).elim
          · omega
          · omega
        · rw [movedS_3 hk'] at hoh ⊢; exact h m n y e1 hoh
    · rw [coin_not hh] at hx; exact h m n x hx hoh
  · unfold stepF at hx; rw [if_neg he] at hx; exact h m n x hx hoh
theorem until_lots : ∀ (n : Nat) (l : List Deed), l.length = n → (∀ d ∈ l, d.spans.length ≤ 8) → untilF (sta (lotsK l).1)
  | 0, l, hn, _ => by
    rw [List.eq_nil_of_length_eq_zero hn]
    intro m n x hx; cases hx
  | k + 1, l, hn, hs => by
    rcases List.eq_nil_or_concat l with rfl | ⟨l', d, rfl⟩
    · simp at hn
    · simp only [List.concat_eq_append] at *
      have ih := until_lots k l' (by simpa using hn) fun x hx => hs x (by simp [hx])
      have hg := good_lots _ l' rfl fun x hx => hs x (by simp [hx])
      rw [lotsK_snoc]
      simp only
      rw [(good_do hg (hs d (by simp))).2.2]
      exact step_until ih
theorem err_moved {F : Int → Int → Option Sta} {t : Deed} (hr : right t = true) (hk : t.kind ≠ 0) (hall : ∀ m n, Has t.spans m n → ∃ x, F m n = some x) : errF F t = errSet (fun c => ∃ m n x, Has t.spans m n ∧ F m n = some x ∧ mayS x t = c) := by
  unfold errF
  rw [if_neg (by rw [hr]; simp), if_neg hk, if_neg]
  rintro ⟨m, n, h1, h2⟩
  obtain ⟨x, hx⟩ := hall m n h1
  rw [h2] at hx; cases hx
theorem right_coin {t : Deed} (hr : right t = true) : ∃ m n, Has t.spans m n := by
  obtain ⟨_, _, _, h, _⟩ := right_parts hr
  obtain ⟨s, hs⟩ : ∃ s, s ∈ t.spans := List.exists_mem_of_length_pos h
  have := right_spans hr s hs
  exact ⟨s.m, s.f, s, hs, rfl, by omega, by omega⟩
theorem err_28 {F : Int → Int → Option Sta} {t : Deed} (hr : right t = true) (hk : t.kind ≠ 0) (h : ∀ m n, Has t.spans m n → ∃ x, F m n = some x ∧ mayS x t = 28) : errF F t = 28 := by
  rw [err_moved hr hk fun m n hh => let ⟨x, hx, _⟩ := h m n hh; ⟨x, hx⟩]
  have key : ∀ c, (∃ m n x, Has t.spans m n ∧ F m n = some x ∧ mayS x t = c) → c = 28 := by
    rintro c ⟨m, n, x, h1, h2, h3⟩
    obtain ⟨y, hy, hy'⟩ := h m n h1
    rw [h2] at hy; cases hy; omega
  unfold errSet
  rw [if_neg fun hc => by have := key 29 hc; omega, if_neg fun hc => by have := key 27 hc; omega, if_pos]
  obtain ⟨m, n, hh⟩ := right_coin hr
  obtain ⟨x, hx, hx'⟩ := h m n hh
  exact ⟨m, n, x, hh, hx, hx'⟩
theorem err_0 {F : Int → Int → Option Sta} {t : Deed} (hr : right t = true) (hk : t.kind ≠ 0) (h : ∀ m n, Has t.spans m n → ∃ x, F m n = some x ∧ mayS x t = 0) : errF F t = 0 := by
  rw [err_moved hr hk fun m n hh => let ⟨x, hx, _⟩ := h m n hh; ⟨x, hx⟩]
  have key : ∀ c, (∃ m n x, Has t.spans m n ∧ F m n = some x ∧ mayS x t = c) → c = 0 := by
    rintro c ⟨m, n, x, h1, h2, h3⟩
    obtain ⟨y, hy, hy'⟩ := h m n h1
    rw [h2] at hy; cases hy; omega
  exact errSet_of_zero (fun hc => by have := key 29 hc; omega) (fun hc => by have := key 27 hc; omega) (fun hc => by have := key 28 hc; omega)
theorem right_base {d : Deed} (h1 : 0 ≤ d.mark ∧ d.mark ≤ 1073741824) (h2 : isKey d.author = true) (h3 : 0 < d.spans.length) (h4 : normal d.spans = true) : ¬ (d.mark < 0 ∨ 1073741824 < d.mark ∨ isKey d.author = false ∨ d.spans.length = 0 ∨ normal d.spans = false) := by
  rintro (h | h | h | h | h)
  · omega
  · omega
  · rw [h2] at h; cases h
  · omega
  · rw [h4] at h; cases h
theorem right_mk1 {d : Deed} (h1 : 0 ≤ d.mark ∧ d.mark ≤ 1073741824) (h2 : isKey d.author = true) (h3 : 0 < d.spans.length) (h4 : normal d.spans = true) (hk : d.kind = 1) (h5 : isKey d.who = true) (h6 : d.who ≠ d.author) : right d = true := by
  unfold right; rw [if_neg (right_base h1 h2 h3 h4), if_neg (by omega), if_pos hk, h5]; simp [h6]
theorem right_mk2 {d : Deed} (h1 : 0 ≤ d.mark ∧ d.mark ≤ 1073741824) (h2 : isKey d.author = true) (h3 : 0 < d.spans.length) (h4 : normal d.spans = true) (hk : d.kind = 2) (h5 : isKey d.who = true) (h6 : d.who ≠ d.author) (h7 : 0 ≤ d.til ∧ d.til ≤ 1048576) : right d = true := by
  unfold right; rw [if_neg (right_base h1 h2 h3 h4), if_neg (by omega), if_neg (by omega), if_pos hk, h5]; simp [h6, h7]
theorem right_mk3 {d : Deed} (h1 : 0 ≤ d.mark ∧ d.mark ≤ 1073741824) (h2 : isKey d.author = true) (h3 : 0 < d.spans.length) (h4 : normal d.spans = true) (hk : d.kind = 3) : right d = true := by
  unfold right; rw [if_neg (right_base h1 h2 h3 h4), if_neg (by omega), if_neg (by omega), if_neg (by omega)]; simpa using hk
def lendD (a b til : Int) (spans : List Span) : Deed := ⟨1, 2, a, b, 0, til, spans⟩
def tryD (a b c : Int) (spans : List Span) : List Deed := [⟨0, 1, a, c, 0, 0, spans⟩, ⟨0, 3, a, 0, 0, 0, spans⟩, ⟨0, 1, b, c, 0, 0, spans⟩, ⟨0, 2, b, c, 0, 0, spans⟩, ⟨0, 1, b, a, 0, 0, spans⟩]
section
variable {L L1 : List Lot} {a b c til : Int} {spans : List Span}
theorem lent_coin (he : errF (sta L) (lendD a b til spans) = 0) (hs : sta L1 = stepF (sta L) (lendD a b til spans)) {m n : Int} (hh : Has spans m n) : sta L1 m n = some ⟨a, b, til, -1⟩ ∧ ∃ x, sta L m n = some x ∧ x.p = -1 ∧ x.h = a ∧ x.o = a := by
  rcases coin_of he hh with ⟨hk, _⟩ | ⟨_, x, e1, e2, e3, e4, e5⟩
  · cases hk
  · have hk2 : (lendD a b til spans).kind = 2 := rfl
    have ho : x.o = a := by rcases e4 with e4 | e4 | e4 <;> first | exact e4 | (have := hk2; omega)
    rw [hs, e5, movedS_2 hk2]
    exact ⟨by rw [ho, e2]; rfl, x, e1, e2, e3, ho⟩
theorem tries_law (hg : Good L) (hg1 : Good L1) (hu : untilF (sta L)) (he : errF (sta L) (lendD a b til spans) = 0) (hs : sta L1 = stepF (sta L) (lendD a b til spans)) (h8 : spans.length ≤ 8) (hc : isKey c = true) (hca : c ≠ a) (hcb : c ≠ b) :
    ∀ (i : Nat) t, (tryD a b c spans)[i]? = some t → (i < 4 → doB L1 t = (L1, 28)) ∧ (i = 4 → doB L1 t = (L, 0)) := by
  have hr := err_right he
  obtain ⟨_, _, ka, hpos, hnorm⟩ := right_parts hr
  obtain ⟨kb, hab⟩ := right_who hr (.inr rfl)
  change isKey a = true at ka
  change isKey b = true at kb
  change b ≠ a at hab
  change 0 < spans.length at hpos
  change normal spans = true at hnorm
  have hm0 : (0 : Int) ≤ 0 ∧ (0 : Int) ≤ 1073741824 := by omega
  have refuse : ∀ t : Deed, t.spans = spans → right t = true → t.kind ≠ 0 → mayS ⟨a, b, til, -1⟩ t = 28 → doB L1 t = (L1, 28) := by
    intro t hts hrt hkt hmay
    have e : errF (sta L1) t = 28 := err_28 hrt hkt fun m n hh => ⟨_, (lent_coin he hs (by rw [hts] at hh; exact hh)).1, hmay⟩
    obtain ⟨_, g2, _⟩ := good_do (d := t) hg1 (by rw [hts]; exact h8)
    rw [e] at g2
    exact Prod.ext (doB_refused hg1.mgd (by rw [g2]; decide)) g2
  intro i t ht
  match i, ht with
  | 0, ht =>
    cases ht
    refine ⟨fun _ => refuse _ rfl (right_mk1 hm0 ka hpos hnorm rfl hc hca) (by simp) ?_, fun h => by cases h⟩
    unfold mayS
    simp only
    rw [if_neg (by simp), if_neg (by omega), if_pos hab]
  | 1, ht =>
    cases ht
    refine ⟨fun _ => refuse _ rfl (right_mk3 hm0 ka hpos hnorm rfl) (by simp) ?_, fun h => by cases h⟩
    unfold mayS
    simp only
    rw [if_neg (by simp), if_neg (by omega), if_pos hab]
  | 2, ht =>
    cases ht
    refine ⟨fun _ => refuse _ rfl (right_mk1 hm0 kb hpos hnorm rfl hc hcb) (by simp) ?_, fun h => by cases h⟩
    unfold mayS
    simp only
    rw [if_neg (by simp), if_neg (by omega), if_neg (by simp), if_pos ⟨fun e => hab e.symm, by decide, .inr hca⟩]
  | 3, ht =>
    cases ht
    refine ⟨fun _ => refuse _ rfl (right_mk2 hm0 kb hpos hnorm rfl hc hcb (by simp)) (by simp) ?_, fun h => by cases h⟩
    unfold mayS
    simp only
    rw [if_neg (by simp), if_neg (by omega), if_neg (by simp), if_pos ⟨fun e => hab e.symm, by decide, .inl (by decide)⟩]
  | 4, ht =>
    cases ht
    refine ⟨fun h => by omega, fun _ => ?_⟩
    have hrt : right ⟨0, 1, b, a, 0, 0, spans⟩ = true := right_mk1 hm0 kb hpos hnorm rfl ka (fun e => hab e.symm)
    have e : errF (sta L1) ⟨0, 1, b, a, 0, 0, spans⟩ = 0 := err_0 hrt (by simp) fun m n hh => ⟨_, (lent_coin he hs hh).1, by
      unfold mayS
      simp only
      rw [if_neg (by simp), if_neg (by omega), if_neg (by simp), if_neg]
      rintro ⟨_, _, h | h⟩
      · exact h rfl
      · exact h rfl⟩
    obtain ⟨g1, g2, g3⟩ := good_do (d := ⟨0, 1, b, a, 0, 0, spans⟩) hg1 h8
    refine Prod.ext (g1.ext hg ?_) (by rw [g2, e])
    rw [g3]
    funext m n
    by_cases hh : Has spans m n
    · obtain ⟨c1, x, x1, x2, x3, x4⟩ := lent_coin he hs hh
      rcases coin_of e hh with ⟨hk, _⟩ | ⟨_, y, y1, _, _, _, y5⟩
      · cases hk
      · rw [y5, movedS_1 rfl, x1]
        rw [c1] at y1
        cases y1
        have := hu m n x x1 (by omega)
        rw [show x = ⟨a, a, 0, -1⟩ from Sta.ext' x4 x3 this x2]
    · rw [coin_not hh, hs, coin_not hh]
  | n + 5, ht => simp [tryD] at ht
theorem open_ext {p q : Lot → Bool} {f g : Sta → Bool} {A B : List Lot} (hp : ∀ l, p l = f (stL l)) (hq : ∀ l, q l = g (stL l)) (hA : Ord A) (hB : Ord B) (h : ∀ m n, (∃ x, sta A m n = some x ∧ x.p = -1 ∧ f x = true) ↔ (∃ x, sta B m n = some x ∧ x.p = -1 ∧ g x = true)) : norm (openL p A) = norm (openL q B) :=
  NF.ext (norm_nf _) (norm_nf _) fun m n => by rw [has_open hp hA, has_open hq hB]; exact h m n
theorem lent_rest (hg : Good L) (hg1 : Good L1) (he : errF (sta L) (lendD a b til spans) = 0) (hs : sta L1 = stepF (sta L) (lendD a b til spans)) :
    ownedL L1 a = ownedL L a ∧ (minus spans (heldL L1 b)).length = 0 ∧ (common spans (heldL L1 a)).length = 0 ∧ norm (openL (fun _ => true) L1) = norm (openL (fun _ => true) L) := by
  refine ⟨owned_ext hg1.ord hg.ord fun m n => ?_, got_held (d := lendD a b til spans) hg1.ord hs he (by unfold lendD; simp) (by unfold lendD; simp), gone_held (d := lendD a b til spans) hg1.ord hs he (by unfold lendD; simp), open_ext (f := fun _ => true) (g := fun _ => true) (fun l => rfl) (fun l => rfl) hg1.ord hg.ord fun m n => ?_⟩
  · by_cases hh : Has spans m n
    · obtain ⟨c1, x, x1, x2, x3, x4⟩ := lent_coin he hs hh
      rw [c1, x1]
      exact ⟨fun _ => ⟨x, rfl, x2, x4⟩, fun _ => ⟨_, rfl, rfl, rfl⟩⟩
    · rw [hs, coin_not hh]
  · by_cases hh : Has spans m n
    · obtain ⟨c1, x, x1, x2, x3, x4⟩ := lent_coin he hs hh
      rw [c1, x1]
      exact ⟨fun _ => ⟨x, rfl, x2, rfl⟩, fun _ => ⟨_, rfl, rfl, rfl⟩⟩
    · rw [hs, coin_not hh]
end
end Go.Proofs.Ytjilbkioieicbaa

/- The law RightsLent (stokvellaw27): what the call computes. -/
namespace Go.Proofs.Ytjilbkioieicbaa
open Go.Vc Rt
set_option linter.unusedVariables false
set_option linter.unusedSimpArgs false
theorem sl_all {w w' : World} {v u : Value} {l : List Deed} {d : Deed} {R : List (List CV)} (h : (LO.row v 54 7 (R ++ [encD d u])).holds w') (hx : Ext w w') (hr : relAll deT [] w l R) (hu : SlOf spT [] w u d.spans) (hl : l.length ≤ 1954687338211) : SlOf deT [] w' v (l ++ [d]) :=
  SlOf.of_rows h (fun _ _ => nilS) (by simp; omega) (relAll_append (relAll_fr hx hr) (relAll_deed (hu.fr hx)))
theorem lent_c (l : List Deed) (spans : List Span) (a b til : Int) (v u : Value) (w : World) (h : SlOf deT [] w v l) (hu : SlOf spT [] w u spans) (hb : l.length ≤ 1954687338211) : Ans Try.prog 11 [v, u, vI a, vI b, vI til] (.b true) w := by
  have hl := h.len
  have hsm := h.small
  obtain ⟨R, hRl, hrel, hsrc, hnp, hone⟩ := slRows h (fun x l hx => deed_one hx)
  have hu : SlOf spT [] w u ((lendD a b til spans)).spans := hu
  have hnp1 : NoP (R ++ [encD (lendD a b til spans) u]) := NoP.app hnp (NoP.one (encD_one hu.sl.one))
  have hone1 : ∀ l ∈ R ++ [encD (lendD a b til spans) u], ∀ c ∈ l, c.den.oneCell' = true := one_app hone (one_one (encD_one hu.sl.one))
  refine calls_plainB [.x v, .x u, .i a, .i b, .i til] Try.func11 rfl rfl (Nat.le_of_ble_eq_true rfl) rfl fun B hB => ?_
  repeat refine At.seq ?_
  refine At.region tab_ok ?_
  conv => whnf
  repeat refine At.seq ?_
  refine At.region tab_ok ?_
  conv => whnf
  refine ans_call b24 rfl (fun w' hw => small27_c w') ?_
  conv => whnf
  repeat refine At.seq ?_
  refine At.region tab_ok ?_
  conv => whnf
  refine ⟨hu.sl.one, ?_⟩
  conv => whnf
  intro b12
  conv => whnf
  refine ⟨hu.sl.one, ?_⟩
  conv => whnf
  repeat refine At.seq ?_
  refine At.join (fun q : Unit => { N := Try.f11.ntmps, sl := [(0, some (.x v)), (1, some (.x u)), (2, some (.i a)), (3, some (.i b)), (4, some (.i til)), (11, some (.b true)), (12, some (.s (.c (.p 0 b12 0)))), (36, some (.b (!few (l ++ [(lendD a b til spans)]) 13)))], gl := [], hp := [(0, .box b12 54 (encD (lendD a b til spans) u))], S := [], ws := w }) (fun q : Unit => True) ?_ ?_
  · repeat refine At.seq ?_
    refine At.planG tab_ok mixed [(0, .box b12 54 (encD (lendD a b til spans) u))] (.take 1 (.take 3 (.br 0 (.br 2 (.br 4 (.br 5 (.br 6 (.take 7 (.done)) (.nob)) (.nob)) (.nob)) (.br 4 (.br 2 (.br 5 (.br 6 (.take 7 (.done)) (.nob)) (.nob)) (.nob)) (.nob))) (.br 4 (.br 0 (.br 2 (.br 5 (.br 6 (.take 7 (.done)) (.nob)) (.nob)) (.nob)) (.nob)) (.nob))))) (by kernel_rfl) (by kernel_rfl) ⟨rfl, trivial⟩ ?_
    conv => whnf
    refine ⟨?_, ?_, trivial⟩
    · conv => whnf
      intro r0
      conv => whnf
      refine ⟨⟨⟨rfl, trivial⟩, fun w' hw => hw.fr⟩, ?_⟩
      conv => whnf
      refine ⟨?_, ?_, trivial⟩
      · conv => whnf
        refine ⟨R, ⟨fun w' hw => hsrc w' hw.fr, hnp⟩, ?_⟩
        conv => whnf
        refine ⟨⟨rfl, by simp; omega⟩, ?_⟩
        conv => whnf
        intro r1
        conv => whnf
        refine ⟨⟨⟨rfl, trivial⟩, fun w' hw => hw.fr⟩, ?_⟩
        conv => whnf
        refine ⟨?_, trivial⟩
        conv => whnf
        refine ⟨hu.sl.one, ?_⟩
        conv => whnf
        intro r2
        conv => whnf
        refine ⟨⟨⟨rfl, trivial⟩, fun w' hw => hw.fr⟩, ?_⟩
        conv => whnf
        refine ⟨?_, trivial⟩
        conv => whnf
        refine ⟨rfl, ?_⟩
        conv => whnf
        refine ⟨hu.sl.one, ?_⟩
        conv => whnf
        refine ⟨⟨rfl, by simp; omega⟩, ?_⟩
        conv => whnf
        intro r3
        conv => whnf
        refine ⟨⟨⟨rfl, trivial⟩, fun w' hw => hw.fr⟩, ?_⟩
        conv => whnf
        refine ⟨?_, trivial⟩
        conv => whnf
        refine ans_call b25 rfl (fun w' hw => few_c (l ++ [(lendD a b til spans)]) 13 [] _ w' (sl_all (hw.row (id := 1) rfl) hw.fr hrel hu (by omega))) ?_
        conv => whnf
        refine ⟨⟨⟨rfl, trivial⟩, fun w' hw => hw.fr⟩, ?_⟩
        conv => whnf
        refine At.meet fun w' hw => ⟨(), trivial, Le.of rfl rfl ⟨rfl, rfl, rfl, rfl, rfl, rfl, rfl, rfl, trivial⟩, hw.keep [0] rfl rfl rfl, ⟨⟨_, _, rfl⟩, trivial⟩, trivial⟩
      · conv => whnf
        refine ⟨hu.sl.one, ?_⟩
        conv => whnf
        intro r2
        conv => whnf
        refine ⟨⟨⟨rfl, trivial⟩, fun w' hw => hw.fr⟩, ?_⟩
        conv => whnf
        refine ⟨?_, trivial⟩
        conv => whnf
        refine ⟨R, ⟨fun w' hw => hsrc w' hw.fr, hnp⟩, ?_⟩
        conv => whnf
        refine ⟨⟨rfl, by simp; omega⟩, ?_⟩
        conv => whnf
        intro r1
        conv => whnf
        refine ⟨⟨⟨rfl, trivial⟩, fun w' hw => hw.fr⟩, ?_⟩
        conv => whnf
        refine ⟨?_, trivial⟩
        conv => whnf
        refine ⟨rfl, ?_⟩
        conv => whnf
        refine ⟨hu.sl.one, ?_⟩
        conv => whnf
        refine ⟨⟨rfl, by simp; omega⟩, ?_⟩
        conv => whnf
        intro r3
        conv => whnf
        refine ⟨⟨⟨rfl, trivial⟩, fun w' hw => hw.fr⟩, ?_⟩
        conv => whnf
        refine ⟨?_, trivial⟩
        conv => whnf
        refine ans_call b25 rfl (fun w' hw => few_c (l ++ [(lendD a b til spans)]) 13 [] _ w' (sl_all (hw.row (id := 1) rfl) hw.fr hrel hu (by omega))) ?_
        conv => whnf
        refine ⟨⟨⟨rfl, trivial⟩, fun w' hw => hw.fr⟩, ?_⟩
        conv => whnf
        refine At.meet fun w' hw => ⟨(), trivial, Le.of rfl rfl ⟨rfl, rfl, rfl, rfl, rfl, rfl, rfl, rfl, trivial⟩, hw.keep [0] rfl rfl rfl, ⟨⟨_, _, rfl⟩, trivial⟩, trivial⟩
    · conv => whnf
      refine ⟨hu.sl.one, ?_⟩
      conv => whnf
      intro r2
      conv => whnf
      refine ⟨⟨⟨rfl, trivial⟩, fun w' hw => hw.fr⟩, ?_⟩
      conv => whnf
      refine ⟨?_, trivial⟩
      conv => whnf
      intro r0
      conv => whnf
      refine ⟨⟨⟨rfl, trivial⟩, fun w' hw => hw.fr⟩, ?_⟩
      conv => whnf
      refine ⟨?_, trivial⟩
      conv => whnf
      refine ⟨R, ⟨fun w' hw => hsrc w' hw.fr, hnp⟩, ?_⟩
      conv => whnf
      refine ⟨⟨rfl, by simp; omega⟩, ?_⟩
      conv => whnf
      intro r1
      conv => whnf
      refine ⟨⟨⟨rfl, trivial⟩, fun w' hw => hw.fr⟩, ?_⟩
      conv => whnf
      refine ⟨?_, trivial⟩
      conv => whnf
      refine ⟨rfl, ?_⟩
      conv => whnf
      refine ⟨hu.sl.one, ?_⟩
      conv => whnf
      refine ⟨⟨rfl, by simp; omega⟩, ?_⟩
      conv => whnf
      intro r3
      conv => whnf
      refine ⟨⟨⟨rfl, trivial⟩, fun w' hw => hw.fr⟩, ?_⟩
      conv => whnf
      refine ⟨?_, trivial⟩
      conv => whnf
      refine ans_call b25 rfl (fun w' hw => few_c (l ++ [(lendD a b til spans)]) 13 [] _ w' (sl_all (hw.row (id := 2) rfl) hw.fr hrel hu (by omega))) ?_
      conv => whnf
      refine ⟨⟨⟨rfl, trivial⟩, fun w' hw => hw.fr⟩, ?_⟩
      conv => whnf
      refine At.meet fun w' hw => ⟨(), trivial, Le.of rfl rfl ⟨rfl, rfl, rfl, rfl, rfl, rfl, rfl, rfl, trivial⟩, hw.keep [0] rfl rfl rfl, ⟨⟨_, _, rfl⟩, trivial⟩, trivial⟩
  intro _ _
  repeat refine At.seq ?_
  refine At.cond rfl (fun hq => ?_) (fun hq => ?_)
  · repeat refine At.seq ?_
    refine At.region tab_ok ?_
    conv => whnf
    repeat refine At.seq ?_
    refine At.ret (At.doneB tab_ok hB _ rfl fun w' hw => ⟨rfl, hw.fr⟩)
  have hfew : few (l ++ [(lendD a b til spans)]) 13 = true := by simpa using hq
  obtain ⟨hn, hsp⟩ := few_spec hfew
  have hn : l.length ≤ 12 := by simp at hn; omega
  have hspl : ∀ d ∈ l, d.spans.length ≤ 8 := fun d hd => hsp d (List.mem_append_left _ hd)
  have hsp0 : spans.length ≤ 8 := hsp (lendD a b til spans) (by simp)
  have hes := lotsK_errs l
  have hsn := lotsK_snoc l (lendD a b til spans)
  have hg := good_lots _ l rfl hspl
  have hun := until_lots _ l rfl hspl
  have hg1 := good_lots _ (l ++ [(lendD a b til spans)]) rfl hsp
  have hlen := (lotsK_keeps _ l rfl hspl).2.2
  have hlen1 := (lotsK_keeps _ (l ++ [(lendD a b til spans)]) rfl hsp).2.2
  obtain ⟨_, he, hst⟩ := good_do (d := (lendD a b til spans)) hg hsp0
  refine At.skip ?_
  repeat refine At.seq ?_
  refine At.region tab_ok ?_
  conv => whnf
  refine ansR_call b26 (rd2 (nopL _) (nopI _)) (fun w' hw => lots_c l [] v w' (h.fr hw.fr) (by omega) (lots_ok hspl (by omega))) ?_
  intro vb
  conv => whnf
  intro vbe
  conv => whnf
  repeat refine At.seq ?_
  refine At.join (fun va : Value => { N := Try.f11.ntmps, sl := [(0, some (.x v)), (1, some (.x u)), (2, some (.i a)), (3, some (.i b)), (4, some (.i til)), (11, some (.b true)), (13, some (.s (.c (.o 1 vb)))), (15, some (.s (.c (.o 2 va))))], gl := [], hp := [(2, .row va 54 7 (R ++ [encD (lendD a b til spans) u])), (1, .row vb 58 7 ((lotsK l).1.map encL)), (0, .box b12 54 (encD (lendD a b til spans) u))], S := [], ws := w }) (fun va : Value => True) ?_ ?_
  · repeat refine At.seq ?_
    refine At.planG tab_ok mixed [(1, .row vb 58 7 ((lotsK l).1.map encL)), (0, .box b12 54 (encD (lendD a b til spans) u))] (.take 1 (.take 3 (.br 0 (.br 2 (.br 4 (.br 5 (.take 6 (.done)) (.nob)) (.nob)) (.br 4 (.br 2 (.br 5 (.take 6 (.done)) (.nob)) (.nob)) (.nob))) (.br 4 (.br 0 (.br 2 (.br 5 (.take 6 (.done)) (.nob)) (.nob)) (.nob)) (.nob))))) (by kernel_rfl) (by kernel_rfl) ⟨rfl, rfl, trivial⟩ ?_
    conv => whnf
    refine ⟨?_, ?_, trivial⟩
    · conv => whnf
      intro r0
      conv => whnf
      refine ⟨⟨⟨rfl, rfl, trivial⟩, fun w' hw => hw.fr⟩, ?_⟩
      conv => whnf
      refine ⟨?_, ?_, trivial⟩
      · conv => whnf
        refine ⟨R, ⟨fun w' hw => hsrc w' hw.fr, hnp⟩, ?_⟩
        conv => whnf
        refine ⟨⟨rfl, by simp; omega⟩, ?_⟩
        conv => whnf
        intro r1
        conv => whnf
        refine ⟨⟨⟨rfl, rfl, trivial⟩, fun w' hw => hw.fr⟩, ?_⟩
        conv => whnf
        refine ⟨?_, trivial⟩
        conv => whnf
        refine ⟨hu.sl.one, ?_⟩
        conv => whnf
        intro r2
        conv => whnf
        refine ⟨⟨⟨rfl, rfl, trivial⟩, fun w' hw => hw.fr⟩, ?_⟩
        conv => whnf
        refine ⟨?_, trivial⟩
        conv => whnf
        refine ⟨rfl, ?_⟩
        conv => whnf
        refine ⟨hu.sl.one, ?_⟩
        conv => whnf
        refine ⟨⟨rfl, by simp; omega⟩, ?_⟩
        conv => whnf
        intro r3
        conv => whnf
        refine ⟨⟨⟨rfl, rfl, trivial⟩, fun w' hw => hw.fr⟩, ?_⟩
        conv => whnf
        refine At.meet fun w' hw => ⟨r3, trivial, Le.of rfl rfl ⟨rfl, rfl, rfl, rfl, rfl, rfl, rfl, rfl, trivial⟩, hw.ren [3,1,0] rfl rfl rfl, ⟨⟨_, _, _, rfl⟩, ⟨_, _, _, rfl⟩, trivial⟩, ⟨(hnp1).okH, (nopL _).okH, trivial⟩⟩
      · conv => whnf
        refine ⟨hu.sl.one, ?_⟩
        conv => whnf
        intro r2
        conv => whnf
        refine ⟨⟨⟨rfl, rfl, trivial⟩, fun w' hw => hw.fr⟩, ?_⟩
        conv => whnf
        refine ⟨?_, trivial⟩
        conv => whnf
        refine ⟨R, ⟨fun w' hw => hsrc w' hw.fr, hnp⟩, ?_⟩
        conv => whnf
        refine ⟨⟨rfl, by simp; omega⟩, ?_⟩
        conv => whnf
        intro r1
        conv => whnf
        refine ⟨⟨⟨rfl, rfl, trivial⟩, fun w' hw => hw.fr⟩, ?_⟩
        conv => whnf
        refine ⟨?_, trivial⟩
        conv => whnf
        refine ⟨rfl, ?_⟩
        conv => whnf
        refine ⟨hu.sl.one, ?_⟩
        conv => whnf
        refine ⟨⟨rfl, by simp; omega⟩, ?_⟩
        conv => whnf
        intro r3
        conv => whnf
        refine ⟨⟨⟨rfl, rfl, trivial⟩, fun w' hw => hw.fr⟩, ?_⟩
        conv => whnf
        refine At.meet fun w' hw => ⟨r3, trivial, Le.of rfl rfl ⟨rfl, rfl, rfl, rfl, rfl, rfl, rfl, rfl, trivial⟩, hw.ren [3,1,0] rfl rfl rfl, ⟨⟨_, _, _, rfl⟩, ⟨_, _, _, rfl⟩, trivial⟩, ⟨(hnp1).okH, (nopL _).okH, trivial⟩⟩
    · conv => whnf
      refine ⟨hu.sl.one, ?_⟩
      conv => whnf
      intro r2
      conv => whnf
      refine ⟨⟨⟨rfl, rfl, trivial⟩, fun w' hw => hw.fr⟩, ?_⟩
      conv => whnf
      refine ⟨?_, trivial⟩
      conv => whnf
      intro r0
      conv => whnf
      refine ⟨⟨⟨rfl, rfl, trivial⟩, fun w' hw => hw.fr⟩, ?_⟩
      conv => whnf
      refine ⟨?_, trivial⟩
      conv => whnf
      refine ⟨R, ⟨fun w' hw => hsrc w' hw.fr, hnp⟩, ?_⟩
      conv => whnf
      refine ⟨⟨rfl, by simp; omega⟩, ?_⟩
      conv => whnf
      intro r1
      conv => whnf
      refine ⟨⟨⟨rfl, rfl, trivial⟩, fun w' hw => hw.fr⟩, ?_⟩
      conv => whnf
      refine ⟨?_, trivial⟩
      conv => whnf
      refine ⟨rfl, ?_⟩
      conv => whnf
      refine ⟨hu.sl.one, ?_⟩
      conv => whnf
      refine ⟨⟨rfl, by simp; omega⟩, ?_⟩
      conv => whnf
      intro r3
      conv => whnf
      refine ⟨⟨⟨rfl, rfl, trivial⟩, fun w' hw => hw.fr⟩, ?_⟩
      conv => whnf
      refine At.meet fun w' hw => ⟨r3, trivial, Le.of rfl rfl ⟨rfl, rfl, rfl, rfl, rfl, rfl, rfl, rfl, trivial⟩, hw.ren [4,1,0] rfl rfl rfl, ⟨⟨_, _, _, rfl⟩, ⟨_, _, _, rfl⟩, trivial⟩, ⟨(hnp1).okH, (nopL _).okH, trivial⟩⟩
  intro va _
  repeat refine At.seq ?_
  refine At.region tab_ok ?_
  conv => whnf
  refine ansR_call b26 (rd2 (nopL _) (nopI _)) (fun w' hw => lots_c (l ++ [(lendD a b til spans)]) [] va w' (sl_all (hw.row (id := 2) rfl) hw.fr hrel hu (by omega)) (by simp; omega) (lots_ok hsp (by simp; omega))) ?_
  rw [hsn] at hlen1 hg1 ⊢
  intro vl
  conv => whnf
  intro ve
  conv => whnf
  generalize (lotsK l).1 = L at *
  generalize (lotsK l).2 = es at *
  generalize hdo : doB L (lendD a b til spans) = D at *
  obtain ⟨L1, er⟩ := D
  simp only [List.length_append, List.length_singleton] at hlen hlen1 hg1 he hst ⊢
  repeat refine At.seq ?_
  refine At.region tab_ok ?_
  conv => whnf
  refine ⟨rfl, ?_⟩
  conv => whnf
  refine ⟨rfl, ?_⟩
  conv => whnf
  repeat refine At.seq ?_
  refine At.cond rfl (fun hq => ?_) (fun hq => At.skip ?_)
  · simp [hes, hRl] at hq
  have hge : (es ++ [er])[l.length]? = some er := by rw [List.getElem?_append_right (by omega)]; simp [hes]
  have hel : (es ++ [er]).length = l.length + 1 := by simp [hes]
  generalize es ++ [er] = es1 at *
  repeat refine At.seq ?_
  refine At.region tab_ok ?_
  conv => whnf
  refine ⟨h.sl, ?_⟩
  conv => whnf
  refine ⟨rfl, ?_⟩
  conv => whnf
  refine ⟨by omega, ?_⟩
  conv => whnf
  refine ⟨by simp; omega, ?_⟩
  conv => whnf
  refine ⟨encI er, ⟨rfl, rfl, by omega, by rw [hl, Int.toNat_natCast, List.getElem?_map, hge]; rfl⟩, ?_⟩
  conv => whnf
  repeat refine At.seq ?_
  refine At.cond rfl (fun hq => ?_) (fun hq => At.skip ?_)
  · repeat refine At.seq ?_
    refine At.region tab_ok ?_
    conv => whnf
    repeat refine At.seq ?_
    refine At.ret (At.doneB tab_ok hB _ rfl fun w' hw => ⟨rfl, hw.fr⟩)
  have her : er = 0 := by simpa using hq
  subst her
  replace he := he.symm
  repeat refine At.seq ?_
  refine At.region tab_ok ?_
  conv => whnf
  repeat refine At.seq ?_
  refine At.block ?_
  refine At.loopH (fun k : Nat => { N := Try.f11.ntmps, sl := [(0, some (.x v)), (1, some (.x u)), (2, some (.i a)), (3, some (.i b)), (4, some (.i til)), (11, some (.b true)), (13, some (.s (.c (.o 1 vb)))), (15, some (.s (.c (.o 2 va)))), (16, some (.s (.c (.o 3 vl)))), (18, some (.i k))], gl := [], hp := [(3, .row vl 58 7 (L1.map encL)), (2, .row va 54 7 (R ++ [encD (lendD a b til spans) u])), (1, .row vb 58 7 (L.map encL))], S := [], ws := w }) (fun k : Nat => k ≤ 2 ∧ ∀ j : Nat, j < k → (j : Int) = a ∨ (j : Int) = b) (fun k : Nat => 2 - k)
    (fun w' hw => ⟨0, ⟨by omega, fun j hj => by omega⟩, Le.of rfl rfl ⟨rfl, rfl, rfl, rfl, rfl, rfl, rfl, rfl, rfl, rfl, trivial⟩, hw.keep [3, 2, 1] rfl rfl rfl, ⟨⟨_, _, _, rfl⟩, ⟨_, _, _, rfl⟩, ⟨_, _, _, rfl⟩, trivial⟩, ⟨(nopL _).okH, (hnp1).okH, (nopL _).okH, trivial⟩⟩) ?_
  intro k ⟨hk, hall⟩
  repeat refine At.seq ?_
  refine At.region tab_ok ?_
  conv => whnf
  repeat refine At.seq ?_
  refine At.cond rfl (fun hc => At.skip ?_) (fun hc => At.exit ?_)
  · have hkk : (k : Int) = a ∨ (k : Int) = b := by simpa [bor] using hc
    have hk2 : k < 2 := by
      rcases Nat.lt_or_ge k 2 with h1 | h1
      · exact h1
      · have e0 := hall 0 (by omega)
        have e1 := hall 1 (by omega)
        omega
    repeat refine At.seq ?_
    refine At.block ?_
    repeat refine At.seq ?_
    refine At.region tab_ok ?_
    conv => whnf
    refine ⟨⟨by omega, by omega⟩, ?_⟩
    conv => whnf
    refine At.nextH fun w' hw => ⟨k + 1, ⟨by omega, fun j hj => by rcases Nat.lt_or_ge j k with h1 | h1; exact hall j h1; have : j = k := (by omega); subst this; exact hkk⟩, by omega, Le.of rfl rfl ⟨rfl, rfl, rfl, rfl, rfl, rfl, rfl, rfl, rfl, rfl, trivial⟩, hw.keep [3, 2, 1] rfl rfl rfl, ⟨⟨_, _, _, rfl⟩, ⟨_, _, _, rfl⟩, ⟨_, _, _, rfl⟩, trivial⟩, ⟨(nopL _).okH, (hnp1).okH, (nopL _).okH, trivial⟩⟩
  have hkk : (k : Int) ≠ a ∧ (k : Int) ≠ b := by
    simp only [bor, Bool.or_eq_false_iff, decide_eq_false_iff_not] at hc; exact hc
  have hkey : isKey (k : Int) = true := by unfold isKey; simp; omega
  have htry := tries_law (c := (k : Int)) hg hg1 hun he hst hsp0 hkey hkk.1 hkk.2
  have hown := lent_rest hg hg1 he hst
  have htl : (tryD a b k spans).length = 5 := rfl
  have hts : ∀ t ∈ tryD a b k spans, t.spans = spans := fun t ht => by simp [tryD] at ht; rcases ht with rfl | rfl | rfl | rfl | rfl <;> rfl
  have hnt : NoP ((tryD a b k spans).map (fun t => encD t u)) := fun r hr c hc => by
    obtain ⟨t, _, rfl⟩ := List.mem_map.1 hr
    exact (encD_one hu.sl.one c hc).2
  repeat refine At.seq ?_
  refine At.region tab_ok ?_
  conv => whnf
  refine ⟨hu.sl.one, ?_⟩
  conv => whnf
  refine ⟨hu.sl.one, ?_⟩
  conv => whnf
  refine ⟨hu.sl.one, ?_⟩
  conv => whnf
  refine ⟨hu.sl.one, ?_⟩
  conv => whnf
  refine ⟨hu.sl.one, ?_⟩
  conv => whnf
  refine ⟨hu.sl.one, ?_⟩
  conv => whnf
  refine ⟨hu.sl.one, ?_⟩
  conv => whnf
  refine ⟨hu.sl.one, ?_⟩
  conv => whnf
  refine ⟨hu.sl.one, ?_⟩
  conv => whnf
  refine ⟨hu.sl.one, ?_⟩
  conv => whnf
  intro vt
  conv => whnf
  repeat refine At.seq ?_
  refine At.region tab_ok ?_
  conv => whnf
  repeat refine At.seq ?_
  refine At.block ?_
  refine At.loopH (fun i : Nat => { N := Try.f11.ntmps, sl := [(0, some (.x v)), (1, some (.x u)), (2, some (.i a)), (3, some (.i b)), (11, some (.b true)), (13, some (.s (.c (.o 1 vb)))), (15, some (.s (.c (.o 2 va)))), (16, some (.s (.c (.o 3 vl)))), (19, some (.s (.c (.o 4 vt)))), (20, some (.i i))], gl := [], hp := [(4, .row vt 54 7 ((tryD a b k spans).map (fun t => encD t u))), (3, .row vl 58 7 (L1.map encL)), (2, .row va 54 7 (R ++ [encD (lendD a b til spans) u])), (1, .row vb 58 7 (L.map encL))], S := [], ws := w }) (fun i : Nat => i ≤ 5) (fun i : Nat => 5 - i)
    (fun w' hw => ⟨0, by omega, Le.of rfl rfl ⟨rfl, rfl, rfl, rfl, rfl, rfl, rfl, rfl, rfl, rfl, trivial⟩, hw.keep [4, 3, 2, 1] rfl rfl rfl, ⟨⟨_, _, _, rfl⟩, ⟨_, _, _, rfl⟩, ⟨_, _, _, rfl⟩, ⟨_, _, _, rfl⟩, trivial⟩, ⟨(hnt).okH, (nopL _).okH, (hnp1).okH, (nopL _).okH, trivial⟩⟩) ?_
  generalize tryD a b k spans = tr at *
  intro i hi
  repeat refine At.seq ?_
  refine At.region tab_ok ?_
  conv => whnf
  repeat refine At.seq ?_
  refine At.cond rfl (fun hc => At.skip ?_) (fun hc => At.exit ?_)
  · have hi5 : i < tr.length := by have := of_decide_eq_true hc; omega
    obtain ⟨t, ht⟩ : ∃ t, tr[i]? = some t := ⟨_, List.getElem?_eq_getElem hi5⟩
    have hts0 := hts t (List.mem_of_getElem? ht)
    have hut : SlOf spT [] w u t.spans := by rw [hts0]; exact hu
    obtain ⟨ht1, ht2⟩ := htry i t ht
    have hsp2 : ∀ d ∈ (l ++ [(lendD a b til spans)]) ++ [t], d.spans.length ≤ 8 := fun d hd => by
      rcases List.mem_append.1 hd with hd | hd
      · exact hsp d hd
      · rw [List.mem_singleton.1 hd, hts0]; exact hsp0
    have hsn2 := lotsK_snoc (l ++ [(lendD a b til spans)]) t
    rw [hsn] at hsn2
    simp only at hsn2
    have hlen2 := (lotsK_keeps _ ((l ++ [(lendD a b til spans)]) ++ [t]) rfl hsp2).2.2
    rw [hsn2] at hlen2
    have hrel1 : relAll deT [] w (l ++ [(lendD a b til spans)]) (R ++ [encD (lendD a b til spans) u]) := relAll_append hrel (relAll_deed hu)
    repeat refine At.seq ?_
    refine At.block ?_
    repeat refine At.seq ?_
    refine At.join (fun p : Value × Value => { N := Try.f11.ntmps, sl := [(0, some (.x v)), (1, some (.x u)), (2, some (.i a)), (3, some (.i b)), (11, some (.b true)), (13, some (.s (.c (.o 1 vb)))), (15, some (.s (.c (.o 2 va)))), (16, some (.s (.c (.o 3 vl)))), (19, some (.s (.c (.o 4 vt)))), (20, some (.i i)), (21, some (.s (.c (.o 5 p.1)))), (22, some (.s (.c (.o 6 p.2))))], gl := [], hp := [(6, .row p.2 30 1 ((es1 ++ [(doB L1 t).2]).map encI)), (5, .row p.1 58 7 ((doB L1 t).1.map encL)), (4, .row vt 54 7 (tr.map (fun t => encD t u))), (3, .row vl 58 7 (L1.map encL)), (2, .row va 54 7 (R ++ [encD (lendD a b til spans) u])), (1, .row vb 58 7 (L.map encL))], S := [], ws := w }) (fun p : Value × Value => True) ?_ ?_
    · repeat refine At.seq ?_
      refine At.planG tab_ok mixed [(4, .row vt 54 7 (tr.map (fun t => encD t u))), (3, .row vl 58 7 (L1.map encL)), (2, .row va 54 7 (R ++ [encD (lendD a b til spans) u])), (1, .row vb 58 7 (L.map encL))] (.take 1 (.take 3 (.take 4 (.take 5 (.take 6 (.br 0 (.br 2 (.br 7 (.br 8 (.br 9 (.take 10 (.take 11 (.take 12 (.take 13 (.take 14 (.done)))))) (.nob)) (.nob)) (.nob)) (.br 7 (.br 2 (.br 8 (.br 9 (.take 10 (.take 11 (.take 12 (.take 13 (.take 14 (.done)))))) (.nob)) (.nob)) (.nob)) (.nob))) (.br 7 (.br 0 (.br 2 (.br 8 (.br 9 (.take 10 (.take 11 (.take 12 (.take 13 (.take 14 (.done)))))) (.nob)) (.nob)) (.nob)) (.nob)) (.nob)))))))) (by kernel_rfl) (by kernel_rfl) ⟨rfl, rfl, rfl, rfl, trivial⟩ ?_
      conv => whnf
      refine ⟨rfl, ?_⟩
      conv => whnf
      refine ⟨by omega, ?_⟩
      conv => whnf
      refine ⟨by simp; omega, ?_⟩
      conv => whnf
      refine ⟨encD t u, ⟨rfl, rfl, by omega, by rw [Int.toNat_natCast, List.getElem?_map, ht]; rfl⟩, ?_⟩
      conv => whnf
      refine ⟨?_, ?_, trivial⟩
      · conv => whnf
        intro r0
        conv => whnf
        refine ⟨⟨⟨rfl, rfl, rfl, rfl, trivial⟩, fun w' hw => hw.fr⟩, ?_⟩
        conv => whnf
        refine ⟨?_, ?_, trivial⟩
        · conv => whnf
          refine ⟨rfl, ?_⟩
          conv => whnf
          refine obl_rows hone1 ?_
          conv => whnf
          refine ⟨⟨rfl, by simp; omega⟩, ?_⟩
          conv => whnf
          intro r1
          conv => whnf
          refine ⟨⟨⟨rfl, rfl, rfl, rfl, trivial⟩, fun w' hw => hw.fr⟩, ?_⟩
          conv => whnf
          refine ⟨?_, trivial⟩
          conv => whnf
          refine ⟨hu.sl.one, ?_⟩
          conv => whnf
          intro r2
          conv => whnf
          refine ⟨⟨⟨rfl, rfl, rfl, rfl, trivial⟩, fun w' hw => hw.fr⟩, ?_⟩
          conv => whnf
          refine ⟨?_, trivial⟩
          conv => whnf
          refine ⟨rfl, ?_⟩
          conv => whnf
          refine ⟨hu.sl.one, ?_⟩
          conv => whnf
          refine ⟨⟨rfl, by simp; omega⟩, ?_⟩
          conv => whnf
          intro r3
          conv => whnf
          refine ⟨⟨⟨rfl, rfl, rfl, rfl, trivial⟩, fun w' hw => hw.fr⟩, ?_⟩
          conv => whnf
          refine ⟨?_, trivial⟩
          conv => whnf
          refine ansR_call b26 (rd2 (nopL _) (nopI _)) (fun w' hw => lots_c ((l ++ [(lendD a b til spans)]) ++ [t]) [] _ w' (sl_all (hw.row (id := 5) rfl) hw.fr hrel1 hut (by simp; omega)) (by simp; omega) (lots_ok hsp2 (by simp; omega))) ?_
          rw [hsn2]
          intro vf
          conv => whnf
          intro vfe
          conv => whnf
          refine ⟨⟨⟨rfl, rfl, rfl, rfl, trivial⟩, fun w' hw => hw.fr⟩, ?_⟩
          conv => whnf
          refine At.meet fun w' hw => ⟨(vf, vfe), trivial, Le.of rfl rfl ⟨rfl, rfl, rfl, rfl, rfl, rfl, rfl, rfl, rfl, rfl, rfl, rfl, trivial⟩, hw.ren [8,7,4,3,2,1] rfl rfl rfl, ⟨⟨_, _, _, rfl⟩, ⟨_, _, _, rfl⟩, ⟨_, _, _, rfl⟩, ⟨_, _, _, rfl⟩, ⟨_, _, _, rfl⟩, ⟨_, _, _, rfl⟩, trivial⟩, ⟨(nopI _).okH, (nopL _).okH, (hnt).okH, (nopL _).okH, (hnp1).okH, (nopL _).okH, trivial⟩⟩
        · conv => whnf
          refine ⟨hu.sl.one, ?_⟩
          conv => whnf
          intro r2
          conv => whnf
          refine ⟨⟨⟨rfl, rfl, rfl, rfl, trivial⟩, fun w' hw => hw.fr⟩, ?_⟩
          conv => whnf
          refine ⟨?_, trivial⟩
          conv => whnf
          refine ⟨rfl, ?_⟩
          conv => whnf
          refine obl_rows hone1 ?_
          conv => whnf
          refine ⟨⟨rfl, by simp; omega⟩, ?_⟩
          conv => whnf
          intro r1
          conv => whnf
          refine ⟨⟨⟨rfl, rfl, rfl, rfl, trivial⟩, fun w' hw => hw.fr⟩, ?_⟩
          conv => whnf
          refine ⟨?_, trivial⟩
          conv => whnf
          refine ⟨rfl, ?_⟩
          conv => whnf
          refine ⟨hu.sl.one, ?_⟩
          conv => whnf
          refine ⟨⟨rfl, by simp; omega⟩, ?_⟩
          conv => whnf
          intro r3
          conv => whnf
          refine ⟨⟨⟨rfl, rfl, rfl, rfl, trivial⟩, fun w' hw => hw.fr⟩, ?_⟩
          conv => whnf
          refine ⟨?_, trivial⟩
          conv => whnf
          refine ansR_call b26 (rd2 (nopL _) (nopI _)) (fun w' hw => lots_c ((l ++ [(lendD a b til spans)]) ++ [t]) [] _ w' (sl_all (hw.row (id := 5) rfl) hw.fr hrel1 hut (by simp; omega)) (by simp; omega) (lots_ok hsp2 (by simp; omega))) ?_
          rw [hsn2]
          intro vf
          conv => whnf
          intro vfe
          conv => whnf
          refine ⟨⟨⟨rfl, rfl, rfl, rfl, trivial⟩, fun w' hw => hw.fr⟩, ?_⟩
          conv => whnf
          refine At.meet fun w' hw => ⟨(vf, vfe), trivial, Le.of rfl rfl ⟨rfl, rfl, rfl, rfl, rfl, rfl, rfl, rfl, rfl, rfl, rfl, rfl, trivial⟩, hw.ren [8,7,4,3,2,1] rfl rfl rfl, ⟨⟨_, _, _, rfl⟩, ⟨_, _, _, rfl⟩, ⟨_, _, _, rfl⟩, ⟨_, _, _, rfl⟩, ⟨_, _, _, rfl⟩, ⟨_, _, _, rfl⟩, trivial⟩, ⟨(nopI _).okH, (nopL _).okH, (hnt).okH, (nopL _).okH, (hnp1).okH, (nopL _).okH, trivial⟩⟩
      · conv => whnf
        refine ⟨hu.sl.one, ?_⟩
        conv => whnf
        intro r2
        conv => whnf
        refine ⟨⟨⟨rfl, rfl, rfl, rfl, trivial⟩, fun w' hw => hw.fr⟩, ?_⟩
        conv => whnf
        refine ⟨?_, trivial⟩
        conv => whnf
        intro r0
        conv => whnf
        refine ⟨⟨⟨rfl, rfl, rfl, rfl, trivial⟩, fun w' hw => hw.fr⟩, ?_⟩
        conv => whnf
        refine ⟨?_, trivial⟩
        conv => whnf
        refine ⟨rfl, ?_⟩
        conv => whnf
        refine obl_rows hone1 ?_
        conv => whnf
        refine ⟨⟨rfl, by simp; omega⟩, ?_⟩
        conv => whnf
        intro r1
        conv => whnf
        refine ⟨⟨⟨rfl, rfl, rfl, rfl, trivial⟩, fun w' hw => hw.fr⟩, ?_⟩
        conv => whnf
        refine ⟨?_, trivial⟩
        conv => whnf
        refine ⟨rfl, ?_⟩
        conv => whnf
        refine ⟨hu.sl.one, ?_⟩
        conv => whnf
        refine ⟨⟨rfl, by simp; omega⟩, ?_⟩
        conv => whnf
        intro r3
        conv => whnf
        refine ⟨⟨⟨rfl, rfl, rfl, rfl, trivial⟩, fun w' hw => hw.fr⟩, ?_⟩
        conv => whnf
        refine ⟨?_, trivial⟩
        conv => whnf
        refine ansR_call b26 (rd2 (nopL _) (nopI _)) (fun w' hw => lots_c ((l ++ [(lendD a b til spans)]) ++ [t]) [] _ w' (sl_all (hw.row (id := 6) rfl) hw.fr hrel1 hut (by simp; omega)) (by simp; omega) (lots_ok hsp2 (by simp; omega))) ?_
        rw [hsn2]
        intro vf
        conv => whnf
        intro vfe
        conv => whnf
        refine ⟨⟨⟨rfl, rfl, rfl, rfl, trivial⟩, fun w' hw => hw.fr⟩, ?_⟩
        conv => whnf
        refine At.meet fun w' hw => ⟨(vf, vfe), trivial, Le.of rfl rfl ⟨rfl, rfl, rfl, rfl, rfl, rfl, rfl, rfl, rfl, rfl, rfl, rfl, trivial⟩, hw.ren [8,7,4,3,2,1] rfl rfl rfl, ⟨⟨_, _, _, rfl⟩, ⟨_, _, _, rfl⟩, ⟨_, _, _, rfl⟩, ⟨_, _, _, rfl⟩, ⟨_, _, _, rfl⟩, ⟨_, _, _, rfl⟩, trivial⟩, ⟨(nopI _).okH, (nopL _).okH, (hnt).okH, (nopL _).okH, (hnp1).okH, (nopL _).okH, trivial⟩⟩
    rintro ⟨vf, vfe⟩ _
    simp only
    repeat refine At.seq ?_
    refine At.region tab_ok ?_
    conv => whnf
    refine ⟨rfl, ?_⟩
    conv => whnf
    refine ⟨rfl, ?_⟩
    conv => whnf
    refine ⟨⟨by simp; omega, by simp; omega⟩, ?_⟩
    conv => whnf
    repeat refine At.seq ?_
    refine At.cond rfl (fun hq => ?_) (fun hq => At.skip ?_)
    · simp [hel, hRl] at hq
    repeat refine At.seq ?_
    refine At.join (fun q : Unit => { N := Try.f11.ntmps, sl := [(0, some (.x v)), (1, some (.x u)), (2, some (.i a)), (3, some (.i b)), (11, some (.b true)), (13, some (.s (.c (.o 1 vb)))), (15, some (.s (.c (.o 2 va)))), (16, some (.s (.c (.o 3 vl)))), (19, some (.s (.c (.o 4 vt)))), (20, some (.i i)), (152, some (.b false))], gl := [], hp := [(4, .row vt 54 7 (tr.map (fun t => encD t u))), (3, .row vl 58 7 (L1.map encL)), (2, .row va 54 7 (R ++ [encD (lendD a b til spans) u])), (1, .row vb 58 7 (L.map encL))], S := [], ws := w }) (fun q : Unit => True) ?_ ?_
    · have hgt : ∀ e, (doB L1 t).2 = e → ((es1 ++ [(doB L1 t).2]).map encI)[((R ++ [encD (lendD a b til spans) u]).length : Int).toNat]? = some (encI e) := fun e he => by
        rw [Int.toNat_natCast, List.getElem?_map, List.getElem?_append_right (by simp; omega)]
        simp [hel, hRl, he]
      repeat refine At.seq ?_
      refine At.regionG tab_ok ?_
      conv => whnf
      by_cases h4 : i < 4
      · have e4 : decide ((i : Int) = 4) = false := decide_eq_false (by omega)
        rw [decide_eq_true (show (i : Int) < 4 by omega)]
        conv => whnf
        refine ⟨rfl, ?_⟩
        conv => whnf
        refine ⟨rfl, ?_⟩
        conv => whnf
        refine ⟨by omega, ?_⟩
        conv => whnf
        refine ⟨by simp; omega, ?_⟩
        conv => whnf
        refine ⟨encI 28, ⟨rfl, rfl, by omega, hgt 28 (by rw [ht1 h4])⟩, ?_⟩
        conv => whnf
        rw [ht1 h4] at hlen2 ⊢
        refine ans_call b31 (r := .b true) rfl (fun w' hw => by
          have := sameLots_c L1 L1 [] [] vf vl w' (slL L1 (hw.row (id := 5) rfl) (by simp at hlen2; omega)) (slL L1 (hw.row (id := 3) rfl) (by simp at hlen2; omega))
          rw [decide_eq_true (rfl : L1 = L1)] at this
          exact this) ?_
        conv => whnf
        rw [e4]
        conv => whnf
        refine At.meet fun w' hw => ⟨(), trivial, Le.of rfl rfl ⟨rfl, rfl, rfl, rfl, rfl, rfl, rfl, rfl, rfl, rfl, rfl, trivial⟩, hw.keep [4, 3, 2, 1] rfl rfl rfl, ⟨⟨_, _, _, rfl⟩, ⟨_, _, _, rfl⟩, ⟨_, _, _, rfl⟩, ⟨_, _, _, rfl⟩, trivial⟩, ⟨(hnt).okH, (nopL _).okH, (hnp1).okH, (nopL _).okH, trivial⟩⟩
      · have hi4 : i = 4 := by omega
        rw [decide_eq_false (show ¬ (i : Int) < 4 by omega)]
        conv => whnf
        rw [decide_eq_true (show (i : Int) = 4 by omega)]
        conv => whnf
        refine ⟨rfl, ?_⟩
        conv => whnf
        refine ⟨rfl, ?_⟩
        conv => whnf
        refine ⟨by omega, ?_⟩
        conv => whnf
        refine ⟨by simp; omega, ?_⟩
        conv => whnf
        refine ⟨encI 0, ⟨rfl, rfl, by omega, hgt 0 (by rw [ht2 hi4])⟩, ?_⟩
        conv => whnf
        rw [ht2 hi4] at hlen2 ⊢
        refine ans_call b31 (r := .b true) rfl (fun w' hw => by
          have := sameLots_c L L [] [] vf vb w' (slL L (hw.row (id := 5) rfl) (by simp at hlen2; omega)) (slL L (hw.row (id := 1) rfl) (by simp at hlen2; omega))
          rw [decide_eq_true (rfl : L = L)] at this
          exact this) ?_
        conv => whnf
        refine At.meet fun w' hw => ⟨(), trivial, Le.of rfl rfl ⟨rfl, rfl, rfl, rfl, rfl, rfl, rfl, rfl, rfl, rfl, rfl, trivial⟩, hw.keep [4, 3, 2, 1] rfl rfl rfl, ⟨⟨_, _, _, rfl⟩, ⟨_, _, _, rfl⟩, ⟨_, _, _, rfl⟩, ⟨_, _, _, rfl⟩, trivial⟩, ⟨(hnt).okH, (nopL _).okH, (hnp1).okH, (nopL _).okH, trivial⟩⟩
    intro _ _
    repeat refine At.seq ?_
    refine At.cond (t := false) rfl (fun hq => by cases hq) (fun hq => At.skip ?_)
    repeat refine At.seq ?_
    refine At.region tab_ok ?_
    conv => whnf
    refine ⟨⟨by omega, by omega⟩, ?_⟩
    conv => whnf
    refine At.nextH fun w' hw => ⟨i + 1, by omega, by omega, Le.of rfl rfl ⟨rfl, rfl, rfl, rfl, rfl, rfl, rfl, rfl, rfl, rfl, trivial⟩, hw.keep [4, 3, 2, 1] rfl rfl rfl, ⟨⟨_, _, _, rfl⟩, ⟨_, _, _, rfl⟩, ⟨_, _, _, rfl⟩, ⟨_, _, _, rfl⟩, trivial⟩, ⟨(hnt).okH, (nopL _).okH, (hnp1).okH, (nopL _).okH, trivial⟩⟩
  obtain ⟨o1, o2, o3, o4⟩ := hown
  have hb1 := ownedL_len L1 a
  have hb2 := ownedL_len L a
  have hb3 := heldL_len L1 b
  have hb4 := heldL_len L1 a
  repeat refine At.seq ?_
  refine At.regionG tab_ok ?_
  conv => whnf
  refine ansR_call b28 (rd1 (nopS _)) (fun w' hw => owned_c L1 a [] vl w' (slL L1 (hw.row (id := 3) rfl) (by omega)) (by omega)) ?_
  intro w1
  conv => whnf
  refine ansR_call b28 (rd1 (nopS _)) (fun w' hw => owned_c L a [] vb w' (slL L (hw.row (id := 1) rfl) (by omega)) (by omega)) ?_
  intro w2
  conv => whnf
  refine ans_call b35 (r := .b true) rfl (fun w' hw => by
    have := sameSpans_c (ownedL L1 a) (ownedL L a) [] [] w1 w2 w' (slS _ (hw.row (id := 5) rfl) (by omega)) (slS _ (hw.row (id := 6) rfl) (by omega))
    rw [decide_eq_true o1] at this
    exact this) ?_
  conv => whnf
  refine ansR_call b29 (rd1 (nopS _)) (fun w' hw => held_c L1 b [] vl w' (slL L1 (hw.row (id := 3) rfl) (by omega)) (by omega)) ?_
  intro w3
  conv => whnf
  refine ans_call b40 (r := .b true) rfl (fun w' hw => by
    have := within_c spans (heldL L1 b) [] [] u w3 w' (hu.fr hw.fr) (slS _ (hw.row (id := 7) rfl) (by omega)) (by omega) (by omega)
    rw [decide_eq_true o2] at this
    exact this) ?_
  conv => whnf
  refine ansR_call b29 (rd1 (nopS _)) (fun w' hw => held_c L1 a [] vl w' (slL L1 (hw.row (id := 3) rfl) (by omega)) (by omega)) ?_
  intro w4
  conv => whnf
  refine ansR_call b41 (rd1 (nopS _)) (fun w' hw => common_c spans (heldL L1 a) [] [] u w4 w' (hu.fr hw.fr) (slS _ (hw.row (id := 8) rfl) (by omega)) (by omega) (by omega)) ?_
  rw [List.eq_nil_of_length_eq_zero o3]
  intro w5
  conv => whnf
  refine ⟨rfl, ?_⟩
  conv => whnf
  refine ans_call b30 rfl (fun w' hw => sum_c L1 [] vl w' (slL L1 (hw.row (id := 3) rfl) (by omega)) (by omega)) ?_
  conv => whnf
  refine ans_call b30 rfl (fun w' hw => sum_c L [] vb w' (slL L (hw.row (id := 1) rfl) (by omega)) (by omega)) ?_
  conv => whnf
  rw [o4]
  repeat refine At.seq ?_
  refine At.ret (At.doneB tab_ok hB _ rfl fun w' hw => ⟨?_, hw.fr⟩)
  simp [RV.den, SV.den, CV.den]
end Go.Proofs.Ytjilbkioieicbaa


/- The law RightsParts, in plain terms. -/
namespace Go.Proofs.Ytjilbkioieicbaa
open Go.Vc Rt
set_option linter.unusedVariables false
set_option linter.unusedSimpArgs false
def withS (d : Deed) (S : List Span) : Deed := { d with spans := S }
theorem nf_normal {l : List Span} (h : NF l) (hv : ∀ s ∈ l, valid s = true) : normal l = true := by
  unfold normal
  rw [List.all_eq_true]
  intro i hi
  have hi := List.mem_range.1 hi
  have e : l[i]? = some l[i] := List.getElem?_eq_getElem hi
  unfold okAt
  rw [e]
  simp only
  rw [hv l[i] (List.getElem_mem hi)]
  simp only [Bool.true_and, Bool.or_eq_true, beq_iff_eq]
  by_cases h0 : i = 0
  · exact .inl h0
  · refine .inr ?_
    have e1 : l[i - 1]? = some (l[i - 1]'(by omega)) := List.getElem?_eq_getElem (by omega)
    rw [e1]
    have hg := List.pairwise_iff_getElem.1 h.ord (i - 1) i (by omega) hi (by omega)
    have h1 := h.ne _ (List.getElem_mem hi)
    unfold gap at hg
    simp
    omega
theorem normal_one {s : Span} (h : valid s = true) : normal [s] = true := nf_normal ⟨fun x hx => by rw [List.mem_singleton.1 hx]; exact valid_lt h, by simp⟩ fun x hx => by rw [List.mem_singleton.1 hx]; exact h
theorem right_with {d : Deed} {S : List Span} (hr : right d = true) (hk : d.kind ≠ 0) (h1 : 0 < S.length) (h2 : normal S = true) : right (withS d S) = true := by
  obtain ⟨a1, a2, a3, _, _⟩ := right_parts hr
  have hb : ¬ ((withS d S).mark < 0 ∨ 1073741824 < (withS d S).mark ∨ isKey (withS d S).author = false ∨ (withS d S).spans.length = 0 ∨ normal (withS d S).spans = false) := right_base ⟨a1, a2⟩ a3 h1 h2
  unfold right at hr ⊢
  split at hr
  · cases hr
  · rw [if_neg hb]
    rw [if_neg (show ¬ (withS d S).kind = 0 from hk)]
    exact hr
theorem parts_run {d : Deed} (hr : right d = true) (hk : d.kind ≠ 0) {F : Int → Int → Option Sta} (he : errF F d = 0) : ∀ (P : List (List Span)) (l0 : List Deed) (D : Int → Int → Prop),
    (∀ S ∈ P, 0 < S.length ∧ S.length ≤ 8 ∧ normal S = true ∧ ∀ m n, Has S m n → Has d.spans m n ∧ ¬ D m n) → P.Pairwise (fun S T => ∀ m n, Has S m n → ¬ Has T m n) → (∀ x ∈ l0, x.spans.length ≤ 8) →
    (∀ m n, (D m n → sta (lotsK l0).1 m n = (F m n).map (movedS d)) ∧ (¬ D m n → sta (lotsK l0).1 m n = F m n)) →
    (∀ m n, ((D m n ∨ ∃ S ∈ P, Has S m n) → sta (lotsK (l0 ++ P.map (withS d))).1 m n = (F m n).map (movedS d)) ∧ (¬ (D m n ∨ ∃ S ∈ P, Has S m n) → sta (lotsK (l0 ++ P.map (withS d))).1 m n = F m n)) ∧ (lotsK (l0 ++ P.map (withS d))).2 = (lotsK l0).2 ++ P.map (fun _ => (0 : Int))
  | [], l0, D, _, _, _, hs => by
    simp only [List.map_nil, List.append_nil]
    refine ⟨fun m n => ⟨fun h => (hs m n).1 (h.elim id fun ⟨S, hS, _⟩ => by cases hS), fun h => (hs m n).2 fun hD => h (.inl hD)⟩, trivial⟩
  | S :: P, l0, D, hP, hp, h8, hs => by
    obtain ⟨p1, p2⟩ := List.pairwise_cons.1 hp
    obtain ⟨s1, s2, s3, s4⟩ := hP S (List.mem_cons_self ..)
    have hg := good_lots _ l0 rfl h8
    have hrS : right (withS d S) = true := right_with hr hk s1 s3
    have hcoin : ∀ m n, Has S m n → ∃ x, F m n = some x ∧ mayS x d = 0 ∧ sta (lotsK l0).1 m n = some x := fun m n hh => by
      obtain ⟨h1, h2⟩ := s4 m n hh
      obtain ⟨x, hx, hm⟩ := errF_move he hk m n h1
      exact ⟨x, hx, hm, by rw [(hs m n).2 h2]; exact hx⟩
    have e0 : errF (sta (lotsK l0).1) (withS d S) = 0 := err_0 hrS hk fun m n hh => by
      obtain ⟨x, _, h2, h3⟩ := hcoin m n hh
      exact ⟨x, h3, h2⟩
    obtain ⟨_, g2, g3⟩ := good_do (d := withS d S) hg s2
    rw [e0] at g2
    have hsn := lotsK_snoc l0 (withS d S)
    rw [g2] at hsn
    have hst : ∀ m n, (D m n ∨ Has S m n → sta (lotsK (l0 ++ [withS d S])).1 m n = (F m n).map (movedS d)) ∧ (¬ (D m n ∨ Has S m n) → sta (lotsK (l0 ++ [withS d S])).1 m n = F m n) := by
      intro m n
      rw [hsn]
      simp only
      rw [g3]
      by_cases hh : Has S m n
      · obtain ⟨x, h1, h2, h3⟩ := hcoin m n hh
        refine ⟨fun _ => ?_, fun h => (h (.inr hh)).elim⟩
        unfold stepF
        rw [if_pos e0, if_pos (show Has (withS d S).spans m n from hh), if_neg (show ¬ (withS d S).kind = 0 from hk), h3, h1]
        rfl
      · rw [coin_not (show ¬ Has (withS d S).spans m n from hh)]
        exact ⟨fun h => (hs m n).1 (h.elim id fun h => (hh h).elim), fun h => (hs m n).2 fun hD => h (.inl hD)⟩
    obtain ⟨r1, r2⟩ := parts_run hr hk he P (l0 ++ [withS d S]) (fun m n => D m n ∨ Has S m n) (fun T hT => by
      obtain ⟨t1, t2, t3, t4⟩ := hP T (List.mem_cons_of_mem _ hT)
      exact ⟨t1, t2, t3, fun m n hh => ⟨(t4 m n hh).1, fun h => h.elim (t4 m n hh).2 fun h' => p1 T hT m n h' hh⟩⟩) p2 (fun x hx => by
      rcases List.mem_append.1 hx with hx | hx
      · exact h8 x hx
      · rw [List.mem_singleton.1 hx]; exact s2) hst
    have el : l0 ++ List.map (withS d) (S :: P) = (l0 ++ [withS d S]) ++ P.map (withS d) := by simp
    rw [el]
    refine ⟨fun m n => ⟨fun h => (r1 m n).1 ?_, fun h => (r1 m n).2 fun h' => h ?_⟩, by rw [r2, hsn]; simp⟩
    · rcases h with h | ⟨T, hT, hh⟩
      · exact .inl (.inl h)
      · rcases List.mem_cons.1 hT with rfl | hT
        · exact .inl (.inr hh)
        · exact .inr ⟨T, hT, hh⟩
    · rcases h' with (h' | h') | ⟨T, hT, hh⟩
      · exact .inl h'
      · exact .inr ⟨S, List.mem_cons_self .., h'⟩
      · exact .inr ⟨T, List.mem_cons_of_mem _ hT, hh⟩
theorem parts_law {l : List Deed} {d : Deed} (h8 : ∀ x ∈ l, x.spans.length ≤ 8) (hd8 : d.spans.length ≤ 8) (hk : d.kind ≠ 0) (he : errF (sta (lotsK l).1) d = 0) {P : List (List Span)}
    (hP : ∀ S ∈ P, 0 < S.length ∧ S.length ≤ 8 ∧ normal S = true) (hp : P.Pairwise (fun S T => ∀ m n, Has S m n → ¬ Has T m n)) (hU : ∀ m n, Has d.spans m n ↔ ∃ S ∈ P, Has S m n) :
    lotsK (l ++ P.map (withS d)) = ((doB (lotsK l).1 d).1, (lotsK l).2 ++ P.map (fun _ => (0 : Int))) := by
  have hr := err_right he
  have hg := good_lots _ l rfl h8
  obtain ⟨g1, g2, g3⟩ := good_do (d := d) hg hd8
  obtain ⟨r1, r2⟩ := parts_run hr hk he P l (fun _ _ => False) (fun S hS => ⟨(hP S hS).1, (hP S hS).2.1, (hP S hS).2.2, fun m n hh => ⟨(hU m n).2 ⟨S, hS, hh⟩, id⟩⟩) hp h8 (fun m n => ⟨False.elim, fun _ => rfl⟩)
  refine Prod.ext (Good.ext (good_lots _ _ rfl fun x hx => ?_) g1 ?_) r2
  · rcases List.mem_append.1 hx with hx | hx
    · exact h8 x hx
    · obtain ⟨S, hS, rfl⟩ := List.mem_map.1 hx; exact (hP S hS).2.1
  · rw [g3]
    funext m n
    by_cases hh : Has d.spans m n
    · rw [(r1 m n).1 (.inr ((hU m n).1 hh))]
      unfold stepF
      rw [if_pos he, if_pos hh, if_neg hk]
    · rw [coin_not hh]
      exact (r1 m n).2 fun h => h.elim id fun h => hh ((hU m n).2 h)
def partsOne (S : List Span) : List (List Span) := S.map fun s => [s]
theorem one_law {l : List Deed} {d : Deed} (h8 : ∀ x ∈ l, x.spans.length ≤ 8) (hd8 : d.spans.length ≤ 8) (hk : d.kind ≠ 0) (he : errF (sta (lotsK l).1) d = 0) :
    lotsK (l ++ (partsOne d.spans).map (withS d)) = ((doB (lotsK l).1 d).1, (lotsK l).2 ++ (partsOne d.spans).map (fun _ => (0 : Int))) := by
  have hr := err_right he
  have hnf := normal_nf (right_parts hr).2.2.2.2
  have hv := normal_valid (right_parts hr).2.2.2.2
  refine parts_law h8 hd8 hk he (fun S hS => ?_) ?_ fun m n => ?_
  · obtain ⟨s, hs, rfl⟩ := List.mem_map.1 hS
    exact ⟨by simp, by simp, normal_one (hv s hs)⟩
  · refine List.pairwise_map.2 (hnf.ord.imp fun {a b} hg m n h1 h2 => ?_)
    rw [Has.one] at h1 h2
    unfold gap at hg; omega
  · constructor
    · rintro ⟨s, hs, h⟩; exact ⟨[s], List.mem_map.2 ⟨s, hs, rfl⟩, Has.one.2 h⟩
    · rintro ⟨S, hS, h⟩; obtain ⟨s, hs, rfl⟩ := List.mem_map.1 hS; exact ⟨s, hs, Has.one.1 h⟩
def some1 (S : List Span) : List (List Span) := if 0 < S.length then [S] else []
theorem some1_mem {S T : List Span} (h : T ∈ some1 S) : T = S ∧ 0 < S.length := by
  unfold some1 at h; split at h
  · exact ⟨List.mem_singleton.1 h, by assumption⟩
  · cases h
theorem some1_has {S : List Span} {m n : Int} : (∃ T ∈ some1 S, Has T m n) ↔ Has S m n := by
  constructor
  · rintro ⟨T, hT, h⟩; rw [(some1_mem hT).1] at h; exact h
  · intro h
    refine ⟨S, ?_, h⟩
    unfold some1; rw [if_pos]; simp
    obtain ⟨s, hs, _⟩ := h
    exact List.length_pos_of_mem hs
theorem two_law {l : List Deed} {d : Deed} {c : Int} (h8 : ∀ x ∈ l, x.spans.length ≤ 8) (hd8 : d.spans.length ≤ 8) (hk : d.kind ≠ 0) (he : errF (sta (lotsK l).1) d = 0) :
    lotsK (l ++ (some1 (norm (takeF (norm d.spans) c)) ++ some1 (norm (takeR (norm d.spans) c))).map (withS d)) = ((doB (lotsK l).1 d).1, (lotsK l).2 ++ (some1 (norm (takeF (norm d.spans) c)) ++ some1 (norm (takeR (norm d.spans) c))).map (fun _ => (0 : Int))) := by
  have hr := err_right he
  have hns := norm_spans hr
  have hnf := normal_nf (right_parts hr).2.2.2.2
  have hv := normal_valid (right_parts hr).2.2.2.2
  obtain ⟨t1, t2, t3, t4⟩ := take_spec (n := c) hnf hv
  rw [hns]
  have hlF : (norm (takeF d.spans c)).length ≤ 8 := Nat.le_trans (norm_len _) (by rw [takeF_len]; exact hd8)
  have hlR : (norm (takeR d.spans c)).length ≤ 8 := Nat.le_trans (norm_len _) (by rw [takeR_len]; exact hd8)
  refine parts_law h8 hd8 hk he (fun S hS => ?_) ?_ fun m n => ?_
  · rcases List.mem_append.1 hS with hS | hS
    · obtain ⟨rfl, h0⟩ := some1_mem hS; exact ⟨h0, hlF, nf_normal (norm_nf _) norm_valid⟩
    · obtain ⟨rfl, h0⟩ := some1_mem hS; exact ⟨h0, hlR, nf_normal (norm_nf _) norm_valid⟩
  · have one : ∀ S, (some1 S).Pairwise (fun S T => ∀ m n, Has S m n → ¬ Has T m n) := fun S => by unfold some1; split <;> simp
    refine List.pairwise_append.2 ⟨one _, one _, fun S hS T hT m n h1 h2 => ?_⟩
    rw [(some1_mem hS).1] at h1
    rw [(some1_mem hT).1] at h2
    exact t4 m n h1 h2
  · constructor
    · intro h
      rcases t3 m n h with h | h
      · obtain ⟨T, hT, h⟩ := some1_has.2 h; exact ⟨T, List.mem_append_left _ hT, h⟩
      · obtain ⟨T, hT, h⟩ := some1_has.2 h; exact ⟨T, List.mem_append_right _ hT, h⟩
    · rintro ⟨T, hT, h⟩
      rcases List.mem_append.1 hT with hT | hT
      · exact t1 m n (some1_has.1 ⟨T, hT, h⟩)
      · exact t2 m n (some1_has.1 ⟨T, hT, h⟩)
end Go.Proofs.Ytjilbkioieicbaa

/- The law RightsParts (stokvellaw27): what the call computes. -/
namespace Go.Proofs.Ytjilbkioieicbaa
open Go.Vc Rt
set_option linter.unusedVariables false
set_option linter.unusedSimpArgs false
/-- The rows of the deeds of one span each. -/
def oneRows (d : Deed) (u : Value) (k : Nat) : List (List CV) := (List.range k).map fun (i : Nat) => encD d (subV u 3 (i : Int) ((i : Int) + 1))
theorem oneRows_snoc (d : Deed) (u : Value) (k : Nat) : oneRows d u (k + 1) = oneRows d u k ++ [encD d (subV u 3 k (k + 1))] := by
  unfold oneRows; rw [List.range_succ, List.map_append]; rfl
theorem oneRows_len (d : Deed) (u : Value) (k : Nat) : (oneRows d u k).length = k := by simp [oneRows]
theorem sub_one {w : World} {u : Value} {S : List Span} (hu : SlOf spT [] w u S) {k : Nat} {s : Span} (hs : S[k]? = some s) : SlOf spT [] w (subV u 3 k (k + 1)) [s] := by
  have hk := (List.getElem?_eq_some_iff.1 hs).1
  have := hu.part (lo := k) (hi := k + 1) (by omega) (by omega) (by omega)
  have e : (S.take ((k : Int) + 1).toNat).drop ((k : Int)).toNat = [s] := by
    rw [show ((k : Int) + 1).toNat = k + 1 by omega, Int.toNat_natCast, List.take_add_one, hs, List.drop_append_of_le_length (by simp; omega)]
    simp
  rw [e] at this
  exact this
theorem oneRows_nop {d : Deed} {u : Value} {k : Nat} : NoP (oneRows d u k) := fun r hr c hc => by
  obtain ⟨i, _, rfl⟩ := List.mem_map.1 hr
  simp [encD] at hc
  rcases hc with rfl | rfl | rfl | rfl | rfl | rfl | rfl <;> rfl
theorem oneRows_rel {w : World} {d : Deed} {u : Value} (hu : SlOf spT [] w u d.spans) : ∀ k, k ≤ d.spans.length → relAll deT [] w ((partsOne (d.spans.take k)).map (withS d)) (oneRows d u k)
  | 0, _ => by simp [partsOne, oneRows, relAll]
  | k + 1, hk => by
    obtain ⟨s, hs⟩ : ∃ s, d.spans[k]? = some s := ⟨_, List.getElem?_eq_getElem (by omega)⟩
    rw [oneRows_snoc, List.take_add_one, hs]
    unfold partsOne
    rw [List.map_append, List.map_append]
    exact relAll_append (oneRows_rel hu k (by omega)) ⟨⟨_, rfl, _, rfl, sub_one hu hs⟩, trivial⟩
/-- A deed's cells with a slice of the function's own. -/
def encO (d : Deed) (id : Nat) (v : Value) : List CV := [.i d.mark, .i d.kind, .i d.author, .i d.who, .i d.day, .i d.til, .o id v]
def someRow (d : Deed) (id : Nat) (v : Value) (S : List Span) : List (List CV) := if 0 < S.length then [encO d id v] else []
theorem okH_app {hp : List (Nat × LO)} {A B : List (List CV)} (h : ∀ l ∈ A, ∀ c ∈ l, CVokH hp c) (h' : ∀ l ∈ B, ∀ c ∈ l, CVokH hp c) : ∀ l ∈ A ++ B, ∀ c ∈ l, CVokH hp c := fun l hl => (List.mem_append.1 hl).elim (h l) (h' l)
theorem okH_some {hp : List (Nat × LO)} {d : Deed} {id : Nat} {v : Value} {S : List Span} (h : CVokH hp (.o id v)) : ∀ l ∈ someRow d id v S, ∀ c ∈ l, CVokH hp c := fun l hl c hc => by
  unfold someRow at hl
  split at hl
  · rw [List.mem_singleton.1 hl] at hc
    simp [encO] at hc
    rcases hc with rfl | rfl | rfl | rfl | rfl | rfl | rfl <;> first | exact h | trivial
  · cases hl
theorem some_rel {w : World} {d : Deed} {id : Nat} {v : Value} {S : List Span} (h : SlOf spT [] w v S) : relAll deT [] w ((some1 S).map (withS d)) (someRow d id v S) := by
  unfold some1 someRow
  split
  · exact ⟨⟨encD d v, rfl, v, rfl, h⟩, trivial⟩
  · trivial
theorem someRow_len (d : Deed) (id : Nat) (v : Value) (S : List Span) : (someRow d id v S).length = (some1 S).length := by unfold some1 someRow; split <;> rfl
theorem some1_len (S : List Span) : (some1 S).length ≤ 1 := by unfold some1; split <;> simp
theorem parts_c (l : List Deed) (d : Deed) (cut : Int) (v u : Value) (w : World) (h : SlOf deT [] w v l) (hu : SlOf spT [] w u d.spans) (hb : l.length ≤ 1954687338211) (hcut : inR cut) : Ans Try.prog 9 [v, vD d u, vI cut] (.b true) w := by
  have hl := h.len
  have hsm := h.small
  have hul := hu.len
  have husm := hu.small
  obtain ⟨R, hRl, hrel, hsrc, hnp, hone⟩ := slRows h (fun x l hx => deed_one hx)
  refine calls_plainB [.x v, .s (.agg (encD d u)), .i cut] Try.func9 rfl rfl (Nat.le_of_ble_eq_true rfl) rfl fun B hB => ?_
  repeat refine At.seq ?_
  refine At.region tab_ok ?_
  conv => whnf
  refine ⟨hu.sl.one, ?_⟩
  conv => whnf
  intro b4
  conv => whnf
  repeat refine At.seq ?_
  refine At.region tab_ok ?_
  conv => whnf
  refine ans_call b24 rfl (fun w' hw => small27_c w') ?_
  conv => whnf
  repeat refine At.seq ?_
  refine At.join (fun q : Unit => { N := Try.f9.ntmps, sl := [(0, some (.x v)), (2, some (.i cut)), (4, some (.s (.c (.p 0 b4 0)))), (7, some (.b true)), (37, some (.b ((!few (l ++ [d]) 13).or (decide (d.kind = 0)))))], gl := [], hp := [(0, .box b4 54 (encD d u))], S := [], ws := w }) (fun q : Unit => True) ?_ ?_
  · repeat refine At.seq ?_
    refine At.planG tab_ok mixed [(0, .box b4 54 (encD d u))] (.take 1 (.take 3 (.br 0 (.br 2 (.br 4 (.br 5 (.br 6 (.take 7 (.take 8 (.take 9 (.take 10 (.take 11 (.take 12 (.done))))))) (.nob)) (.nob)) (.nob)) (.br 4 (.br 2 (.br 5 (.br 6 (.take 7 (.take 8 (.take 9 (.take 10 (.take 11 (.take 12 (.done))))))) (.nob)) (.nob)) (.nob)) (.nob))) (.br 4 (.br 0 (.br 2 (.br 5 (.br 6 (.take 7 (.take 8 (.take 9 (.take 10 (.take 11 (.take 12 (.done))))))) (.nob)) (.nob)) (.nob)) (.nob)) (.nob))))) (by kernel_rfl) (by kernel_rfl) ⟨rfl, trivial⟩ ?_
    conv => whnf
    refine ⟨?_, ?_, trivial⟩
    · conv => whnf
      intro r0
      conv => whnf
      refine ⟨⟨⟨rfl, trivial⟩, fun w' hw => hw.fr⟩, ?_⟩
      conv => whnf
      refine ⟨?_, ?_, trivial⟩
      · conv => whnf
        refine ⟨R, ⟨fun w' hw => hsrc w' hw.fr, hnp⟩, ?_⟩
        conv => whnf
        refine ⟨⟨rfl, by simp; omega⟩, ?_⟩
        conv => whnf
        intro r1
        conv => whnf
        refine ⟨⟨⟨rfl, trivial⟩, fun w' hw => hw.fr⟩, ?_⟩
        conv => whnf
        refine ⟨?_, trivial⟩
        conv => whnf
        refine ⟨hu.sl.one, ?_⟩
        conv => whnf
        intro r2
        conv => whnf
        refine ⟨⟨⟨rfl, trivial⟩, fun w' hw => hw.fr⟩, ?_⟩
        conv => whnf
        refine ⟨?_, trivial⟩
        conv => whnf
        refine ⟨rfl, ?_⟩
        conv => whnf
        refine ⟨hu.sl.one, ?_⟩
        conv => whnf
        refine ⟨⟨rfl, by simp; omega⟩, ?_⟩
        conv => whnf
        intro r3
        conv => whnf
        refine ⟨⟨⟨rfl, trivial⟩, fun w' hw => hw.fr⟩, ?_⟩
        conv => whnf
        refine ⟨?_, trivial⟩
        conv => whnf
        refine ans_call b25 rfl (fun w' hw => few_c (l ++ [d]) 13 [] _ w' (sl_all (hw.row (id := 1) rfl) hw.fr hrel hu (by omega))) ?_
        conv => whnf
        refine ⟨⟨⟨rfl, trivial⟩, fun w' hw => hw.fr⟩, ?_⟩
        conv => whnf
        cases hf : few (l ++ [d]) 13
        · conv => whnf
          refine At.meet fun w' hw => ⟨(), trivial, Le.of rfl rfl ⟨rfl, rfl, rfl, rfl, rfl, trivial⟩, hw.keep [0] rfl rfl rfl, ⟨⟨_, _, rfl⟩, trivial⟩, trivial⟩
        · conv => whnf
          refine At.meet fun w' hw => ⟨(), trivial, Le.of rfl rfl ⟨rfl, rfl, rfl, rfl, rfl, trivial⟩, hw.keep [0] rfl rfl rfl, ⟨⟨_, _, rfl⟩, trivial⟩, trivial⟩
      · conv => whnf
        refine ⟨hu.sl.one, ?_⟩
        conv => whnf
        intro r2
        conv => whnf
        refine ⟨⟨⟨rfl, trivial⟩, fun w' hw => hw.fr⟩, ?_⟩
        conv => whnf
        refine ⟨?_, trivial⟩
        conv => whnf
        refine ⟨R, ⟨fun w' hw => hsrc w' hw.fr, hnp⟩, ?_⟩
        conv => whnf
        refine ⟨⟨rfl, by simp; omega⟩, ?_⟩
        conv => whnf
        intro r1
        conv => whnf
        refine ⟨⟨⟨rfl, trivial⟩, fun w' hw => hw.fr⟩, ?_⟩
        conv => whnf
        refine ⟨?_, trivial⟩
        conv => whnf
        refine ⟨rfl, ?_⟩
        conv => whnf
        refine ⟨hu.sl.one, ?_⟩
        conv => whnf
        refine ⟨⟨rfl, by simp; omega⟩, ?_⟩
        conv => whnf
        intro r3
        conv => whnf
        refine ⟨⟨⟨rfl, trivial⟩, fun w' hw => hw.fr⟩, ?_⟩
        conv => whnf
        refine ⟨?_, trivial⟩
        conv => whnf
        refine ans_call b25 rfl (fun w' hw => few_c (l ++ [d]) 13 [] _ w' (sl_all (hw.row (id := 1) rfl) hw.fr hrel hu (by omega))) ?_
        conv => whnf
        refine ⟨⟨⟨rfl, trivial⟩, fun w' hw => hw.fr⟩, ?_⟩
        conv => whnf
        cases hf : few (l ++ [d]) 13
        · conv => whnf
          refine At.meet fun w' hw => ⟨(), trivial, Le.of rfl rfl ⟨rfl, rfl, rfl, rfl, rfl, trivial⟩, hw.keep [0] rfl rfl rfl, ⟨⟨_, _, rfl⟩, trivial⟩, trivial⟩
        · conv => whnf
          refine At.meet fun w' hw => ⟨(), trivial, Le.of rfl rfl ⟨rfl, rfl, rfl, rfl, rfl, trivial⟩, hw.keep [0] rfl rfl rfl, ⟨⟨_, _, rfl⟩, trivial⟩, trivial⟩
    · conv => whnf
      refine ⟨hu.sl.one, ?_⟩
      conv => whnf
      intro r2
      conv => whnf
      refine ⟨⟨⟨rfl, trivial⟩, fun w' hw => hw.fr⟩, ?_⟩
      conv => whnf
      refine ⟨?_, trivial⟩
      conv => whnf
      intro r0
      conv => whnf
      refine ⟨⟨⟨rfl, trivial⟩, fun w' hw => hw.fr⟩, ?_⟩
      conv => whnf
      refine ⟨?_, trivial⟩
      conv => whnf
      refine ⟨R, ⟨fun w' hw => hsrc w' hw.fr, hnp⟩, ?_⟩
      conv => whnf
      refine ⟨⟨rfl, by simp; omega⟩, ?_⟩
      conv => whnf
      intro r1
      conv => whnf
      refine ⟨⟨⟨rfl, trivial⟩, fun w' hw => hw.fr⟩, ?_⟩
      conv => whnf
      refine ⟨?_, trivial⟩
      conv => whnf
      refine ⟨rfl, ?_⟩
      conv => whnf
      refine ⟨hu.sl.one, ?_⟩
      conv => whnf
      refine ⟨⟨rfl, by simp; omega⟩, ?_⟩
      conv => whnf
      intro r3
      conv => whnf
      refine ⟨⟨⟨rfl, trivial⟩, fun w' hw => hw.fr⟩, ?_⟩
      conv => whnf
      refine ⟨?_, trivial⟩
      conv => whnf
      refine ans_call b25 rfl (fun w' hw => few_c (l ++ [d]) 13 [] _ w' (sl_all (hw.row (id := 2) rfl) hw.fr hrel hu (by omega))) ?_
      conv => whnf
      refine ⟨⟨⟨rfl, trivial⟩, fun w' hw => hw.fr⟩, ?_⟩
      conv => whnf
      cases hf : few (l ++ [d]) 13
      · conv => whnf
        refine At.meet fun w' hw => ⟨(), trivial, Le.of rfl rfl ⟨rfl, rfl, rfl, rfl, rfl, trivial⟩, hw.keep [0] rfl rfl rfl, ⟨⟨_, _, rfl⟩, trivial⟩, trivial⟩
      · conv => whnf
        refine At.meet fun w' hw => ⟨(), trivial, Le.of rfl rfl ⟨rfl, rfl, rfl, rfl, rfl, trivial⟩, hw.keep [0] rfl rfl rfl, ⟨⟨_, _, rfl⟩, trivial⟩, trivial⟩
  intro _ _
  repeat refine At.seq ?_
  refine At.cond rfl (fun hq => ?_) (fun hq => ?_)
  · repeat refine At.seq ?_
    refine At.region tab_ok ?_
    conv => whnf
    repeat refine At.seq ?_
    refine At.ret (At.doneB tab_ok hB _ rfl fun w' hw => ⟨rfl, hw.fr⟩)
  simp only [Bool.or_eq_false_iff, Bool.not_eq_false', decide_eq_false_iff_not] at hq
  obtain ⟨hfew, hk0⟩ := hq
  obtain ⟨hn, hsp⟩ := few_spec hfew
  have hn : l.length ≤ 12 := by simp at hn; omega
  have hspl : ∀ d ∈ l, d.spans.length ≤ 8 := fun d hd => hsp d (List.mem_append_left _ hd)
  have hsp0 : d.spans.length ≤ 8 := hsp d (by simp)
  have hes := lotsK_errs l
  have hsn := lotsK_snoc l d
  have hg := good_lots _ l rfl hspl
  have hlen1 := (lotsK_keeps _ (l ++ [d]) rfl hsp).2.2
  obtain ⟨_, he, hst⟩ := good_do (d := d) hg hsp0
  have law1 := one_law hspl hsp0 hk0
  have law2 := two_law (c := cut) hspl hsp0 hk0
  refine At.skip ?_
  repeat refine At.seq ?_
  refine At.join (fun p : Value × Value => { N := Try.f9.ntmps, sl := [(0, some (.x v)), (2, some (.i cut)), (4, some (.s (.c (.p 0 b4 0)))), (7, some (.b true)), (8, some (.s (.c (.o 1 p.1)))), (9, some (.s (.c (.o 2 p.2))))], gl := [], hp := [(2, .row p.2 30 1 ((lotsK (l ++ [d])).2.map encI)), (1, .row p.1 58 7 ((lotsK (l ++ [d])).1.map encL)), (0, .box b4 54 (encD d u))], S := [], ws := w }) (fun p : Value × Value => True) ?_ ?_
  · repeat refine At.seq ?_
    refine At.planG tab_ok mixed [(0, .box b4 54 (encD d u))] (.take 1 (.take 3 (.br 0 (.br 2 (.br 4 (.br 5 (.br 6 (.take 7 (.take 8 (.take 9 (.take 10 (.take 11 (.done)))))) (.nob)) (.nob)) (.nob)) (.br 4 (.br 2 (.br 5 (.br 6 (.take 7 (.take 8 (.take 9 (.take 10 (.take 11 (.done)))))) (.nob)) (.nob)) (.nob)) (.nob))) (.br 4 (.br 0 (.br 2 (.br 5 (.br 6 (.take 7 (.take 8 (.take 9 (.take 10 (.take 11 (.done)))))) (.nob)) (.nob)) (.nob)) (.nob)) (.nob))))) (by kernel_rfl) (by kernel_rfl) ⟨rfl, trivial⟩ ?_
    conv => whnf
    refine ⟨?_, ?_, trivial⟩
    · conv => whnf
      intro r0
      conv => whnf
      refine ⟨⟨⟨rfl, trivial⟩, fun w' hw => hw.fr⟩, ?_⟩
      conv => whnf
      refine ⟨?_, ?_, trivial⟩
      · conv => whnf
        refine ⟨R, ⟨fun w' hw => hsrc w' hw.fr, hnp⟩, ?_⟩
        conv => whnf
        refine ⟨⟨rfl, by simp; omega⟩, ?_⟩
        conv => whnf
        intro r1
        conv => whnf
        refine ⟨⟨⟨rfl, trivial⟩, fun w' hw => hw.fr⟩, ?_⟩
        conv => whnf
        refine ⟨?_, trivial⟩
        conv => whnf
        refine ⟨hu.sl.one, ?_⟩
        conv => whnf
        intro r2
        conv => whnf
        refine ⟨⟨⟨rfl, trivial⟩, fun w' hw => hw.fr⟩, ?_⟩
        conv => whnf
        refine ⟨?_, trivial⟩
        conv => whnf
        refine ⟨rfl, ?_⟩
        conv => whnf
        refine ⟨hu.sl.one, ?_⟩
        conv => whnf
        refine ⟨⟨rfl, by simp; omega⟩, ?_⟩
        conv => whnf
        intro r3
        conv => whnf
        refine ⟨⟨⟨rfl, trivial⟩, fun w' hw => hw.fr⟩, ?_⟩
        conv => whnf
        refine ⟨?_, trivial⟩
        conv => whnf
        refine ansR_call b26 (rd2 (nopL _) (nopI _)) (fun w' hw => lots_c (l ++ [d]) [] _ w' (sl_all (hw.row (id := 1) rfl) hw.fr hrel hu (by omega)) (by simp; omega) (lots_ok hsp (by simp; omega))) ?_
        intro va
        conv => whnf
        intro ve
        conv => whnf
        refine ⟨⟨⟨rfl, trivial⟩, fun w' hw => hw.fr⟩, ?_⟩
        conv => whnf
        refine At.meet fun w' hw => ⟨(va, ve), trivial, Le.of rfl rfl ⟨rfl, rfl, rfl, rfl, rfl, rfl, trivial⟩, hw.ren [4,3,0] rfl rfl rfl, ⟨⟨_, _, rfl⟩, ⟨_, _, _, rfl⟩, ⟨_, _, _, rfl⟩, trivial⟩, ⟨(nopI _).okH, (nopL _).okH, trivial⟩⟩
      · conv => whnf
        refine ⟨hu.sl.one, ?_⟩
        conv => whnf
        intro r2
        conv => whnf
        refine ⟨⟨⟨rfl, trivial⟩, fun w' hw => hw.fr⟩, ?_⟩
        conv => whnf
        refine ⟨?_, trivial⟩
        conv => whnf
        refine ⟨R, ⟨fun w' hw => hsrc w' hw.fr, hnp⟩, ?_⟩
        conv => whnf
        refine ⟨⟨rfl, by simp; omega⟩, ?_⟩
        conv => whnf
        intro r1
        conv => whnf
        refine ⟨⟨⟨rfl, trivial⟩, fun w' hw => hw.fr⟩, ?_⟩
        conv => whnf
        refine ⟨?_, trivial⟩
        conv => whnf
        refine ⟨rfl, ?_⟩
        conv => whnf
        refine ⟨hu.sl.one, ?_⟩
        conv => whnf
        refine ⟨⟨rfl, by simp; omega⟩, ?_⟩
        conv => whnf
        intro r3
        conv => whnf
        refine ⟨⟨⟨rfl, trivial⟩, fun w' hw => hw.fr⟩, ?_⟩
        conv => whnf
        refine ⟨?_, trivial⟩
        conv => whnf
        refine ansR_call b26 (rd2 (nopL _) (nopI _)) (fun w' hw => lots_c (l ++ [d]) [] _ w' (sl_all (hw.row (id := 1) rfl) hw.fr hrel hu (by omega)) (by simp; omega) (lots_ok hsp (by simp; omega))) ?_
        intro va
        conv => whnf
        intro ve
        conv => whnf
        refine ⟨⟨⟨rfl, trivial⟩, fun w' hw => hw.fr⟩, ?_⟩
        conv => whnf
        refine At.meet fun w' hw => ⟨(va, ve), trivial, Le.of rfl rfl ⟨rfl, rfl, rfl, rfl, rfl, rfl, trivial⟩, hw.ren [4,3,0] rfl rfl rfl, ⟨⟨_, _, rfl⟩, ⟨_, _, _, rfl⟩, ⟨_, _, _, rfl⟩, trivial⟩, ⟨(nopI _).okH, (nopL _).okH, trivial⟩⟩
    · conv => whnf
      refine ⟨hu.sl.one, ?_⟩
      conv => whnf
      intro r2
      conv => whnf
      refine ⟨⟨⟨rfl, trivial⟩, fun w' hw => hw.fr⟩, ?_⟩
      conv => whnf
      refine ⟨?_, trivial⟩
      conv => whnf
      intro r0
      conv => whnf
      refine ⟨⟨⟨rfl, trivial⟩, fun w' hw => hw.fr⟩, ?_⟩
      conv => whnf
      refine ⟨?_, trivial⟩
      conv => whnf
      refine ⟨R, ⟨fun w' hw => hsrc w' hw.fr, hnp⟩, ?_⟩
      conv => whnf
      refine ⟨⟨rfl, by simp; omega⟩, ?_⟩
      conv => whnf
      intro r1
      conv => whnf
      refine ⟨⟨⟨rfl, trivial⟩, fun w' hw => hw.fr⟩, ?_⟩
      conv => whnf
      refine ⟨?_, trivial⟩
      conv => whnf
      refine ⟨rfl, ?_⟩
      conv => whnf
      refine ⟨hu.sl.one, ?_⟩
      conv => whnf
      refine ⟨⟨rfl, by simp; omega⟩, ?_⟩
      conv => whnf
      intro r3
      conv => whnf
      refine ⟨⟨⟨rfl, trivial⟩, fun w' hw => hw.fr⟩, ?_⟩
      conv => whnf
      refine ⟨?_, trivial⟩
      conv => whnf
      refine ansR_call b26 (rd2 (nopL _) (nopI _)) (fun w' hw => lots_c (l ++ [d]) [] _ w' (sl_all (hw.row (id := 2) rfl) hw.fr hrel hu (by omega)) (by simp; omega) (lots_ok hsp (by simp; omega))) ?_
      intro va
      conv => whnf
      intro ve
      conv => whnf
      refine ⟨⟨⟨rfl, trivial⟩, fun w' hw => hw.fr⟩, ?_⟩
      conv => whnf
      refine At.meet fun w' hw => ⟨(va, ve), trivial, Le.of rfl rfl ⟨rfl, rfl, rfl, rfl, rfl, rfl, trivial⟩, hw.ren [4,3,0] rfl rfl rfl, ⟨⟨_, _, rfl⟩, ⟨_, _, _, rfl⟩, ⟨_, _, _, rfl⟩, trivial⟩, ⟨(nopI _).okH, (nopL _).okH, trivial⟩⟩
  rintro ⟨va, ve⟩ _
  simp only
  rw [hsn] at hlen1 ⊢
  rw [← he] at law1 law2
  generalize (lotsK l).1 = L at *
  generalize (lotsK l).2 = es at *
  generalize doB L d = D at *
  obtain ⟨L1, er⟩ := D
  simp only [List.length_append, List.length_singleton] at hlen1 he hst law1 law2 ⊢
  repeat refine At.seq ?_
  refine At.region tab_ok ?_
  conv => whnf
  refine ⟨rfl, ?_⟩
  conv => whnf
  refine ⟨h.sl, ?_⟩
  conv => whnf
  refine ⟨⟨by omega, by omega⟩, ?_⟩
  conv => whnf
  repeat refine At.seq ?_
  refine At.cond rfl (fun hq => ?_) (fun hq => At.skip ?_)
  · simp [hes, hl] at hq
  have hge : (es ++ [er])[l.length]? = some er := by rw [List.getElem?_append_right (by omega)]; simp [hes]
  have hel : (es ++ [er]).length = l.length + 1 := by simp [hes]
  generalize es ++ [er] = es1 at hge hel ⊢
  repeat refine At.seq ?_
  refine At.region tab_ok ?_
  conv => whnf
  refine ⟨h.sl, ?_⟩
  conv => whnf
  refine ⟨rfl, ?_⟩
  conv => whnf
  refine ⟨by omega, ?_⟩
  conv => whnf
  refine ⟨by simp; omega, ?_⟩
  conv => whnf
  refine ⟨encI er, ⟨rfl, rfl, by omega, by rw [hl, Int.toNat_natCast, List.getElem?_map, hge]; rfl⟩, ?_⟩
  conv => whnf
  repeat refine At.seq ?_
  refine At.cond rfl (fun hq => ?_) (fun hq => At.skip ?_)
  · repeat refine At.seq ?_
    refine At.region tab_ok ?_
    conv => whnf
    repeat refine At.seq ?_
    refine At.ret (At.doneB tab_ok hB _ rfl fun w' hw => ⟨rfl, hw.fr⟩)
  have her : er = 0 := by simpa using hq
  replace law1 := law1 her
  replace law2 := law2 her
  subst her
  repeat refine At.seq ?_
  refine At.region tab_ok ?_
  conv => whnf
  intro r0
  conv => whnf
  refine ⟨R, ⟨fun w' hw => hsrc w' hw.fr, hnp⟩, ?_⟩
  conv => whnf
  refine ⟨⟨rfl, by simp; omega⟩, ?_⟩
  conv => whnf
  intro r1
  conv => whnf
  repeat refine At.seq ?_
  refine At.region tab_ok ?_
  conv => whnf
  repeat refine At.seq ?_
  refine At.block ?_
  refine At.loopH (fun p : Nat × Value => { N := Try.f9.ntmps, sl := [(0, some (.x v)), (2, some (.i cut)), (4, some (.s (.c (.p 0 b4 0)))), (7, some (.b true)), (8, some (.s (.c (.o 1 va)))), (10, some (.s (.c (.o 3 p.2)))), (11, some (.i p.1))], gl := [], hp := [(3, .row p.2 54 7 (R ++ oneRows d u p.1)), (1, .row va 58 7 (L1.map encL)), (0, .box b4 54 (encD d u))], S := [], ws := w }) (fun p : Nat × Value => p.1 ≤ d.spans.length) (fun p : Nat × Value => d.spans.length - p.1)
    (fun w' hw => ⟨(0, r1), Nat.zero_le _, Le.of rfl rfl ⟨rfl, rfl, rfl, rfl, rfl, rfl, rfl, trivial⟩, hw.keep [3, 1, 0] (by simp [oneRows]; rfl) rfl rfl, ⟨⟨_, _, rfl⟩, ⟨_, _, _, rfl⟩, ⟨_, _, _, rfl⟩, trivial⟩, ⟨(NoP.app hnp oneRows_nop).okH, (nopL _).okH, trivial⟩⟩) ?_
  rintro ⟨k, vs⟩ hk
  simp only at hk ⊢
  repeat refine At.seq ?_
  refine At.region tab_ok ?_
  conv => whnf
  refine ⟨hu.sl, ?_⟩
  conv => whnf
  repeat refine At.seq ?_
  refine At.cond rfl (fun hc => At.skip ?_) (fun hc => At.exit ?_)
  · have hlt : k < d.spans.length := by have := of_decide_eq_true hc; omega
    obtain ⟨s, hs⟩ : ∃ s, d.spans[k]? = some s := ⟨_, List.getElem?_eq_getElem hlt⟩
    have hsub := sub_one hu hs
    have hol := oneRows_len d u k
    repeat refine At.seq ?_
    refine At.block ?_
    repeat refine At.seq ?_
    refine At.region tab_ok ?_
    conv => whnf
    intro b12
    conv => whnf
    refine ⟨hu.sl.one, ?_⟩
    conv => whnf
    repeat refine At.seq ?_
    refine At.region tab_ok ?_
    conv => whnf
    refine ⟨⟨by omega, by omega⟩, ?_⟩
    conv => whnf
    refine ⟨hu.sl, ?_⟩
    conv => whnf
    refine ⟨by omega, ?_⟩
    conv => whnf
    refine ⟨by omega, ?_⟩
    conv => whnf
    refine ⟨by omega, ?_⟩
    conv => whnf
    refine ⟨hsub.sl.one, ?_⟩
    conv => whnf
    repeat refine At.seq ?_
    refine At.region tab_ok ?_
    conv => whnf
    refine ⟨hsub.sl.one, ?_⟩
    conv => whnf
    intro r2
    conv => whnf
    refine ⟨rfl, ?_⟩
    conv => whnf
    refine ⟨hsub.sl.one, ?_⟩
    conv => whnf
    refine ⟨⟨rfl, by simp; omega⟩, ?_⟩
    conv => whnf
    intro r3
    conv => whnf
    repeat refine At.seq ?_
    refine At.region tab_ok ?_
    conv => whnf
    refine ⟨⟨by omega, by omega⟩, ?_⟩
    conv => whnf
    refine At.nextH fun w' hw => ⟨(k + 1, r3), by simp only; omega, by simp only; omega, Le.of rfl rfl ⟨rfl, rfl, rfl, rfl, rfl, rfl, rfl, trivial⟩, hw.keep [3, 1, 0] (by rw [oneRows_snoc, ← List.append_assoc]; rfl) rfl rfl, ⟨⟨_, _, rfl⟩, ⟨_, _, _, rfl⟩, ⟨_, _, _, rfl⟩, trivial⟩, ⟨(NoP.app hnp oneRows_nop).okH, (nopL _).okH, trivial⟩⟩
  have hge : k = d.spans.length := by have := of_decide_eq_false hc; omega
  subst hge
  have hol := oneRows_len d u d.spans.length
  have hrel1 : relAll deT [] w (l ++ (partsOne d.spans).map (withS d)) (R ++ oneRows d u d.spans.length) := by
    have := oneRows_rel hu d.spans.length (Nat.le_refl _)
    rw [List.take_length] at this
    exact relAll_append hrel this
  have hsp1 : ∀ x ∈ l ++ (partsOne d.spans).map (withS d), x.spans.length ≤ 8 := fun x hx => by
    rcases List.mem_append.1 hx with hx | hx
    · exact hspl x hx
    · obtain ⟨S, hS, rfl⟩ := List.mem_map.1 hx
      obtain ⟨s, _, rfl⟩ := List.mem_map.1 hS
      simp [withS]
  have hll1 : (l ++ (partsOne d.spans).map (withS d)).length = l.length + d.spans.length := by simp [partsOne]
  repeat refine At.seq ?_
  refine At.region tab_ok ?_
  conv => whnf
  refine ansR_call b26 (rd2 (nopL _) (nopI _)) (fun w' hw => lots_c (l ++ (partsOne d.spans).map (withS d)) [] _ w' (SlOf.of_rows (hw.row (id := 3) rfl) (fun _ _ => nilS) (by omega) (relAll_fr hw.fr hrel1)) (by omega) (lots_ok hsp1 (by omega))) ?_
  rw [law1]
  intro vb
  conv => whnf
  intro vbe
  conv => whnf
  have hpo : (partsOne d.spans).length = d.spans.length := by simp [partsOne]
  have hz1 : ∀ i e, l.length ≤ i → (es ++ (partsOne d.spans).map (fun _ => (0 : Int)))[i]? = some e → e = 0 := fun i e hi hx => by
    rw [List.getElem?_append_right (by omega), List.getElem?_map] at hx
    obtain ⟨_, _, rfl⟩ := Option.map_eq_some_iff.1 hx
    rfl
  have hzl1 : (es ++ (partsOne d.spans).map (fun _ => (0 : Int))).length = l.length + d.spans.length := by simp [hpo, hes]
  generalize es ++ (partsOne d.spans).map (fun _ => (0 : Int)) = e1 at *
  simp only
  have hro : (R ++ oneRows d u d.spans.length).length = l.length + d.spans.length := by simp [hRl, hol]
  have hnp2 := NoP.app hnp (oneRows_nop (d := d) (u := u) (k := d.spans.length))
  generalize R ++ oneRows d u d.spans.length = R1 at *
  repeat refine At.seq ?_
  refine At.region tab_ok ?_
  conv => whnf
  refine ansR_call b39 (rd2 (nopS _) (nopS _)) (fun w' hw => takeS_c d.spans cut [] u w' (hu.fr hw.fr) (by omega) hcut) ?_
  intro vf
  conv => whnf
  intro vr
  conv => whnf
  have hF : (norm (takeF (norm d.spans) cut)).length ≤ 8 := Nat.le_trans (norm_len _) (by rw [takeF_len]; exact Nat.le_trans (norm_len _) hsp0)
  have hR : (norm (takeR (norm d.spans) cut)).length ≤ 8 := Nat.le_trans (norm_len _) (by rw [takeR_len]; exact Nat.le_trans (norm_len _) hsp0)
  generalize norm (takeF (norm d.spans) cut) = F at *
  generalize norm (takeR (norm d.spans) cut) = G at *
  repeat refine At.seq ?_
  refine At.region tab_ok ?_
  conv => whnf
  intro s0
  conv => whnf
  refine ⟨R, ⟨fun w' hw => hsrc w' hw.fr, hnp⟩, ?_⟩
  conv => whnf
  refine ⟨⟨rfl, by simp; omega⟩, ?_⟩
  conv => whnf
  intro s1
  conv => whnf
  have h1F := some1_len F
  have h1G := some1_len G
  have hsF := someRow_len d 6 vf F
  have hsG := someRow_len d 7 vr G
  repeat refine At.seq ?_
  refine At.join (fun p : Value => { N := Try.f9.ntmps, sl := [(0, some (.x v)), (4, some (.s (.c (.p 0 b4 0)))), (7, some (.b true)), (8, some (.s (.c (.o 1 va)))), (10, some (.s (.c (.o 3 vs)))), (13, some (.s (.c (.o 4 vb)))), (14, some (.s (.c (.o 5 vbe)))), (15, some (.s (.c (.o 6 vf)))), (16, some (.s (.c (.o 7 vr)))), (17, some (.s (.c (.o 8 p)))), (101, some (.b (decide (0 < ((F.map encS).length : Int)))))], gl := [], hp := [(8, .row p 54 7 R), (7, .row vr 56 3 (G.map encS)), (6, .row vf 56 3 (F.map encS)), (5, .row vbe 30 1 (e1.map encI)), (4, .row vb 58 7 (L1.map encL)), (3, .row vs 54 7 R1), (1, .row va 58 7 (L1.map encL)), (0, .box b4 54 (encD d u))], S := [], ws := w }) (fun p : Value => True) ?_ ?_
  · repeat refine At.seq ?_
    refine At.region tab_ok ?_
    conv => whnf
    refine ⟨rfl, ?_⟩
    conv => whnf
    refine At.meet fun w' hw => ⟨s1, trivial, Le.of rfl rfl ⟨rfl, rfl, rfl, rfl, rfl, rfl, rfl, rfl, rfl, rfl, rfl, trivial⟩, hw.keep [8, 7, 6, 5, 4, 3, 1, 0] rfl rfl rfl, ⟨⟨_, _, rfl⟩, ⟨_, _, _, rfl⟩, ⟨_, _, _, rfl⟩, ⟨_, _, _, rfl⟩, ⟨_, _, _, rfl⟩, ⟨_, _, _, rfl⟩, ⟨_, _, _, rfl⟩, ⟨_, _, _, rfl⟩, trivial⟩, ⟨(hnp).okH, (nopS _).okH, (nopS _).okH, (nopI _).okH, (nopL _).okH, (hnp2).okH, (nopL _).okH, trivial⟩⟩
  intro s1 _
  repeat refine At.seq ?_
  refine At.join (fun p : Value => { N := Try.f9.ntmps, sl := [(0, some (.x v)), (4, some (.s (.c (.p 0 b4 0)))), (7, some (.b true)), (8, some (.s (.c (.o 1 va)))), (10, some (.s (.c (.o 3 vs)))), (13, some (.s (.c (.o 4 vb)))), (14, some (.s (.c (.o 5 vbe)))), (16, some (.s (.c (.o 7 vr)))), (17, some (.s (.c (.o 8 p))))], gl := [], hp := [(8, .row p 54 7 (R ++ someRow d 6 vf F)), (7, .row vr 56 3 (G.map encS)), (6, .row vf 56 3 (F.map encS)), (5, .row vbe 30 1 (e1.map encI)), (4, .row vb 58 7 (L1.map encL)), (3, .row vs 54 7 R1), (1, .row va 58 7 (L1.map encL)), (0, .box b4 54 (encD d u))], S := [], ws := w }) (fun p : Value => True) ?_ ?_
  · repeat refine At.seq ?_
    refine At.cond rfl (fun hq => ?_) (fun hq => ?_)
    · have h0 : 0 < F.length := by have := of_decide_eq_true hq; simpa using this
      repeat refine At.seq ?_
      refine At.region tab_ok ?_
      conv => whnf
      intro b18
      conv => whnf
      refine ⟨hu.sl.one, ?_⟩
      conv => whnf
      repeat refine At.seq ?_
      refine At.region tab_ok ?_
      conv => whnf
      repeat refine At.seq ?_
      refine At.region tab_ok ?_
      conv => whnf
      intro t2
      conv => whnf
      refine ⟨rfl, ?_⟩
      conv => whnf
      refine ⟨⟨rfl, by simp; omega⟩, ?_⟩
      conv => whnf
      intro t3
      conv => whnf
      refine At.meet fun w' hw => ⟨t3, trivial, Le.of rfl rfl ⟨rfl, rfl, rfl, rfl, rfl, rfl, rfl, rfl, rfl, trivial⟩, hw.keep [8, 7, 6, 5, 4, 3, 1, 0] (by unfold someRow; rw [if_pos h0]; rfl) rfl rfl, ⟨⟨_, _, rfl⟩, ⟨_, _, _, rfl⟩, ⟨_, _, _, rfl⟩, ⟨_, _, _, rfl⟩, ⟨_, _, _, rfl⟩, ⟨_, _, _, rfl⟩, ⟨_, _, _, rfl⟩, trivial⟩, ⟨okH_app (NoP.okH hnp) (okH_some ⟨_, _, _, rfl⟩), (nopS _).okH, (nopS _).okH, (nopI _).okH, (nopL _).okH, (hnp2).okH, (nopL _).okH, trivial⟩⟩
    · have h0 : ¬ 0 < F.length := by have := of_decide_eq_false hq; simpa using this
      refine At.skip ?_
      refine At.meet fun w' hw => ⟨s1, trivial, Le.of rfl rfl ⟨rfl, rfl, rfl, rfl, rfl, rfl, rfl, rfl, rfl, trivial⟩, hw.keep [8, 7, 6, 5, 4, 3, 1, 0] (by unfold someRow; rw [if_neg h0, List.append_nil]; rfl) rfl rfl, ⟨⟨_, _, rfl⟩, ⟨_, _, _, rfl⟩, ⟨_, _, _, rfl⟩, ⟨_, _, _, rfl⟩, ⟨_, _, _, rfl⟩, ⟨_, _, _, rfl⟩, ⟨_, _, _, rfl⟩, trivial⟩, ⟨okH_app (NoP.okH hnp) (okH_some ⟨_, _, _, rfl⟩), (nopS _).okH, (nopS _).okH, (nopI _).okH, (nopL _).okH, (hnp2).okH, (nopL _).okH, trivial⟩⟩
  intro s2 _
  repeat refine At.seq ?_
  refine At.region tab_ok ?_
  conv => whnf
  refine ⟨rfl, ?_⟩
  conv => whnf
  repeat refine At.seq ?_
  refine At.join (fun p : Value => { N := Try.f9.ntmps, sl := [(0, some (.x v)), (4, some (.s (.c (.p 0 b4 0)))), (7, some (.b true)), (8, some (.s (.c (.o 1 va)))), (10, some (.s (.c (.o 3 vs)))), (13, some (.s (.c (.o 4 vb)))), (14, some (.s (.c (.o 5 vbe)))), (17, some (.s (.c (.o 8 p))))], gl := [], hp := [(8, .row p 54 7 ((R ++ someRow d 6 vf F) ++ someRow d 7 vr G)), (7, .row vr 56 3 (G.map encS)), (6, .row vf 56 3 (F.map encS)), (5, .row vbe 30 1 (e1.map encI)), (4, .row vb 58 7 (L1.map encL)), (3, .row vs 54 7 R1), (1, .row va 58 7 (L1.map encL)), (0, .box b4 54 (encD d u))], S := [], ws := w }) (fun p : Value => True) ?_ ?_
  · repeat refine At.seq ?_
    refine At.cond rfl (fun hq => ?_) (fun hq => ?_)
    · have h0 : 0 < G.length := by have := of_decide_eq_true hq; simpa using this
      repeat refine At.seq ?_
      refine At.region tab_ok ?_
      conv => whnf
      intro b19
      conv => whnf
      refine ⟨hu.sl.one, ?_⟩
      conv => whnf
      repeat refine At.seq ?_
      refine At.region tab_ok ?_
      conv => whnf
      repeat refine At.seq ?_
      refine At.region tab_ok ?_
      conv => whnf
      intro t2
      conv => whnf
      refine ⟨rfl, ?_⟩
      conv => whnf
      refine ⟨⟨rfl, by simp; omega⟩, ?_⟩
      conv => whnf
      intro t3
      conv => whnf
      refine At.meet fun w' hw => ⟨t3, trivial, Le.of rfl rfl ⟨rfl, rfl, rfl, rfl, rfl, rfl, rfl, rfl, trivial⟩, hw.keep [8, 7, 6, 5, 4, 3, 1, 0] (by rw [show someRow d 7 vr G = [encO d 7 vr] from if_pos h0]; rfl) rfl rfl, ⟨⟨_, _, rfl⟩, ⟨_, _, _, rfl⟩, ⟨_, _, _, rfl⟩, ⟨_, _, _, rfl⟩, ⟨_, _, _, rfl⟩, ⟨_, _, _, rfl⟩, trivial⟩, ⟨okH_app (okH_app (NoP.okH hnp) (okH_some ⟨_, _, _, rfl⟩)) (okH_some ⟨_, _, _, rfl⟩), (nopS _).okH, (nopS _).okH, (nopI _).okH, (nopL _).okH, (hnp2).okH, (nopL _).okH, trivial⟩⟩
    · have h0 : ¬ 0 < G.length := by have := of_decide_eq_false hq; simpa using this
      refine At.skip ?_
      refine At.meet fun w' hw => ⟨s2, trivial, Le.of rfl rfl ⟨rfl, rfl, rfl, rfl, rfl, rfl, rfl, rfl, trivial⟩, hw.keep [8, 7, 6, 5, 4, 3, 1, 0] (by rw [show someRow d 7 vr G = [] from if_neg h0, List.append_nil]; rfl) rfl rfl, ⟨⟨_, _, rfl⟩, ⟨_, _, _, rfl⟩, ⟨_, _, _, rfl⟩, ⟨_, _, _, rfl⟩, ⟨_, _, _, rfl⟩, ⟨_, _, _, rfl⟩, trivial⟩, ⟨okH_app (okH_app (NoP.okH hnp) (okH_some ⟨_, _, _, rfl⟩)) (okH_some ⟨_, _, _, rfl⟩), (nopS _).okH, (nopS _).okH, (nopI _).okH, (nopL _).okH, (hnp2).okH, (nopL _).okH, trivial⟩⟩
  intro s3 _
  rw [List.map_append, ← List.append_assoc] at law2
  have hsp2 : ∀ x ∈ (l ++ (some1 F).map (withS d)) ++ (some1 G).map (withS d), x.spans.length ≤ 8 := fun x hx => by
    rcases List.mem_append.1 hx with hx | hx
    · rcases List.mem_append.1 hx with hx | hx
      · exact hspl x hx
      · obtain ⟨S, hS, rfl⟩ := List.mem_map.1 hx; rw [(some1_mem hS).1]; exact hF
    · obtain ⟨S, hS, rfl⟩ := List.mem_map.1 hx; rw [(some1_mem hS).1]; exact hR
  have hll2 : ((l ++ (some1 F).map (withS d)) ++ (some1 G).map (withS d)).length = l.length + (some1 F).length + (some1 G).length := by simp; omega
  repeat refine At.seq ?_
  refine At.region tab_ok ?_
  conv => whnf
  refine ansR_call b26 (rd2 (nopL _) (nopI _)) (fun w' hw => lots_c ((l ++ (some1 F).map (withS d)) ++ (some1 G).map (withS d)) [] _ w' (SlOf.of_rows (hw.row (id := 8) rfl) (fun _ _ => nilS) (by omega) (relAll_append (relAll_append (relAll_fr hw.fr hrel) (some_rel (slS F (hw.row (id := 6) rfl) (by omega)))) (some_rel (slS G (hw.row (id := 7) rfl) (by omega))))) (by omega) (lots_ok hsp2 (by omega))) ?_
  rw [law2]
  intro vq
  conv => whnf
  intro vqe
  conv => whnf
  have hz2 : ∀ i e, l.length ≤ i → (es ++ (some1 F ++ some1 G).map (fun _ => (0 : Int)))[i]? = some e → e = 0 := fun i e hi hx => by
    rw [List.getElem?_append_right (by omega), List.getElem?_map] at hx
    obtain ⟨_, _, rfl⟩ := Option.map_eq_some_iff.1 hx
    rfl
  have hzl2 : (es ++ (some1 F ++ some1 G).map (fun _ => (0 : Int))).length = l.length + (some1 F).length + (some1 G).length := by simp [hes]; omega
  generalize es ++ (some1 F ++ some1 G).map (fun _ => (0 : Int)) = e2 at *
  simp only
  have hro2 : ((R ++ someRow d 6 vf F) ++ someRow d 7 vr G).length = l.length + (some1 F).length + (some1 G).length := by simp [hRl, hsF, hsG]; omega
  have q1 : decide (((List.map encI e1).length : Int) = (R1.length : Int)) = true := by simp [hzl1, hro]
  have q2 : decide (((List.map encI e2).length : Int) = (((R ++ someRow d 6 vf F) ++ someRow d 7 vr G).length : Int)) = true := by rw [hro2, List.length_map, hzl2]; simp
  repeat refine At.seq ?_
  refine At.regionG tab_ok ?_
  conv => whnf
  refine ⟨rfl, ?_⟩
  conv => whnf
  refine ⟨rfl, ?_⟩
  conv => whnf
  rw [q1]
  conv => whnf
  refine ⟨rfl, ?_⟩
  conv => whnf
  refine ⟨rfl, ?_⟩
  conv => whnf
  rw [q2]
  conv => whnf
  refine ans_call b31 (r := .b true) rfl (fun w' hw => by
    have := sameLots_c L1 L1 [] [] vb va w' (slL L1 (hw.row (id := 4) rfl) (by omega)) (slL L1 (hw.row (id := 1) rfl) (by omega))
    rw [decide_eq_true (rfl : L1 = L1)] at this
    exact this) ?_
  conv => whnf
  refine ans_call b31 (r := .b true) rfl (fun w' hw => by
    have := sameLots_c L1 L1 [] [] vq va w' (slL L1 (hw.row (id := 9) rfl) (by omega)) (slL L1 (hw.row (id := 1) rfl) (by omega))
    rw [decide_eq_true (rfl : L1 = L1)] at this
    exact this) ?_
  conv => whnf
  repeat refine At.seq ?_
  refine At.cond (t := false) rfl (fun hq => by cases hq) (fun hq => At.skip ?_)
  repeat refine At.seq ?_
  refine At.region tab_ok ?_
  conv => whnf
  refine ⟨h.sl, ?_⟩
  conv => whnf
  repeat refine At.seq ?_
  refine At.block ?_
  refine At.loopH (fun k : Nat => { N := Try.f9.ntmps, sl := [(0, some (.x v)), (7, some (.b true)), (14, some (.s (.c (.o 5 vbe)))), (21, some (.s (.c (.o 10 vqe)))), (22, some (.i k))], gl := [], hp := [(10, .row vqe 30 1 (e2.map encI)), (5, .row vbe 30 1 (e1.map encI))], S := [], ws := w }) (fun k : Nat => l.length ≤ k ∧ k ≤ e1.length) (fun k : Nat => e1.length - k)
    (fun w' hw => ⟨l.length, ⟨Nat.le_refl _, by omega⟩, Le.of rfl rfl ⟨rfl, rfl, rfl, rfl, congrArg (Value.int .i64) (by rw [hl]), trivial⟩, hw.keep [10, 5] rfl rfl rfl, ⟨⟨_, _, _, rfl⟩, ⟨_, _, _, rfl⟩, trivial⟩, ⟨(nopI _).okH, (nopI _).okH, trivial⟩⟩) ?_
  intro k ⟨hk, hk'⟩
  repeat refine At.seq ?_
  refine At.region tab_ok ?_
  conv => whnf
  refine ⟨rfl, ?_⟩
  conv => whnf
  repeat refine At.seq ?_
  refine At.cond rfl (fun hc => At.skip ?_) (fun hc => At.exit ?_)
  · have hlte : k < e1.length := by have := of_decide_eq_true hc; (try simp only [List.length_map] at this); omega
    obtain ⟨e, he⟩ : ∃ x, e1[k]? = some x := ⟨_, List.getElem?_eq_getElem hlte⟩
    have he0 := hz1 k e hk he
    subst he0
    repeat refine At.seq ?_
    refine At.block ?_
    repeat refine At.seq ?_
    refine At.region tab_ok ?_
    conv => whnf
    refine ⟨rfl, ?_⟩
    conv => whnf
    refine ⟨by omega, ?_⟩
    conv => whnf
    refine ⟨by (try simp only [List.length_map]); omega, ?_⟩
    conv => whnf
    refine ⟨encI 0, ⟨rfl, rfl, by omega, by rw [Int.toNat_natCast, List.getElem?_map, he]; rfl⟩, ?_⟩
    conv => whnf
    repeat refine At.seq ?_
    refine At.cond (t := false) rfl (fun hq => by cases hq) (fun hq => At.skip ?_)
    repeat refine At.seq ?_
    refine At.region tab_ok ?_
    conv => whnf
    refine ⟨⟨by omega, by omega⟩, ?_⟩
    conv => whnf
    refine At.nextH fun w' hw => ⟨k + 1, ⟨by omega, by omega⟩, by omega, Le.of rfl rfl ⟨rfl, rfl, rfl, rfl, rfl, trivial⟩, hw.keep [10, 5] rfl rfl rfl, ⟨⟨_, _, _, rfl⟩, ⟨_, _, _, rfl⟩, trivial⟩, ⟨(nopI _).okH, (nopI _).okH, trivial⟩⟩
  repeat refine At.seq ?_
  refine At.region tab_ok ?_
  conv => whnf
  refine ⟨h.sl, ?_⟩
  conv => whnf
  repeat refine At.seq ?_
  refine At.block ?_
  refine At.loopH (fun k : Nat => { N := Try.f9.ntmps, sl := [(7, some (.b true)), (21, some (.s (.c (.o 10 vqe)))), (23, some (.i k))], gl := [], hp := [(10, .row vqe 30 1 (e2.map encI))], S := [], ws := w }) (fun k : Nat => l.length ≤ k ∧ k ≤ e2.length) (fun k : Nat => e2.length - k)
    (fun w' hw => ⟨l.length, ⟨Nat.le_refl _, by omega⟩, Le.of rfl rfl ⟨rfl, rfl, congrArg (Value.int .i64) (by rw [hl]), trivial⟩, hw.keep [10] rfl rfl rfl, ⟨⟨_, _, _, rfl⟩, trivial⟩, ⟨(nopI _).okH, trivial⟩⟩) ?_
  intro k ⟨hk, hk'⟩
  repeat refine At.seq ?_
  refine At.region tab_ok ?_
  conv => whnf
  refine ⟨rfl, ?_⟩
  conv => whnf
  repeat refine At.seq ?_
  refine At.cond rfl (fun hc => At.skip ?_) (fun hc => At.exit ?_)
  · have hlte : k < e2.length := by have := of_decide_eq_true hc; (try simp only [List.length_map] at this); omega
    obtain ⟨e, he⟩ : ∃ x, e2[k]? = some x := ⟨_, List.getElem?_eq_getElem hlte⟩
    have he0 := hz2 k e hk he
    subst he0
    repeat refine At.seq ?_
    refine At.block ?_
    repeat refine At.seq ?_
    refine At.region tab_ok ?_
    conv => whnf
    refine ⟨rfl, ?_⟩
    conv => whnf
    refine ⟨by omega, ?_⟩
    conv => whnf
    refine ⟨by (try simp only [List.length_map]); omega, ?_⟩
    conv => whnf
    refine ⟨encI 0, ⟨rfl, rfl, by omega, by rw [Int.toNat_natCast, List.getElem?_map, he]; rfl⟩, ?_⟩
    conv => whnf
    repeat refine At.seq ?_
    refine At.cond (t := false) rfl (fun hq => by cases hq) (fun hq => At.skip ?_)
    repeat refine At.seq ?_
    refine At.region tab_ok ?_
    conv => whnf
    refine ⟨⟨by omega, by omega⟩, ?_⟩
    conv => whnf
    refine At.nextH fun w' hw => ⟨k + 1, ⟨by omega, by omega⟩, by omega, Le.of rfl rfl ⟨rfl, rfl, rfl, trivial⟩, hw.keep [10] rfl rfl rfl, ⟨⟨_, _, _, rfl⟩, trivial⟩, ⟨(nopI _).okH, trivial⟩⟩
  repeat refine At.seq ?_
  refine At.region tab_ok ?_
  conv => whnf
  repeat refine At.seq ?_
  refine At.ret (At.doneB tab_ok hB _ rfl fun w' hw => ⟨rfl, hw.fr⟩)
end Go.Proofs.Ytjilbkioieicbaa


/- A deed that comes in. -/
namespace Go.Proofs.Ytjilbkioieicbaa
open Go.Vc Rt
set_option linter.unusedVariables false
set_option linter.unusedSimpArgs false
section
variable {H : Type} {enc : TypeId × Value → H} {w : World} {spare : Nat → Bool} {held : Bool}
theorem okWide_struct {P : Program} {r : Reach} {base : Nat} {t : TypeId} {fs : Array Field} {v : Value} (hu : P.underlying t = some (.struct fs)) (hv : Value.okWide P w r base t v) : ∃ cs, v = .agg cs := by
  unfold Value.okWide at hv
  rw [hu] at hv
  obtain ⟨cs, e, _⟩ := hv
  exact ⟨cs, e⟩
set_option maxRecDepth 100000 in
theorem deed_arg {base : Nat} {v : Value} {d : DataW H} {ps : List MemPlace} (hv : Value.okWide Try.prog w .any base 54 v) (h : DataW.Trod enc Try.prog w 0 spare held 54 v d ps) : ∃ (dd : Deed) (u : Value), v = vD dd u ∧ SlOf spT [] w u dd.spans := by
  have hcs : ∃ cs, v = .agg cs := by
    have q := u54
    generalize Try.prog.fieldsOf 54 = fs at q
    generalize Try.prog = P at q hv
    exact okWide_struct q hv
  obtain ⟨cs, rfl⟩ := hcs
  obtain ⟨fuel, hf⟩ := h
  obtain ⟨dd, l, ⟨u, rfl, hu⟩, e⟩ := deed_open hf
  refine ⟨dd, u, ?_, hu⟩
  have e' : cs.toList = dens (encD dd u) := e.symm
  show Value.agg cs = Value.agg (dens (encD dd u)).toArray
  rw [← e']
end
end Go.Proofs.Ytjilbkioieicbaa


namespace Go.Proofs.Ytjilbkioieicbaa.rightsParts
open Go.ChangeShapes Go.WideShapes Go.ChangeAt Go.RowKit
set_option linter.unusedVariables false
theorem own : ownKnob Try.prog.godebug = none := by kernel_rfl
set_option maxRecDepth 100000 in
theorem lifted (os : Os) (started : os.Started) (H : Type) (enc : TypeId × Value → H) :
    ReturnsInHanded {} Try.checked os 9 .any (Rows.rightsPartsSpec.pre6 enc Try.prog Try.f9 Rows.rightsPartsRow.domain false) (Rows.rightsPartsSpec.post enc Try.prog Try.f9 false true false false) := by
  refine returnsInHanded_of_change_sized (C := Try.checked) own started (by kernel_rfl) Try.func9
    (ChangeSpec.witness6 (enc := enc) (C := Try.checked) false ⟨#[], #[.slice none 0 0, .agg #[.int .i64 0, .int .i64 0, .int .i64 0, .int .i64 0, .int .i64 0, .int .i64 0, .slice none 0 0], .int .i64 0], []⟩ 8 (by kernel_rfl) (by kernel_rfl) (by kernel_rfl) (by kernel_rfl)) ?_
  intro W base args ds gs before hval0 hW hcnd hwt _
  have hval : ∀ (j : Nat) t v, Try.f9.params[j]? = some t → args[j]? = some v → Value.okWide Try.prog W .any base t v := hval0
  have hW' := hW
  obtain ⟨p, q, hA0, hV, rfl, hfz, hnd⟩ := hW
  have hA : DataW.TrodAll enc Try.prog W 0 (fun _ => true) true Try.f9.params.toList args.toList ds p := hA0
  rw [Try.params9] at hA hval
  obtain ⟨v0, vs0, d0, ds0, p0, q0, hargs, rfl, rfl, h0, r0⟩ := trodAll_cons hA
  obtain ⟨v1, vs1, d1, ds1, p1, q1, rfl, rfl, rfl, h1, r1⟩ := trodAll_cons r0
  obtain ⟨v2, vs2, d2, ds2, p2, q2, rfl, rfl, rfl, h2, r2⟩ := trodAll_cons r1
  obtain ⟨rfl, rfl, rfl⟩ := trodAll_nil r2
  obtain rfl : args = #[v0, v1, v2] := by cases args; simp_all
  obtain ⟨rfl, rfl⟩ := trodVars_none hV
  have k0 := h0
  have lt0 : ∀ x ∈ p0, x.block < W.heap.size := fun x hx => hW'.lt x (by simp [hx])
  obtain ⟨l0, s0⟩ := deeds_open (okWide_slice u45 (hval 0 45 v0 rfl rfl)) h0
  have k1 := h1
  have lt1 : ∀ x ∈ p1, x.block < W.heap.size := fun x hx => hW'.lt x (by simp [hx])
  obtain ⟨l1, y1, e1, s1⟩ := deed_arg (hval 1 54 v1 rfl rfl) h1
  subst e1
  obtain ⟨a2, rfl, rfl, rfl, w2⟩ := open_int u3 (hval 2 3 v2 rfl rfl) h2
  have B0 := deeds_bd (slice_bound u45 s0 k0 hwt (j := 0) rfl rfl)
  clear hA0 hval0
  simp only [List.append_nil] at hW'
  refine (parts_c l0 l1 a2 v0 y1 W s0 s1 B0 (inR_of_wf w2)).mono fun e W' ⟨he, hx⟩ => ?_
  subst he
  exact ⟨_, rfl, _, _, _, [], _, [], hW', trodAll_cons_mk (shut_bool u4 _) trodAll_mk0, (trodAll_cons_mk (Below.trod laid (by kernel_rfl) (of_decide_eq_true (by kernel_rfl)) k0 hx.below lt0) (trodAll_cons_mk (Below.trod laid (by kernel_rfl) (of_decide_eq_true (by kernel_rfl)) k1 hx.below lt1) (trodAll_cons_mk (shut_int u3 w2) trodAll_mk0))), rfl, hx.below.frame _, fun h => by cases h⟩

theorem over : Rows.rightsPartsRow.holds Try.pinned (OpenSpec.ofChange Rows.rightsPartsSpec) :=
  OpenClaim.holds_of_wide 9 Try.f9 rfl rfl rfl rfl rfl rfl rfl ⟨rfl, rfl, rfl, rfl, rfl⟩ rfl rfl rfl rfl rfl (by kernel_rfl) Try.func9 (by kernel_rfl)
    (of_decide_eq_true (by kernel_rfl)) (by unfold Func.isWrapper; first | (rw [if_pos (by decide +kernel)]; kernel_rfl) | (rw [if_neg (by decide +kernel)]; exact ⟨rfl, rfl⟩))
    (fun os started H enc _ => lifted os started H enc)

/-- The statement. -/
theorem proved : Rows.RightsPartsSaid :=
  over
#print axioms proved
end Go.Proofs.Ytjilbkioieicbaa.rightsParts

