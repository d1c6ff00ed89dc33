/- One deed, as a function of the coins. -/
import Derived.Test.YtjilbkioieicbaaP4
namespace Go.Proofs.Ytjilbkioieicbaa
open Go.Vc Rt
open Classical in
/-- The worst of a set of errors. -/
noncomputable def errSet (P : Int → Prop) : Int := if P 29 then 29 else if P 27 then 27 else if P 28 then 28 else 0
set_option linter.unusedVariables false
set_option linter.unusedSimpArgs false
theorem errSet_congr {P Q : Int → Prop} (h : ∀ c, P c ↔ Q c) : errSet P = errSet Q := by
  have : P = Q := funext fun c => propext (h c)
  rw [this]
theorem errSet_zero {P : Int → Prop} (h : errSet P = 0) : ¬ P 29 ∧ ¬ P 27 ∧ ¬ P 28 := by
  unfold errSet at h
  by_cases a : P 29
  · simp [a] at h
  by_cases b : P 27
  · simp [a, b] at h
  by_cases c : P 28
  · simp [a, b, c] at h
  exact ⟨a, b, c⟩
theorem errSet_of_zero {P : Int → Prop} (h1 : ¬ P 29) (h2 : ¬ P 27) (h3 : ¬ P 28) : errSet P = 0 := by unfold errSet; rw [if_neg h1, if_neg h2, if_neg h3]
theorem errSet_worse {a b : Int} {R : Int → Prop} : errSet (fun c => c = worse a b ∨ R c) = errSet (fun c => c = a ∨ c = b ∨ R c) := by
  have e29 : (29 = worse a b) ↔ (29 = a ∨ 29 = b) := by
    unfold worse; split
    · rename_i h; constructor
      · intro _; omega
      · intro _; rfl
    · rename_i h
      constructor
      · intro h'; split at h'
        · omega
        · split at h' <;> omega
      · intro h'; omega
  by_cases h29 : 29 = a ∨ 29 = b
  · have l : (29 = worse a b ∨ R 29) := .inl (e29.2 h29)
    have r : (29 = a ∨ 29 = b ∨ R 29) := by rcases h29 with h | h; exact .inl h; exact .inr (.inl h)
    unfold errSet; rw [if_pos l, if_pos r]
  · by_cases r29 : R 29
    · unfold errSet; rw [if_pos (.inr r29), if_pos (.inr (.inr r29))]
    · have l : ¬ (29 = worse a b ∨ R 29) := fun h => h.elim (fun h => h29 (e29.1 h)) r29
      have r : ¬ (29 = a ∨ 29 = b ∨ R 29) := fun h => h.elim (fun h => h29 (.inl h)) (fun h => h.elim (fun h => h29 (.inr h)) r29)
      unfold errSet
      rw [if_neg l, if_neg r]
      have w : worse a b = if a = 27 ∨ b = 27 then 27 else if a = 28 ∨ b = 28 then 28 else 0 := by unfold worse; rw [if_neg (by omega)]
      have e27 : (27 = worse a b) ↔ (27 = a ∨ 27 = b) := by
        rw [w]; split
        · rename_i h; constructor
          · intro _; omega
          · intro _; rfl
        · rename_i h; constructor
          · intro h'; split at h' <;> omega
          · intro h'; omega
      by_cases h27 : 27 = a ∨ 27 = b
      · have l7 : (27 = worse a b ∨ R 27) := .inl (e27.2 h27)
        have r7 : (27 = a ∨ 27 = b ∨ R 27) := by rcases h27 with h | h; exact .inl h; exact .inr (.inl h)
        rw [if_pos l7, if_pos r7]
      · by_cases r27 : R 27
        · have l7 : (27 = worse a b ∨ R 27) := .inr r27
          have r7 : (27 = a ∨ 27 = b ∨ R 27) := .inr (.inr r27)
          rw [if_pos l7, if_pos r7]
        · have l7 : ¬ (27 = worse a b ∨ R 27) := fun h => h.elim (fun h => h27 (e27.1 h)) r27
          have r7 : ¬ (27 = a ∨ 27 = b ∨ R 27) := fun h => h.elim (fun h => h27 (.inl h)) (fun h => h.elim (fun h => h27 (.inr h)) r27)
          rw [if_neg l7, if_neg r7]
          have w2 : worse a b = if a = 28 ∨ b = 28 then 28 else 0 := by rw [w, if_neg (by omega)]
          have e28 : (28 = worse a b) ↔ (28 = a ∨ 28 = b) := by
            rw [w2]; split
            · rename_i h; constructor
              · intro _; omega
              · intro _; rfl
            · rename_i h; constructor
              · intro h'; omega
              · intro h'; omega
          have : (28 = worse a b ∨ R 28) ↔ (28 = a ∨ 28 = b ∨ R 28) := by rw [e28, or_assoc]
          by_cases h28 : (28 = a ∨ 28 = b ∨ R 28)
          · have l8 := this.2 h28
            rw [if_pos l8, if_pos h28]
          · have l8 : ¬ (28 = worse a b ∨ R 28) := fun h => h28 (this.1 h)
            rw [if_neg l8, if_neg h28]
theorem errSet_fold {d : Deed} {R : Int → Prop} : ∀ {ls : List Lot} {e : Int}, errSet (fun c => c = ls.foldl (fun e l => worse e (may l d)) e ∨ R c) = errSet (fun c => c = e ∨ (∃ l ∈ ls, c = may l d) ∨ R c)
  | [], e => errSet_congr fun c => by simp
  | l :: ls, e => by
    rw [List.foldl_cons, errSet_fold, errSet_worse]
    refine errSet_congr fun c => ?_
    simp only [List.mem_cons, exists_eq_or_imp]
    constructor
    · rintro (h | h | h | h)
      · exact .inl h
      · exact .inr (.inl (.inl h))
      · exact .inr (.inl (.inr h))
      · exact .inr (.inr h)
    · rintro (h | (h | h) | h)
      · exact .inl h
      · exact .inr (.inl h)
      · exact .inr (.inr (.inl h))
      · exact .inr (.inr (.inr h))
def errIs (e : Int) : Prop := e = 0 ∨ e = 29 ∨ e = 27 ∨ e = 28
theorem worse_is {a b : Int} : errIs (worse a b) := by
  unfold worse errIs; split
  · simp
  · split
    · simp
    · split <;> simp
theorem fold_is {d : Deed} : ∀ {ls : List Lot} {e : Int}, errIs e → errIs (ls.foldl (fun e l => worse e (may l d)) e)
  | [], e, h => h
  | l :: ls, e, h => fold_is (ls := ls) worse_is
theorem errSet_one {e : Int} (h : errIs e) : errSet (fun c => c = e) = e := by
  unfold errSet
  rcases h with rfl | rfl | rfl | rfl <;> simp
/-! ### What may be done with a coin, and what becomes of it -/
def mayS (x : Sta) (d : Deed) : Int :=
  if x.p ≠ -1 then 29
  else if x.o ≠ d.author ∧ x.h ≠ d.author then 27
  else if x.h ≠ d.author then 28
  else if x.o ≠ d.author ∧ d.kind ≠ 3 ∧ (d.kind ≠ 1 ∨ d.who ≠ x.o) then 28
  else 0
theorem may_st (l : Lot) (d : Deed) : may l d = mayS (stL l) d := rfl
theorem mayS_is (x : Sta) (d : Deed) : errIs (mayS x d) := by
  unfold mayS errIs; split
  · simp
  · split
    · simp
    · split
      · simp
      · split <;> simp
def movedS (d : Deed) (x : Sta) : Sta :=
  if d.kind = 1 then ⟨d.who, d.who, 0, x.p⟩ else if d.kind = 2 then ⟨x.o, d.who, d.til, x.p⟩ else if d.kind = 3 then ⟨x.o, x.h, x.u, d.mark⟩ else x
theorem moved_st (d : Deed) (l : Lot) : stL (movedL d l) = movedS d (stL l) := by
  unfold movedL movedS; split
  · rfl
  · split
    · rfl
    · split <;> rfl
theorem moved_twice (d : Deed) (x : Sta) : movedS d (movedS d x) = movedS d x := by
  unfold movedS; split
  · rfl
  · split
    · rfl
    · split <;> rfl
theorem inLot_s {m n : Int} {a b : Lot} (h : a.s = b.s) : inLot m n a = inLot m n b := by unfold inLot; rw [h]
/-- The lots of a span are changed: so are its coins. -/
theorem sta_upd {d : Deed} {s : Span} : ∀ {L : List Lot}, NoCut L s.m s.f → NoCut L s.m s.t → ∀ {m n : Int}, sta (L.map (fun l => if inSp s l then movedL d l else l)) m n = if s.m = m ∧ s.f ≤ n ∧ n < s.t then (sta L m n).map (movedS d) else sta L m n
  | [], _, _, m, n => by simp [sta_nil]
  | l :: L, h1, h2, m, n => by
    have ih := sta_upd (d := d) (s := s) (L := L) (fun x hx => h1 x (List.mem_cons_of_mem _ hx)) (fun x hx => h2 x (List.mem_cons_of_mem _ hx)) (m := m) (n := n)
    rw [List.map_cons, sta_cons, sta_cons, ih]
    have hs : inLot m n (if inSp s l then movedL d l else l) = inLot m n l := by
      split
      · exact inLot_s (movedL_s d l)
      · rfl
    rw [hs]
    by_cases hl : inLot m n l = true
    · rw [if_pos hl, if_pos hl]
      by_cases hc : s.m = m ∧ s.f ≤ n ∧ n < s.t
      · have : inSp s l = true := nocut_in h1 h2 (List.mem_cons_self ..) (n := n) (by rw [hc.1]; exact hl) hc.2
        rw [if_pos hc, this]
        simp [moved_st]
      · have : inSp s l = false := by
          cases hq : inSp s l
          · rfl
          · rw [inSp_iff] at hq; rw [inLot_iff] at hl; exact (hc (by omega)).elim
        rw [if_neg hc, this]; rfl
    · rw [if_neg hl, if_neg hl]
/-- No coin lacks one before it. -/
def FullF (F : Int → Int → Option Sta) : Prop := ∀ m n k, 0 ≤ k → k ≤ n → (∃ x, F m n = some x) → ∃ x, F m k = some x
def allIn (F : Int → Int → Option Sta) (s : Span) : Prop := ∀ n, s.f ≤ n → n < s.t → ∃ x, F s.m n = some x
theorem cutB_iff {L : List Lot} {s : Span} (h : Ord L) (hf : FullF (sta L)) (hs : 0 ≤ s.f ∧ s.f < s.t) : cutB s L = true ↔ allIn (sta L) s := by
  constructor
  · intro hc n h1 h2
    have := (cutB_cov hc).2
    rw [sta_cov] at this
    exact hf s.m (s.t - 1) n (by omega) (by omega) this
  · intro ha
    exact cutB_of h (sta_cov.2 (ha _ (Int.le_refl _) hs.2)) (sta_cov.2 (ha _ (by omega) (by omega))) hs.2
theorem filter_coins {L : List Lot} {s : Span} {d : Deed} {c : Int} (h : Ord L) (hs : s.f < s.t) : (∃ l ∈ (cutAt s L).filter (inSp s), c = may l d) ↔ ∃ n x, (s.f ≤ n ∧ n < s.t) ∧ sta L s.m n = some x ∧ mayS x d = c := by
  obtain ⟨n1, n2⟩ := cut_nocut (s := s) h
  have ho := cutAt_ord (s := s) h
  constructor
  · rintro ⟨l, hl, rfl⟩
    obtain ⟨hl, hp⟩ := List.mem_filter.1 hl
    have hk := ho.ok l hl
    rw [inSp_iff] at hp
    unfold lotOk at hk
    refine ⟨l.s.f, stL l, ⟨hp.2.1, by omega⟩, ?_, (may_st l d).symm⟩
    rw [← sta_cut (s := s), ← hp.1]
    exact sta_first ho hl
  · rintro ⟨n, x, hn, hx, rfl⟩
    rw [← sta_cut (s := s)] at hx
    obtain ⟨l, hl, hc, rfl⟩ := sta_mem hx
    exact ⟨l, List.mem_filter.2 ⟨hl, nocut_in n1 n2 hl hc hn⟩, (may_st l d).symm⟩
theorem mvRun_form {d : Deed} : ∀ {l : List Span} {L : List Lot} {e : Int}, Ord L → FullF (sta L) → (∀ s ∈ l, 0 ≤ s.f ∧ s.f < s.t) → errIs e →
    (∀ m n, sta (mvRun d l L e).1 m n = sta L m n) ∧ ((mvRun d l L e).2.2 = true ↔ ∀ s ∈ l, allIn (sta L) s) ∧
    ((mvRun d l L e).2.2 = true → (mvRun d l L e).2.1 = errSet (fun c => c = e ∨ ∃ s ∈ l, ∃ n x, (s.f ≤ n ∧ n < s.t) ∧ sta L s.m n = some x ∧ mayS x d = c))
  | [], L, e, h, hf, hs, he => by
    refine ⟨fun _ _ => rfl, by simp [mvRun], fun _ => ?_⟩
    have : errSet (fun c => c = e ∨ ∃ s ∈ ([] : List Span), ∃ n x, (s.f ≤ n ∧ n < s.t) ∧ sta L s.m n = some x ∧ mayS x d = c) = errSet (fun c => c = e) := errSet_congr fun c => by simp
    rw [this, errSet_one he]; rfl
  | s :: l, L, e, h, hf, hs, he => by
    have hs0 := hs s (List.mem_cons_self ..)
    have hst : ∀ m n, sta (cutAt s L) m n = sta L m n := fun m n => sta_cut
    have hF : sta (cutAt s L) = sta L := by funext m n; exact sta_cut
    simp only [mvRun]
    by_cases hb : cutB s L = true
    · rw [if_pos hb]
      obtain ⟨f1, f2⟩ := cut_form h hb hs0.2 id
      obtain ⟨i1, i2, i3⟩ := mvRun_form (d := d) (l := l) (L := cutAt s L) (e := errsK (cutAt s L) d (cutI s L).toNat (cutK s L + 1).toNat e) (cutAt_ord h) (by rw [hF]; exact hf) (fun x hx => hs x (List.mem_cons_of_mem _ hx)) (fold_is he)
      rw [hF] at i1 i2 i3
      refine ⟨i1, ?_, fun hok => ?_⟩
      · rw [i2, List.forall_mem_cons]
        exact ⟨fun h' => ⟨(cutB_iff h hf hs0).1 hb, h'⟩, fun h' => h'.2⟩
      · rw [i3 hok]
        unfold errsK
        rw [f1, errSet_fold]
        refine errSet_congr fun c => ?_
        rw [filter_coins h hs0.2]
        simp only [List.mem_cons, exists_eq_or_imp]
    · rw [if_neg hb]
      refine ⟨hst, ?_, fun hok => by cases hok⟩
      constructor
      · intro h'; cases h'
      · intro h'
        exact (hb ((cutB_iff h hf hs0).2 (h' s (List.mem_cons_self ..)))).elim
theorem mv2_form {d : Deed} : ∀ {l : List Span} {L : List Lot}, Ord L → (∀ s ∈ l, Cov L s.m s.f ∧ Cov L s.m (s.t - 1) ∧ s.f < s.t) → (∀ m n, Has l m n → sta (mv2 d l L) m n = (sta L m n).map (movedS d)) ∧ ∀ m n, ¬ Has l m n → sta (mv2 d l L) m n = sta L m n
  | [], L, h, _ => ⟨fun m n hh => (Has.nil hh).elim, fun m n _ => rfl⟩
  | s :: l, L, h, hc => by
    obtain ⟨c1, c2, c3⟩ := hc s (List.mem_cons_self ..)
    have hb := cutB_of h c1 c2 c3
    obtain ⟨f1, f2⟩ := cut_form h hb c3 (movedL d)
    obtain ⟨n1, n2⟩ := cut_nocut (s := s) h
    have hsp : ((cutAt s L).map (fun l => if inSp s l then movedL d l else l)).map (·.s) = (cutAt s L).map (·.s) := by
      rw [List.map_map]
      refine List.map_congr_left fun l _ => ?_
      simp only [Function.comp]
      split
      · exact movedL_s d l
      · rfl
    have ho := ord_congr hsp.symm (cutAt_ord (s := s) h)
    have hcv : ∀ m n, Cov ((cutAt s L).map (fun l => if inSp s l then movedL d l else l)) m n ↔ Cov L m n := fun m n => (cov_congr hsp).trans cutAt_cov
    obtain ⟨k1, k2⟩ := mv2_form (d := d) (l := l) ho (fun x hx => by rw [hcv, hcv]; exact hc x (List.mem_cons_of_mem _ hx))
    have hu := fun m n => sta_upd (d := d) (s := s) n1 n2 (m := m) (n := n)
    simp only [mv2]
    rw [f2]
    refine ⟨fun m n hh => ?_, fun m n hh => ?_⟩
    · rw [Has.cons] at hh
      by_cases hl : Has l m n
      · rw [k1 m n hl, hu, sta_cut]
        split
        · cases sta L m n with
          | none => rfl
          | some x => simp [moved_twice]
        · rfl
      · rw [k2 m n hl, hu, sta_cut, if_pos (hh.resolve_right hl)]
    · rw [Has.cons] at hh
      rw [k2 m n (fun h' => hh (.inr h')), hu, sta_cut, if_neg (fun h' => hh (.inl h'))]
end Go.Proofs.Ytjilbkioieicbaa
