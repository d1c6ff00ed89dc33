/- The laws of rights, in plain terms: what a deed changes for its author, its receiver and others. -/
import Derived.Test.YtjilbkioieicbaaP7
import Derived.Test.YtjilbkioieicbaaP8
namespace Go.Proofs.Ytjilbkioieicbaa
open Go.Vc Rt
set_option linter.unusedVariables false
set_option linter.unusedSimpArgs false
def heldL (L : List Lot) (k : Int) : List Span := norm (openL (fun l => decide (l.h = k)) L)
def ownedL (L : List Lot) (k : Int) : List Span := norm (openL (fun l => decide (l.o = k)) L)
theorem has_open {p : Lot → Bool} {q : Sta → Bool} {L : List Lot} (hpq : ∀ l, p l = q (stL l)) (h : Ord L) {m n : Int} : Has (norm (openL p L)) m n ↔ ∃ x, sta L m n = some x ∧ x.p = -1 ∧ q x = true := by
  rw [has_norm]
  constructor
  · rintro ⟨s, hs, _, h1⟩
    unfold openL at hs
    obtain ⟨l, hl, rfl⟩ := List.mem_map.1 hs
    obtain ⟨hl, hc⟩ := List.mem_filter.1 hl
    simp only [Bool.and_eq_true, decide_eq_true_eq] at hc
    exact ⟨stL l, sta_some h hl (inLot_iff.2 h1), hc.1, by rw [← hpq]; exact hc.2⟩
  · rintro ⟨x, hx, h1, h2⟩
    obtain ⟨l, hl, hc, rfl⟩ := sta_mem hx
    have hok := h.ok l hl
    unfold lotOk at hok
    refine ⟨l.s, ?_, valid_iff.2 hok, inLot_iff.1 hc⟩
    unfold openL
    exact List.mem_map.2 ⟨l, List.mem_filter.2 ⟨hl, by rw [hpq, h2]; have h1 : l.p = -1 := h1; simp [h1]⟩, rfl⟩
theorem has_held {L : List Lot} (h : Ord L) {k m n : Int} : Has (heldL L k) m n ↔ ∃ x, sta L m n = some x ∧ x.p = -1 ∧ x.h = k := by
  refine (has_open (p := fun l => decide (l.h = k)) (q := fun x => decide (x.h = k)) (fun l => rfl) h).trans ?_
  simp
theorem has_owned {L : List Lot} (h : Ord L) {k m n : Int} : Has (ownedL L k) m n ↔ ∃ x, sta L m n = some x ∧ x.p = -1 ∧ x.o = k := by
  refine (has_open (p := fun l => decide (l.o = k)) (q := fun x => decide (x.o = k)) (fun l => rfl) h).trans ?_
  simp
theorem norm_held (L : List Lot) (k : Int) : norm (heldL L k) = heldL L k := norm_norm _
theorem norm_owned (L : List Lot) (k : Int) : norm (ownedL L k) = ownedL L k := norm_norm _
theorem heldL_len (L : List Lot) (k : Int) : (heldL L k).length ≤ L.length := Nat.le_trans (norm_len _) (openL_len _ _)
theorem ownedL_len (L : List Lot) (k : Int) : (ownedL L k).length ≤ L.length := Nat.le_trans (norm_len _) (openL_len _ _)
theorem held_ext {A B : List Lot} (hA : Ord A) (hB : Ord B) {k : Int} (h : ∀ m n, (∃ x, sta A m n = some x ∧ x.p = -1 ∧ x.h = k) ↔ (∃ x, sta B m n = some x ∧ x.p = -1 ∧ x.h = k)) : heldL A k = heldL B k :=
  NF.ext (norm_nf _) (norm_nf _) fun m n => by
    have h1 := has_held hA (k := k) (m := m) (n := n)
    have h2 := has_held hB (k := k) (m := m) (n := n)
    rw [h1, h2]; exact h m n
theorem owned_ext {A B : List Lot} (hA : Ord A) (hB : Ord B) {k : Int} (h : ∀ m n, (∃ x, sta A m n = some x ∧ x.p = -1 ∧ x.o = k) ↔ (∃ x, sta B m n = some x ∧ x.p = -1 ∧ x.o = k)) : ownedL A k = ownedL B k :=
  NF.ext (norm_nf _) (norm_nf _) fun m n => by
    have h1 := has_owned hA (k := k) (m := m) (n := n)
    have h2 := has_owned hB (k := k) (m := m) (n := n)
    rw [h1, h2]; exact h m n
theorem mayS_zero {x : Sta} {d : Deed} (h : mayS x d = 0) : x.p = -1 ∧ x.h = d.author ∧ (x.o = d.author ∨ d.kind = 3 ∨ (d.kind = 1 ∧ d.who = x.o)) := by
  unfold mayS at h
  by_cases h1 : x.p = -1
  · rw [if_neg (by simpa using h1)] at h
    by_cases h2 : x.o ≠ d.author ∧ x.h ≠ d.author
    · rw [if_pos h2] at h; cases h
    · rw [if_neg h2] at h
      by_cases h3 : x.h = d.author
      · rw [if_neg (by simpa using h3)] at h
        refine ⟨h1, h3, ?_⟩
        by_cases h4 : x.o = d.author
        · exact .inl h4
        · by_cases h5 : d.kind = 3
          · exact .inr (.inl h5)
          · by_cases h6 : d.kind = 1 ∧ d.who = x.o
            · exact .inr (.inr h6)
            · rw [if_pos ⟨h4, h5, by by_cases h7 : d.kind = 1; exact .inr fun e => h6 ⟨h7, e⟩; exact .inl h7⟩] at h; cases h
      · rw [if_pos h3] at h; cases h
  · rw [if_pos h1] at h; cases h
/-- A coin of a deed that is carried out, before and after it. -/
theorem coin_of {F : Int → Int → Option Sta} {d : Deed} (he : errF F d = 0) {m n : Int} (hh : Has d.spans m n) :
    (d.kind = 0 ∧ F m n = none ∧ stepF F d m n = some ⟨d.author, d.author, 0, -1⟩) ∨
    (d.kind ≠ 0 ∧ ∃ x, F m n = some x ∧ x.p = -1 ∧ x.h = d.author ∧ (x.o = d.author ∨ d.kind = 3 ∨ (d.kind = 1 ∧ d.who = x.o)) ∧ stepF F d m n = some (movedS d x)) := by
  have hr := err_right he
  by_cases hk : d.kind = 0
  · refine .inl ⟨hk, ?_, ?_⟩
    · obtain ⟨s, hs, hm, hf⟩ := right_take hr hk
      rw [hs, Has.one] at hh
      cases hx : F m n with
      | none => rfl
      | some x =>
        unfold errF at he
        rw [if_neg (by rw [hr]; simp), if_pos hk, if_pos ⟨n, x, by rw [← hm, hh.1]; exact hx⟩] at he
        cases he
    · unfold stepF; rw [if_pos he, if_pos hh, if_pos hk]
  · obtain ⟨x, hx, hm⟩ := errF_move he hk m n hh
    obtain ⟨h1, h2, h3⟩ := mayS_zero hm
    refine .inr ⟨hk, x, hx, h1, h2, h3, ?_⟩
    unfold stepF; rw [if_pos he, if_pos hh, if_neg hk, hx]; rfl
theorem coin_not {F : Int → Int → Option Sta} {d : Deed} {m n : Int} (hh : ¬ Has d.spans m n) : stepF F d m n = F m n := by
  unfold stepF; rw [if_neg hh]; split <;> rfl
theorem movedS_1 {d : Deed} (h : d.kind = 1) (x : Sta) : movedS d x = ⟨d.who, d.who, 0, x.p⟩ := by unfold movedS; rw [if_pos h]
theorem movedS_2 {d : Deed} (h : d.kind = 2) (x : Sta) : movedS d x = ⟨x.o, d.who, d.til, x.p⟩ := by unfold movedS; rw [if_neg (by omega), if_pos h]
theorem movedS_3 {d : Deed} (h : d.kind = 3) (x : Sta) : movedS d x = ⟨x.o, x.h, x.u, d.mark⟩ := by unfold movedS; rw [if_neg (by omega), if_neg (by omega), if_pos h]
section
variable {L L' : List Lot} {d : Deed}
theorem others_held (h : Ord L) (h' : Ord L') (hs : sta L' = stepF (sta L) d) (he : errF (sta L) d = 0) {k : Int} (h1 : k ≠ d.author) (h2 : k ≠ d.who) : heldL L k = heldL L' k := by
  refine held_ext h h' fun m n => ?_
  have hr := err_right he
  have hmk := (right_parts hr).1
  rw [hs]
  by_cases hh : Has d.spans m n
  · rcases coin_of he hh with ⟨hk, e1, e2⟩ | ⟨hk, x, e1, e2, e3, e4, e5⟩
    · rw [e1, e2]
      constructor
      · rintro ⟨x, hx, _⟩; cases hx
      · rintro ⟨x, hx, _, hx2⟩; cases hx; exact (h1 hx2.symm).elim
    · rw [e1, e5]
      constructor
      · rintro ⟨y, hy, _, hy2⟩; cases hy; exact (h1 (by rw [← hy2, e3])).elim
      · rintro ⟨y, hy, hy1, hy2⟩
        cases hy
        rcases right_kind hr with hk' | hk' | hk' | hk'
        · exact (hk hk').elim
        · rw [movedS_1 hk'] at hy2; exact (h2 hy2.symm).elim
        · rw [movedS_2 hk'] at hy2; exact (h2 hy2.symm).elim
        · rw [movedS_3 hk'] at hy1; simp only at hy1; omega
  · rw [coin_not hh]
theorem others_owned (h : Ord L) (h' : Ord L') (hs : sta L' = stepF (sta L) d) (he : errF (sta L) d = 0) {k : Int} (h1 : k ≠ d.author) (h2 : k ≠ d.who) (h3 : d.kind ≠ 3) : ownedL L k = ownedL L' k := by
  refine owned_ext h h' fun m n => ?_
  have hr := err_right he
  rw [hs]
  by_cases hh : Has d.spans m n
  · rcases coin_of he hh with ⟨hk, e1, e2⟩ | ⟨hk, x, e1, e2, e3, e4, e5⟩
    · rw [e1, e2]
      constructor
      · rintro ⟨x, hx, _⟩; cases hx
      · rintro ⟨x, hx, _, hx2⟩; cases hx; exact (h1 hx2.symm).elim
    · rw [e1, e5]
      constructor
      · rintro ⟨y, hy, _, hy2⟩; cases hy
        rcases e4 with e4 | e4 | e4
        · exact (h1 (by rw [← hy2, e4])).elim
        · exact (h3 e4).elim
        · exact (h2 (by rw [← hy2, e4.2])).elim
      · rintro ⟨y, hy, hy1, hy2⟩
        cases hy
        rcases right_kind hr with hk' | hk' | hk' | hk'
        · exact (hk hk').elim
        · rw [movedS_1 hk'] at hy2; exact (h2 hy2.symm).elim
        · rw [movedS_2 hk'] at hy2
          rcases e4 with e4 | e4 | e4
          · exact (h1 (by rw [← hy2]; exact e4)).elim
          · exact (h3 e4).elim
          · omega
        · exact (h3 hk').elim
  · rw [coin_not hh]
theorem norm_spans (hr : right d = true) : norm d.spans = d.spans := norm_id (normal_nf (right_parts hr).2.2.2.2) (normal_valid (right_parts hr).2.2.2.2)
theorem in_held {A : List Lot} {k : Int} (h : Ord A) (hr : right d = true) (hc : ∀ m n, Has d.spans m n → ∃ x, sta A m n = some x ∧ x.p = -1 ∧ x.h = k) : (minus d.spans (heldL A k)).length = 0 := by
  rw [minus_empty, norm_held, norm_spans hr]
  exact fun m n hh => (has_held h).2 (hc m n hh)
theorem in_owned {A : List Lot} {k : Int} (h : Ord A) (hr : right d = true) (hc : ∀ m n, Has d.spans m n → ∃ x, sta A m n = some x ∧ x.p = -1 ∧ x.o = k) : (minus d.spans (ownedL A k)).length = 0 := by
  rw [minus_empty, norm_owned, norm_spans hr]
  exact fun m n hh => (has_owned h).2 (hc m n hh)
theorem none_held {A : List Lot} {k : Int} (h : Ord A) (hr : right d = true) (hc : ∀ m n, Has d.spans m n → ¬ ∃ x, sta A m n = some x ∧ x.p = -1 ∧ x.h = k) : (common d.spans (heldL A k)).length = 0 := by
  rw [common_empty, norm_held, norm_spans hr]
  exact fun m n hh hx => hc m n hh ((has_held h).1 hx)
theorem took_held (h' : Ord L') (hs : sta L' = stepF (sta L) d) (he : errF (sta L) d = 0) (hk : d.kind = 0) : (minus d.spans (heldL L' d.author)).length = 0 ∧ (minus d.spans (ownedL L' d.author)).length = 0 := by
  have hc : ∀ m n, Has d.spans m n → sta L' m n = some ⟨d.author, d.author, 0, -1⟩ := fun m n hh => by
    rw [hs]
    rcases coin_of he hh with ⟨_, _, e⟩ | ⟨hk', _⟩
    · exact e
    · exact (hk' hk).elim
  exact ⟨in_held h' (err_right he) fun m n hh => ⟨_, hc m n hh, rfl, rfl⟩, in_owned h' (err_right he) fun m n hh => ⟨_, hc m n hh, rfl, rfl⟩⟩
theorem gave_held (h : Ord L) (he : errF (sta L) d = 0) (hk : d.kind ≠ 0) : (minus d.spans (heldL L d.author)).length = 0 := by
  refine in_held h (err_right he) fun m n hh => ?_
  rcases coin_of he hh with ⟨hk', _⟩ | ⟨_, x, e1, e2, e3, _⟩
  · exact (hk hk').elim
  · exact ⟨x, e1, e2, e3⟩
theorem gone_held (h' : Ord L') (hs : sta L' = stepF (sta L) d) (he : errF (sta L) d = 0) (hk : d.kind ≠ 0) : (common d.spans (heldL L' d.author)).length = 0 := by
  have hr := err_right he
  have hmk := (right_parts hr).1
  refine none_held h' hr fun m n hh => ?_
  rw [hs]
  rcases coin_of he hh with ⟨hk', _⟩ | ⟨_, x, e1, e2, e3, e4, e5⟩
  · exact (hk hk').elim
  · rw [e5]
    rintro ⟨y, hy, hy1, hy2⟩
    cases hy
    rcases right_kind hr with hk' | hk' | hk' | hk'
    · exact (hk hk').elim
    · rw [movedS_1 hk'] at hy2; exact (right_who hr (.inl hk')).2 hy2
    · rw [movedS_2 hk'] at hy2; exact (right_who hr (.inr hk')).2 hy2
    · rw [movedS_3 hk'] at hy1; simp only at hy1; omega
theorem got_held (h' : Ord L') (hs : sta L' = stepF (sta L) d) (he : errF (sta L) d = 0) (hk : d.kind ≠ 0) (hk3 : d.kind ≠ 3) : (minus d.spans (heldL L' d.who)).length = 0 := by
  have hr := err_right he
  refine in_held h' hr fun m n hh => ?_
  rw [hs]
  rcases coin_of he hh with ⟨hk', _⟩ | ⟨_, x, e1, e2, e3, e4, e5⟩
  · exact (hk hk').elim
  · refine ⟨_, e5, ?_⟩
    rcases right_kind hr with hk' | hk' | hk' | hk'
    · exact (hk hk').elim
    · rw [movedS_1 hk']; exact ⟨e2, rfl⟩
    · rw [movedS_2 hk']; exact ⟨e2, rfl⟩
    · exact (hk3 hk').elim
theorem got_owned (h' : Ord L') (hs : sta L' = stepF (sta L) d) (he : errF (sta L) d = 0) (hk : d.kind = 1) : (minus d.spans (ownedL L' d.who)).length = 0 := by
  have hr := err_right he
  refine in_owned h' hr fun m n hh => ?_
  rw [hs]
  rcases coin_of he hh with ⟨hk', _⟩ | ⟨_, x, e1, e2, e3, e4, e5⟩
  · omega
  · exact ⟨_, e5, by rw [movedS_1 hk]; exact ⟨e2, rfl⟩⟩
theorem lent_owned (h' : Ord L') (hs : sta L' = stepF (sta L) d) (he : errF (sta L) d = 0) (hk : d.kind = 2) : (minus d.spans (ownedL L' d.author)).length = 0 := by
  have hr := err_right he
  refine in_owned h' hr fun m n hh => ?_
  rw [hs]
  rcases coin_of he hh with ⟨hk', _⟩ | ⟨_, x, e1, e2, e3, e4, e5⟩
  · omega
  · refine ⟨_, e5, ?_⟩
    rw [movedS_2 hk]
    refine ⟨e2, ?_⟩
    rcases e4 with e4 | e4 | e4
    · exact e4
    · omega
    · omega
end
/-- What the deeds before, the deed and its error have to do with each other. -/
theorem lots_at {l : List Deed} (hs : ∀ d ∈ l, d.spans.length ≤ 8) {i : Nat} {d : Deed} (hd : l[i]? = some d) : lotsK (l.take (i + 1)) = ((doB (lotsK (l.take i)).1 d).1, (lotsK (l.take i)).2 ++ [(doB (lotsK (l.take i)).1 d).2]) ∧ (lotsK l).2[i]? = some (doB (lotsK (l.take i)).1 d).2 := by
  have e : lotsK (l.take (i + 1)) = ((doB (lotsK (l.take i)).1 d).1, (lotsK (l.take i)).2 ++ [(doB (lotsK (l.take i)).1 d).2]) := by
    rw [List.take_add_one, hd]; exact lotsK_snoc _ _
  refine ⟨e, ?_⟩
  have key : ∀ (r : List Deed) (p : List Lot × List Int), ∃ q, (r.foldl (fun p d => ((doB p.1 d).1, p.2 ++ [(doB p.1 d).2])) p).2 = p.2 ++ q := by
    intro r
    induction r with
    | nil => intro p; exact ⟨[], by simp⟩
    | cons d r ih =>
      intro p
      obtain ⟨q, hq⟩ := ih ((doB p.1 d).1, p.2 ++ [(doB p.1 d).2])
      exact ⟨[(doB p.1 d).2] ++ q, by rw [List.foldl_cons, hq]; simp⟩
  obtain ⟨q, hq⟩ := key (l.drop (i + 1)) (lotsK (l.take (i + 1)))
  have e2 : (lotsK l).2 = (lotsK (l.take (i + 1))).2 ++ q := by
    rw [← hq]
    conv => lhs; rw [← List.take_append_drop (i + 1) l]
    unfold lotsK
    rw [List.foldl_append]
  have hi := (List.getElem?_eq_some_iff.1 hd).1
  have hl := lotsK_errs (l.take i)
  simp only [List.length_take] at hl
  rw [e2, e]
  simp only
  rw [List.getElem?_append_left (by simp; omega), List.getElem?_append_right (by omega)]
  simp [show i - (lotsK (l.take i)).2.length = 0 by omega]
end Go.Proofs.Ytjilbkioieicbaa
