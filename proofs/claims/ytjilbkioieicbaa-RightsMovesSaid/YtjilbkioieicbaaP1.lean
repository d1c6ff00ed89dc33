/- Normal forms of spans: the coins say which. -/
import Derived.Test.YtjilbkioieicbaaP0
namespace Rt
set_option linter.unusedVariables false
/-- A coin is in spans. -/
def Has (l : List Span) (m n : Int) : Prop := ∃ s ∈ l, s.m = m ∧ s.f ≤ n ∧ n < s.t
/-- One lies before the other, with a gap or of another receipt. -/
def gap (a b : Span) : Prop := a.m < b.m ∨ (a.m = b.m ∧ a.t < b.f)
structure NF (l : List Span) : Prop where
  ne : ∀ s ∈ l, s.f < s.t
  ord : l.Pairwise gap
theorem Has.cons {s : Span} {l : List Span} {m n : Int} : Has (s :: l) m n ↔ (s.m = m ∧ s.f ≤ n ∧ n < s.t) ∨ Has l m n := by
  unfold Has
  constructor
  · rintro ⟨x, hx, h⟩
    rcases List.mem_cons.1 hx with rfl | hx
    · exact .inl h
    · exact .inr ⟨x, hx, h⟩
  · rintro (h | ⟨x, hx, h⟩)
    · exact ⟨s, List.mem_cons_self .., h⟩
    · exact ⟨x, List.mem_cons_of_mem _ hx, h⟩
theorem Has.append {a b : List Span} {m n : Int} : Has (a ++ b) m n ↔ Has a m n ∨ Has b m n := by
  unfold Has
  constructor
  · rintro ⟨x, hx, h⟩
    rcases List.mem_append.1 hx with hx | hx
    · exact .inl ⟨x, hx, h⟩
    · exact .inr ⟨x, hx, h⟩
  · rintro (⟨x, hx, h⟩ | ⟨x, hx, h⟩)
    · exact ⟨x, List.mem_append.2 (.inl hx), h⟩
    · exact ⟨x, List.mem_append.2 (.inr hx), h⟩
theorem Has.nil {m n : Int} : ¬ Has [] m n := fun ⟨x, hx, _⟩ => by cases hx
theorem NF.tail {s : Span} {l : List Span} (h : NF (s :: l)) : NF l := ⟨fun x hx => h.ne x (List.mem_cons_of_mem _ hx), (List.pairwise_cons.1 h.ord).2⟩
/-- In a normal form the first span's first coin comes first; the coin after its last one is not in it. -/
theorem NF.first {s : Span} {l : List Span} (h : NF (s :: l)) {m n : Int} (hh : Has (s :: l) m n) : s.m < m ∨ (s.m = m ∧ s.f ≤ n) := by
  rcases Has.cons.1 hh with ⟨h1, h2, h3⟩ | ⟨x, hx, h1, h2, h3⟩
  · exact .inr ⟨h1, h2⟩
  · have := (List.pairwise_cons.1 h.ord).1 x hx
    have := h.ne s (List.mem_cons_self ..)
    have := h.ne x (List.mem_cons_of_mem _ hx)
    unfold gap at *
    omega
theorem NF.rest {s : Span} {l : List Span} (h : NF (s :: l)) {m n : Int} (hh : Has l m n) : s.m < m ∨ (s.m = m ∧ s.t < n) := by
  obtain ⟨x, hx, h1, h2, h3⟩ := hh
  have := (List.pairwise_cons.1 h.ord).1 x hx
  unfold gap at *
  omega
theorem NF.ext : ∀ {a b : List Span}, NF a → NF b → (∀ m n, Has a m n ↔ Has b m n) → a = b
  | [], [], _, _, _ => rfl
  | [], y :: b, _, hb, h => by
    have := hb.ne y (List.mem_cons_self ..)
    exact (Has.nil ((h y.m y.f).2 (Has.cons.2 (.inl ⟨rfl, by omega, by omega⟩)))).elim
  | x :: a, [], ha, _, h => by
    have := ha.ne x (List.mem_cons_self ..)
    exact (Has.nil ((h x.m x.f).1 (Has.cons.2 (.inl ⟨rfl, by omega, by omega⟩)))).elim
  | x :: a, y :: b, ha, hb, h => by
    have hx := ha.ne x (List.mem_cons_self ..)
    have hy := hb.ne y (List.mem_cons_self ..)
    have h1 := hb.first ((h x.m x.f).1 (Has.cons.2 (.inl ⟨rfl, by omega, by omega⟩)))
    have h2 := ha.first ((h y.m y.f).2 (Has.cons.2 (.inl ⟨rfl, by omega, by omega⟩)))
    have em : x.m = y.m := by omega
    have ef : x.f = y.f := by omega
    have et : x.t = y.t := by
      rcases Int.lt_trichotomy x.t y.t with hlt | he | hgt
      · have hh := (h x.m x.t).2 (Has.cons.2 (.inl ⟨em.symm, by omega, hlt⟩))
        rcases Has.cons.1 hh with h3 | h3
        · omega
        · have := ha.rest h3; omega
      · exact he
      · have hh := (h y.m y.t).1 (Has.cons.2 (.inl ⟨em, by omega, hgt⟩))
        rcases Has.cons.1 hh with h3 | h3
        · omega
        · have := hb.rest h3; omega
    have e : x = y := Span.ext' em ef et
    subst e
    rw [NF.ext ha.tail hb.tail fun m n => ?_]
    constructor
    · intro hh
      have h3 := ha.rest hh
      rcases Has.cons.1 ((h m n).1 (Has.cons.2 (.inr hh))) with h4 | h4
      · omega
      · exact h4
    · intro hh
      have h3 := hb.rest hh
      rcases Has.cons.1 ((h m n).2 (Has.cons.2 (.inr hh))) with h4 | h4
      · omega
      · exact h4
/-! ### Joining spans in order -/
def le2 (a b : Span) : Prop := a.m < b.m ∨ (a.m = b.m ∧ a.f ≤ b.f)
theorem join_snoc (out : List Span) (r s : Span) : join (out ++ [r]) s = if r.m = s.m ∧ s.f ≤ r.t then out ++ [⟨r.m, r.f, max r.t s.t⟩] else out ++ [r] ++ [s] := by
  unfold join
  simp [List.getLast?_append]
theorem join_spec {out : List Span} {s : Span} (h : NF out) (hs : s.f < s.t) (hle : ∀ x ∈ out, le2 x s) : NF (join out s) ∧ (∀ m n, Has (join out s) m n ↔ Has out m n ∨ (s.m = m ∧ s.f ≤ n ∧ n < s.t)) ∧ ∀ x ∈ join out s, ∀ y, (∀ z ∈ out, le2 z y) → le2 s y → le2 x y := by
  rcases List.eq_nil_or_concat out with rfl | ⟨o, r, rfl⟩
  · have e : join [] s = [s] := rfl
    rw [e]
    refine ⟨⟨fun x hx => by simp at hx; subst hx; exact hs, by simp⟩, fun m n => ?_, fun x hx y _ hy => by simp at hx; subst hx; exact hy⟩
    rw [Has.cons]; constructor
    · rintro (h | h)
      · exact .inr h
      · exact (Has.nil h).elim
    · rintro (h | h)
      · exact (Has.nil h).elim
      · exact .inl h
  · simp only [List.concat_eq_append] at *
    rw [join_snoc]
    have hr := h.ne r (by simp)
    have hrs := hle r (by simp)
    obtain ⟨h1, h2, h3⟩ := List.pairwise_append.1 h.ord
    split
    · rename_i hc
      refine ⟨⟨fun x hx => ?_, List.pairwise_append.2 ⟨h1, by simp, fun x hx y hy => ?_⟩⟩, fun m n => ?_, fun x hx y hz hy => ?_⟩
      · rcases List.mem_append.1 hx with hx | hx
        · exact h.ne x (by simp [hx])
        · simp at hx; subst hx; simp only; omega
      · simp at hy; subst hy
        have := h3 x hx r (by simp)
        unfold gap at *; simp only; exact this
      · rw [Has.append, Has.append, Has.cons, Has.cons]
        unfold le2 at hrs
        simp only
        constructor
        · rintro (h4 | h4 | h4)
          · exact .inl (.inl h4)
          · by_cases hn : n < r.t
            · exact .inl (.inr (.inl ⟨h4.1, h4.2.1, hn⟩))
            · exact .inr ⟨by omega, by omega, by omega⟩
          · exact (Has.nil h4).elim
        · rintro ((h4 | h4 | h4) | h4)
          · exact .inl h4
          · exact .inr (.inl ⟨h4.1, h4.2.1, by omega⟩)
          · exact (Has.nil h4).elim
          · exact .inr (.inl ⟨by omega, by omega, by omega⟩)
      · rcases List.mem_append.1 hx with hx | hx
        · exact hz x (by simp [hx])
        · simp at hx; subst hx; have := hz r (by simp); unfold le2 at *; simp only; exact this
    · rename_i hc
      refine ⟨⟨fun x hx => ?_, List.pairwise_append.2 ⟨h.ord, by simp, fun x hx y hy => ?_⟩⟩, fun m n => ?_, fun x hx y hz hy => ?_⟩
      · rcases List.mem_append.1 hx with hx | hx
        · exact h.ne x hx
        · simp at hx; subst hx; exact hs
      · simp at hy; subst hy
        unfold le2 at hrs
        have hgr : gap r y := by unfold gap; omega
        rcases List.mem_append.1 hx with hx | hx
        · have := h3 x hx r (by simp)
          unfold gap at *; omega
        · simp at hx; subst hx; exact hgr
      · rw [Has.append, Has.cons]
        constructor
        · rintro (h4 | h4 | h4)
          · exact .inl h4
          · exact .inr h4
          · exact (Has.nil h4).elim
        · rintro (h4 | h4)
          · exact .inl h4
          · exact .inr (.inl h4)
      · rcases List.mem_append.1 hx with hx | hx
        · exact hz x hx
        · simp at hx; subst hx; exact hy
theorem joins_spec : ∀ {l out : List Span}, NF out → (∀ s ∈ l, s.f < s.t) → l.Pairwise le2 → (∀ x ∈ out, ∀ s ∈ l, le2 x s) → NF (l.foldl join out) ∧ ∀ m n, Has (l.foldl join out) m n ↔ Has out m n ∨ Has l m n
  | [], out, h, _, _, _ => ⟨h, fun m n => ⟨fun h => .inl h, fun h => h.elim id fun h => (Has.nil h).elim⟩⟩
  | s :: l, out, h, hn, hp, hle => by
    obtain ⟨p1, p2⟩ := List.pairwise_cons.1 hp
    obtain ⟨j1, j2, j3⟩ := join_spec h (hn s (List.mem_cons_self ..)) fun x hx => hle x hx s (List.mem_cons_self ..)
    obtain ⟨k1, k2⟩ := joins_spec (l := l) j1 (fun x hx => hn x (List.mem_cons_of_mem _ hx)) p2 fun x hx y hy => j3 x hx y (fun z hz => hle z hz y (List.mem_cons_of_mem _ hy)) (p1 y hy)
    refine ⟨k1, fun m n => ?_⟩
    rw [List.foldl_cons, k2, j2, Has.cons, or_assoc]
theorem joinAll_spec {l : List Span} (hn : ∀ s ∈ l, s.f < s.t) (hp : l.Pairwise le2) : NF (joinAll l) ∧ ∀ m n, Has (joinAll l) m n ↔ Has l m n := by
  obtain ⟨h1, h2⟩ := joins_spec (out := []) ⟨fun s hs => (by cases hs), .nil⟩ hn hp fun x hx => by cases hx
  exact ⟨h1, fun m n => (h2 m n).trans ⟨fun h => h.elim (fun h => (Has.nil h).elim) id, .inr⟩⟩
theorem Has.perm {a b : List Span} (h : a.Perm b) {m n : Int} : Has a m n ↔ Has b m n :=
  ⟨fun ⟨x, hx, h'⟩ => ⟨x, h.subset hx, h'⟩, fun ⟨x, hx, h'⟩ => ⟨x, h.symm.subset hx, h'⟩⟩
theorem leS_iff {a b : Span} : leS a b = true ↔ le2 a b := by unfold leS le2; simp
theorem insS_perm (s : Span) : ∀ l, (insS s l).Perm (s :: l)
  | [] => .refl _
  | x :: r => by
    simp only [insS]
    split
    · exact .refl _
    · exact ((insS_perm s r).cons x).trans (.swap s x r)
theorem isort_perm : ∀ l, (isort l).Perm l
  | [] => .refl _
  | x :: r => (insS_perm x _).trans ((isort_perm r).cons x)
theorem insS_sorted {s : Span} : ∀ {l : List Span}, l.Pairwise le2 → (insS s l).Pairwise le2
  | [], _ => by simp [insS]
  | x :: r, h => by
    obtain ⟨h1, h2⟩ := List.pairwise_cons.1 h
    simp only [insS]
    split
    · rename_i hc
      rw [leS_iff] at hc
      refine List.pairwise_cons.2 ⟨fun y hy => ?_, h⟩
      rcases List.mem_cons.1 hy with rfl | hy
      · exact hc
      · have := h1 y hy; unfold le2 at *; omega
    · rename_i hc
      rw [leS_iff] at hc
      refine List.pairwise_cons.2 ⟨fun y hy => ?_, insS_sorted h2⟩
      rcases List.mem_cons.1 ((insS_perm s r).subset hy) with rfl | hy
      · unfold le2 at *; omega
      · exact h1 y hy
theorem isort_sorted : ∀ l, (isort l).Pairwise le2
  | [] => .nil
  | x :: r => insS_sorted (isort_sorted r)
theorem valid_lt {s : Span} (h : valid s = true) : s.f < s.t := by unfold valid isMark at h; simp at h; omega
/-- The normal form does not depend on how equal spans were put in order. -/
theorem norm_of_sorted {l ys : List Span} (hp : ys.Perm (l.filter valid)) (hs : ys.Pairwise le2) : joinAll ys = norm l := by
  have hv : ∀ s ∈ l.filter valid, s.f < s.t := fun s hs => valid_lt (List.mem_filter.1 hs).2
  obtain ⟨a1, a2⟩ := joinAll_spec (l := ys) (fun s h => hv s (hp.subset h)) hs
  obtain ⟨b1, b2⟩ := joinAll_spec (l := isort (l.filter valid)) (fun s h => hv s ((isort_perm _).subset h)) (isort_sorted _)
  exact NF.ext a1 b1 fun m n => by unfold norm; rw [a2, b2, Has.perm hp, Has.perm (isort_perm _)]
theorem norm_spec (l : List Span) : NF (norm l) ∧ ∀ m n, Has (norm l) m n ↔ Has (l.filter valid) m n := by
  obtain ⟨b1, b2⟩ := joinAll_spec (l := isort (l.filter valid)) (fun s h => valid_lt (List.mem_filter.1 ((isort_perm _).subset h)).2) (isort_sorted _)
  exact ⟨b1, fun m n => by unfold norm; rw [b2, Has.perm (isort_perm _)]⟩
theorem norm_valid {l : List Span} : ∀ s ∈ norm l, valid s = true := by
  intro s hs
  obtain ⟨h1, h2⟩ := norm_spec l
  have hlt := h1.ne s hs
  obtain ⟨a, ha, a1, a2, a3⟩ := (h2 s.m s.f).1 ⟨s, hs, rfl, by omega, by omega⟩
  obtain ⟨b, hb, b1, b2, b3⟩ := (h2 s.m (s.t - 1)).1 ⟨s, hs, rfl, by omega, by omega⟩
  have va := (List.mem_filter.1 ha).2
  have vb := (List.mem_filter.1 hb).2
  unfold valid isMark at *
  simp at *
  omega
theorem total_bound : ∀ {l : List Span}, (∀ s ∈ l, valid s = true) → 0 ≤ total l ∧ total l ≤ l.length * 1048576
  | [], _ => by simp [total]
  | s :: l, h => by
    have ih := total_bound (l := l) fun x hx => h x (List.mem_cons_of_mem _ hx)
    have hs := h s (List.mem_cons_self ..)
    unfold valid isMark at hs
    simp at hs
    have e : total (s :: l) = (s.t - s.f) + total l := by simp [total]
    rw [e]
    simp only [List.length_cons]
    omega
theorem total_append (a b : List Span) : total (a ++ b) = total a + total b := by simp [total]
end Rt
