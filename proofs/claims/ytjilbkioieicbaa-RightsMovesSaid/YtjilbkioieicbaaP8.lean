/- What two lists of spans have in common, what one has and the other not, and the first coins, in plain terms. -/
import Derived.Test.YtjilbkioieicbaaP1
namespace Rt
set_option linter.unusedVariables false
def comRow (x : Span) (ys : List Span) : List Span := ys.flatMap fun y => if x.m = y.m then [⟨x.m, max x.f y.f, min x.t y.t⟩] else []
def comAll (xs ys : List Span) : List Span := xs.flatMap fun x => comRow x ys
def common (a b : List Span) : List Span := norm (comAll (norm a) (norm b))
def lessOne (y x : Span) : List Span := if x.m = y.m then [⟨x.m, x.f, min x.t y.f⟩, ⟨x.m, max x.f y.t, x.t⟩] else [x]
def lessRow (y : Span) (xs : List Span) : List Span := xs.flatMap (lessOne y)
def lessAll (ys out : List Span) : List Span := ys.foldl (fun out y => norm (lessRow y out)) out
def minus (a b : List Span) : List Span := lessAll (norm b) (norm a)
theorem comRow_len (x : Span) : ∀ ys : List Span, (comRow x ys).length ≤ ys.length
  | [] => by simp [comRow]
  | y :: ys => by
    have ih := comRow_len x ys
    unfold comRow at *
    simp only [List.flatMap_cons, List.length_append, List.length_cons]
    split <;> simp only [List.length_cons, List.length_nil] <;> omega
theorem comAll_len (ys : List Span) : ∀ xs : List Span, (comAll xs ys).length ≤ xs.length * ys.length
  | [] => by simp [comAll]
  | x :: xs => by
    have ih := comAll_len ys xs
    have := comRow_len x ys
    unfold comAll at *
    simp only [List.flatMap_cons, List.length_append, List.length_cons, Nat.add_mul, Nat.one_mul]
    omega
theorem lessRow_len (y : Span) : ∀ xs : List Span, (lessRow y xs).length ≤ 2 * xs.length
  | [] => by simp [lessRow]
  | x :: xs => by
    have ih := lessRow_len y xs
    unfold lessRow at *
    simp only [List.flatMap_cons, List.length_append, List.length_cons]
    have : (lessOne y x).length ≤ 2 := by unfold lessOne; split <;> simp
    omega
theorem norm_len_valid (l : List Span) : (norm l).length ≤ (l.filter valid).length := by
  have key : ∀ (l out : List Span), (l.foldl join out).length ≤ out.length + l.length := by
    intro l
    induction l with
    | nil => intro out; simp
    | cons x l ih =>
      intro out
      have := ih (join out x)
      have : (join out x).length ≤ out.length + 1 := by
        rcases List.eq_nil_or_concat out with rfl | ⟨o, r, rfl⟩
        · simp [join]
        · simp only [List.concat_eq_append]; rw [join_snoc]; split <;> simp
      simp only [List.foldl_cons, List.length_cons]; omega
  have h1 := key (isort (l.filter valid)) []
  have h2 := (isort_perm (l.filter valid)).length_eq
  unfold norm joinAll
  simp only [List.length_nil] at h1
  omega
theorem lessOne_valid (y x : Span) : ((lessOne y x).filter valid).length ≤ 2 ∧ (y.f < y.t → ¬ (x.m = y.m ∧ x.f < y.f ∧ y.t < x.t) → ((lessOne y x).filter valid).length ≤ 1) := by
  unfold lessOne
  split
  · refine ⟨Nat.le_trans (List.length_filter_le ..) (by simp), fun hy h => ?_⟩
    by_cases h1 : x.f < y.f
    · have h2 : ¬ y.t < x.t := fun h2 => h ⟨by assumption, h1, h2⟩
      have : valid ⟨x.m, max x.f y.t, x.t⟩ = false := by unfold valid; simp; intros; omega
      rw [List.filter_cons, List.filter_cons, this]
      split <;> simp
    · have : valid ⟨x.m, x.f, min x.t y.f⟩ = false := by unfold valid; simp; intros; omega
      rw [List.filter_cons, List.filter_cons, this]
      simp only [Bool.false_eq_true, if_false]
      split <;> simp
  · refine ⟨Nat.le_trans (List.length_filter_le ..) (by simp), fun _ _ => Nat.le_trans (List.length_filter_le ..) (by simp)⟩
theorem lessRow_valid {y : Span} (hy : y.f < y.t) : ∀ {xs : List Span}, NF xs → ((lessRow y xs).filter valid).length ≤ xs.length + 1 ∧ ((∀ x ∈ xs, ¬ (x.m = y.m ∧ x.f < y.f ∧ y.t < x.t)) → ((lessRow y xs).filter valid).length ≤ xs.length)
  | [], _ => by simp [lessRow]
  | x :: xs, h => by
    obtain ⟨ih1, ih2⟩ := lessRow_valid hy h.tail
    obtain ⟨o1, o2⟩ := lessOne_valid y x
    have e : lessRow y (x :: xs) = lessOne y x ++ lessRow y xs := by simp [lessRow]
    rw [e, List.filter_append]
    simp only [List.length_append, List.length_cons]
    refine ⟨?_, fun hn => ?_⟩
    · by_cases hx : x.m = y.m ∧ x.f < y.f ∧ y.t < x.t
      · have := ih2 fun z hz hz' => by
          have hg := (List.pairwise_cons.1 h.ord).1 z hz
          unfold gap at hg; omega
        omega
      · have := o2 hy hx; omega
    · have := o2 hy (hn x (List.mem_cons_self ..))
      have := ih2 fun z hz => hn z (List.mem_cons_of_mem _ hz)
      omega
theorem less_len {y : Span} (hy : y.f < y.t) {xs : List Span} (h : NF xs) : (norm (lessRow y xs)).length ≤ xs.length + 1 := Nat.le_trans (norm_len_valid _) (lessRow_valid hy h).1
theorem norm_nf (l : List Span) : NF (norm l) := (norm_spec l).1
theorem lessAll_len : ∀ {ys out : List Span}, (∀ y ∈ ys, y.f < y.t) → NF out → (lessAll ys out).length ≤ out.length + ys.length
  | [], out, _, _ => by simp [lessAll]
  | y :: ys, out, hy, h => by
    have := lessAll_len (ys := ys) (out := norm (lessRow y out)) (fun z hz => hy z (List.mem_cons_of_mem _ hz)) (norm_nf _)
    have := less_len (hy y (List.mem_cons_self ..)) h
    simp only [lessAll, List.foldl_cons, List.length_cons] at *
    omega
/-! ### The coins -/
theorem has_norm {l : List Span} {m n : Int} : Has (norm l) m n ↔ ∃ s ∈ l, valid s = true ∧ s.m = m ∧ s.f ≤ n ∧ n < s.t := by
  rw [(norm_spec l).2]
  constructor
  · rintro ⟨s, hs, h⟩; obtain ⟨h1, h2⟩ := List.mem_filter.1 hs; exact ⟨s, h1, h2, h⟩
  · rintro ⟨s, h1, h2, h⟩; exact ⟨s, List.mem_filter.2 ⟨h1, h2⟩, h⟩
theorem valid_iff {s : Span} : valid s = true ↔ 0 ≤ s.m ∧ s.m ≤ 1073741824 ∧ 0 ≤ s.f ∧ s.f < s.t ∧ s.t ≤ 1048576 := by
  unfold valid isMark; simp; omega
theorem has_common {a b : List Span} {m n : Int} : Has (common a b) m n ↔ Has (norm a) m n ∧ Has (norm b) m n := by
  unfold common
  rw [has_norm]
  constructor
  · rintro ⟨s, hs, hv, h⟩
    obtain ⟨x, hx, hs⟩ := List.mem_flatMap.1 hs
    obtain ⟨y, hy, hs⟩ := List.mem_flatMap.1 hs
    split at hs
    · simp at hs; subst hs; simp only at h
      exact ⟨⟨x, hx, by omega⟩, ⟨y, hy, by omega⟩⟩
    · cases hs
  · rintro ⟨⟨x, hx, h1⟩, ⟨y, hy, h2⟩⟩
    have vx := valid_iff.1 (norm_valid x hx)
    have vy := valid_iff.1 (norm_valid y hy)
    refine ⟨⟨x.m, max x.f y.f, min x.t y.t⟩, List.mem_flatMap.2 ⟨x, hx, List.mem_flatMap.2 ⟨y, hy, ?_⟩⟩, valid_iff.2 (by simp only; omega), by simp only; omega⟩
    rw [if_pos (by omega)]; simp
theorem has_less {y : Span} {xs : List Span} {m n : Int} (hy : y.f < y.t) (hv : ∀ x ∈ xs, valid x = true) (hv' : 0 ≤ y.t ∧ y.f ≤ 1048576) : Has (norm (lessRow y xs)) m n ↔ Has xs m n ∧ ¬ (y.m = m ∧ y.f ≤ n ∧ n < y.t) := by
  rw [has_norm]
  constructor
  · rintro ⟨s, hs, hvs, h⟩
    obtain ⟨x, hx, hs⟩ := List.mem_flatMap.1 hs
    unfold lessOne at hs
    split at hs
    · simp at hs
      rcases hs with rfl | rfl <;> simp only at h <;> exact ⟨⟨x, hx, by omega⟩, by omega⟩
    · simp at hs; subst hs
      exact ⟨⟨s, hx, h⟩, by omega⟩
  · rintro ⟨⟨x, hx, h1⟩, h2⟩
    have vx := valid_iff.1 (hv x hx)
    by_cases hm : x.m = y.m
    · by_cases hn : n < y.f
      · refine ⟨⟨x.m, x.f, min x.t y.f⟩, List.mem_flatMap.2 ⟨x, hx, ?_⟩, valid_iff.2 (by simp only; omega), by simp only; omega⟩
        unfold lessOne; rw [if_pos hm]; simp
      · refine ⟨⟨x.m, max x.f y.t, x.t⟩, List.mem_flatMap.2 ⟨x, hx, ?_⟩, valid_iff.2 (by simp only; omega), by simp only; omega⟩
        unfold lessOne; rw [if_pos hm]; simp
    · refine ⟨x, List.mem_flatMap.2 ⟨x, hx, ?_⟩, hv x hx, h1⟩
      unfold lessOne; rw [if_neg hm]; simp
theorem lessAll_spec : ∀ {ys out : List Span}, (∀ y ∈ ys, valid y = true) → NF out → (∀ x ∈ out, valid x = true) → NF (lessAll ys out) ∧ (∀ x ∈ lessAll ys out, valid x = true) ∧ ∀ m n, Has (lessAll ys out) m n ↔ Has out m n ∧ ¬ Has ys m n
  | [], out, _, h, hv => ⟨h, hv, fun m n => ⟨fun h => ⟨h, Has.nil⟩, fun h => h.1⟩⟩
  | y :: ys, out, hy, h, hv => by
    obtain ⟨h1, h2, h3⟩ := lessAll_spec (ys := ys) (out := norm (lessRow y out)) (fun z hz => hy z (List.mem_cons_of_mem _ hz)) (norm_nf _) norm_valid
    refine ⟨h1, h2, fun m n => ?_⟩
    have vy := valid_iff.1 (hy y (List.mem_cons_self ..))
    show Has (lessAll ys (norm (lessRow y out))) m n ↔ _
    rw [h3, has_less (by omega) hv (by omega), Has.cons]
    constructor
    · rintro ⟨⟨a, b⟩, c⟩; exact ⟨a, fun h => h.elim b c⟩
    · rintro ⟨a, b⟩; exact ⟨⟨a, fun h => b (.inl h)⟩, fun h => b (.inr h)⟩
theorem minus_spec (a b : List Span) : NF (minus a b) ∧ (∀ x ∈ minus a b, valid x = true) ∧ ∀ m n, Has (minus a b) m n ↔ Has (norm a) m n ∧ ¬ Has (norm b) m n :=
  lessAll_spec norm_valid (norm_nf a) norm_valid
theorem nf_empty {l : List Span} (h : NF l) : l.length = 0 ↔ ∀ m n, ¬ Has l m n := by
  constructor
  · intro h0 m n hh
    rw [List.eq_nil_of_length_eq_zero h0] at hh; exact Has.nil hh
  · intro hn
    cases l with
    | nil => rfl
    | cons x l =>
      have := h.ne x (List.mem_cons_self ..)
      exact (hn x.m x.f (Has.cons.2 (.inl ⟨rfl, by omega, by omega⟩))).elim
theorem minus_empty (a b : List Span) : (minus a b).length = 0 ↔ ∀ m n, Has (norm a) m n → Has (norm b) m n := by
  rw [nf_empty (minus_spec a b).1]
  constructor
  · intro h m n h1
    exact Classical.byContradiction fun h2 => h m n (((minus_spec a b).2.2 m n).2 ⟨h1, h2⟩)
  · intro h m n h1
    obtain ⟨h2, h3⟩ := ((minus_spec a b).2.2 m n).1 h1
    exact h3 (h m n h2)
theorem common_empty (a b : List Span) : (common a b).length = 0 ↔ ∀ m n, Has (norm a) m n → ¬ Has (norm b) m n := by
  rw [nf_empty (l := common a b) (norm_nf _)]
  constructor
  · intro h m n h1 h2; exact h m n (has_common.2 ⟨h1, h2⟩)
  · intro h m n h1; obtain ⟨h2, h3⟩ := has_common.1 h1; exact h m n h2 h3
/-! ### The first coins -/
/-- How many of a span's coins are taken, if n are still to be taken. -/
def takeK (n : Int) (s : Span) : Int := min (max n 0) (s.t - s.f)
def takeF : List Span → Int → List Span
  | [], _ => []
  | s :: l, n => ⟨s.m, s.f, s.f + takeK n s⟩ :: takeF l (max n 0 - takeK n s)
def takeR : List Span → Int → List Span
  | [], _ => []
  | s :: l, n => ⟨s.m, s.f + takeK n s, s.t⟩ :: takeR l (max n 0 - takeK n s)
def takeN : List Span → Int → Int
  | [], n => n
  | s :: l, n => takeN l (max n 0 - takeK n s)
theorem takeF_append : ∀ (a b : List Span) (n : Int), takeF (a ++ b) n = takeF a n ++ takeF b (takeN a n)
  | [], b, n => rfl
  | s :: a, b, n => by simp only [List.cons_append, takeF, takeN, takeF_append a b]
theorem takeR_append : ∀ (a b : List Span) (n : Int), takeR (a ++ b) n = takeR a n ++ takeR b (takeN a n)
  | [], b, n => rfl
  | s :: a, b, n => by simp only [List.cons_append, takeR, takeN, takeR_append a b]
theorem takeN_append : ∀ (a b : List Span) (n : Int), takeN (a ++ b) n = takeN b (takeN a n)
  | [], b, n => rfl
  | s :: a, b, n => by simp only [List.cons_append, takeN, takeN_append a b]
theorem takeF_len : ∀ (a : List Span) (n : Int), (takeF a n).length = a.length
  | [], n => rfl
  | s :: a, n => by simp only [takeF, List.length_cons, takeF_len a]
theorem takeR_len : ∀ (a : List Span) (n : Int), (takeR a n).length = a.length
  | [], n => rfl
  | s :: a, n => by simp only [takeR, List.length_cons, takeR_len a]
theorem takeN_bd : ∀ {a : List Span} {n : Int}, (∀ s ∈ a, s.f ≤ s.t) → takeN a n ≤ max n 0 ∧ min n 0 ≤ takeN a n
  | [], n, _ => by simp only [takeN]; omega
  | s :: a, n, h => by
    have := takeN_bd (a := a) (n := max n 0 - takeK n s) fun x hx => h x (List.mem_cons_of_mem _ hx)
    have hs := h s (List.mem_cons_self ..)
    simp only [takeN]
    unfold takeK at *
    omega
theorem take_spec : ∀ {a : List Span} {n : Int}, NF a → (∀ s ∈ a, valid s = true) → (∀ m c, Has (norm (takeF a n)) m c → Has a m c) ∧ (∀ m c, Has (norm (takeR a n)) m c → Has a m c) ∧ (∀ m c, Has a m c → Has (norm (takeF a n)) m c ∨ Has (norm (takeR a n)) m c) ∧ ∀ m c, Has (norm (takeF a n)) m c → ¬ Has (norm (takeR a n)) m c
  | [], n, _, _ => by
    refine ⟨fun m c h => ?_, fun m c h => ?_, fun m c h => (Has.nil h).elim, fun m c h => ?_⟩
    all_goals (rw [has_norm] at h; obtain ⟨s, hs, _⟩ := h; simp [takeF, takeR] at hs)
  | s :: a, n, h, hv => by
    obtain ⟨h1, h2, h3, h4⟩ := take_spec (a := a) (n := max n 0 - takeK n s) h.tail fun x hx => hv x (List.mem_cons_of_mem _ hx)
    have vs := valid_iff.1 (hv s (List.mem_cons_self ..))
    have hk : 0 ≤ takeK n s ∧ takeK n s ≤ s.t - s.f := by unfold takeK; omega
    have eF : ∀ m c, Has (norm (takeF (s :: a) n)) m c ↔ (s.m = m ∧ s.f ≤ c ∧ c < s.f + takeK n s) ∨ Has (norm (takeF a (max n 0 - takeK n s))) m c := by
      intro m c
      rw [has_norm, has_norm]
      simp only [takeF, List.mem_cons]
      constructor
      · rintro ⟨x, rfl | hx, h⟩
        · exact .inl h.2
        · exact .inr ⟨x, hx, h⟩
      · rintro (h | ⟨x, hx, h⟩)
        · exact ⟨_, .inl rfl, valid_iff.2 (by simp only; omega), h⟩
        · exact ⟨x, .inr hx, h⟩
    have eR : ∀ m c, Has (norm (takeR (s :: a) n)) m c ↔ (s.m = m ∧ s.f + takeK n s ≤ c ∧ c < s.t) ∨ Has (norm (takeR a (max n 0 - takeK n s))) m c := by
      intro m c
      rw [has_norm, has_norm]
      simp only [takeR, List.mem_cons]
      constructor
      · rintro ⟨x, rfl | hx, h⟩
        · exact .inl h.2
        · exact .inr ⟨x, hx, h⟩
      · rintro (h | ⟨x, hx, h⟩)
        · exact ⟨_, .inl rfl, valid_iff.2 (by simp only; omega), h⟩
        · exact ⟨x, .inr hx, h⟩
    refine ⟨fun m c hh => ?_, fun m c hh => ?_, fun m c hh => ?_, fun m c hh hh' => ?_⟩
    · rw [Has.cons]
      rcases (eF m c).1 hh with hh | hh
      · exact .inl (by omega)
      · exact .inr (h1 m c hh)
    · rw [Has.cons]
      rcases (eR m c).1 hh with hh | hh
      · exact .inl (by omega)
      · exact .inr (h2 m c hh)
    · rw [eF, eR]
      rcases Has.cons.1 hh with hh | hh
      · by_cases hc : c < s.f + takeK n s
        · exact .inl (.inl (by omega))
        · exact .inr (.inl (by omega))
      · rcases h3 m c hh with hh | hh
        · exact .inl (.inr hh)
        · exact .inr (.inr hh)
    · rcases (eF m c).1 hh with hh | hh <;> rcases (eR m c).1 hh' with hh' | hh'
      · omega
      · have := h.rest (h2 m c hh'); omega
      · have := h.rest (h1 m c hh); omega
      · exact h4 m c hh hh'
end Rt
