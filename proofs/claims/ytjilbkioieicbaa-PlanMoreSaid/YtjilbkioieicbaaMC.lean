/- Texts that the law uses: P0 P1 P2 B0 W1 W2 W3. -/
import Derived.Test.YtjilbkioieicbaaProg
import Derived.KernelRfl
import Derived.Test.YtjilbkioieicbaaVcKit
/- Spans, lots and deeds, and what the program's functions compute of them, in plain terms. -/
namespace Rt
structure Span where
  m : Int
  f : Int
  t : Int
theorem Span.ext' {a b : Span} (h1 : a.m = b.m) (h2 : a.f = b.f) (h3 : a.t = b.t) : a = b := by cases a; cases b; simp_all
instance : DecidableEq Span := fun a b => if h : a.m = b.m ∧ a.f = b.f ∧ a.t = b.t then .isTrue (Span.ext' h.1 h.2.1 h.2.2) else .isFalse fun e => h (by subst e; exact ⟨rfl, rfl, rfl⟩)
instance : Inhabited Span := ⟨⟨0, 0, 0⟩⟩
structure Lot where
  s : Span
  o : Int
  h : Int
  u : Int
  p : Int
theorem Lot.ext' {a b : Lot} (h1 : a.s = b.s) (h2 : a.o = b.o) (h3 : a.h = b.h) (h4 : a.u = b.u) (h5 : a.p = b.p) : a = b := by cases a; cases b; simp_all
instance : DecidableEq Lot := fun a b => if h : a.s = b.s ∧ a.o = b.o ∧ a.h = b.h ∧ a.u = b.u ∧ a.p = b.p then .isTrue (Lot.ext' h.1 h.2.1 h.2.2.1 h.2.2.2.1 h.2.2.2.2) else .isFalse fun e => h (by subst e; exact ⟨rfl, rfl, rfl, rfl, rfl⟩)
instance : Inhabited Lot := ⟨⟨default, 0, 0, 0, 0⟩⟩
structure Deed where
  mark : Int
  kind : Int
  author : Int
  who : Int
  day : Int
  til : Int
  spans : List Span
instance : Inhabited Deed := ⟨⟨0, 0, 0, 0, 0, 0, []⟩⟩

/-! ### entry -/
def isMark (n : Int) : Bool := decide (0 ≤ n) && decide (n ≤ 1073741824)
def valid (s : Span) : Bool := isMark s.m && (decide (0 ≤ s.f) && (decide (s.f < s.t) && decide (s.t ≤ 1048576)))
/-- The i-th span is valid, and comes after the one before it. -/
def okAt (l : List Span) (i : Nat) : Bool :=
  match l[i]? with
  | none => false
  | some s => valid s && (i == 0 || (match l[i - 1]? with
    | none => false
    | some r => !(decide (s.m < r.m) || (decide (r.m = s.m) && decide (s.f ≤ r.t)))))
def normal (l : List Span) : Bool := (List.range l.length).all (okAt l)
/-- One more span, of a list in order. -/
def join (out : List Span) (s : Span) : List Span :=
  match out.getLast? with
  | none => out ++ [s]
  | some r => if r.m = s.m ∧ s.f ≤ r.t then out.dropLast ++ [⟨r.m, r.f, max r.t s.t⟩] else out ++ [s]
def joinAll (l : List Span) : List Span := l.foldl join []
def leS (a b : Span) : Bool := decide (a.m < b.m) || (decide (a.m = b.m) && decide (a.f ≤ b.f))
def insS (s : Span) : List Span → List Span
  | [] => [s]
  | x :: r => if leS s x then s :: x :: r else x :: insS s r
def isort : List Span → List Span
  | [] => []
  | x :: r => insS x (isort r)
/-- The normal form. -/
def norm (l : List Span) : List Span := joinAll (isort (l.filter valid))
def total (l : List Span) : Int := (l.map fun s => s.t - s.f).sum
def count (l : List Span) : Int := total (norm l)
end Rt

/- Normal forms of spans: the coins say which. -/
namespace Rt
set_option linter.unusedVariables false
/-- A coin is in spans. -/
def Has (l : List Span) (m n : Int) : Prop := ∃ s ∈ l, s.m = m ∧ s.f ≤ n ∧ n < s.t
/-- One lies before the other, with a gap or of another receipt. -/
def gap (a b : Span) : Prop := a.m < b.m ∨ (a.m = b.m ∧ a.t < b.f)
structure NF (l : List Span) : Prop where
  ne : ∀ s ∈ l, s.f < s.t
  ord : l.Pairwise gap
theorem Has.cons {s : Span} {l : List Span} {m n : Int} : Has (s :: l) m n ↔ (s.m = m ∧ s.f ≤ n ∧ n < s.t) ∨ Has l m n := by
  unfold Has
  constructor
  · rintro ⟨x, hx, h⟩
    rcases List.mem_cons.1 hx with rfl | hx
    · exact .inl h
    · exact .inr ⟨x, hx, h⟩
  · rintro (h | ⟨x, hx, h⟩)
    · exact ⟨s, List.mem_cons_self .., h⟩
    · exact ⟨x, List.mem_cons_of_mem _ hx, h⟩
theorem Has.append {a b : List Span} {m n : Int} : Has (a ++ b) m n ↔ Has a m n ∨ Has b m n := by
  unfold Has
  constructor
  · rintro ⟨x, hx, h⟩
    rcases List.mem_append.1 hx with hx | hx
    · exact .inl ⟨x, hx, h⟩
    · exact .inr ⟨x, hx, h⟩
  · rintro (⟨x, hx, h⟩ | ⟨x, hx, h⟩)
    · exact ⟨x, List.mem_append.2 (.inl hx), h⟩
    · exact ⟨x, List.mem_append.2 (.inr hx), h⟩
theorem Has.nil {m n : Int} : ¬ Has [] m n := fun ⟨x, hx, _⟩ => by cases hx
theorem NF.tail {s : Span} {l : List Span} (h : NF (s :: l)) : NF l := ⟨fun x hx => h.ne x (List.mem_cons_of_mem _ hx), (List.pairwise_cons.1 h.ord).2⟩
/-- In a normal form the first span's first coin comes first; the coin after its last one is not in it. -/
theorem NF.first {s : Span} {l : List Span} (h : NF (s :: l)) {m n : Int} (hh : Has (s :: l) m n) : s.m < m ∨ (s.m = m ∧ s.f ≤ n) := by
  rcases Has.cons.1 hh with ⟨h1, h2, h3⟩ | ⟨x, hx, h1, h2, h3⟩
  · exact .inr ⟨h1, h2⟩
  · have := (List.pairwise_cons.1 h.ord).1 x hx
    have := h.ne s (List.mem_cons_self ..)
    have := h.ne x (List.mem_cons_of_mem _ hx)
    unfold gap at *
    omega
theorem NF.rest {s : Span} {l : List Span} (h : NF (s :: l)) {m n : Int} (hh : Has l m n) : s.m < m ∨ (s.m = m ∧ s.t < n) := by
  obtain ⟨x, hx, h1, h2, h3⟩ := hh
  have := (List.pairwise_cons.1 h.ord).1 x hx
  unfold gap at *
  omega
theorem NF.ext : ∀ {a b : List Span}, NF a → NF b → (∀ m n, Has a m n ↔ Has b m n) → a = b
  | [], [], _, _, _ => rfl
  | [], y :: b, _, hb, h => by
    have := hb.ne y (List.mem_cons_self ..)
    exact (Has.nil ((h y.m y.f).2 (Has.cons.2 (.inl ⟨rfl, by omega, by omega⟩)))).elim
  | x :: a, [], ha, _, h => by
    have := ha.ne x (List.mem_cons_self ..)
    exact (Has.nil ((h x.m x.f).1 (Has.cons.2 (.inl ⟨rfl, by omega, by omega⟩)))).elim
  | x :: a, y :: b, ha, hb, h => by
    have hx := ha.ne x (List.mem_cons_self ..)
    have hy := hb.ne y (List.mem_cons_self ..)
    have h1 := hb.first ((h x.m x.f).1 (Has.cons.2 (.inl ⟨rfl, by omega, by omega⟩)))
    have h2 := ha.first ((h y.m y.f).2 (Has.cons.2 (.inl ⟨rfl, by omega, by omega⟩)))
    have em : x.m = y.m := by omega
    have ef : x.f = y.f := by omega
    have et : x.t = y.t := by
      rcases Int.lt_trichotomy x.t y.t with hlt | he | hgt
      · have hh := (h x.m x.t).2 (Has.cons.2 (.inl ⟨em.symm, by omega, hlt⟩))
        rcases Has.cons.1 hh with h3 | h3
        · omega
        · have := ha.rest h3; omega
      · exact he
      · have hh := (h y.m y.t).1 (Has.cons.2 (.inl ⟨em, by omega, hgt⟩))
        rcases Has.cons.1 hh with h3 | h3
        · omega
        · have := hb.rest h3; omega
    have e : x = y := Span.ext' em ef et
    subst e
    rw [NF.ext ha.tail hb.tail fun m n => ?_]
    constructor
    · intro hh
      have h3 := ha.rest hh
      rcases Has.cons.1 ((h m n).1 (Has.cons.2 (.inr hh))) with h4 | h4
      · omega
      · exact h4
    · intro hh
      have h3 := hb.rest hh
      rcases Has.cons.1 ((h m n).2 (Has.cons.2 (.inr hh))) with h4 | h4
      · omega
      · exact h4
/-! ### Joining spans in order -/
def le2 (a b : Span) : Prop := a.m < b.m ∨ (a.m = b.m ∧ a.f ≤ b.f)
theorem join_snoc (out : List Span) (r s : Span) : join (out ++ [r]) s = if r.m = s.m ∧ s.f ≤ r.t then out ++ [⟨r.m, r.f, max r.t s.t⟩] else out ++ [r] ++ [s] := by
  unfold join
  simp [List.getLast?_append]
theorem join_spec {out : List Span} {s : Span} (h : NF out) (hs : s.f < s.t) (hle : ∀ x ∈ out, le2 x s) : NF (join out s) ∧ (∀ m n, Has (join out s) m n ↔ Has out m n ∨ (s.m = m ∧ s.f ≤ n ∧ n < s.t)) ∧ ∀ x ∈ join out s, ∀ y, (∀ z ∈ out, le2 z y) → le2 s y → le2 x y := by
  rcases List.eq_nil_or_concat out with rfl | ⟨o, r, rfl⟩
  · have e : join [] s = [s] := rfl
    rw [e]
    refine ⟨⟨fun x hx => by simp at hx; subst hx; exact hs, by simp⟩, fun m n => ?_, fun x hx y _ hy => by simp at hx; subst hx; exact hy⟩
    rw [Has.cons]; constructor
    · rintro (h | h)
      · exact .inr h
      · exact (Has.nil h).elim
    · rintro (h | h)
      · exact (Has.nil h).elim
      · exact .inl h
  · simp only [List.concat_eq_append] at *
    rw [join_snoc]
    have hr := h.ne r (by simp)
    have hrs := hle r (by simp)
    obtain ⟨h1, h2, h3⟩ := List.pairwise_append.1 h.ord
    split
    · rename_i hc
      refine ⟨⟨fun x hx => ?_, List.pairwise_append.2 ⟨h1, by simp, fun x hx y hy => ?_⟩⟩, fun m n => ?_, fun x hx y hz hy => ?_⟩
      · rcases List.mem_append.1 hx with hx | hx
        · exact h.ne x (by simp [hx])
        · simp at hx; subst hx; simp only; omega
      · simp at hy; subst hy
        have := h3 x hx r (by simp)
        unfold gap at *; simp only; exact this
      · rw [Has.append, Has.append, Has.cons, Has.cons]
        unfold le2 at hrs
        simp only
        constructor
        · rintro (h4 | h4 | h4)
          · exact .inl (.inl h4)
          · by_cases hn : n < r.t
            · exact .inl (.inr (.inl ⟨h4.1, h4.2.1, hn⟩))
            · exact .inr ⟨by omega, by omega, by omega⟩
          · exact (Has.nil h4).elim
        · rintro ((h4 | h4 | h4) | h4)
          · exact .inl h4
          · exact .inr (.inl ⟨h4.1, h4.2.1, by omega⟩)
          · exact (Has.nil h4).elim
          · exact .inr (.inl ⟨by omega, by omega, by omega⟩)
      · rcases List.mem_append.1 hx with hx | hx
        · exact hz x (by simp [hx])
        · simp at hx; subst hx; have := hz r (by simp); unfold le2 at *; simp only; exact this
    · rename_i hc
      refine ⟨⟨fun x hx => ?_, List.pairwise_append.2 ⟨h.ord, by simp, fun x hx y hy => ?_⟩⟩, fun m n => ?_, fun x hx y hz hy => ?_⟩
      · rcases List.mem_append.1 hx with hx | hx
        · exact h.ne x hx
        · simp at hx; subst hx; exact hs
      · simp at hy; subst hy
        unfold le2 at hrs
        have hgr : gap r y := by unfold gap; omega
        rcases List.mem_append.1 hx with hx | hx
        · have := h3 x hx r (by simp)
          unfold gap at *; omega
        · simp at hx; subst hx; exact hgr
      · rw [Has.append, Has.cons]
        constructor
        · rintro (h4 | h4 | h4)
          · exact .inl h4
          · exact .inr h4
          · exact (Has.nil h4).elim
        · rintro (h4 | h4)
          · exact .inl h4
          · exact .inr (.inl h4)
      · rcases List.mem_append.1 hx with hx | hx
        · exact hz x hx
        · simp at hx; subst hx; exact hy
theorem joins_spec : ∀ {l out : List Span}, NF out → (∀ s ∈ l, s.f < s.t) → l.Pairwise le2 → (∀ x ∈ out, ∀ s ∈ l, le2 x s) → NF (l.foldl join out) ∧ ∀ m n, Has (l.foldl join out) m n ↔ Has out m n ∨ Has l m n
  | [], out, h, _, _, _ => ⟨h, fun m n => ⟨fun h => .inl h, fun h => h.elim id fun h => (Has.nil h).elim⟩⟩
  | s :: l, out, h, hn, hp, hle => by
    obtain ⟨p1, p2⟩ := List.pairwise_cons.1 hp
    obtain ⟨j1, j2, j3⟩ := join_spec h (hn s (List.mem_cons_self ..)) fun x hx => hle x hx s (List.mem_cons_self ..)
    obtain ⟨k1, k2⟩ := joins_spec (l := l) j1 (fun x hx => hn x (List.mem_cons_of_mem _ hx)) p2 fun x hx y hy => j3 x hx y (fun z hz => hle z hz y (List.mem_cons_of_mem _ hy)) (p1 y hy)
    refine ⟨k1, fun m n => ?_⟩
    rw [List.foldl_cons, k2, j2, Has.cons, or_assoc]
theorem joinAll_spec {l : List Span} (hn : ∀ s ∈ l, s.f < s.t) (hp : l.Pairwise le2) : NF (joinAll l) ∧ ∀ m n, Has (joinAll l) m n ↔ Has l m n := by
  obtain ⟨h1, h2⟩ := joins_spec (out := []) ⟨fun s hs => (by cases hs), .nil⟩ hn hp fun x hx => by cases hx
  exact ⟨h1, fun m n => (h2 m n).trans ⟨fun h => h.elim (fun h => (Has.nil h).elim) id, .inr⟩⟩
theorem Has.perm {a b : List Span} (h : a.Perm b) {m n : Int} : Has a m n ↔ Has b m n :=
  ⟨fun ⟨x, hx, h'⟩ => ⟨x, h.subset hx, h'⟩, fun ⟨x, hx, h'⟩ => ⟨x, h.symm.subset hx, h'⟩⟩
theorem leS_iff {a b : Span} : leS a b = true ↔ le2 a b := by unfold leS le2; simp
theorem insS_perm (s : Span) : ∀ l, (insS s l).Perm (s :: l)
  | [] => .refl _
  | x :: r => by
    simp only [insS]
    split
    · exact .refl _
    · exact ((insS_perm s r).cons x).trans (.swap s x r)
theorem isort_perm : ∀ l, (isort l).Perm l
  | [] => .refl _
  | x :: r => (insS_perm x _).trans ((isort_perm r).cons x)
theorem insS_sorted {s : Span} : ∀ {l : List Span}, l.Pairwise le2 → (insS s l).Pairwise le2
  | [], _ => by simp [insS]
  | x :: r, h => by
    obtain ⟨h1, h2⟩ := List.pairwise_cons.1 h
    simp only [insS]
    split
    · rename_i hc
      rw [leS_iff] at hc
      refine List.pairwise_cons.2 ⟨fun y hy => ?_, h⟩
      rcases List.mem_cons.1 hy with rfl | hy
      · exact hc
      · have := h1 y hy; unfold le2 at *; omega
    · rename_i hc
      rw [leS_iff] at hc
      refine List.pairwise_cons.2 ⟨fun y hy => ?_, insS_sorted h2⟩
      rcases List.mem_cons.1 ((insS_perm s r).subset hy) with rfl | hy
      · unfold le2 at *; omega
      · exact h1 y hy
theorem isort_sorted : ∀ l, (isort l).Pairwise le2
  | [] => .nil
  | x :: r => insS_sorted (isort_sorted r)
theorem valid_lt {s : Span} (h : valid s = true) : s.f < s.t := by unfold valid isMark at h; simp at h; omega
/-- The normal form does not depend on how equal spans were put in order. -/
theorem norm_of_sorted {l ys : List Span} (hp : ys.Perm (l.filter valid)) (hs : ys.Pairwise le2) : joinAll ys = norm l := by
  have hv : ∀ s ∈ l.filter valid, s.f < s.t := fun s hs => valid_lt (List.mem_filter.1 hs).2
  obtain ⟨a1, a2⟩ := joinAll_spec (l := ys) (fun s h => hv s (hp.subset h)) hs
  obtain ⟨b1, b2⟩ := joinAll_spec (l := isort (l.filter valid)) (fun s h => hv s ((isort_perm _).subset h)) (isort_sorted _)
  exact NF.ext a1 b1 fun m n => by unfold norm; rw [a2, b2, Has.perm hp, Has.perm (isort_perm _)]
theorem norm_spec (l : List Span) : NF (norm l) ∧ ∀ m n, Has (norm l) m n ↔ Has (l.filter valid) m n := by
  obtain ⟨b1, b2⟩ := joinAll_spec (l := isort (l.filter valid)) (fun s h => valid_lt (List.mem_filter.1 ((isort_perm _).subset h)).2) (isort_sorted _)
  exact ⟨b1, fun m n => by unfold norm; rw [b2, Has.perm (isort_perm _)]⟩
theorem norm_valid {l : List Span} : ∀ s ∈ norm l, valid s = true := by
  intro s hs
  obtain ⟨h1, h2⟩ := norm_spec l
  have hlt := h1.ne s hs
  obtain ⟨a, ha, a1, a2, a3⟩ := (h2 s.m s.f).1 ⟨s, hs, rfl, by omega, by omega⟩
  obtain ⟨b, hb, b1, b2, b3⟩ := (h2 s.m (s.t - 1)).1 ⟨s, hs, rfl, by omega, by omega⟩
  have va := (List.mem_filter.1 ha).2
  have vb := (List.mem_filter.1 hb).2
  unfold valid isMark at *
  simp at *
  omega
theorem total_bound : ∀ {l : List Span}, (∀ s ∈ l, valid s = true) → 0 ≤ total l ∧ total l ≤ l.length * 1048576
  | [], _ => by simp [total]
  | s :: l, h => by
    have ih := total_bound (l := l) fun x hx => h x (List.mem_cons_of_mem _ hx)
    have hs := h s (List.mem_cons_self ..)
    unfold valid isMark at hs
    simp at hs
    have e : total (s :: l) = (s.t - s.f) + total l := by simp [total]
    rw [e]
    simp only [List.length_cons]
    omega
theorem total_append (a b : List Span) : total (a ++ b) = total a + total b := by simp [total]
end Rt

/- Who owns which coins: what the program's functions compute, in plain terms. -/
namespace Rt
set_option linter.unusedVariables false
def isKey (n : Int) : Bool := decide (0 ≤ n) && decide (n < 200)
def right (d : Deed) : Bool :=
  if d.mark < 0 ∨ 1073741824 < d.mark ∨ isKey d.author = false ∨ d.spans.length = 0 ∨ normal d.spans = false then false
  else if d.kind = 0 then
    match d.spans with
    | [s] => decide (s.m = d.mark) && decide (s.f = 0)
    | _ => false
  else if d.kind = 1 then isKey d.who && !decide (d.who = d.author)
  else if d.kind = 2 then isKey d.who && (!decide (d.who = d.author) && (decide (0 ≤ d.til) && decide (d.til ≤ 1048576)))
  else decide (d.kind = 3)
def may (l : Lot) (d : Deed) : Int :=
  if l.p ≠ -1 then 29
  else if l.o ≠ d.author ∧ l.h ≠ d.author then 27
  else if l.h ≠ d.author then 28
  else if l.o ≠ d.author ∧ d.kind ≠ 3 ∧ (d.kind ≠ 1 ∨ d.who ≠ l.o) then 28
  else 0
def worse (a b : Int) : Int :=
  if a = 29 ∨ b = 29 then 29 else if a = 27 ∨ b = 27 then 27 else if a = 28 ∨ b = 28 then 28 else 0
/-- A coin of a span's receipt is in a lot. -/
def inLot (m n : Int) (l : Lot) : Bool := decide (l.s.m = m) && (decide (l.s.f ≤ n) && decide (n < l.s.t))
def cutsIn (m n : Int) (l : Lot) : Bool := decide (l.s.m = m) && (decide (l.s.f < n) && decide (n < l.s.t))
def lotTo (l : Lot) (n : Int) : Lot := { l with s := { l.s with t := n } }
def lotFrom (l : Lot) (n : Int) : Lot := { l with s := { l.s with f := n } }
def split (m n : Int) : List Lot → List Lot
  | [] => []
  | l :: r => if cutsIn m n l then lotTo l n :: lotFrom l n :: r else l :: split m n r
def cutAt (s : Span) (L : List Lot) : List Lot := split s.m s.t (split s.m s.f L)
/-- Neighbors that are alike are put together. -/
def alike (a b : Lot) : Bool := decide (a.o = b.o) && (decide (a.h = b.h) && (decide (a.u = b.u) && (decide (a.p = b.p) && (decide (a.s.m = b.s.m) && decide (a.s.t = b.s.f)))))
def joinL (out : List Lot) (l : Lot) : List Lot :=
  match out.getLast? with
  | none => out ++ [l]
  | some r => if alike r l then out.dropLast ++ [lotTo r l.s.t] else out ++ [l]
def mergeL (L : List Lot) : List Lot := L.foldl joinL []
def few (l : List Deed) (n : Int) : Bool := decide ((l.length : Int) ≤ n) && l.all (fun d => decide (d.spans.length ≤ 8))
end Rt

/- The types and bodies that the walks use, and how spans, lots and deeds lie in memory. -/
namespace Go.Proofs.Ytjilbkioieicbaa
open Go.Vc Rt
set_option linter.unusedVariables false
def tab : Tab := [(3, { kind := 6, size := 1, zero := [.i 0] }),
  (52, { kind := 1, size := 1, zero := [.x (.slice none 0 0)], elem := 56, esize := 3, ebytes := 24 }),
  (22, { kind := 1, size := 1, zero := [.x (.slice none 0 0)], elem := 3, esize := 1, ebytes := 8 }),
  (54, { kind := 2, size := 7, zero := [.i 0, .i 0, .i 0, .i 0, .i 0, .i 0, .x (.slice none 0 0)], flds := [(0, 1, false), (1, 1, false), (2, 1, false), (3, 1, false), (4, 1, false), (5, 1, false), (6, 1, false)] }),
  (47, { kind := 1, size := 1, zero := [.x (.slice none 0 0)], elem := 58, esize := 7, ebytes := 56 }),
  (56, { kind := 2, size := 3, zero := [.i 0, .i 0, .i 0], flds := [(0, 1, false), (1, 1, false), (2, 1, false)], cmp := true }),
  (58, { kind := 2, size := 7, zero := [.i 0, .i 0, .i 0, .i 0, .i 0, .i 0, .i 0], flds := [(0, 3, true), (3, 1, false), (4, 1, false), (5, 1, false), (6, 1, false)], cmp := true }),
  (45, { kind := 1, size := 1, zero := [.x (.slice none 0 0)], elem := 54, esize := 7, ebytes := 72 }),
  (30, { kind := 6, size := 1, zero := [.i 0] }),
  (23, { kind := 1, size := 1, zero := [.x (.slice none 0 0)], elem := 42, esize := 4, ebytes := 32 }),
  (24, { kind := 1, size := 1, zero := [.x (.slice none 0 0)], elem := 40, esize := 3, ebytes := 24 }),
  (73, { kind := 1, size := 1, zero := [.x (.slice none 0 0)], elem := 22, esize := 1, ebytes := 24 }),
  (48, { kind := 1, size := 1, zero := [.x (.slice none 0 0)], elem := 30, esize := 1, ebytes := 8 }),
  (42, { kind := 2, size := 4, zero := [.i 0, .i 0, .i 0, .i 0], flds := [(0, 1, false), (1, 1, false), (2, 1, false), (3, 1, false)], cmp := true }),
  (25, { kind := 1, size := 1, zero := [.x (.slice none 0 0)], elem := 38, esize := 4, ebytes := 32 }),
  (26, { kind := 1, size := 1, zero := [.x (.slice none 0 0)], elem := 4, esize := 1, ebytes := 1 }),
  (89, { kind := 2, size := 7, zero := [.i 0, .i 0, .i 0, .i 0, .i 0, .i 0, .i 0], flds := [(0, 1, false), (1, 1, false), (2, 1, false), (3, 1, false), (4, 1, false), (5, 1, false), (6, 1, false)], cmp := true }),
  (86, { kind := 2, size := 5, zero := [.x (.slice none 0 0), .x (.slice none 0 0), .x (.slice none 0 0), .x (.slice none 0 0), .x (.slice none 0 0)], flds := [(0, 1, false), (1, 1, false), (2, 1, false), (3, 1, false), (4, 1, false)] }),
  (38, { kind := 2, size := 4, zero := [.i 0, .i 0, .i 0, .i 0], flds := [(0, 1, false), (1, 1, false), (2, 1, false), (3, 1, false)], cmp := true }),
  (107, { kind := 2, size := 3, zero := [.i 0, .i 0, .i 0], flds := [(0, 1, false), (1, 1, false), (2, 1, false)], cmp := true }),
  (84, { kind := 1, size := 1, zero := [.x (.slice none 0 0)], elem := 26, esize := 1, ebytes := 24 }),
  (133, { kind := 2, size := 5, zero := [.x (.slice none 0 0), .x (.slice none 0 0), .x (.slice none 0 0), .x (.slice none 0 0), .x (.slice none 0 0)], flds := [(0, 1, false), (1, 1, false), (2, 1, false), (3, 1, false), (4, 1, false)] }),
  (40, { kind := 2, size := 3, zero := [.i 0, .i 0, .i 0], flds := [(0, 1, false), (1, 1, false), (2, 1, false)], cmp := true }),
  (100, { kind := 1, size := 1, zero := [.x (.slice none 0 0)], elem := 107, esize := 3, ebytes := 24 }),
  (112, { kind := 2, size := 1, zero := [.x (.slice none 0 0)], flds := [(0, 1, false)] }),
  (160, { kind := 7, size := 1, zero := [.x (.int .u64 0)] }),
  (4, { kind := 5, size := 1, zero := [.b false] }),
  (5, { kind := 0, size := 1, zero := [.x (.int .u8 0)] }),
  (138, { kind := 0, size := 1, zero := [.x (.pointer none)] }),
  (150, { kind := 1, size := 1, zero := [.x (.slice none 0 0)], elem := 52, esize := 1, ebytes := 24 }),
  (129, { kind := 0, size := 1, zero := [.x (.pointer none)] }),
  (127, { kind := 0, size := 1, zero := [.x .nilFunc] }),
  (81, { kind := 1, size := 1, zero := [.x (.slice none 0 0)], elem := 89, esize := 7, ebytes := 56 }),
  (83, { kind := 0, size := 1, zero := [.x (.pointer none)] }),
  (116, { kind := 0, size := 1, zero := [.x .nilFunc] }),
  (121, { kind := 0, size := 1, zero := [.x .nilFunc] }),
  (82, { kind := 1, size := 1, zero := [.x (.slice none 0 0)], elem := 5, esize := 1, ebytes := 1 }),
  (143, { kind := 0, size := 1, zero := [.x .nilFunc] }),
  (155, { kind := 0, size := 1, zero := [.x .nilFunc] }),
  (99, { kind := 0, size := 1, zero := [.x .nilFunc] }),
  (137, { kind := 0, size := 1, zero := [.x .nilFunc] }),
  (162, { kind := 0, size := 1, zero := [.x .nilFunc] })]
theorem tab_ok : TabOk Try.prog tab := TabOk.of_all (by kernel_rfl)
theorem mixed : Try.prog.follows .mixedOrders = true := by kernel_rfl
theorem b3 : Body Try.prog 3 := ⟨Try.f3, Try.func3, rfl, rfl⟩
theorem b4 : Body Try.prog 4 := ⟨Try.f4, Try.func4, rfl, rfl⟩
theorem b5 : Body Try.prog 5 := ⟨Try.f5, Try.func5, rfl, rfl⟩
theorem b6 : Body Try.prog 6 := ⟨Try.f6, Try.func6, rfl, rfl⟩
theorem b7 : Body Try.prog 7 := ⟨Try.f7, Try.func7, rfl, rfl⟩
theorem b8 : Body Try.prog 8 := ⟨Try.f8, Try.func8, rfl, rfl⟩
theorem b9 : Body Try.prog 9 := ⟨Try.f9, Try.func9, rfl, rfl⟩
theorem b10 : Body Try.prog 10 := ⟨Try.f10, Try.func10, rfl, rfl⟩
theorem b11 : Body Try.prog 11 := ⟨Try.f11, Try.func11, rfl, rfl⟩
theorem b12 : Body Try.prog 12 := ⟨Try.f12, Try.func12, rfl, rfl⟩
theorem b13 : Body Try.prog 13 := ⟨Try.f13, Try.func13, rfl, rfl⟩
theorem b14 : Body Try.prog 14 := ⟨Try.f14, Try.func14, rfl, rfl⟩
theorem b15 : Body Try.prog 15 := ⟨Try.f15, Try.func15, rfl, rfl⟩
theorem b16 : Body Try.prog 16 := ⟨Try.f16, Try.func16, rfl, rfl⟩
theorem b17 : Body Try.prog 17 := ⟨Try.f17, Try.func17, rfl, rfl⟩
theorem b18 : Body Try.prog 18 := ⟨Try.f18, Try.func18, rfl, rfl⟩
theorem b19 : Body Try.prog 19 := ⟨Try.f19, Try.func19, rfl, rfl⟩
theorem b20 : Body Try.prog 20 := ⟨Try.f20, Try.func20, rfl, rfl⟩
theorem b21 : Body Try.prog 21 := ⟨Try.f21, Try.func21, rfl, rfl⟩
theorem b22 : Body Try.prog 22 := ⟨Try.f22, Try.func22, rfl, rfl⟩
theorem b23 : Body Try.prog 23 := ⟨Try.f23, Try.func23, rfl, rfl⟩
theorem b24 : Body Try.prog 24 := ⟨Try.f24, Try.func24, rfl, rfl⟩
theorem b25 : Body Try.prog 25 := ⟨Try.f25, Try.func25, rfl, rfl⟩
theorem b26 : Body Try.prog 26 := ⟨Try.f26, Try.func26, rfl, rfl⟩
theorem b27 : Body Try.prog 27 := ⟨Try.f27, Try.func27, rfl, rfl⟩
theorem b28 : Body Try.prog 28 := ⟨Try.f28, Try.func28, rfl, rfl⟩
theorem b29 : Body Try.prog 29 := ⟨Try.f29, Try.func29, rfl, rfl⟩
theorem b30 : Body Try.prog 30 := ⟨Try.f30, Try.func30, rfl, rfl⟩
theorem b31 : Body Try.prog 31 := ⟨Try.f31, Try.func31, rfl, rfl⟩
theorem b32 : Body Try.prog 32 := ⟨Try.f32, Try.func32, rfl, rfl⟩
theorem b33 : Body Try.prog 33 := ⟨Try.f33, Try.func33, rfl, rfl⟩
theorem b34 : Body Try.prog 34 := ⟨Try.f34, Try.func34, rfl, rfl⟩
theorem b35 : Body Try.prog 35 := ⟨Try.f35, Try.func35, rfl, rfl⟩
theorem b36 : Body Try.prog 36 := ⟨Try.f36, Try.func36, rfl, rfl⟩
theorem b37 : Body Try.prog 37 := ⟨Try.f37, Try.func37, rfl, rfl⟩
theorem b38 : Body Try.prog 38 := ⟨Try.f38, Try.func38, rfl, rfl⟩
theorem b39 : Body Try.prog 39 := ⟨Try.f39, Try.func39, rfl, rfl⟩
theorem b40 : Body Try.prog 40 := ⟨Try.f40, Try.func40, rfl, rfl⟩
theorem b41 : Body Try.prog 41 := ⟨Try.f41, Try.func41, rfl, rfl⟩
theorem b42 : Body Try.prog 42 := ⟨Try.f42, Try.func42, rfl, rfl⟩
theorem b43 : Body Try.prog 43 := ⟨Try.f43, Try.func43, rfl, rfl⟩
theorem b44 : Body Try.prog 44 := ⟨Try.f44, Try.func44, rfl, rfl⟩
theorem b45 : Body Try.prog 45 := ⟨Try.f45, Try.func45, rfl, rfl⟩
theorem b46 : Body Try.prog 46 := ⟨Try.f46, Try.func46, rfl, rfl⟩
theorem b47 : Body Try.prog 47 := ⟨Try.f47, Try.func47, rfl, rfl⟩
theorem b48 : Body Try.prog 48 := ⟨Try.f48, Try.func48, rfl, rfl⟩
theorem b49 : Body Try.prog 49 := ⟨Try.f49, Try.func49, rfl, rfl⟩
theorem b50 : Body Try.prog 50 := ⟨Try.f50, Try.func50, rfl, rfl⟩
theorem b51 : Body Try.prog 51 := ⟨Try.f51, Try.func51, rfl, rfl⟩
theorem b52 : Body Try.prog 52 := ⟨Try.f52, Try.func52, rfl, rfl⟩
theorem b53 : Body Try.prog 53 := ⟨Try.f53, Try.func53, rfl, rfl⟩
theorem b54 : Body Try.prog 54 := ⟨Try.f54, Try.func54, rfl, rfl⟩
theorem b55 : Body Try.prog 55 := ⟨Try.f55, Try.func55, rfl, rfl⟩
theorem b56 : Body Try.prog 56 := ⟨Try.f56, Try.func56, rfl, rfl⟩
theorem b57 : Body Try.prog 57 := ⟨Try.f57, Try.func57, rfl, rfl⟩
theorem b58 : Body Try.prog 58 := ⟨Try.f58, Try.func58, rfl, rfl⟩
theorem b59 : Body Try.prog 59 := ⟨Try.f59, Try.func59, rfl, rfl⟩
theorem b60 : Body Try.prog 60 := ⟨Try.f60, Try.func60, rfl, rfl⟩
theorem b61 : Body Try.prog 61 := ⟨Try.f61, Try.func61, rfl, rfl⟩
theorem b62 : Body Try.prog 62 := ⟨Try.f62, Try.func62, rfl, rfl⟩
theorem b63 : Body Try.prog 63 := ⟨Try.f63, Try.func63, rfl, rfl⟩
theorem b64 : Body Try.prog 64 := ⟨Try.f64, Try.func64, rfl, rfl⟩
theorem b65 : Body Try.prog 65 := ⟨Try.f65, Try.func65, rfl, rfl⟩
theorem b66 : Body Try.prog 66 := ⟨Try.f66, Try.func66, rfl, rfl⟩
theorem b67 : Body Try.prog 67 := ⟨Try.f67, Try.func67, rfl, rfl⟩
theorem b68 : Body Try.prog 68 := ⟨Try.f68, Try.func68, rfl, rfl⟩
theorem b69 : Body Try.prog 69 := ⟨Try.f69, Try.func69, rfl, rfl⟩
theorem b70 : Body Try.prog 70 := ⟨Try.f70, Try.func70, rfl, rfl⟩
theorem b71 : Body Try.prog 71 := ⟨Try.f71, Try.func71, rfl, rfl⟩
theorem b72 : Body Try.prog 72 := ⟨Try.f72, Try.func72, rfl, rfl⟩
theorem b73 : Body Try.prog 73 := ⟨Try.f73, Try.func73, rfl, rfl⟩
theorem b74 : Body Try.prog 74 := ⟨Try.f74, Try.func74, rfl, rfl⟩
theorem b75 : Body Try.prog 75 := ⟨Try.f75, Try.func75, rfl, rfl⟩
theorem b76 : Body Try.prog 76 := ⟨Try.f76, Try.func76, rfl, rfl⟩
theorem b77 : Body Try.prog 77 := ⟨Try.f77, Try.func77, rfl, rfl⟩
theorem b78 : Body Try.prog 78 := ⟨Try.f78, Try.func78, rfl, rfl⟩
theorem b79 : Body Try.prog 79 := ⟨Try.f79, Try.func79, rfl, rfl⟩
theorem b80 : Body Try.prog 80 := ⟨Try.f80, Try.func80, rfl, rfl⟩
theorem b81 : Body Try.prog 81 := ⟨Try.f81, Try.func81, rfl, rfl⟩
theorem b82 : Body Try.prog 82 := ⟨Try.f82, Try.func82, rfl, rfl⟩
theorem b83 : Body Try.prog 83 := ⟨Try.f83, Try.func83, rfl, rfl⟩
theorem b84 : Body Try.prog 84 := ⟨Try.f84, Try.func84, rfl, rfl⟩
theorem b85 : Body Try.prog 85 := ⟨Try.f85, Try.func85, rfl, rfl⟩
theorem b86 : Body Try.prog 86 := ⟨Try.f86, Try.func86, rfl, rfl⟩
theorem b87 : Body Try.prog 87 := ⟨Try.f87, Try.func87, rfl, rfl⟩
theorem b88 : Body Try.prog 88 := ⟨Try.f88, Try.func88, rfl, rfl⟩
theorem b89 : Body Try.prog 89 := ⟨Try.f89, Try.func89, rfl, rfl⟩
theorem b90 : Body Try.prog 90 := ⟨Try.f90, Try.func90, rfl, rfl⟩
theorem b91 : Body Try.prog 91 := ⟨Try.f91, Try.func91, rfl, rfl⟩
theorem b92 : Body Try.prog 92 := ⟨Try.f92, Try.func92, rfl, rfl⟩
theorem b93 : Body Try.prog 93 := ⟨Try.f93, Try.func93, rfl, rfl⟩
theorem b94 : Body Try.prog 94 := ⟨Try.f94, Try.func94, rfl, rfl⟩
theorem b95 : Body Try.prog 95 := ⟨Try.f95, Try.func95, rfl, rfl⟩
theorem b96 : Body Try.prog 96 := ⟨Try.f96, Try.func96, rfl, rfl⟩
theorem b97 : Body Try.prog 97 := ⟨Try.f97, Try.func97, rfl, rfl⟩
theorem b98 : Body Try.prog 98 := ⟨Try.f98, Try.func98, rfl, rfl⟩
theorem b99 : Body Try.prog 99 := ⟨Try.f99, Try.func99, rfl, rfl⟩
theorem b100 : Body Try.prog 100 := ⟨Try.f100, Try.func100, rfl, rfl⟩
theorem b101 : Body Try.prog 101 := ⟨Try.f101, Try.func101, rfl, rfl⟩
theorem b102 : Body Try.prog 102 := ⟨Try.f102, Try.func102, rfl, rfl⟩
theorem b103 : Body Try.prog 103 := ⟨Try.f103, Try.func103, rfl, rfl⟩
theorem b104 : Body Try.prog 104 := ⟨Try.f104, Try.func104, rfl, rfl⟩
theorem b105 : Body Try.prog 105 := ⟨Try.f105, Try.func105, rfl, rfl⟩
theorem b106 : Body Try.prog 106 := ⟨Try.f106, Try.func106, rfl, rfl⟩
theorem b107 : Body Try.prog 107 := ⟨Try.f107, Try.func107, rfl, rfl⟩
theorem b108 : Body Try.prog 108 := ⟨Try.f108, Try.func108, rfl, rfl⟩
theorem b109 : Body Try.prog 109 := ⟨Try.f109, Try.func109, rfl, rfl⟩
theorem b110 : Body Try.prog 110 := ⟨Try.f110, Try.func110, rfl, rfl⟩
theorem b111 : Body Try.prog 111 := ⟨Try.f111, Try.func111, rfl, rfl⟩
theorem b112 : Body Try.prog 112 := ⟨Try.f112, Try.func112, rfl, rfl⟩
theorem b113 : Body Try.prog 113 := ⟨Try.f113, Try.func113, rfl, rfl⟩
theorem b114 : Body Try.prog 114 := ⟨Try.f114, Try.func114, rfl, rfl⟩
theorem b115 : Body Try.prog 115 := ⟨Try.f115, Try.func115, rfl, rfl⟩
theorem b116 : Body Try.prog 116 := ⟨Try.f116, Try.func116, rfl, rfl⟩
theorem b117 : Body Try.prog 117 := ⟨Try.f117, Try.func117, rfl, rfl⟩
theorem b118 : Body Try.prog 118 := ⟨Try.f118, Try.func118, rfl, rfl⟩
theorem b119 : Body Try.prog 119 := ⟨Try.f119, Try.func119, rfl, rfl⟩
theorem b120 : Body Try.prog 120 := ⟨Try.f120, Try.func120, rfl, rfl⟩
theorem b121 : Body Try.prog 121 := ⟨Try.f121, Try.func121, rfl, rfl⟩
theorem b122 : Body Try.prog 122 := ⟨Try.f122, Try.func122, rfl, rfl⟩
theorem b123 : Body Try.prog 123 := ⟨Try.f123, Try.func123, rfl, rfl⟩
theorem b124 : Body Try.prog 124 := ⟨Try.f124, Try.func124, rfl, rfl⟩
theorem b125 : Body Try.prog 125 := ⟨Try.f125, Try.func125, rfl, rfl⟩
theorem b126 : Body Try.prog 126 := ⟨Try.f126, Try.func126, rfl, rfl⟩
theorem b127 : Body Try.prog 127 := ⟨Try.f127, Try.func127, rfl, rfl⟩
theorem b128 : Body Try.prog 128 := ⟨Try.f128, Try.func128, rfl, rfl⟩
theorem b129 : Body Try.prog 129 := ⟨Try.f129, Try.func129, rfl, rfl⟩
theorem b130 : Body Try.prog 130 := ⟨Try.f130, Try.func130, rfl, rfl⟩
theorem b131 : Body Try.prog 131 := ⟨Try.f131, Try.func131, rfl, rfl⟩
theorem b132 : Body Try.prog 132 := ⟨Try.f132, Try.func132, rfl, rfl⟩
theorem b133 : Body Try.prog 133 := ⟨Try.f133, Try.func133, rfl, rfl⟩
theorem b134 : Body Try.prog 134 := ⟨Try.f134, Try.func134, rfl, rfl⟩
theorem b135 : Body Try.prog 135 := ⟨Try.f135, Try.func135, rfl, rfl⟩
theorem b136 : Body Try.prog 136 := ⟨Try.f136, Try.func136, rfl, rfl⟩
theorem b137 : Body Try.prog 137 := ⟨Try.f137, Try.func137, rfl, rfl⟩
theorem b138 : Body Try.prog 138 := ⟨Try.f138, Try.func138, rfl, rfl⟩
theorem b139 : Body Try.prog 139 := ⟨Try.f139, Try.func139, rfl, rfl⟩
theorem b140 : Body Try.prog 140 := ⟨Try.f140, Try.func140, rfl, rfl⟩
theorem b141 : Body Try.prog 141 := ⟨Try.f141, Try.func141, rfl, rfl⟩
theorem b143 : Body Try.prog 143 := ⟨Try.f143, Try.func143, rfl, rfl⟩
theorem b144 : Body Try.prog 144 := ⟨Try.f144, Try.func144, rfl, rfl⟩
theorem b145 : Body Try.prog 145 := ⟨Try.f145, Try.func145, rfl, rfl⟩
theorem b146 : Body Try.prog 146 := ⟨Try.f146, Try.func146, rfl, rfl⟩
theorem b147 : Body Try.prog 147 := ⟨Try.f147, Try.func147, rfl, rfl⟩
theorem b148 : Body Try.prog 148 := ⟨Try.f148, Try.func148, rfl, rfl⟩
theorem b149 : Body Try.prog 149 := ⟨Try.f149, Try.func149, rfl, rfl⟩
theorem b150 : Body Try.prog 150 := ⟨Try.f150, Try.func150, rfl, rfl⟩
theorem b151 : Body Try.prog 151 := ⟨Try.f151, Try.func151, rfl, rfl⟩
theorem b152 : Body Try.prog 152 := ⟨Try.f152, Try.func152, rfl, rfl⟩
theorem b153 : Body Try.prog 153 := ⟨Try.f153, Try.func153, rfl, rfl⟩
theorem b154 : Body Try.prog 154 := ⟨Try.f154, Try.func154, rfl, rfl⟩
theorem b155 : Body Try.prog 155 := ⟨Try.f155, Try.func155, rfl, rfl⟩
theorem b156 : Body Try.prog 156 := ⟨Try.f156, Try.func156, rfl, rfl⟩
theorem b157 : Body Try.prog 157 := ⟨Try.f157, Try.func157, rfl, rfl⟩
theorem b158 : Body Try.prog 158 := ⟨Try.f158, Try.func158, rfl, rfl⟩
theorem b159 : Body Try.prog 159 := ⟨Try.f159, Try.func159, rfl, rfl⟩
theorem b160 : Body Try.prog 160 := ⟨Try.f160, Try.func160, rfl, rfl⟩
theorem b161 : Body Try.prog 161 := ⟨Try.f161, Try.func161, rfl, rfl⟩
theorem b162 : Body Try.prog 162 := ⟨Try.f162, Try.func162, rfl, rfl⟩
theorem b163 : Body Try.prog 163 := ⟨Try.f163, Try.func163, rfl, rfl⟩
theorem b164 : Body Try.prog 164 := ⟨Try.f164, Try.func164, rfl, rfl⟩
theorem b165 : Body Try.prog 165 := ⟨Try.f165, Try.func165, rfl, rfl⟩
theorem b166 : Body Try.prog 166 := ⟨Try.f166, Try.func166, rfl, rfl⟩
theorem b167 : Body Try.prog 167 := ⟨Try.f167, Try.func167, rfl, rfl⟩

def encS (s : Span) : List CV := [.i s.m, .i s.f, .i s.t]
def encL (l : Lot) : List CV := [.i l.s.m, .i l.s.f, .i l.s.t, .i l.o, .i l.h, .i l.u, .i l.p]
def encI (n : Int) : List CV := [.i n]
def spT : Ty Span := flat 3 encS (fun _ => rfl)
def loT : Ty Lot := flat 7 encL (fun _ => rfl)
/-- A deed's cells; v: the slice of its spans. -/
def encD (d : Deed) (v : Value) : List CV := [.i d.mark, .i d.kind, .i d.author, .i d.who, .i d.day, .i d.til, .x v]
def deT : Ty Deed where
  size := 7
  rel := fun S w d l => ∃ v, l = encD d v ∧ SlOf spT S w v d.spans
  len := fun ⟨v, h, _⟩ => by rw [h]; rfl
  fr := fun hf ⟨v, h, h'⟩ => ⟨v, h, h'.fr hf⟩
  av := fun hs ⟨v, h, h'⟩ => ⟨v, h, h'.avoid hs⟩
theorem encS_ints (s : Span) : intsOnly (encS s) = true := rfl
theorem encL_ints (l : Lot) : intsOnly (encL l) = true := rfl
theorem encI_ints (n : Int) : intsOnly (encI n) = true := rfl
theorem nopS (xs : List Span) : NoP (xs.map encS) := NoP.map (fun _ => rfl) xs
theorem nopL (xs : List Lot) : NoP (xs.map encL) := NoP.map (fun _ => rfl) xs
theorem nopI (xs : List Int) : NoP (xs.map encI) := NoP.map (fun _ => rfl) xs
/-- A span, a lot, as a value. -/
def vS (s : Span) : Value := .agg #[.int .i64 s.m, .int .i64 s.f, .int .i64 s.t]
def vL (l : Lot) : Value := .agg #[.int .i64 l.s.m, .int .i64 l.s.f, .int .i64 l.s.t, .int .i64 l.o, .int .i64 l.h, .int .i64 l.u, .int .i64 l.p]
def vD (d : Deed) (v : Value) : Value := .agg #[.int .i64 d.mark, .int .i64 d.kind, .int .i64 d.author, .int .i64 d.who, .int .i64 d.day, .int .i64 d.til, v]
def vI (n : Int) : Value := .int .i64 n
end Go.Proofs.Ytjilbkioieicbaa

/- Walks: spans. -/
namespace Go.Proofs.Ytjilbkioieicbaa
open Go.Vc Rt
set_option linter.unusedVariables false
set_option linter.unusedSimpArgs false
theorem mark_c (n : Int) (w : World) : Ans Try.prog 111 [vI n] (.b (isMark n)) w := by
  refine calls_plainB [.i n] Try.func111 rfl rfl (Nat.le_of_ble_eq_true rfl) rfl fun B hB => ?_
  repeat refine At.seq ?_
  refine At.region tab_ok ?_
  conv => whnf
  repeat refine At.seq ?_
  refine At.region tab_ok ?_
  conv => whnf
  repeat refine At.seq ?_
  refine At.ret (At.doneB tab_ok hB _ rfl fun w' hw => ⟨?_, hw.fr⟩)
  simp only [RV.den, SV.den, CV.den, band, isMark]
theorem isKey_c (n : Int) (w : World) : Ans Try.prog 121 [vI n] (.b (decide (0 ≤ n) && decide (n < 200))) w := by
  refine calls_plainB [.i n] Try.func121 rfl rfl (Nat.le_of_ble_eq_true rfl) rfl fun B hB => ?_
  repeat refine At.seq ?_
  refine At.region tab_ok ?_
  conv => whnf
  repeat refine At.seq ?_
  refine At.region tab_ok ?_
  conv => whnf
  repeat refine At.seq ?_
  refine At.ret (At.doneB tab_ok hB _ rfl fun w' hw => ⟨?_, hw.fr⟩)
  simp only [RV.den, SV.den, CV.den, band]
theorem valid_c (s : Span) (w : World) : Ans Try.prog 80 [vS s] (.b (valid s)) w := by
  refine calls_plainB [.s (.agg (encS s))] Try.func80 rfl rfl (Nat.le_of_ble_eq_true rfl) rfl fun B hB => ?_
  repeat refine At.seq ?_
  refine At.region tab_ok ?_
  conv => whnf
  intro b
  conv => whnf
  repeat refine At.seq ?_
  refine At.region tab_ok ?_
  conv => whnf
  refine ans_call b111 rfl (fun w _ => mark_c s.m w) ?_
  conv => whnf
  repeat refine At.seq ?_
  refine At.ret (At.doneB tab_ok hB _ rfl fun w' hw => ⟨?_, hw.fr⟩)
  simp only [RV.den, SV.den, CV.den, band, valid, Bool.and_assoc]
end Go.Proofs.Ytjilbkioieicbaa

/- Walks: spans. -/
namespace Go.Proofs.Ytjilbkioieicbaa
open Go.Vc Rt
set_option linter.unusedVariables false
set_option linter.unusedSimpArgs false
theorem normal_false {xs : List Span} {k : Nat} (hk : k < xs.length) (h : okAt xs k = false) : normal xs = false := by
  unfold normal
  rw [List.all_eq_false]
  exact ⟨k, List.mem_range.2 hk, by simp [h]⟩
theorem normal_true {xs : List Span} (h : ∀ j, j < xs.length → okAt xs j = true) : normal xs = true := by
  unfold normal
  rw [List.all_eq_true]
  intro k hk
  exact h k (List.mem_range.1 hk)
theorem normal_c (xs : List Span) (S : List Nat) (v : Value) (w : World) (h : SlOf spT S w v xs) : Ans Try.prog 46 [v] (.b (normal xs)) w := by
  replace h := h.avoid (S' := []) (fun b hb => by cases hb)
  have hsm := h.small
  refine calls_plainB [.x v] Try.func46 rfl rfl (Nat.le_of_ble_eq_true rfl) rfl fun B hB => ?_
  repeat refine At.seq ?_
  refine At.region tab_ok ?_
  conv => whnf
  repeat refine At.seq ?_
  refine At.region tab_ok ?_
  conv => whnf
  refine ⟨h.sl, ?_⟩
  conv => whnf
  repeat refine At.seq ?_
  refine At.block ?_
  refine At.loopF (fun k : Nat => { N := Try.f46.ntmps, sl := [(0, some (.x v)), (5, some (.x v)), (6, some (.i xs.length)), (7, some (.i k))], gl := [], hp := [], S := [], ws := w }) (fun k => k ≤ xs.length ∧ ∀ j, j < k → okAt xs j = true) (fun k => xs.length - k)
    (fun w' hw => ⟨0, ⟨Nat.zero_le _, fun j hj => by omega⟩, Le.of rfl rfl ⟨rfl, rfl, congrArg (Value.int .i64) h.len, rfl, trivial⟩, WF.plain rfl, hw.same rfl rfl rfl⟩) ?_
  intro k ⟨hk, hall⟩
  repeat refine At.seq ?_
  refine At.region tab_ok ?_
  conv => whnf
  repeat refine At.seq ?_
  refine At.cond rfl (fun hc => At.skip ?_) (fun hc => At.exit ?_)
  · have hlt : k < xs.length := by simpa using hc
    obtain ⟨x, hx⟩ : ∃ x, xs[k]? = some x := ⟨_, List.getElem?_eq_getElem hlt⟩
    obtain ⟨y, hy⟩ : ∃ y, xs[k - 1]? = some y := ⟨_, List.getElem?_eq_getElem (by omega)⟩
    have hy' : ∀ {q : Int}, q = k - 1 → 0 < (k : Int) → xs[q.toNat]? = some y := fun e h0 => by rw [← hy]; congr 1; omega
    have hln := h.len
    repeat refine At.seq ?_
    refine At.block ?_
    repeat refine At.seq ?_
    refine At.region tab_ok ?_
    conv => whnf
    refine ⟨by omega, ?_⟩
    conv => whnf
    refine ⟨by rw [h.len]; omega, ?_⟩
    conv => whnf
    refine ⟨encS x, fun w' hw => h.load (n := 3) hw.fr hx rfl, ?_⟩
    conv => whnf
    intro b
    conv => whnf
    repeat refine At.seq ?_
    refine At.draw tab_ok mixed (by kernel_rfl) ?_
    conv => whnf
    refine ⟨.b (valid x), ans_quiet b80 (fun w _ => valid_c x w), ?_⟩
    conv => whnf
    refine ⟨by simp only [gimp]; intro h1; have := of_decide_eq_true h1; exact fun _ => ⟨by omega, by omega⟩, ?_⟩
    conv => whnf
    refine ⟨by simp only [gimp]; intro h1; have := of_decide_eq_true h1; exact fun _ => by omega, ?_⟩
    conv => whnf
    refine ⟨by simp only [gimp]; intro h1; have := of_decide_eq_true h1; exact fun _ => by omega, ?_⟩
    conv => whnf
    refine ⟨[.i y.m], by simp only [gimp]; intro h1 _ w' hw; have := of_decide_eq_true h1; exact h.loadI (n := 1) hw.fr (by omega) (hy' rfl (by omega)) rfl, ?_⟩
    conv => whnf
    refine ⟨by simp only [gimp]; intro _ h1; have := of_decide_eq_true h1; exact fun _ => ⟨by omega, by omega⟩, ?_⟩
    conv => whnf
    refine ⟨by simp only [gimp]; intro _ h1; have := of_decide_eq_true h1; exact fun _ => by omega, ?_⟩
    conv => whnf
    refine ⟨by simp only [gimp]; intro _ h1; have := of_decide_eq_true h1; exact fun _ => by omega, ?_⟩
    conv => whnf
    refine ⟨[.i y.m], by simp only [gimp]; intro _ h1 _ w' hw; have := of_decide_eq_true h1; exact h.loadI (n := 1) hw.fr (by omega) (hy' rfl (by omega)) rfl, ?_⟩
    conv => whnf
    refine ⟨by simp only [gimp]; intro _ _ h1; have := of_decide_eq_true h1; exact fun _ => ⟨by omega, by omega⟩, ?_⟩
    conv => whnf
    refine ⟨by simp only [gimp]; intro _ _ h1; have := of_decide_eq_true h1; exact fun _ => by omega, ?_⟩
    conv => whnf
    refine ⟨by simp only [gimp]; intro _ _ h1; have := of_decide_eq_true h1; exact fun _ => by omega, ?_⟩
    conv => whnf
    refine ⟨[.i y.t], by simp only [gimp]; intro _ _ h1 _ w' hw; have := of_decide_eq_true h1; exact h.loadI (n := 1) hw.fr (by omega) (hy' rfl (by omega)) rfl, ?_⟩
    conv => whnf
    have hok : okAt xs k = (valid x && (k == 0 || !(decide (x.m < y.m) || (decide (y.m = x.m) && decide (x.f ≤ y.t))))) := by
      unfold okAt; rw [hx]; simp only [hy]
    repeat refine At.seq ?_
    refine At.cond rfl (fun hq => ?_) (fun hq => ?_)
    · repeat refine At.seq ?_
      refine At.region tab_ok ?_
      conv => whnf
      repeat refine At.seq ?_
      refine At.ret (At.doneB tab_ok hB _ rfl fun w' hw => ⟨?_, hw.fr⟩)
      rw [normal_false hlt]
      rw [hok]
      simp only [band, bor] at hq
      revert hq
      cases valid x <;> cases decide (x.m < y.m) <;> cases decide (y.m = x.m) <;> cases decide (x.f ≤ y.t) <;> simp <;> try omega
    · refine At.skip ?_
      repeat refine At.seq ?_
      refine At.region tab_ok ?_
      conv => whnf
      refine ⟨⟨by omega, by omega⟩, ?_⟩
      conv => whnf
      refine At.next fun w' hw => ⟨k + 1, ⟨by omega, fun j hj => ?_⟩, by omega, Le.of rfl rfl ⟨rfl, rfl, rfl, rfl, trivial⟩, WF.plain rfl, hw.keep [] rfl rfl rfl⟩
      rcases Nat.lt_or_ge j k with hj' | hj'
      · exact hall j hj'
      · obtain rfl : j = k := by omega
        rw [hok]
        simp only [band, bor] at hq
        revert hq
        cases valid x <;> cases decide (x.m < y.m) <;> cases decide (y.m = x.m) <;> cases decide (x.f ≤ y.t) <;> simp <;> try omega
  · have hge : k = xs.length := by simp at hc; omega
    subst hge
    repeat refine At.seq ?_
    refine At.region tab_ok ?_
    conv => whnf
    repeat refine At.seq ?_
    refine At.ret (At.doneB tab_ok hB _ rfl fun w' hw => ⟨?_, hw.fr⟩)
    rw [normal_true hall]
end Go.Proofs.Ytjilbkioieicbaa

/- Walks: the library's functions at spans. -/
namespace Go.Proofs.Ytjilbkioieicbaa
open Go.Vc Rt
set_option linter.unusedVariables false
set_option linter.unusedSimpArgs false
theorem isNaN_c (x : Int) (w : World) : Ans Try.prog 85 [vI x] (.b false) w := by
  refine calls_plainB [.i x] Try.func85 rfl rfl (Nat.le_of_ble_eq_true rfl) rfl fun B hB => ?_
  repeat refine At.seq ?_
  refine At.region tab_ok ?_
  conv => whnf
  repeat refine At.seq ?_
  refine At.region tab_ok ?_
  conv => whnf
  repeat refine At.seq ?_
  refine At.ret (At.doneB tab_ok hB _ rfl fun w' hw => ⟨?_, hw.fr⟩)
  simp [RV.den, SV.den, CV.den]
def cmpI (x y : Int) : Int := if x < y then -1 else if y < x then 1 else 0
theorem compare_c (x y : Int) (w : World) : Ans Try.prog 58 [vI x, vI y] (.i (cmpI x y)) w := by
  refine calls_plainB [.i x, .i y] Try.func58 rfl rfl (Nat.le_of_ble_eq_true rfl) rfl fun B hB => ?_
  repeat refine At.seq ?_
  refine At.region tab_ok ?_
  conv => whnf
  repeat refine At.seq ?_
  refine At.region tab_ok ?_
  conv => whnf
  refine ans_call b85 rfl (fun w _ => isNaN_c x w) ?_
  conv => whnf
  repeat refine At.seq ?_
  refine At.region tab_ok ?_
  conv => whnf
  refine ans_call b85 rfl (fun w _ => isNaN_c y w) ?_
  conv => whnf
  repeat refine At.seq ?_
  refine At.region tab_ok ?_
  conv => whnf
  repeat refine At.seq ?_
  refine At.cond (t := false) rfl (fun hq => by cases hq) (fun hq => At.skip ?_)
  repeat refine At.seq ?_
  refine At.region tab_ok ?_
  conv => whnf
  repeat refine At.seq ?_
  refine At.cond (t := false) rfl (fun hq => by cases hq) (fun hq => At.skip ?_)
  repeat refine At.seq ?_
  refine At.region tab_ok ?_
  conv => whnf
  repeat refine At.seq ?_
  refine At.cond rfl (fun hq => ?_) (fun hq => ?_)
  · repeat refine At.seq ?_
    refine At.region tab_ok ?_
    conv => whnf
    repeat refine At.seq ?_
    refine At.ret (At.doneB tab_ok hB _ rfl fun w' hw => ⟨?_, hw.fr⟩)
    have := of_decide_eq_true hq
    simp [RV.den, SV.den, CV.den, cmpI, this, ofConst]
  · have h1 := of_decide_eq_false hq
    refine At.skip ?_
    repeat refine At.seq ?_
    refine At.region tab_ok ?_
    conv => whnf
    repeat refine At.seq ?_
    refine At.cond rfl (fun hq => ?_) (fun hq => ?_)
    · repeat refine At.seq ?_
      refine At.region tab_ok ?_
      conv => whnf
      repeat refine At.seq ?_
      refine At.ret (At.doneB tab_ok hB _ rfl fun w' hw => ⟨?_, hw.fr⟩)
      have := of_decide_eq_true hq
      simp [RV.den, SV.den, CV.den, cmpI, this, h1, ofConst]
    · refine At.skip ?_
      repeat refine At.seq ?_
      refine At.region tab_ok ?_
      conv => whnf
      repeat refine At.seq ?_
      refine At.ret (At.doneB tab_ok hB _ rfl fun w' hw => ⟨?_, hw.fr⟩)
      have := of_decide_eq_false hq
      simp [RV.den, SV.den, CV.den, cmpI, this, h1, ofConst]
theorem norm1_c (s : Span) (w : World) : Ans Try.prog 98 [vS s] (.b (!valid s)) w := by
  refine calls_plainB [.s (.agg (encS s))] Try.func98 rfl rfl (Nat.le_of_ble_eq_true rfl) rfl fun B hB => ?_
  repeat refine At.seq ?_
  refine At.region tab_ok ?_
  conv => whnf
  intro b
  conv => whnf
  repeat refine At.seq ?_
  refine At.region tab_ok ?_
  conv => whnf
  refine ans_call b80 rfl (fun w _ => valid_c s w) ?_
  conv => whnf
  repeat refine At.seq ?_
  refine At.ret (At.doneB tab_ok hB _ rfl fun w' hw => ⟨rfl, hw.fr⟩)
def orI (xs : List Int) : Int := (xs.find? (fun x => decide (x ≠ 0))).getD 0
theorem or_c (xs : List Int) (S : List Nat) (v : Value) (w : World) (h : SlOf intT S w v xs) : Ans Try.prog 101 [v] (.i (orI xs)) w := by
  replace h := h.avoid (S' := []) (fun b hb => by cases hb)
  have hsm := h.small
  refine calls_plainB [.x v] Try.func101 rfl rfl (Nat.le_of_ble_eq_true rfl) rfl fun B hB => ?_
  repeat refine At.seq ?_
  refine At.region tab_ok ?_
  conv => whnf
  repeat refine At.seq ?_
  refine At.region tab_ok ?_
  conv => whnf
  repeat refine At.seq ?_
  refine At.region tab_ok ?_
  conv => whnf
  refine ⟨h.sl, ?_⟩
  conv => whnf
  repeat refine At.seq ?_
  refine At.block ?_
  refine At.loopF (fun k : Nat => { N := Try.f101.ntmps, sl := [(3, some (.i 0)), (6, some (.x v)), (7, some (.i xs.length)), (8, some (.i k))], gl := [], hp := [], S := [], ws := w }) (fun k => k ≤ xs.length ∧ orI xs = orI (xs.drop k)) (fun k => xs.length - k)
    (fun w' hw => ⟨0, ⟨Nat.zero_le _, rfl⟩, Le.of rfl rfl ⟨rfl, rfl, congrArg (Value.int .i64) h.len, rfl, trivial⟩, WF.plain rfl, hw.same rfl rfl rfl⟩) ?_
  intro k ⟨hk, hor⟩
  repeat refine At.seq ?_
  refine At.region tab_ok ?_
  conv => whnf
  repeat refine At.seq ?_
  refine At.cond rfl (fun hc => At.skip ?_) (fun hc => At.exit ?_)
  · have hlt : k < xs.length := by simpa using hc
    obtain ⟨x, hx⟩ : ∃ x, xs[k]? = some x := ⟨_, List.getElem?_eq_getElem hlt⟩
    have hd : xs.drop k = x :: xs.drop (k + 1) := by rw [List.drop_eq_getElem_cons hlt]; congr 1; rw [List.getElem?_eq_getElem hlt] at hx; exact Option.some.inj hx
    repeat refine At.seq ?_
    refine At.block ?_
    repeat refine At.seq ?_
    refine At.region tab_ok ?_
    conv => whnf
    refine ⟨by omega, ?_⟩
    conv => whnf
    refine ⟨by rw [h.len]; omega, ?_⟩
    conv => whnf
    refine ⟨[.i x], fun w' hw => h.load (n := 1) hw.fr hx rfl, ?_⟩
    conv => whnf
    repeat refine At.seq ?_
    refine At.region tab_ok ?_
    conv => whnf
    repeat refine At.seq ?_
    refine At.cond rfl (fun hq => ?_) (fun hq => ?_)
    · repeat refine At.seq ?_
      refine At.region tab_ok ?_
      conv => whnf
      repeat refine At.seq ?_
      refine At.ret (At.doneB tab_ok hB _ rfl fun w' hw => ⟨?_, hw.fr⟩)
      have hne : x ≠ 0 := by simpa using hq
      rw [hor, hd]
      simp [orI, hne, RV.den, SV.den, CV.den]
    · refine At.skip ?_
      repeat refine At.seq ?_
      refine At.region tab_ok ?_
      conv => whnf
      refine ⟨⟨by omega, by omega⟩, ?_⟩
      conv => whnf
      refine At.next fun w' hw => ⟨k + 1, ⟨by omega, ?_⟩, by omega, Le.of rfl rfl ⟨rfl, rfl, rfl, rfl, trivial⟩, WF.plain rfl, hw.keep [] rfl rfl rfl⟩
      have hne : x = 0 := by simpa using hq
      rw [hor, hd]
      simp [orI, hne]
  · have hge : k = xs.length := by simp at hc; omega
    subst hge
    repeat refine At.seq ?_
    refine At.region tab_ok ?_
    conv => whnf
    repeat refine At.seq ?_
    refine At.ret (At.doneB tab_ok hB _ rfl fun w' hw => ⟨?_, hw.fr⟩)
    rw [hor]
    simp [orI]
def idxOf {α : Type} (p : α → Bool) (xs : List α) : Int := match xs.findIdx? p with | some i => i | none => -1
theorem idx_some {α : Type} {p : α → Bool} {xs : List α} {k : Nat} {x : α} (hx : xs[k]? = some x) (hp : p x = true) (hall : ∀ j y, j < k → xs[j]? = some y → p y = false) : idxOf p xs = k := by
  have : xs.findIdx? p = some k := by
    rw [List.findIdx?_eq_some_iff_getElem]
    obtain ⟨hlt, e⟩ := List.getElem?_eq_some_iff.1 hx
    refine ⟨hlt, by rw [e]; exact hp, fun j hj => ?_⟩
    rw [hall j _ hj (List.getElem?_eq_getElem (by omega))]; simp
  unfold idxOf; rw [this]
theorem idx_none {α : Type} {p : α → Bool} {xs : List α} (hall : ∀ (j : Nat) y, xs[j]? = some y → p y = false) : idxOf p xs = -1 := by
  have : xs.findIdx? p = none := by
    rw [List.findIdx?_eq_none_iff]
    intro x hx
    obtain ⟨j, hj, e⟩ := List.getElem_of_mem hx
    exact hall j x (by rw [List.getElem?_eq_getElem hj, e])
  unfold idxOf; rw [this]
theorem indexS_c (xs : List Span) (S : List Nat) (v : Value) (w : World) (h : SlOf spT S w v xs) (g : Nat) (caps : Array Value) (p : Span → Bool) (hg : Body Try.prog g)
    (hf : ∀ x ∈ xs, ∀ w', Ext w w' → Ans Try.prog g (vS x :: caps.toList) (.b (p x)) w') : Ans Try.prog 128 [v, .func (.func g) #[] caps] (.i (idxOf p xs)) w := by
  replace h := h.avoid (S' := []) (fun b hb => by cases hb)
  have hsm := h.small
  refine calls_plainB [.x v, .x (.func (.func g) #[] caps)] Try.func128 rfl rfl (Nat.le_of_ble_eq_true rfl) rfl fun B hB => ?_
  repeat refine At.seq ?_
  refine At.region tab_ok ?_
  conv => whnf
  repeat refine At.seq ?_
  refine At.region tab_ok ?_
  conv => whnf
  refine ⟨h.sl, ?_⟩
  conv => whnf
  repeat refine At.seq ?_
  refine At.block ?_
  refine At.loopF (fun k : Nat => { N := Try.f128.ntmps, sl := [(0, some (.x v)), (1, some (.x (.func (.func g) #[] caps))), (7, some (.i xs.length)), (8, some (.i k))], gl := [], hp := [], S := [], ws := w }) (fun k => k ≤ xs.length ∧ ∀ j y, j < k → xs[j]? = some y → p y = false) (fun k => xs.length - k)
    (fun w' hw => ⟨0, ⟨Nat.zero_le _, fun j y hj => by omega⟩, Le.of rfl rfl ⟨rfl, rfl, congrArg (Value.int .i64) h.len, rfl, trivial⟩, WF.plain rfl, hw.same rfl rfl rfl⟩) ?_
  intro k ⟨hk, hall⟩
  repeat refine At.seq ?_
  refine At.region tab_ok ?_
  conv => whnf
  repeat refine At.seq ?_
  refine At.cond rfl (fun hc => At.skip ?_) (fun hc => At.exit ?_)
  · have hlt : k < xs.length := by simpa using hc
    obtain ⟨x, hx⟩ : ∃ x, xs[k]? = some x := ⟨_, List.getElem?_eq_getElem hlt⟩
    repeat refine At.seq ?_
    refine At.block ?_
    repeat refine At.seq ?_
    refine At.region tab_ok ?_
    conv => whnf
    repeat refine At.seq ?_
    refine At.region tab_ok ?_
    conv => whnf
    refine ⟨by omega, ?_⟩
    conv => whnf
    refine ⟨by rw [h.len]; omega, ?_⟩
    conv => whnf
    refine ⟨encS x, fun w' hw => h.load (n := 3) hw.fr hx rfl, ?_⟩
    conv => whnf
    refine ans_call hg rfl (fun w' hw => hf x (List.mem_of_getElem? hx) w' hw.fr) ?_
    conv => whnf
    repeat refine At.seq ?_
    refine At.cond rfl (fun hq => ?_) (fun hq => ?_)
    · repeat refine At.seq ?_
      refine At.region tab_ok ?_
      conv => whnf
      repeat refine At.seq ?_
      refine At.ret (At.doneB tab_ok hB _ rfl fun w' hw => ⟨?_, hw.fr⟩)
      rw [idx_some hx hq hall]
    · refine At.skip ?_
      repeat refine At.seq ?_
      refine At.region tab_ok ?_
      conv => whnf
      refine ⟨⟨by omega, by omega⟩, ?_⟩
      conv => whnf
      refine At.next fun w' hw => ⟨k + 1, ⟨by omega, fun j y hj hy => ?_⟩, by omega, Le.of rfl rfl ⟨rfl, rfl, rfl, rfl, trivial⟩, WF.plain rfl, hw.keep [] rfl rfl rfl⟩
      rcases Nat.lt_or_ge j k with hj' | hj'
      · exact hall j y hj' hy
      · obtain rfl : j = k := by omega
        rw [hx] at hy; cases hy; exact hq
  · have hge : k = xs.length := by simp at hc; omega
    subst hge
    repeat refine At.seq ?_
    refine At.region tab_ok ?_
    conv => whnf
    repeat refine At.seq ?_
    refine At.ret (At.doneB tab_ok hB _ rfl fun w' hw => ⟨?_, hw.fr⟩)
    rw [idx_none (fun j y hy => hall j y (List.getElem?_eq_some_iff.1 hy).1 hy)]
theorem cloneS_c (xs : List Span) (S : List Nat) (v : Value) (w : World) (h : SlOf spT S w v xs) (hB : xs.length ≤ 1000000) : AnsR Try.prog 97 [v] [.row 56 3 (xs.map encS)] w := by
  replace h := h.avoid (S' := []) (fun b hb => by cases hb)
  refine calls_plainB [.x v] Try.func97 rfl rfl (Nat.le_of_ble_eq_true rfl) rfl fun B hB => ?_
  repeat refine At.seq ?_
  refine At.region tab_ok ?_
  conv => whnf
  repeat refine At.seq ?_
  refine At.region tab_ok ?_
  conv => whnf
  refine ⟨h.sl, ?_⟩
  conv => whnf
  repeat refine At.seq ?_
  refine At.cond rfl (fun hq => ?_) (fun hq => ?_)
  · have hx : xs = [] := by
      obtain ⟨a, n, c, rfl, hnil, _⟩ := h.sl
      have hl := h.len
      cases a with
      | none => simp [slen] at hl; exact List.eq_nil_of_length_eq_zero (by omega)
      | some a => simp [isNilS] at hq
    subst hx
    repeat refine At.seq ?_
    refine At.region tab_ok ?_
    conv => whnf
    repeat refine At.seq ?_
    refine At.ret (At.doneB tab_ok hB _ rfl fun w' hw => ansR_nil hw rfl rfl)
  · refine At.skip ?_
    repeat refine At.seq ?_
    refine At.region tab_ok ?_
    conv => whnf
    intro v1
    conv => whnf
    refine ⟨xs.map encS, ⟨fun w' hw => (h.fr hw.fr).src encS_ints, nopS xs⟩, ?_⟩
    conv => whnf
    refine ⟨⟨rfl, by simp; omega⟩, ?_⟩
    conv => whnf
    intro v2
    conv => whnf
    repeat refine At.seq ?_
    refine At.ret (At.doneB tab_ok hB _ rfl fun w' hw => ansR_row (id := 0) hw rfl rfl rfl)
end Go.Proofs.Ytjilbkioieicbaa
