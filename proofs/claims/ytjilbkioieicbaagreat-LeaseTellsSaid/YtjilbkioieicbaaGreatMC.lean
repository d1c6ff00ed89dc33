/- Texts that the law uses: P0 P1 P2 P8 Sx B0 W1 W2 W3 W4 W5 W6 W7 W8 WS. -/
import Derived.Shelf.SlSortCmp.WholeK
import Derived.Shelf.SlSortCmp.NoneTotal
import Derived.Ground.SlsfProg
import Derived.Test.YtjilbkioieicbaaGreatProg
import Derived.KernelRfl
import Derived.Test.YtjilbkioieicbaaGreatVcKit
/- Spans, lots and deeds, and what the program's functions compute of them, in plain terms. -/
namespace Rt
structure Span where
  m : Int
  f : Int
  t : Int
theorem Span.ext' {a b : Span} (h1 : a.m = b.m) (h2 : a.f = b.f) (h3 : a.t = b.t) : a = b := by cases a; cases b; simp_all
instance : DecidableEq Span := fun a b => if h : a.m = b.m ∧ a.f = b.f ∧ a.t = b.t then .isTrue (Span.ext' h.1 h.2.1 h.2.2) else .isFalse fun e => h (by subst e; exact ⟨rfl, rfl, rfl⟩)
instance : Inhabited Span := ⟨⟨0, 0, 0⟩⟩
structure Lot where
  s : Span
  o : Int
  h : Int
  u : Int
  p : Int
theorem Lot.ext' {a b : Lot} (h1 : a.s = b.s) (h2 : a.o = b.o) (h3 : a.h = b.h) (h4 : a.u = b.u) (h5 : a.p = b.p) : a = b := by cases a; cases b; simp_all
instance : DecidableEq Lot := fun a b => if h : a.s = b.s ∧ a.o = b.o ∧ a.h = b.h ∧ a.u = b.u ∧ a.p = b.p then .isTrue (Lot.ext' h.1 h.2.1 h.2.2.1 h.2.2.2.1 h.2.2.2.2) else .isFalse fun e => h (by subst e; exact ⟨rfl, rfl, rfl, rfl, rfl⟩)
instance : Inhabited Lot := ⟨⟨default, 0, 0, 0, 0⟩⟩
structure Deed where
  mark : Int
  kind : Int
  author : Int
  who : Int
  day : Int
  til : Int
  spans : List Span
instance : Inhabited Deed := ⟨⟨0, 0, 0, 0, 0, 0, []⟩⟩

/-! ### entry -/
def isMark (n : Int) : Bool := decide (0 ≤ n) && decide (n ≤ 1073741824)
def valid (s : Span) : Bool := isMark s.m && (decide (0 ≤ s.f) && (decide (s.f < s.t) && decide (s.t ≤ 1048576)))
/-- The i-th span is valid, and comes after the one before it. -/
def okAt (l : List Span) (i : Nat) : Bool :=
  match l[i]? with
  | none => false
  | some s => valid s && (i == 0 || (match l[i - 1]? with
    | none => false
    | some r => !(decide (s.m < r.m) || (decide (r.m = s.m) && decide (s.f ≤ r.t)))))
def normal (l : List Span) : Bool := (List.range l.length).all (okAt l)
/-- One more span, of a list in order. -/
def join (out : List Span) (s : Span) : List Span :=
  match out.getLast? with
  | none => out ++ [s]
  | some r => if r.m = s.m ∧ s.f ≤ r.t then out.dropLast ++ [⟨r.m, r.f, max r.t s.t⟩] else out ++ [s]
def joinAll (l : List Span) : List Span := l.foldl join []
def leS (a b : Span) : Bool := decide (a.m < b.m) || (decide (a.m = b.m) && decide (a.f ≤ b.f))
def insS (s : Span) : List Span → List Span
  | [] => [s]
  | x :: r => if leS s x then s :: x :: r else x :: insS s r
def isort : List Span → List Span
  | [] => []
  | x :: r => insS x (isort r)
/-- The normal form. -/
def norm (l : List Span) : List Span := joinAll (isort (l.filter valid))
def total (l : List Span) : Int := (l.map fun s => s.t - s.f).sum
def count (l : List Span) : Int := total (norm l)
end Rt

/- Normal forms of spans: the coins say which. -/
namespace Rt
set_option linter.unusedVariables false
/-- A coin is in spans. -/
def Has (l : List Span) (m n : Int) : Prop := ∃ s ∈ l, s.m = m ∧ s.f ≤ n ∧ n < s.t
/-- One lies before the other, with a gap or of another receipt. -/
def gap (a b : Span) : Prop := a.m < b.m ∨ (a.m = b.m ∧ a.t < b.f)
structure NF (l : List Span) : Prop where
  ne : ∀ s ∈ l, s.f < s.t
  ord : l.Pairwise gap
theorem Has.cons {s : Span} {l : List Span} {m n : Int} : Has (s :: l) m n ↔ (s.m = m ∧ s.f ≤ n ∧ n < s.t) ∨ Has l m n := by
  unfold Has
  constructor
  · rintro ⟨x, hx, h⟩
    rcases List.mem_cons.1 hx with rfl | hx
    · exact .inl h
    · exact .inr ⟨x, hx, h⟩
  · rintro (h | ⟨x, hx, h⟩)
    · exact ⟨s, List.mem_cons_self .., h⟩
    · exact ⟨x, List.mem_cons_of_mem _ hx, h⟩
theorem Has.append {a b : List Span} {m n : Int} : Has (a ++ b) m n ↔ Has a m n ∨ Has b m n := by
  unfold Has
  constructor
  · rintro ⟨x, hx, h⟩
    rcases List.mem_append.1 hx with hx | hx
    · exact .inl ⟨x, hx, h⟩
    · exact .inr ⟨x, hx, h⟩
  · rintro (⟨x, hx, h⟩ | ⟨x, hx, h⟩)
    · exact ⟨x, List.mem_append.2 (.inl hx), h⟩
    · exact ⟨x, List.mem_append.2 (.inr hx), h⟩
theorem Has.nil {m n : Int} : ¬ Has [] m n := fun ⟨x, hx, _⟩ => by cases hx
theorem NF.tail {s : Span} {l : List Span} (h : NF (s :: l)) : NF l := ⟨fun x hx => h.ne x (List.mem_cons_of_mem _ hx), (List.pairwise_cons.1 h.ord).2⟩
/-- In a normal form the first span's first coin comes first; the coin after its last one is not in it. -/
theorem NF.first {s : Span} {l : List Span} (h : NF (s :: l)) {m n : Int} (hh : Has (s :: l) m n) : s.m < m ∨ (s.m = m ∧ s.f ≤ n) := by
  rcases Has.cons.1 hh with ⟨h1, h2, h3⟩ | ⟨x, hx, h1, h2, h3⟩
  · exact .inr ⟨h1, h2⟩
  · have := (List.pairwise_cons.1 h.ord).1 x hx
    have := h.ne s (List.mem_cons_self ..)
    have := h.ne x (List.mem_cons_of_mem _ hx)
    unfold gap at *
    omega
theorem NF.rest {s : Span} {l : List Span} (h : NF (s :: l)) {m n : Int} (hh : Has l m n) : s.m < m ∨ (s.m = m ∧ s.t < n) := by
  obtain ⟨x, hx, h1, h2, h3⟩ := hh
  have := (List.pairwise_cons.1 h.ord).1 x hx
  unfold gap at *
  omega
theorem NF.ext : ∀ {a b : List Span}, NF a → NF b → (∀ m n, Has a m n ↔ Has b m n) → a = b
  | [], [], _, _, _ => rfl
  | [], y :: b, _, hb, h => by
    have := hb.ne y (List.mem_cons_self ..)
    exact (Has.nil ((h y.m y.f).2 (Has.cons.2 (.inl ⟨rfl, by omega, by omega⟩)))).elim
  | x :: a, [], ha, _, h => by
    have := ha.ne x (List.mem_cons_self ..)
    exact (Has.nil ((h x.m x.f).1 (Has.cons.2 (.inl ⟨rfl, by omega, by omega⟩)))).elim
  | x :: a, y :: b, ha, hb, h => by
    have hx := ha.ne x (List.mem_cons_self ..)
    have hy := hb.ne y (List.mem_cons_self ..)
    have h1 := hb.first ((h x.m x.f).1 (Has.cons.2 (.inl ⟨rfl, by omega, by omega⟩)))
    have h2 := ha.first ((h y.m y.f).2 (Has.cons.2 (.inl ⟨rfl, by omega, by omega⟩)))
    have em : x.m = y.m := by omega
    have ef : x.f = y.f := by omega
    have et : x.t = y.t := by
      rcases Int.lt_trichotomy x.t y.t with hlt | he | hgt
      · have hh := (h x.m x.t).2 (Has.cons.2 (.inl ⟨em.symm, by omega, hlt⟩))
        rcases Has.cons.1 hh with h3 | h3
        · omega
        · have := ha.rest h3; omega
      · exact he
      · have hh := (h y.m y.t).1 (Has.cons.2 (.inl ⟨em, by omega, hgt⟩))
        rcases Has.cons.1 hh with h3 | h3
        · omega
        · have := hb.rest h3; omega
    have e : x = y := Span.ext' em ef et
    subst e
    rw [NF.ext ha.tail hb.tail fun m n => ?_]
    constructor
    · intro hh
      have h3 := ha.rest hh
      rcases Has.cons.1 ((h m n).1 (Has.cons.2 (.inr hh))) with h4 | h4
      · omega
      · exact h4
    · intro hh
      have h3 := hb.rest hh
      rcases Has.cons.1 ((h m n).2 (Has.cons.2 (.inr hh))) with h4 | h4
      · omega
      · exact h4
/-! ### Joining spans in order -/
def le2 (a b : Span) : Prop := a.m < b.m ∨ (a.m = b.m ∧ a.f ≤ b.f)
theorem join_snoc (out : List Span) (r s : Span) : join (out ++ [r]) s = if r.m = s.m ∧ s.f ≤ r.t then out ++ [⟨r.m, r.f, max r.t s.t⟩] else out ++ [r] ++ [s] := by
  unfold join
  simp [List.getLast?_append]
theorem join_spec {out : List Span} {s : Span} (h : NF out) (hs : s.f < s.t) (hle : ∀ x ∈ out, le2 x s) : NF (join out s) ∧ (∀ m n, Has (join out s) m n ↔ Has out m n ∨ (s.m = m ∧ s.f ≤ n ∧ n < s.t)) ∧ ∀ x ∈ join out s, ∀ y, (∀ z ∈ out, le2 z y) → le2 s y → le2 x y := by
  rcases List.eq_nil_or_concat out with rfl | ⟨o, r, rfl⟩
  · have e : join [] s = [s] := rfl
    rw [e]
    refine ⟨⟨fun x hx => by simp at hx; subst hx; exact hs, by simp⟩, fun m n => ?_, fun x hx y _ hy => by simp at hx; subst hx; exact hy⟩
    rw [Has.cons]; constructor
    · rintro (h | h)
      · exact .inr h
      · exact (Has.nil h).elim
    · rintro (h | h)
      · exact (Has.nil h).elim
      · exact .inl h
  · simp only [List.concat_eq_append] at *
    rw [join_snoc]
    have hr := h.ne r (by simp)
    have hrs := hle r (by simp)
    obtain ⟨h1, h2, h3⟩ := List.pairwise_append.1 h.ord
    split
    · rename_i hc
      refine ⟨⟨fun x hx => ?_, List.pairwise_append.2 ⟨h1, by simp, fun x hx y hy => ?_⟩⟩, fun m n => ?_, fun x hx y hz hy => ?_⟩
      · rcases List.mem_append.1 hx with hx | hx
        · exact h.ne x (by simp [hx])
        · simp at hx; subst hx; simp only; omega
      · simp at hy; subst hy
        have := h3 x hx r (by simp)
        unfold gap at *; simp only; exact this
      · rw [Has.append, Has.append, Has.cons, Has.cons]
        unfold le2 at hrs
        simp only
        constructor
        · rintro (h4 | h4 | h4)
          · exact .inl (.inl h4)
          · by_cases hn : n < r.t
            · exact .inl (.inr (.inl ⟨h4.1, h4.2.1, hn⟩))
            · exact .inr ⟨by omega, by omega, by omega⟩
          · exact (Has.nil h4).elim
        · rintro ((h4 | h4 | h4) | h4)
          · exact .inl h4
          · exact .inr (.inl ⟨h4.1, h4.2.1, by omega⟩)
          · exact (Has.nil h4).elim
          · exact .inr (.inl ⟨by omega, by omega, by omega⟩)
      · rcases List.mem_append.1 hx with hx | hx
        · exact hz x (by simp [hx])
        · simp at hx; subst hx; have := hz r (by simp); unfold le2 at *; simp only; exact this
    · rename_i hc
      refine ⟨⟨fun x hx => ?_, List.pairwise_append.2 ⟨h.ord, by simp, fun x hx y hy => ?_⟩⟩, fun m n => ?_, fun x hx y hz hy => ?_⟩
      · rcases List.mem_append.1 hx with hx | hx
        · exact h.ne x hx
        · simp at hx; subst hx; exact hs
      · simp at hy; subst hy
        unfold le2 at hrs
        have hgr : gap r y := by unfold gap; omega
        rcases List.mem_append.1 hx with hx | hx
        · have := h3 x hx r (by simp)
          unfold gap at *; omega
        · simp at hx; subst hx; exact hgr
      · rw [Has.append, Has.cons]
        constructor
        · rintro (h4 | h4 | h4)
          · exact .inl h4
          · exact .inr h4
          · exact (Has.nil h4).elim
        · rintro (h4 | h4)
          · exact .inl h4
          · exact .inr (.inl h4)
      · rcases List.mem_append.1 hx with hx | hx
        · exact hz x hx
        · simp at hx; subst hx; exact hy
theorem joins_spec : ∀ {l out : List Span}, NF out → (∀ s ∈ l, s.f < s.t) → l.Pairwise le2 → (∀ x ∈ out, ∀ s ∈ l, le2 x s) → NF (l.foldl join out) ∧ ∀ m n, Has (l.foldl join out) m n ↔ Has out m n ∨ Has l m n
  | [], out, h, _, _, _ => ⟨h, fun m n => ⟨fun h => .inl h, fun h => h.elim id fun h => (Has.nil h).elim⟩⟩
  | s :: l, out, h, hn, hp, hle => by
    obtain ⟨p1, p2⟩ := List.pairwise_cons.1 hp
    obtain ⟨j1, j2, j3⟩ := join_spec h (hn s (List.mem_cons_self ..)) fun x hx => hle x hx s (List.mem_cons_self ..)
    obtain ⟨k1, k2⟩ := joins_spec (l := l) j1 (fun x hx => hn x (List.mem_cons_of_mem _ hx)) p2 fun x hx y hy => j3 x hx y (fun z hz => hle z hz y (List.mem_cons_of_mem _ hy)) (p1 y hy)
    refine ⟨k1, fun m n => ?_⟩
    rw [List.foldl_cons, k2, j2, Has.cons, or_assoc]
theorem joinAll_spec {l : List Span} (hn : ∀ s ∈ l, s.f < s.t) (hp : l.Pairwise le2) : NF (joinAll l) ∧ ∀ m n, Has (joinAll l) m n ↔ Has l m n := by
  obtain ⟨h1, h2⟩ := joins_spec (out := []) ⟨fun s hs => (by cases hs), .nil⟩ hn hp fun x hx => by cases hx
  exact ⟨h1, fun m n => (h2 m n).trans ⟨fun h => h.elim (fun h => (Has.nil h).elim) id, .inr⟩⟩
theorem Has.perm {a b : List Span} (h : a.Perm b) {m n : Int} : Has a m n ↔ Has b m n :=
  ⟨fun ⟨x, hx, h'⟩ => ⟨x, h.subset hx, h'⟩, fun ⟨x, hx, h'⟩ => ⟨x, h.symm.subset hx, h'⟩⟩
theorem leS_iff {a b : Span} : leS a b = true ↔ le2 a b := by unfold leS le2; simp
theorem insS_perm (s : Span) : ∀ l, (insS s l).Perm (s :: l)
  | [] => .refl _
  | x :: r => by
    simp only [insS]
    split
    · exact .refl _
    · exact ((insS_perm s r).cons x).trans (.swap s x r)
theorem isort_perm : ∀ l, (isort l).Perm l
  | [] => .refl _
  | x :: r => (insS_perm x _).trans ((isort_perm r).cons x)
theorem insS_sorted {s : Span} : ∀ {l : List Span}, l.Pairwise le2 → (insS s l).Pairwise le2
  | [], _ => by simp [insS]
  | x :: r, h => by
    obtain ⟨h1, h2⟩ := List.pairwise_cons.1 h
    simp only [insS]
    split
    · rename_i hc
      rw [leS_iff] at hc
      refine List.pairwise_cons.2 ⟨fun y hy => ?_, h⟩
      rcases List.mem_cons.1 hy with rfl | hy
      · exact hc
      · have := h1 y hy; unfold le2 at *; omega
    · rename_i hc
      rw [leS_iff] at hc
      refine List.pairwise_cons.2 ⟨fun y hy => ?_, insS_sorted h2⟩
      rcases List.mem_cons.1 ((insS_perm s r).subset hy) with rfl | hy
      · unfold le2 at *; omega
      · exact h1 y hy
theorem isort_sorted : ∀ l, (isort l).Pairwise le2
  | [] => .nil
  | x :: r => insS_sorted (isort_sorted r)
theorem valid_lt {s : Span} (h : valid s = true) : s.f < s.t := by unfold valid isMark at h; simp at h; omega
/-- The normal form does not depend on how equal spans were put in order. -/
theorem norm_of_sorted {l ys : List Span} (hp : ys.Perm (l.filter valid)) (hs : ys.Pairwise le2) : joinAll ys = norm l := by
  have hv : ∀ s ∈ l.filter valid, s.f < s.t := fun s hs => valid_lt (List.mem_filter.1 hs).2
  obtain ⟨a1, a2⟩ := joinAll_spec (l := ys) (fun s h => hv s (hp.subset h)) hs
  obtain ⟨b1, b2⟩ := joinAll_spec (l := isort (l.filter valid)) (fun s h => hv s ((isort_perm _).subset h)) (isort_sorted _)
  exact NF.ext a1 b1 fun m n => by unfold norm; rw [a2, b2, Has.perm hp, Has.perm (isort_perm _)]
theorem norm_spec (l : List Span) : NF (norm l) ∧ ∀ m n, Has (norm l) m n ↔ Has (l.filter valid) m n := by
  obtain ⟨b1, b2⟩ := joinAll_spec (l := isort (l.filter valid)) (fun s h => valid_lt (List.mem_filter.1 ((isort_perm _).subset h)).2) (isort_sorted _)
  exact ⟨b1, fun m n => by unfold norm; rw [b2, Has.perm (isort_perm _)]⟩
theorem norm_valid {l : List Span} : ∀ s ∈ norm l, valid s = true := by
  intro s hs
  obtain ⟨h1, h2⟩ := norm_spec l
  have hlt := h1.ne s hs
  obtain ⟨a, ha, a1, a2, a3⟩ := (h2 s.m s.f).1 ⟨s, hs, rfl, by omega, by omega⟩
  obtain ⟨b, hb, b1, b2, b3⟩ := (h2 s.m (s.t - 1)).1 ⟨s, hs, rfl, by omega, by omega⟩
  have va := (List.mem_filter.1 ha).2
  have vb := (List.mem_filter.1 hb).2
  unfold valid isMark at *
  simp at *
  omega
theorem total_bound : ∀ {l : List Span}, (∀ s ∈ l, valid s = true) → 0 ≤ total l ∧ total l ≤ l.length * 1048576
  | [], _ => by simp [total]
  | s :: l, h => by
    have ih := total_bound (l := l) fun x hx => h x (List.mem_cons_of_mem _ hx)
    have hs := h s (List.mem_cons_self ..)
    unfold valid isMark at hs
    simp at hs
    have e : total (s :: l) = (s.t - s.f) + total l := by simp [total]
    rw [e]
    simp only [List.length_cons]
    omega
theorem total_append (a b : List Span) : total (a ++ b) = total a + total b := by simp [total]
end Rt

/- Who owns which coins: what the program's functions compute, in plain terms. -/
namespace Rt
set_option linter.unusedVariables false
def isKey (n : Int) : Bool := decide (0 ≤ n) && decide (n < 200)
def right (d : Deed) : Bool :=
  if d.mark < 0 ∨ 1073741824 < d.mark ∨ isKey d.author = false ∨ d.spans.length = 0 ∨ normal d.spans = false then false
  else if d.kind = 0 then
    match d.spans with
    | [s] => decide (s.m = d.mark) && decide (s.f = 0)
    | _ => false
  else if d.kind = 1 then isKey d.who && !decide (d.who = d.author)
  else if d.kind = 2 then isKey d.who && (!decide (d.who = d.author) && (decide (0 ≤ d.til) && decide (d.til ≤ 1048576)))
  else decide (d.kind = 3)
def may (l : Lot) (d : Deed) : Int :=
  if l.p ≠ -1 then 29
  else if l.o ≠ d.author ∧ l.h ≠ d.author then 27
  else if l.h ≠ d.author then 28
  else if l.o ≠ d.author ∧ d.kind ≠ 3 ∧ (d.kind ≠ 1 ∨ d.who ≠ l.o) then 28
  else 0
def worse (a b : Int) : Int :=
  if a = 29 ∨ b = 29 then 29 else if a = 27 ∨ b = 27 then 27 else if a = 28 ∨ b = 28 then 28 else 0
/-- A coin of a span's receipt is in a lot. -/
def inLot (m n : Int) (l : Lot) : Bool := decide (l.s.m = m) && (decide (l.s.f ≤ n) && decide (n < l.s.t))
def cutsIn (m n : Int) (l : Lot) : Bool := decide (l.s.m = m) && (decide (l.s.f < n) && decide (n < l.s.t))
def lotTo (l : Lot) (n : Int) : Lot := { l with s := { l.s with t := n } }
def lotFrom (l : Lot) (n : Int) : Lot := { l with s := { l.s with f := n } }
def split (m n : Int) : List Lot → List Lot
  | [] => []
  | l :: r => if cutsIn m n l then lotTo l n :: lotFrom l n :: r else l :: split m n r
def cutAt (s : Span) (L : List Lot) : List Lot := split s.m s.t (split s.m s.f L)
/-- Neighbors that are alike are put together. -/
def alike (a b : Lot) : Bool := decide (a.o = b.o) && (decide (a.h = b.h) && (decide (a.u = b.u) && (decide (a.p = b.p) && (decide (a.s.m = b.s.m) && decide (a.s.t = b.s.f)))))
def joinL (out : List Lot) (l : Lot) : List Lot :=
  match out.getLast? with
  | none => out ++ [l]
  | some r => if alike r l then out.dropLast ++ [lotTo r l.s.t] else out ++ [l]
def mergeL (L : List Lot) : List Lot := L.foldl joinL []
def few (l : List Deed) (n : Int) : Bool := decide ((l.length : Int) ≤ n) && l.all (fun d => decide (d.spans.length ≤ 8))
end Rt

/- What two lists of spans have in common, what one has and the other not, and the first coins, in plain terms. -/
namespace Rt
set_option linter.unusedVariables false
def comRow (x : Span) (ys : List Span) : List Span := ys.flatMap fun y => if x.m = y.m then [⟨x.m, max x.f y.f, min x.t y.t⟩] else []
def comAll (xs ys : List Span) : List Span := xs.flatMap fun x => comRow x ys
def common (a b : List Span) : List Span := norm (comAll (norm a) (norm b))
def lessOne (y x : Span) : List Span := if x.m = y.m then [⟨x.m, x.f, min x.t y.f⟩, ⟨x.m, max x.f y.t, x.t⟩] else [x]
def lessRow (y : Span) (xs : List Span) : List Span := xs.flatMap (lessOne y)
def lessAll (ys out : List Span) : List Span := ys.foldl (fun out y => norm (lessRow y out)) out
def minus (a b : List Span) : List Span := lessAll (norm b) (norm a)
theorem comRow_len (x : Span) : ∀ ys : List Span, (comRow x ys).length ≤ ys.length
  | [] => by simp [comRow]
  | y :: ys => by
    have ih := comRow_len x ys
    unfold comRow at *
    simp only [List.flatMap_cons, List.length_append, List.length_cons]
    split <;> simp only [List.length_cons, List.length_nil] <;> omega
theorem comAll_len (ys : List Span) : ∀ xs : List Span, (comAll xs ys).length ≤ xs.length * ys.length
  | [] => by simp [comAll]
  | x :: xs => by
    have ih := comAll_len ys xs
    have := comRow_len x ys
    unfold comAll at *
    simp only [List.flatMap_cons, List.length_append, List.length_cons, Nat.add_mul, Nat.one_mul]
    omega
theorem lessRow_len (y : Span) : ∀ xs : List Span, (lessRow y xs).length ≤ 2 * xs.length
  | [] => by simp [lessRow]
  | x :: xs => by
    have ih := lessRow_len y xs
    unfold lessRow at *
    simp only [List.flatMap_cons, List.length_append, List.length_cons]
    have : (lessOne y x).length ≤ 2 := by unfold lessOne; split <;> simp
    omega
theorem norm_len_valid (l : List Span) : (norm l).length ≤ (l.filter valid).length := by
  have key : ∀ (l out : List Span), (l.foldl join out).length ≤ out.length + l.length := by
    intro l
    induction l with
    | nil => intro out; simp
    | cons x l ih =>
      intro out
      have := ih (join out x)
      have : (join out x).length ≤ out.length + 1 := by
        rcases List.eq_nil_or_concat out with rfl | ⟨o, r, rfl⟩
        · simp [join]
        · simp only [List.concat_eq_append]; rw [join_snoc]; split <;> simp
      simp only [List.foldl_cons, List.length_cons]; omega
  have h1 := key (isort (l.filter valid)) []
  have h2 := (isort_perm (l.filter valid)).length_eq
  unfold norm joinAll
  simp only [List.length_nil] at h1
  omega
theorem lessOne_valid (y x : Span) : ((lessOne y x).filter valid).length ≤ 2 ∧ (y.f < y.t → ¬ (x.m = y.m ∧ x.f < y.f ∧ y.t < x.t) → ((lessOne y x).filter valid).length ≤ 1) := by
  unfold lessOne
  split
  · refine ⟨Nat.le_trans (List.length_filter_le ..) (by simp), fun hy h => ?_⟩
    by_cases h1 : x.f < y.f
    · have h2 : ¬ y.t < x.t := fun h2 => h ⟨by assumption, h1, h2⟩
      have : valid ⟨x.m, max x.f y.t, x.t⟩ = false := by unfold valid; simp; intros; omega
      rw [List.filter_cons, List.filter_cons, this]
      split <;> simp
    · have : valid ⟨x.m, x.f, min x.t y.f⟩ = false := by unfold valid; simp; intros; omega
      rw [List.filter_cons, List.filter_cons, this]
      simp only [Bool.false_eq_true, if_false]
      split <;> simp
  · refine ⟨Nat.le_trans (List.length_filter_le ..) (by simp), fun _ _ => Nat.le_trans (List.length_filter_le ..) (by simp)⟩
theorem lessRow_valid {y : Span} (hy : y.f < y.t) : ∀ {xs : List Span}, NF xs → ((lessRow y xs).filter valid).length ≤ xs.length + 1 ∧ ((∀ x ∈ xs, ¬ (x.m = y.m ∧ x.f < y.f ∧ y.t < x.t)) → ((lessRow y xs).filter valid).length ≤ xs.length)
  | [], _ => by simp [lessRow]
  | x :: xs, h => by
    obtain ⟨ih1, ih2⟩ := lessRow_valid hy h.tail
    obtain ⟨o1, o2⟩ := lessOne_valid y x
    have e : lessRow y (x :: xs) = lessOne y x ++ lessRow y xs := by simp [lessRow]
    rw [e, List.filter_append]
    simp only [List.length_append, List.length_cons]
    refine ⟨?_, fun hn => ?_⟩
    · by_cases hx : x.m = y.m ∧ x.f < y.f ∧ y.t < x.t
      · have := ih2 fun z hz hz' => by
          have hg := (List.pairwise_cons.1 h.ord).1 z hz
          unfold gap at hg; omega
        omega
      · have := o2 hy hx; omega
    · have := o2 hy (hn x (List.mem_cons_self ..))
      have := ih2 fun z hz => hn z (List.mem_cons_of_mem _ hz)
      omega
theorem less_len {y : Span} (hy : y.f < y.t) {xs : List Span} (h : NF xs) : (norm (lessRow y xs)).length ≤ xs.length + 1 := Nat.le_trans (norm_len_valid _) (lessRow_valid hy h).1
theorem norm_nf (l : List Span) : NF (norm l) := (norm_spec l).1
theorem lessAll_len : ∀ {ys out : List Span}, (∀ y ∈ ys, y.f < y.t) → NF out → (lessAll ys out).length ≤ out.length + ys.length
  | [], out, _, _ => by simp [lessAll]
  | y :: ys, out, hy, h => by
    have := lessAll_len (ys := ys) (out := norm (lessRow y out)) (fun z hz => hy z (List.mem_cons_of_mem _ hz)) (norm_nf _)
    have := less_len (hy y (List.mem_cons_self ..)) h
    simp only [lessAll, List.foldl_cons, List.length_cons] at *
    omega
/-! ### The coins -/
theorem has_norm {l : List Span} {m n : Int} : Has (norm l) m n ↔ ∃ s ∈ l, valid s = true ∧ s.m = m ∧ s.f ≤ n ∧ n < s.t := by
  rw [(norm_spec l).2]
  constructor
  · rintro ⟨s, hs, h⟩; obtain ⟨h1, h2⟩ := List.mem_filter.1 hs; exact ⟨s, h1, h2, h⟩
  · rintro ⟨s, h1, h2, h⟩; exact ⟨s, List.mem_filter.2 ⟨h1, h2⟩, h⟩
theorem valid_iff {s : Span} : valid s = true ↔ 0 ≤ s.m ∧ s.m ≤ 1073741824 ∧ 0 ≤ s.f ∧ s.f < s.t ∧ s.t ≤ 1048576 := by
  unfold valid isMark; simp; omega
theorem has_common {a b : List Span} {m n : Int} : Has (common a b) m n ↔ Has (norm a) m n ∧ Has (norm b) m n := by
  unfold common
  rw [has_norm]
  constructor
  · rintro ⟨s, hs, hv, h⟩
    obtain ⟨x, hx, hs⟩ := List.mem_flatMap.1 hs
    obtain ⟨y, hy, hs⟩ := List.mem_flatMap.1 hs
    split at hs
    · simp at hs; subst hs; simp only at h
      exact ⟨⟨x, hx, by omega⟩, ⟨y, hy, by omega⟩⟩
    · cases hs
  · rintro ⟨⟨x, hx, h1⟩, ⟨y, hy, h2⟩⟩
    have vx := valid_iff.1 (norm_valid x hx)
    have vy := valid_iff.1 (norm_valid y hy)
    refine ⟨⟨x.m, max x.f y.f, min x.t y.t⟩, List.mem_flatMap.2 ⟨x, hx, List.mem_flatMap.2 ⟨y, hy, ?_⟩⟩, valid_iff.2 (by simp only; omega), by simp only; omega⟩
    rw [if_pos (by omega)]; simp
theorem has_less {y : Span} {xs : List Span} {m n : Int} (hy : y.f < y.t) (hv : ∀ x ∈ xs, valid x = true) (hv' : 0 ≤ y.t ∧ y.f ≤ 1048576) : Has (norm (lessRow y xs)) m n ↔ Has xs m n ∧ ¬ (y.m = m ∧ y.f ≤ n ∧ n < y.t) := by
  rw [has_norm]
  constructor
  · rintro ⟨s, hs, hvs, h⟩
    obtain ⟨x, hx, hs⟩ := List.mem_flatMap.1 hs
    unfold lessOne at hs
    split at hs
    · simp at hs
      rcases hs with rfl | rfl <;> simp only at h <;> exact ⟨⟨x, hx, by omega⟩, by omega⟩
    · simp at hs; subst hs
      exact ⟨⟨s, hx, h⟩, by omega⟩
  · rintro ⟨⟨x, hx, h1⟩, h2⟩
    have vx := valid_iff.1 (hv x hx)
    by_cases hm : x.m = y.m
    · by_cases hn : n < y.f
      · refine ⟨⟨x.m, x.f, min x.t y.f⟩, List.mem_flatMap.2 ⟨x, hx, ?_⟩, valid_iff.2 (by simp only; omega), by simp only; omega⟩
        unfold lessOne; rw [if_pos hm]; simp
      · refine ⟨⟨x.m, max x.f y.t, x.t⟩, List.mem_flatMap.2 ⟨x, hx, ?_⟩, valid_iff.2 (by simp only; omega), by simp only; omega⟩
        unfold lessOne; rw [if_pos hm]; simp
    · refine ⟨x, List.mem_flatMap.2 ⟨x, hx, ?_⟩, hv x hx, h1⟩
      unfold lessOne; rw [if_neg hm]; simp
theorem lessAll_spec : ∀ {ys out : List Span}, (∀ y ∈ ys, valid y = true) → NF out → (∀ x ∈ out, valid x = true) → NF (lessAll ys out) ∧ (∀ x ∈ lessAll ys out, valid x = true) ∧ ∀ m n, Has (lessAll ys out) m n ↔ Has out m n ∧ ¬ Has ys m n
  | [], out, _, h, hv => ⟨h, hv, fun m n => ⟨fun h => ⟨h, Has.nil⟩, fun h => h.1⟩⟩
  | y :: ys, out, hy, h, hv => by
    obtain ⟨h1, h2, h3⟩ := lessAll_spec (ys := ys) (out := norm (lessRow y out)) (fun z hz => hy z (List.mem_cons_of_mem _ hz)) (norm_nf _) norm_valid
    refine ⟨h1, h2, fun m n => ?_⟩
    have vy := valid_iff.1 (hy y (List.mem_cons_self ..))
    show Has (lessAll ys (norm (lessRow y out))) m n ↔ _
    rw [h3, has_less (by omega) hv (by omega), Has.cons]
    constructor
    · rintro ⟨⟨a, b⟩, c⟩; exact ⟨a, fun h => h.elim b c⟩
    · rintro ⟨a, b⟩; exact ⟨⟨a, fun h => b (.inl h)⟩, fun h => b (.inr h)⟩
theorem minus_spec (a b : List Span) : NF (minus a b) ∧ (∀ x ∈ minus a b, valid x = true) ∧ ∀ m n, Has (minus a b) m n ↔ Has (norm a) m n ∧ ¬ Has (norm b) m n :=
  lessAll_spec norm_valid (norm_nf a) norm_valid
theorem nf_empty {l : List Span} (h : NF l) : l.length = 0 ↔ ∀ m n, ¬ Has l m n := by
  constructor
  · intro h0 m n hh
    rw [List.eq_nil_of_length_eq_zero h0] at hh; exact Has.nil hh
  · intro hn
    cases l with
    | nil => rfl
    | cons x l =>
      have := h.ne x (List.mem_cons_self ..)
      exact (hn x.m x.f (Has.cons.2 (.inl ⟨rfl, by omega, by omega⟩))).elim
theorem minus_empty (a b : List Span) : (minus a b).length = 0 ↔ ∀ m n, Has (norm a) m n → Has (norm b) m n := by
  rw [nf_empty (minus_spec a b).1]
  constructor
  · intro h m n h1
    exact Classical.byContradiction fun h2 => h m n (((minus_spec a b).2.2 m n).2 ⟨h1, h2⟩)
  · intro h m n h1
    obtain ⟨h2, h3⟩ := ((minus_spec a b).2.2 m n).1 h1
    exact h3 (h m n h2)
theorem common_empty (a b : List Span) : (common a b).length = 0 ↔ ∀ m n, Has (norm a) m n → ¬ Has (norm b) m n := by
  rw [nf_empty (l := common a b) (norm_nf _)]
  constructor
  · intro h m n h1 h2; exact h m n (has_common.2 ⟨h1, h2⟩)
  · intro h m n h1; obtain ⟨h2, h3⟩ := has_common.1 h1; exact h m n h2 h3
/-! ### The first coins -/
/-- How many of a span's coins are taken, if n are still to be taken. -/
def takeK (n : Int) (s : Span) : Int := min (max n 0) (s.t - s.f)
def takeF : List Span → Int → List Span
  | [], _ => []
  | s :: l, n => ⟨s.m, s.f, s.f + takeK n s⟩ :: takeF l (max n 0 - takeK n s)
def takeR : List Span → Int → List Span
  | [], _ => []
  | s :: l, n => ⟨s.m, s.f + takeK n s, s.t⟩ :: takeR l (max n 0 - takeK n s)
def takeN : List Span → Int → Int
  | [], n => n
  | s :: l, n => takeN l (max n 0 - takeK n s)
theorem takeF_append : ∀ (a b : List Span) (n : Int), takeF (a ++ b) n = takeF a n ++ takeF b (takeN a n)
  | [], b, n => rfl
  | s :: a, b, n => by simp only [List.cons_append, takeF, takeN, takeF_append a b]
theorem takeR_append : ∀ (a b : List Span) (n : Int), takeR (a ++ b) n = takeR a n ++ takeR b (takeN a n)
  | [], b, n => rfl
  | s :: a, b, n => by simp only [List.cons_append, takeR, takeN, takeR_append a b]
theorem takeN_append : ∀ (a b : List Span) (n : Int), takeN (a ++ b) n = takeN b (takeN a n)
  | [], b, n => rfl
  | s :: a, b, n => by simp only [List.cons_append, takeN, takeN_append a b]
theorem takeF_len : ∀ (a : List Span) (n : Int), (takeF a n).length = a.length
  | [], n => rfl
  | s :: a, n => by simp only [takeF, List.length_cons, takeF_len a]
theorem takeR_len : ∀ (a : List Span) (n : Int), (takeR a n).length = a.length
  | [], n => rfl
  | s :: a, n => by simp only [takeR, List.length_cons, takeR_len a]
theorem takeN_bd : ∀ {a : List Span} {n : Int}, (∀ s ∈ a, s.f ≤ s.t) → takeN a n ≤ max n 0 ∧ min n 0 ≤ takeN a n
  | [], n, _ => by simp only [takeN]; omega
  | s :: a, n, h => by
    have := takeN_bd (a := a) (n := max n 0 - takeK n s) fun x hx => h x (List.mem_cons_of_mem _ hx)
    have hs := h s (List.mem_cons_self ..)
    simp only [takeN]
    unfold takeK at *
    omega
theorem take_spec : ∀ {a : List Span} {n : Int}, NF a → (∀ s ∈ a, valid s = true) → (∀ m c, Has (norm (takeF a n)) m c → Has a m c) ∧ (∀ m c, Has (norm (takeR a n)) m c → Has a m c) ∧ (∀ m c, Has a m c → Has (norm (takeF a n)) m c ∨ Has (norm (takeR a n)) m c) ∧ ∀ m c, Has (norm (takeF a n)) m c → ¬ Has (norm (takeR a n)) m c
  | [], n, _, _ => by
    refine ⟨fun m c h => ?_, fun m c h => ?_, fun m c h => (Has.nil h).elim, fun m c h => ?_⟩
    all_goals (rw [has_norm] at h; obtain ⟨s, hs, _⟩ := h; simp [takeF, takeR] at hs)
  | s :: a, n, h, hv => by
    obtain ⟨h1, h2, h3, h4⟩ := take_spec (a := a) (n := max n 0 - takeK n s) h.tail fun x hx => hv x (List.mem_cons_of_mem _ hx)
    have vs := valid_iff.1 (hv s (List.mem_cons_self ..))
    have hk : 0 ≤ takeK n s ∧ takeK n s ≤ s.t - s.f := by unfold takeK; omega
    have eF : ∀ m c, Has (norm (takeF (s :: a) n)) m c ↔ (s.m = m ∧ s.f ≤ c ∧ c < s.f + takeK n s) ∨ Has (norm (takeF a (max n 0 - takeK n s))) m c := by
      intro m c
      rw [has_norm, has_norm]
      simp only [takeF, List.mem_cons]
      constructor
      · rintro ⟨x, rfl | hx, h⟩
        · exact .inl h.2
        · exact .inr ⟨x, hx, h⟩
      · rintro (h | ⟨x, hx, h⟩)
        · exact ⟨_, .inl rfl, valid_iff.2 (by simp only; omega), h⟩
        · exact ⟨x, .inr hx, h⟩
    have eR : ∀ m c, Has (norm (takeR (s :: a) n)) m c ↔ (s.m = m ∧ s.f + takeK n s ≤ c ∧ c < s.t) ∨ Has (norm (takeR a (max n 0 - takeK n s))) m c := by
      intro m c
      rw [has_norm, has_norm]
      simp only [takeR, List.mem_cons]
      constructor
      · rintro ⟨x, rfl | hx, h⟩
        · exact .inl h.2
        · exact .inr ⟨x, hx, h⟩
      · rintro (h | ⟨x, hx, h⟩)
        · exact ⟨_, .inl rfl, valid_iff.2 (by simp only; omega), h⟩
        · exact ⟨x, .inr hx, h⟩
    refine ⟨fun m c hh => ?_, fun m c hh => ?_, fun m c hh => ?_, fun m c hh hh' => ?_⟩
    · rw [Has.cons]
      rcases (eF m c).1 hh with hh | hh
      · exact .inl (by omega)
      · exact .inr (h1 m c hh)
    · rw [Has.cons]
      rcases (eR m c).1 hh with hh | hh
      · exact .inl (by omega)
      · exact .inr (h2 m c hh)
    · rw [eF, eR]
      rcases Has.cons.1 hh with hh | hh
      · by_cases hc : c < s.f + takeK n s
        · exact .inl (.inl (by omega))
        · exact .inr (.inl (by omega))
      · rcases h3 m c hh with hh | hh
        · exact .inl (.inr hh)
        · exact .inr (.inr hh)
    · rcases (eF m c).1 hh with hh | hh <;> rcases (eR m c).1 hh' with hh' | hh'
      · omega
      · have := h.rest (h2 m c hh'); omega
      · have := h.rest (h1 m c hh); omega
      · exact h4 m c hh hh'
end Rt

/- The library's contract of slices.SortFunc at this program, printed in plain words by the kit's tool; no condition. -/
namespace Go.Proofs
open Go.Shelf
def Tryz.sortSp_ren : Go.Shelf.Ren := ⟨fun | 6 => 55 | 15 => 75 | 14 => 74 | 28 => 94 | 29 => 95 | 20 => 86 | 21 => 87 | 22 => 88 | 23 => 89 | 24 => 90 | 25 => 91 | 26 => 92 | 27 => 93 | 46 => 102 | 47 => 103 | 48 => 104 | 49 => 105 | 50 => 106 | 57 => 108 | n => n, fun | 22 => 42 | 24 => 25 | 25 => 81 | 3 => 3 | 39 => 91 | 0 => 0 | 53 => 111 | 55 => 113 | 4 => 4 | 46 => 105 | 45 => 104 | 50 => 94 | 5 => 5 | 9 => 9 | 66 => 118 | 70 => 122 | 76 => 124 | 77 => 125 | n => n, fun | n => n⟩
theorem Tryz.sortSp : Go.Proofs.SlLaysF0.n6 Tryz.prog Tryz.sortSp_ren := {
  mixed := by kernel_rfl
  f6 := ⟨Tryz.f55.name, by decide, Tryz.func55.trans (congrArg some (by kernel_rfl))⟩
  f14 := ⟨Tryz.f74.name, by decide, Tryz.func74.trans (congrArg some (by kernel_rfl))⟩
  f15 := Tryz.func75.trans (congrArg some (by kernel_rfl))
  f20 := ⟨Tryz.f86.name, by decide, Tryz.func86.trans (congrArg some (by kernel_rfl))⟩
  f21 := ⟨Tryz.f87.name, by decide, Tryz.func87.trans (congrArg some (by kernel_rfl))⟩
  f22 := ⟨Tryz.f88.name, by decide, Tryz.func88.trans (congrArg some (by kernel_rfl))⟩
  f23 := ⟨Tryz.f89.name, by decide, Tryz.func89.trans (congrArg some (by kernel_rfl))⟩
  f24 := ⟨Tryz.f90.name, by decide, Tryz.func90.trans (congrArg some (by kernel_rfl))⟩
  f25 := ⟨Tryz.f91.name, by decide, Tryz.func91.trans (congrArg some (by kernel_rfl))⟩
  f26 := ⟨Tryz.f92.name, by decide, Tryz.func92.trans (congrArg some (by kernel_rfl))⟩
  f27 := ⟨Tryz.f93.name, by decide, Tryz.func93.trans (congrArg some (by kernel_rfl))⟩
  f28 := Tryz.func94.trans (congrArg some (by kernel_rfl))
  f29 := Tryz.func95.trans (congrArg some (by kernel_rfl))
  f46 := ⟨Tryz.f102.name, by decide, Tryz.func102.trans (congrArg some (by kernel_rfl))⟩
  f47 := Tryz.func103.trans (congrArg some (by kernel_rfl))
  f48 := Tryz.func104.trans (congrArg some (by kernel_rfl))
  f49 := ⟨Tryz.f105.name, by decide, Tryz.func105.trans (congrArg some (by kernel_rfl))⟩
  f50 := ⟨Tryz.f106.name, by decide, Tryz.func106.trans (congrArg some (by kernel_rfl))⟩
  f57 := ⟨Tryz.f108.name, by decide, Tryz.func108.trans (congrArg some (by kernel_rfl))⟩
  t0 := Tryz.underlying0
  a0 := Tryz.isAgg0
  z0 := Tryz.sizeOf0
  v0 := Tryz.zeroValue0
  t3 := Tryz.underlying3
  a3 := Tryz.isAgg3
  z3 := Tryz.sizeOf3
  v3 := Tryz.zeroValue3
  t4 := Tryz.underlying4
  a4 := Tryz.isAgg4
  z4 := Tryz.sizeOf4
  v4 := Tryz.zeroValue4
  t5 := Tryz.underlying5
  a5 := Tryz.isAgg5
  z5 := Tryz.sizeOf5
  v5 := Tryz.zeroValue5
  t9 := Tryz.underlying9
  a9 := Tryz.isAgg9
  z9 := Tryz.sizeOf9
  v9 := Tryz.zeroValue9
  t22 := Tryz.underlying42
  a22 := Tryz.isAgg42
  z22 := Tryz.sizeOf42
  v22 := Tryz.zeroValue42
  t25 := Tryz.underlying81
  a25 := Tryz.isAgg81
  z25 := Tryz.sizeOf81
  v25 := Tryz.zeroValue81
  t39 := Tryz.underlying91
  a39 := Tryz.isAgg91
  z39 := Tryz.sizeOf91
  v39 := Tryz.zeroValue91
  t45 := Tryz.underlying104
  a45 := Tryz.isAgg104
  z45 := Tryz.sizeOf104
  v45 := Tryz.zeroValue104
  t46 := Tryz.underlying105
  a46 := Tryz.isAgg105
  z46 := Tryz.sizeOf105
  v46 := Tryz.zeroValue105
  t50 := Tryz.underlying94
  a50 := Tryz.isAgg94
  z50 := Tryz.sizeOf94
  v50 := Tryz.zeroValue94
  t53 := Tryz.underlying111
  a53 := Tryz.isAgg111
  z53 := Tryz.sizeOf111
  v53 := Tryz.zeroValue111
  t55 := Tryz.underlying113
  a55 := Tryz.isAgg113
  z55 := Tryz.sizeOf113
  v55 := Tryz.zeroValue113
  t66 := Tryz.underlying118
  a66 := Tryz.isAgg118
  z66 := Tryz.sizeOf118
  v66 := Tryz.zeroValue118
  t70 := Tryz.underlying122
  a70 := Tryz.isAgg122
  z70 := Tryz.sizeOf122
  v70 := Tryz.zeroValue122
  t76 := Tryz.underlying124
  a76 := Tryz.isAgg124
  z76 := Tryz.sizeOf124
  v76 := Tryz.zeroValue124
  t77 := Tryz.underlying125
  a77 := Tryz.isAgg125
  z77 := Tryz.sizeOf125
  v77 := Tryz.zeroValue125 }
end Go.Proofs

/- The types and bodies that the walks use, and how spans, lots and deeds lie in memory. -/
namespace Go.Proofs.YtjilbkioieicbaaGreat
open Go.Vc Rt
set_option linter.unusedVariables false
def tab : Tab := [(3, { kind := 6, size := 1, zero := [.i 0] }),
  (42, { kind := 1, size := 1, zero := [.x (.slice none 0 0)], elem := 25, esize := 3, ebytes := 24 }),
  (35, { kind := 1, size := 1, zero := [.x (.slice none 0 0)], elem := 3, esize := 1, ebytes := 8 }),
  (44, { kind := 2, size := 7, zero := [.i 0, .i 0, .i 0, .i 0, .i 0, .i 0, .x (.slice none 0 0)], flds := [(0, 1, false), (1, 1, false), (2, 1, false), (3, 1, false), (4, 1, false), (5, 1, false), (6, 1, false)] }),
  (31, { kind := 1, size := 1, zero := [.x (.slice none 0 0)], elem := 27, esize := 7, ebytes := 56 }),
  (25, { kind := 2, size := 3, zero := [.i 0, .i 0, .i 0], flds := [(0, 1, false), (1, 1, false), (2, 1, false)], cmp := true }),
  (27, { kind := 2, size := 7, zero := [.i 0, .i 0, .i 0, .i 0, .i 0, .i 0, .i 0], flds := [(0, 3, true), (3, 1, false), (4, 1, false), (5, 1, false), (6, 1, false)], cmp := true }),
  (22, { kind := 1, size := 1, zero := [.x (.slice none 0 0)], elem := 44, esize := 7, ebytes := 72 }),
  (38, { kind := 6, size := 1, zero := [.i 0] }),
  (23, { kind := 1, size := 1, zero := [.x (.slice none 0 0)], elem := 35, esize := 1, ebytes := 24 }),
  (32, { kind := 1, size := 1, zero := [.x (.slice none 0 0)], elem := 38, esize := 1, ebytes := 8 }),
  (66, { kind := 2, size := 1, zero := [.x (.slice none 0 0)], flds := [(0, 1, false)] }),
  (91, { kind := 7, size := 1, zero := [.x (.int .u64 0)] }),
  (4, { kind := 5, size := 1, zero := [.b false] }),
  (5, { kind := 0, size := 1, zero := [.x (.int .u8 0)] }),
  (85, { kind := 0, size := 1, zero := [.x (.pointer none)] }),
  (92, { kind := 1, size := 1, zero := [.x (.slice none 0 0)], elem := 42, esize := 1, ebytes := 24 }),
  (62, { kind := 0, size := 1, zero := [.x .nilFunc] }),
  (71, { kind := 0, size := 1, zero := [.x .nilFunc] }),
  (81, { kind := 0, size := 1, zero := [.x .nilFunc] }),
  (96, { kind := 0, size := 1, zero := [.x .nilFunc] })]
theorem tab_ok : TabOk Tryz.prog tab := TabOk.of_all (by kernel_rfl)
theorem mixed : Tryz.prog.follows .mixedOrders = true := by kernel_rfl
theorem b25 : Body Tryz.prog 5 := ⟨Tryz.f5, Tryz.func5, rfl, rfl⟩
theorem b27 : Body Tryz.prog 19 := ⟨Tryz.f19, Tryz.func19, rfl, rfl⟩
theorem b28 : Body Tryz.prog 20 := ⟨Tryz.f20, Tryz.func20, rfl, rfl⟩
theorem b30 : Body Tryz.prog 21 := ⟨Tryz.f21, Tryz.func21, rfl, rfl⟩
theorem b31 : Body Tryz.prog 9 := ⟨Tryz.f9, Tryz.func9, rfl, rfl⟩
theorem b33 : Body Tryz.prog 24 := ⟨Tryz.f24, Tryz.func24, rfl, rfl⟩
theorem b34 : Body Tryz.prog 10 := ⟨Tryz.f10, Tryz.func10, rfl, rfl⟩
theorem b41 : Body Tryz.prog 25 := ⟨Tryz.f25, Tryz.func25, rfl, rfl⟩
theorem b42 : Body Tryz.prog 4 := ⟨Tryz.f4, Tryz.func4, rfl, rfl⟩
theorem b43 : Body Tryz.prog 6 := ⟨Tryz.f6, Tryz.func6, rfl, rfl⟩
theorem b44 : Body Tryz.prog 7 := ⟨Tryz.f7, Tryz.func7, rfl, rfl⟩
theorem b45 : Body Tryz.prog 16 := ⟨Tryz.f16, Tryz.func16, rfl, rfl⟩
theorem b46 : Body Tryz.prog 79 := ⟨Tryz.f79, Tryz.func79, rfl, rfl⟩
theorem b48 : Body Tryz.prog 13 := ⟨Tryz.f13, Tryz.func13, rfl, rfl⟩
theorem b58 : Body Tryz.prog 58 := ⟨Tryz.f58, Tryz.func58, rfl, rfl⟩
theorem b66 : Body Tryz.prog 41 := ⟨Tryz.f41, Tryz.func41, rfl, rfl⟩
theorem b67 : Body Tryz.prog 33 := ⟨Tryz.f33, Tryz.func33, rfl, rfl⟩
theorem b68 : Body Tryz.prog 35 := ⟨Tryz.f35, Tryz.func35, rfl, rfl⟩
theorem b69 : Body Tryz.prog 36 := ⟨Tryz.f36, Tryz.func36, rfl, rfl⟩
theorem b71 : Body Tryz.prog 37 := ⟨Tryz.f37, Tryz.func37, rfl, rfl⟩
theorem b72 : Body Tryz.prog 30 := ⟨Tryz.f30, Tryz.func30, rfl, rfl⟩
theorem b73 : Body Tryz.prog 22 := ⟨Tryz.f22, Tryz.func22, rfl, rfl⟩
theorem b74 : Body Tryz.prog 34 := ⟨Tryz.f34, Tryz.func34, rfl, rfl⟩
theorem b75 : Body Tryz.prog 71 := ⟨Tryz.f71, Tryz.func71, rfl, rfl⟩
theorem b76 : Body Tryz.prog 61 := ⟨Tryz.f61, Tryz.func61, rfl, rfl⟩
theorem b77 : Body Tryz.prog 18 := ⟨Tryz.f18, Tryz.func18, rfl, rfl⟩
theorem b78 : Body Tryz.prog 11 := ⟨Tryz.f11, Tryz.func11, rfl, rfl⟩
theorem b79 : Body Tryz.prog 32 := ⟨Tryz.f32, Tryz.func32, rfl, rfl⟩
theorem b80 : Body Tryz.prog 54 := ⟨Tryz.f54, Tryz.func54, rfl, rfl⟩
theorem b81 : Body Tryz.prog 60 := ⟨Tryz.f60, Tryz.func60, rfl, rfl⟩
theorem b82 : Body Tryz.prog 23 := ⟨Tryz.f23, Tryz.func23, rfl, rfl⟩
theorem b85 : Body Tryz.prog 76 := ⟨Tryz.f76, Tryz.func76, rfl, rfl⟩
theorem b92 : Body Tryz.prog 65 := ⟨Tryz.f65, Tryz.func65, rfl, rfl⟩
theorem b93 : Body Tryz.prog 66 := ⟨Tryz.f66, Tryz.func66, rfl, rfl⟩
theorem b94 : Body Tryz.prog 67 := ⟨Tryz.f67, Tryz.func67, rfl, rfl⟩
theorem b95 : Body Tryz.prog 68 := ⟨Tryz.f68, Tryz.func68, rfl, rfl⟩
theorem b96 : Body Tryz.prog 51 := ⟨Tryz.f51, Tryz.func51, rfl, rfl⟩
theorem b97 : Body Tryz.prog 52 := ⟨Tryz.f52, Tryz.func52, rfl, rfl⟩
theorem b98 : Body Tryz.prog 53 := ⟨Tryz.f53, Tryz.func53, rfl, rfl⟩
theorem b99 : Body Tryz.prog 55 := ⟨Tryz.f55, Tryz.func55, rfl, rfl⟩
theorem b100 : Body Tryz.prog 56 := ⟨Tryz.f56, Tryz.func56, rfl, rfl⟩
theorem b101 : Body Tryz.prog 57 := ⟨Tryz.f57, Tryz.func57, rfl, rfl⟩
theorem b102 : Body Tryz.prog 26 := ⟨Tryz.f26, Tryz.func26, rfl, rfl⟩
theorem b103 : Body Tryz.prog 46 := ⟨Tryz.f46, Tryz.func46, rfl, rfl⟩
theorem b104 : Body Tryz.prog 47 := ⟨Tryz.f47, Tryz.func47, rfl, rfl⟩
theorem b105 : Body Tryz.prog 48 := ⟨Tryz.f48, Tryz.func48, rfl, rfl⟩
theorem b106 : Body Tryz.prog 49 := ⟨Tryz.f49, Tryz.func49, rfl, rfl⟩
theorem b107 : Body Tryz.prog 50 := ⟨Tryz.f50, Tryz.func50, rfl, rfl⟩
theorem b108 : Body Tryz.prog 31 := ⟨Tryz.f31, Tryz.func31, rfl, rfl⟩
theorem b109 : Body Tryz.prog 45 := ⟨Tryz.f45, Tryz.func45, rfl, rfl⟩
theorem b110 : Body Tryz.prog 59 := ⟨Tryz.f59, Tryz.func59, rfl, rfl⟩
theorem b111 : Body Tryz.prog 73 := ⟨Tryz.f73, Tryz.func73, rfl, rfl⟩
theorem b112 : Body Tryz.prog 77 := ⟨Tryz.f77, Tryz.func77, rfl, rfl⟩
theorem b113 : Body Tryz.prog 38 := ⟨Tryz.f38, Tryz.func38, rfl, rfl⟩
theorem b114 : Body Tryz.prog 39 := ⟨Tryz.f39, Tryz.func39, rfl, rfl⟩
theorem b115 : Body Tryz.prog 40 := ⟨Tryz.f40, Tryz.func40, rfl, rfl⟩
theorem b121 : Body Tryz.prog 78 := ⟨Tryz.f78, Tryz.func78, rfl, rfl⟩
theorem b122 : Body Tryz.prog 80 := ⟨Tryz.f80, Tryz.func80, rfl, rfl⟩
theorem b123 : Body Tryz.prog 81 := ⟨Tryz.f81, Tryz.func81, rfl, rfl⟩
theorem b124 : Body Tryz.prog 82 := ⟨Tryz.f82, Tryz.func82, rfl, rfl⟩
theorem b125 : Body Tryz.prog 83 := ⟨Tryz.f83, Tryz.func83, rfl, rfl⟩
theorem b126 : Body Tryz.prog 84 := ⟨Tryz.f84, Tryz.func84, rfl, rfl⟩
theorem b127 : Body Tryz.prog 85 := ⟨Tryz.f85, Tryz.func85, rfl, rfl⟩
theorem b128 : Body Tryz.prog 72 := ⟨Tryz.f72, Tryz.func72, rfl, rfl⟩
theorem b129 : Body Tryz.prog 74 := ⟨Tryz.f74, Tryz.func74, rfl, rfl⟩
theorem b130 : Body Tryz.prog 75 := ⟨Tryz.f75, Tryz.func75, rfl, rfl⟩
theorem b131 : Body Tryz.prog 42 := ⟨Tryz.f42, Tryz.func42, rfl, rfl⟩
theorem b132 : Body Tryz.prog 43 := ⟨Tryz.f43, Tryz.func43, rfl, rfl⟩
theorem b133 : Body Tryz.prog 44 := ⟨Tryz.f44, Tryz.func44, rfl, rfl⟩
theorem b134 : Body Tryz.prog 70 := ⟨Tryz.f70, Tryz.func70, rfl, rfl⟩
theorem b135 : Body Tryz.prog 28 := ⟨Tryz.f28, Tryz.func28, rfl, rfl⟩
theorem b136 : Body Tryz.prog 69 := ⟨Tryz.f69, Tryz.func69, rfl, rfl⟩
theorem b137 : Body Tryz.prog 62 := ⟨Tryz.f62, Tryz.func62, rfl, rfl⟩
theorem b138 : Body Tryz.prog 63 := ⟨Tryz.f63, Tryz.func63, rfl, rfl⟩
theorem b139 : Body Tryz.prog 64 := ⟨Tryz.f64, Tryz.func64, rfl, rfl⟩
theorem b143 : Body Tryz.prog 97 := ⟨Tryz.f97, Tryz.func97, rfl, rfl⟩
theorem b144 : Body Tryz.prog 98 := ⟨Tryz.f98, Tryz.func98, rfl, rfl⟩
theorem b145 : Body Tryz.prog 99 := ⟨Tryz.f99, Tryz.func99, rfl, rfl⟩
theorem b146 : Body Tryz.prog 100 := ⟨Tryz.f100, Tryz.func100, rfl, rfl⟩
theorem b147 : Body Tryz.prog 101 := ⟨Tryz.f101, Tryz.func101, rfl, rfl⟩
theorem b148 : Body Tryz.prog 86 := ⟨Tryz.f86, Tryz.func86, rfl, rfl⟩
theorem b149 : Body Tryz.prog 87 := ⟨Tryz.f87, Tryz.func87, rfl, rfl⟩
theorem b150 : Body Tryz.prog 88 := ⟨Tryz.f88, Tryz.func88, rfl, rfl⟩
theorem b151 : Body Tryz.prog 89 := ⟨Tryz.f89, Tryz.func89, rfl, rfl⟩
theorem b152 : Body Tryz.prog 90 := ⟨Tryz.f90, Tryz.func90, rfl, rfl⟩
theorem b153 : Body Tryz.prog 91 := ⟨Tryz.f91, Tryz.func91, rfl, rfl⟩
theorem b154 : Body Tryz.prog 92 := ⟨Tryz.f92, Tryz.func92, rfl, rfl⟩
theorem b155 : Body Tryz.prog 93 := ⟨Tryz.f93, Tryz.func93, rfl, rfl⟩
theorem b156 : Body Tryz.prog 94 := ⟨Tryz.f94, Tryz.func94, rfl, rfl⟩
theorem b157 : Body Tryz.prog 95 := ⟨Tryz.f95, Tryz.func95, rfl, rfl⟩
theorem b160 : Body Tryz.prog 107 := ⟨Tryz.f107, Tryz.func107, rfl, rfl⟩
theorem b161 : Body Tryz.prog 102 := ⟨Tryz.f102, Tryz.func102, rfl, rfl⟩
theorem b162 : Body Tryz.prog 103 := ⟨Tryz.f103, Tryz.func103, rfl, rfl⟩
theorem b163 : Body Tryz.prog 104 := ⟨Tryz.f104, Tryz.func104, rfl, rfl⟩
theorem b164 : Body Tryz.prog 105 := ⟨Tryz.f105, Tryz.func105, rfl, rfl⟩
theorem b165 : Body Tryz.prog 106 := ⟨Tryz.f106, Tryz.func106, rfl, rfl⟩
theorem b166 : Body Tryz.prog 109 := ⟨Tryz.f109, Tryz.func109, rfl, rfl⟩
theorem b167 : Body Tryz.prog 108 := ⟨Tryz.f108, Tryz.func108, rfl, rfl⟩

def encS (s : Span) : List CV := [.i s.m, .i s.f, .i s.t]
def encL (l : Lot) : List CV := [.i l.s.m, .i l.s.f, .i l.s.t, .i l.o, .i l.h, .i l.u, .i l.p]
def encI (n : Int) : List CV := [.i n]
def spT : Ty Span := flat 3 encS (fun _ => rfl)
def loT : Ty Lot := flat 7 encL (fun _ => rfl)
/-- A deed's cells; v: the slice of its spans. -/
def encD (d : Deed) (v : Value) : List CV := [.i d.mark, .i d.kind, .i d.author, .i d.who, .i d.day, .i d.til, .x v]
def deT : Ty Deed where
  size := 7
  rel := fun S w d l => ∃ v, l = encD d v ∧ SlOf spT S w v d.spans
  len := fun ⟨v, h, _⟩ => by rw [h]; rfl
  fr := fun hf ⟨v, h, h'⟩ => ⟨v, h, h'.fr hf⟩
  av := fun hs ⟨v, h, h'⟩ => ⟨v, h, h'.avoid hs⟩
theorem encS_ints (s : Span) : intsOnly (encS s) = true := rfl
theorem encL_ints (l : Lot) : intsOnly (encL l) = true := rfl
theorem encI_ints (n : Int) : intsOnly (encI n) = true := rfl
theorem nopS (xs : List Span) : NoP (xs.map encS) := NoP.map (fun _ => rfl) xs
theorem nopL (xs : List Lot) : NoP (xs.map encL) := NoP.map (fun _ => rfl) xs
theorem nopI (xs : List Int) : NoP (xs.map encI) := NoP.map (fun _ => rfl) xs
/-- A span, a lot, as a value. -/
def vS (s : Span) : Value := .agg #[.int .i64 s.m, .int .i64 s.f, .int .i64 s.t]
def vL (l : Lot) : Value := .agg #[.int .i64 l.s.m, .int .i64 l.s.f, .int .i64 l.s.t, .int .i64 l.o, .int .i64 l.h, .int .i64 l.u, .int .i64 l.p]
def vD (d : Deed) (v : Value) : Value := .agg #[.int .i64 d.mark, .int .i64 d.kind, .int .i64 d.author, .int .i64 d.who, .int .i64 d.day, .int .i64 d.til, v]
def vI (n : Int) : Value := .int .i64 n
end Go.Proofs.YtjilbkioieicbaaGreat

/- Walks: spans. -/
namespace Go.Proofs.YtjilbkioieicbaaGreat
open Go.Vc Rt
set_option linter.unusedVariables false
set_option linter.unusedSimpArgs false
theorem mark_c (n : Int) (w : World) : Ans Tryz.prog 73 [vI n] (.b (isMark n)) w := by
  refine calls_plainB [.i n] Tryz.func73 rfl rfl (Nat.le_of_ble_eq_true rfl) rfl fun B hB => ?_
  repeat refine At.seq ?_
  refine At.region tab_ok ?_
  conv => whnf
  repeat refine At.seq ?_
  refine At.region tab_ok ?_
  conv => whnf
  repeat refine At.seq ?_
  refine At.ret (At.doneB tab_ok hB _ rfl fun w' hw => ⟨?_, hw.fr⟩)
  simp only [RV.den, SV.den, CV.den, band, isMark]
theorem isKey_c (n : Int) (w : World) : Ans Tryz.prog 78 [vI n] (.b (decide (0 ≤ n) && decide (n < 200))) w := by
  refine calls_plainB [.i n] Tryz.func78 rfl rfl (Nat.le_of_ble_eq_true rfl) rfl fun B hB => ?_
  repeat refine At.seq ?_
  refine At.region tab_ok ?_
  conv => whnf
  repeat refine At.seq ?_
  refine At.region tab_ok ?_
  conv => whnf
  repeat refine At.seq ?_
  refine At.ret (At.doneB tab_ok hB _ rfl fun w' hw => ⟨?_, hw.fr⟩)
  simp only [RV.den, SV.den, CV.den, band]
theorem valid_c (s : Span) (w : World) : Ans Tryz.prog 54 [vS s] (.b (valid s)) w := by
  refine calls_plainB [.s (.agg (encS s))] Tryz.func54 rfl rfl (Nat.le_of_ble_eq_true rfl) rfl fun B hB => ?_
  repeat refine At.seq ?_
  refine At.region tab_ok ?_
  conv => whnf
  intro b
  conv => whnf
  repeat refine At.seq ?_
  refine At.region tab_ok ?_
  conv => whnf
  refine ans_call b111 rfl (fun w _ => mark_c s.m w) ?_
  conv => whnf
  repeat refine At.seq ?_
  refine At.ret (At.doneB tab_ok hB _ rfl fun w' hw => ⟨?_, hw.fr⟩)
  simp only [RV.den, SV.den, CV.den, band, valid, Bool.and_assoc]
end Go.Proofs.YtjilbkioieicbaaGreat

/- Walks: spans. -/
namespace Go.Proofs.YtjilbkioieicbaaGreat
open Go.Vc Rt
set_option linter.unusedVariables false
set_option linter.unusedSimpArgs false
theorem normal_false {xs : List Span} {k : Nat} (hk : k < xs.length) (h : okAt xs k = false) : normal xs = false := by
  unfold normal
  rw [List.all_eq_false]
  exact ⟨k, List.mem_range.2 hk, by simp [h]⟩
theorem normal_true {xs : List Span} (h : ∀ j, j < xs.length → okAt xs j = true) : normal xs = true := by
  unfold normal
  rw [List.all_eq_true]
  intro k hk
  exact h k (List.mem_range.1 hk)
theorem normal_c (xs : List Span) (S : List Nat) (v : Value) (w : World) (h : SlOf spT S w v xs) : Ans Tryz.prog 79 [v] (.b (normal xs)) w := by
  replace h := h.avoid (S' := []) (fun b hb => by cases hb)
  have hsm := h.small
  refine calls_plainB [.x v] Tryz.func79 rfl rfl (Nat.le_of_ble_eq_true rfl) rfl fun B hB => ?_
  repeat refine At.seq ?_
  refine At.region tab_ok ?_
  conv => whnf
  repeat refine At.seq ?_
  refine At.region tab_ok ?_
  conv => whnf
  refine ⟨h.sl, ?_⟩
  conv => whnf
  repeat refine At.seq ?_
  refine At.block ?_
  refine At.loopF (fun k : Nat => { N := Tryz.f79.ntmps, sl := [(0, some (.x v)), (5, some (.x v)), (6, some (.i xs.length)), (7, some (.i k))], gl := [], hp := [], S := [], ws := w }) (fun k => k ≤ xs.length ∧ ∀ j, j < k → okAt xs j = true) (fun k => xs.length - k)
    (fun w' hw => ⟨0, ⟨Nat.zero_le _, fun j hj => by omega⟩, Le.of rfl rfl ⟨rfl, rfl, congrArg (Value.int .i64) h.len, rfl, trivial⟩, WF.plain rfl, hw.same rfl rfl rfl⟩) ?_
  intro k ⟨hk, hall⟩
  repeat refine At.seq ?_
  refine At.region tab_ok ?_
  conv => whnf
  repeat refine At.seq ?_
  refine At.cond rfl (fun hc => At.skip ?_) (fun hc => At.exit ?_)
  · have hlt : k < xs.length := by simpa using hc
    obtain ⟨x, hx⟩ : ∃ x, xs[k]? = some x := ⟨_, List.getElem?_eq_getElem hlt⟩
    obtain ⟨y, hy⟩ : ∃ y, xs[k - 1]? = some y := ⟨_, List.getElem?_eq_getElem (by omega)⟩
    have hy' : ∀ {q : Int}, q = k - 1 → 0 < (k : Int) → xs[q.toNat]? = some y := fun e h0 => by rw [← hy]; congr 1; omega
    have hln := h.len
    repeat refine At.seq ?_
    refine At.block ?_
    repeat refine At.seq ?_
    refine At.region tab_ok ?_
    conv => whnf
    refine ⟨by omega, ?_⟩
    conv => whnf
    refine ⟨by rw [h.len]; omega, ?_⟩
    conv => whnf
    refine ⟨encS x, fun w' hw => h.load (n := 3) hw.fr hx rfl, ?_⟩
    conv => whnf
    intro b
    conv => whnf
    repeat refine At.seq ?_
    refine At.draw tab_ok mixed (by kernel_rfl) ?_
    conv => whnf
    refine ⟨.b (valid x), ans_quiet b80 (fun w _ => valid_c x w), ?_⟩
    conv => whnf
    refine ⟨by simp only [gimp]; intro h1; have := of_decide_eq_true h1; exact fun _ => ⟨by omega, by omega⟩, ?_⟩
    conv => whnf
    refine ⟨by simp only [gimp]; intro h1; have := of_decide_eq_true h1; exact fun _ => by omega, ?_⟩
    conv => whnf
    refine ⟨by simp only [gimp]; intro h1; have := of_decide_eq_true h1; exact fun _ => by omega, ?_⟩
    conv => whnf
    refine ⟨[.i y.m], by simp only [gimp]; intro h1 _ w' hw; have := of_decide_eq_true h1; exact h.loadI (n := 1) hw.fr (by omega) (hy' rfl (by omega)) rfl, ?_⟩
    conv => whnf
    refine ⟨by simp only [gimp]; intro _ h1; have := of_decide_eq_true h1; exact fun _ => ⟨by omega, by omega⟩, ?_⟩
    conv => whnf
    refine ⟨by simp only [gimp]; intro _ h1; have := of_decide_eq_true h1; exact fun _ => by omega, ?_⟩
    conv => whnf
    refine ⟨by simp only [gimp]; intro _ h1; have := of_decide_eq_true h1; exact fun _ => by omega, ?_⟩
    conv => whnf
    refine ⟨[.i y.m], by simp only [gimp]; intro _ h1 _ w' hw; have := of_decide_eq_true h1; exact h.loadI (n := 1) hw.fr (by omega) (hy' rfl (by omega)) rfl, ?_⟩
    conv => whnf
    refine ⟨by simp only [gimp]; intro _ _ h1; have := of_decide_eq_true h1; exact fun _ => ⟨by omega, by omega⟩, ?_⟩
    conv => whnf
    refine ⟨by simp only [gimp]; intro _ _ h1; have := of_decide_eq_true h1; exact fun _ => by omega, ?_⟩
    conv => whnf
    refine ⟨by simp only [gimp]; intro _ _ h1; have := of_decide_eq_true h1; exact fun _ => by omega, ?_⟩
    conv => whnf
    refine ⟨[.i y.t], by simp only [gimp]; intro _ _ h1 _ w' hw; have := of_decide_eq_true h1; exact h.loadI (n := 1) hw.fr (by omega) (hy' rfl (by omega)) rfl, ?_⟩
    conv => whnf
    have hok : okAt xs k = (valid x && (k == 0 || !(decide (x.m < y.m) || (decide (y.m = x.m) && decide (x.f ≤ y.t))))) := by
      unfold okAt; rw [hx]; simp only [hy]
    repeat refine At.seq ?_
    refine At.cond rfl (fun hq => ?_) (fun hq => ?_)
    · repeat refine At.seq ?_
      refine At.region tab_ok ?_
      conv => whnf
      repeat refine At.seq ?_
      refine At.ret (At.doneB tab_ok hB _ rfl fun w' hw => ⟨?_, hw.fr⟩)
      rw [normal_false hlt]
      rw [hok]
      simp only [band, bor] at hq
      revert hq
      cases valid x <;> cases decide (x.m < y.m) <;> cases decide (y.m = x.m) <;> cases decide (x.f ≤ y.t) <;> simp <;> try omega
    · refine At.skip ?_
      repeat refine At.seq ?_
      refine At.region tab_ok ?_
      conv => whnf
      refine ⟨⟨by omega, by omega⟩, ?_⟩
      conv => whnf
      refine At.next fun w' hw => ⟨k + 1, ⟨by omega, fun j hj => ?_⟩, by omega, Le.of rfl rfl ⟨rfl, rfl, rfl, rfl, trivial⟩, WF.plain rfl, hw.keep [] rfl rfl rfl⟩
      rcases Nat.lt_or_ge j k with hj' | hj'
      · exact hall j hj'
      · obtain rfl : j = k := by omega
        rw [hok]
        simp only [band, bor] at hq
        revert hq
        cases valid x <;> cases decide (x.m < y.m) <;> cases decide (y.m = x.m) <;> cases decide (x.f ≤ y.t) <;> simp <;> try omega
  · have hge : k = xs.length := by simp at hc; omega
    subst hge
    repeat refine At.seq ?_
    refine At.region tab_ok ?_
    conv => whnf
    repeat refine At.seq ?_
    refine At.ret (At.doneB tab_ok hB _ rfl fun w' hw => ⟨?_, hw.fr⟩)
    rw [normal_true hall]
end Go.Proofs.YtjilbkioieicbaaGreat

/- Walks: the library's functions at spans. -/
namespace Go.Proofs.YtjilbkioieicbaaGreat
open Go.Vc Rt
set_option linter.unusedVariables false
set_option linter.unusedSimpArgs false
theorem isNaN_c (x : Int) (w : World) : Ans Tryz.prog 76 [vI x] (.b false) w := by
  refine calls_plainB [.i x] Tryz.func76 rfl rfl (Nat.le_of_ble_eq_true rfl) rfl fun B hB => ?_
  repeat refine At.seq ?_
  refine At.region tab_ok ?_
  conv => whnf
  repeat refine At.seq ?_
  refine At.region tab_ok ?_
  conv => whnf
  repeat refine At.seq ?_
  refine At.ret (At.doneB tab_ok hB _ rfl fun w' hw => ⟨?_, hw.fr⟩)
  simp [RV.den, SV.den, CV.den]
def cmpI (x y : Int) : Int := if x < y then -1 else if y < x then 1 else 0
theorem compare_c (x y : Int) (w : World) : Ans Tryz.prog 58 [vI x, vI y] (.i (cmpI x y)) w := by
  refine calls_plainB [.i x, .i y] Tryz.func58 rfl rfl (Nat.le_of_ble_eq_true rfl) rfl fun B hB => ?_
  repeat refine At.seq ?_
  refine At.region tab_ok ?_
  conv => whnf
  repeat refine At.seq ?_
  refine At.region tab_ok ?_
  conv => whnf
  refine ans_call b85 rfl (fun w _ => isNaN_c x w) ?_
  conv => whnf
  repeat refine At.seq ?_
  refine At.region tab_ok ?_
  conv => whnf
  refine ans_call b85 rfl (fun w _ => isNaN_c y w) ?_
  conv => whnf
  repeat refine At.seq ?_
  refine At.region tab_ok ?_
  conv => whnf
  repeat refine At.seq ?_
  refine At.cond (t := false) rfl (fun hq => by cases hq) (fun hq => At.skip ?_)
  repeat refine At.seq ?_
  refine At.region tab_ok ?_
  conv => whnf
  repeat refine At.seq ?_
  refine At.cond (t := false) rfl (fun hq => by cases hq) (fun hq => At.skip ?_)
  repeat refine At.seq ?_
  refine At.region tab_ok ?_
  conv => whnf
  repeat refine At.seq ?_
  refine At.cond rfl (fun hq => ?_) (fun hq => ?_)
  · repeat refine At.seq ?_
    refine At.region tab_ok ?_
    conv => whnf
    repeat refine At.seq ?_
    refine At.ret (At.doneB tab_ok hB _ rfl fun w' hw => ⟨?_, hw.fr⟩)
    have := of_decide_eq_true hq
    simp [RV.den, SV.den, CV.den, cmpI, this, ofConst]
  · have h1 := of_decide_eq_false hq
    refine At.skip ?_
    repeat refine At.seq ?_
    refine At.region tab_ok ?_
    conv => whnf
    repeat refine At.seq ?_
    refine At.cond rfl (fun hq => ?_) (fun hq => ?_)
    · repeat refine At.seq ?_
      refine At.region tab_ok ?_
      conv => whnf
      repeat refine At.seq ?_
      refine At.ret (At.doneB tab_ok hB _ rfl fun w' hw => ⟨?_, hw.fr⟩)
      have := of_decide_eq_true hq
      simp [RV.den, SV.den, CV.den, cmpI, this, h1, ofConst]
    · refine At.skip ?_
      repeat refine At.seq ?_
      refine At.region tab_ok ?_
      conv => whnf
      repeat refine At.seq ?_
      refine At.ret (At.doneB tab_ok hB _ rfl fun w' hw => ⟨?_, hw.fr⟩)
      have := of_decide_eq_false hq
      simp [RV.den, SV.den, CV.den, cmpI, this, h1, ofConst]
theorem norm1_c (s : Span) (w : World) : Ans Tryz.prog 53 [vS s] (.b (!valid s)) w := by
  refine calls_plainB [.s (.agg (encS s))] Tryz.func53 rfl rfl (Nat.le_of_ble_eq_true rfl) rfl fun B hB => ?_
  repeat refine At.seq ?_
  refine At.region tab_ok ?_
  conv => whnf
  intro b
  conv => whnf
  repeat refine At.seq ?_
  refine At.region tab_ok ?_
  conv => whnf
  refine ans_call b80 rfl (fun w _ => valid_c s w) ?_
  conv => whnf
  repeat refine At.seq ?_
  refine At.ret (At.doneB tab_ok hB _ rfl fun w' hw => ⟨rfl, hw.fr⟩)
def orI (xs : List Int) : Int := (xs.find? (fun x => decide (x ≠ 0))).getD 0
theorem or_c (xs : List Int) (S : List Nat) (v : Value) (w : World) (h : SlOf intT S w v xs) : Ans Tryz.prog 57 [v] (.i (orI xs)) w := by
  replace h := h.avoid (S' := []) (fun b hb => by cases hb)
  have hsm := h.small
  refine calls_plainB [.x v] Tryz.func57 rfl rfl (Nat.le_of_ble_eq_true rfl) rfl fun B hB => ?_
  repeat refine At.seq ?_
  refine At.region tab_ok ?_
  conv => whnf
  repeat refine At.seq ?_
  refine At.region tab_ok ?_
  conv => whnf
  repeat refine At.seq ?_
  refine At.region tab_ok ?_
  conv => whnf
  refine ⟨h.sl, ?_⟩
  conv => whnf
  repeat refine At.seq ?_
  refine At.block ?_
  refine At.loopF (fun k : Nat => { N := Tryz.f57.ntmps, sl := [(3, some (.i 0)), (6, some (.x v)), (7, some (.i xs.length)), (8, some (.i k))], gl := [], hp := [], S := [], ws := w }) (fun k => k ≤ xs.length ∧ orI xs = orI (xs.drop k)) (fun k => xs.length - k)
    (fun w' hw => ⟨0, ⟨Nat.zero_le _, rfl⟩, Le.of rfl rfl ⟨rfl, rfl, congrArg (Value.int .i64) h.len, rfl, trivial⟩, WF.plain rfl, hw.same rfl rfl rfl⟩) ?_
  intro k ⟨hk, hor⟩
  repeat refine At.seq ?_
  refine At.region tab_ok ?_
  conv => whnf
  repeat refine At.seq ?_
  refine At.cond rfl (fun hc => At.skip ?_) (fun hc => At.exit ?_)
  · have hlt : k < xs.length := by simpa using hc
    obtain ⟨x, hx⟩ : ∃ x, xs[k]? = some x := ⟨_, List.getElem?_eq_getElem hlt⟩
    have hd : xs.drop k = x :: xs.drop (k + 1) := by rw [List.drop_eq_getElem_cons hlt]; congr 1; rw [List.getElem?_eq_getElem hlt] at hx; exact Option.some.inj hx
    repeat refine At.seq ?_
    refine At.block ?_
    repeat refine At.seq ?_
    refine At.region tab_ok ?_
    conv => whnf
    refine ⟨by omega, ?_⟩
    conv => whnf
    refine ⟨by rw [h.len]; omega, ?_⟩
    conv => whnf
    refine ⟨[.i x], fun w' hw => h.load (n := 1) hw.fr hx rfl, ?_⟩
    conv => whnf
    repeat refine At.seq ?_
    refine At.region tab_ok ?_
    conv => whnf
    repeat refine At.seq ?_
    refine At.cond rfl (fun hq => ?_) (fun hq => ?_)
    · repeat refine At.seq ?_
      refine At.region tab_ok ?_
      conv => whnf
      repeat refine At.seq ?_
      refine At.ret (At.doneB tab_ok hB _ rfl fun w' hw => ⟨?_, hw.fr⟩)
      have hne : x ≠ 0 := by simpa using hq
      rw [hor, hd]
      simp [orI, hne, RV.den, SV.den, CV.den]
    · refine At.skip ?_
      repeat refine At.seq ?_
      refine At.region tab_ok ?_
      conv => whnf
      refine ⟨⟨by omega, by omega⟩, ?_⟩
      conv => whnf
      refine At.next fun w' hw => ⟨k + 1, ⟨by omega, ?_⟩, by omega, Le.of rfl rfl ⟨rfl, rfl, rfl, rfl, trivial⟩, WF.plain rfl, hw.keep [] rfl rfl rfl⟩
      have hne : x = 0 := by simpa using hq
      rw [hor, hd]
      simp [orI, hne]
  · have hge : k = xs.length := by simp at hc; omega
    subst hge
    repeat refine At.seq ?_
    refine At.region tab_ok ?_
    conv => whnf
    repeat refine At.seq ?_
    refine At.ret (At.doneB tab_ok hB _ rfl fun w' hw => ⟨?_, hw.fr⟩)
    rw [hor]
    simp [orI]
def idxOf {α : Type} (p : α → Bool) (xs : List α) : Int := match xs.findIdx? p with | some i => i | none => -1
theorem idx_some {α : Type} {p : α → Bool} {xs : List α} {k : Nat} {x : α} (hx : xs[k]? = some x) (hp : p x = true) (hall : ∀ j y, j < k → xs[j]? = some y → p y = false) : idxOf p xs = k := by
  have : xs.findIdx? p = some k := by
    rw [List.findIdx?_eq_some_iff_getElem]
    obtain ⟨hlt, e⟩ := List.getElem?_eq_some_iff.1 hx
    refine ⟨hlt, by rw [e]; exact hp, fun j hj => ?_⟩
    rw [hall j _ hj (List.getElem?_eq_getElem (by omega))]; simp
  unfold idxOf; rw [this]
theorem idx_none {α : Type} {p : α → Bool} {xs : List α} (hall : ∀ (j : Nat) y, xs[j]? = some y → p y = false) : idxOf p xs = -1 := by
  have : xs.findIdx? p = none := by
    rw [List.findIdx?_eq_none_iff]
    intro x hx
    obtain ⟨j, hj, e⟩ := List.getElem_of_mem hx
    exact hall j x (by rw [List.getElem?_eq_getElem hj, e])
  unfold idxOf; rw [this]
theorem indexS_c (xs : List Span) (S : List Nat) (v : Value) (w : World) (h : SlOf spT S w v xs) (g : Nat) (caps : Array Value) (p : Span → Bool) (hg : Body Tryz.prog g)
    (hf : ∀ x ∈ xs, ∀ w', Ext w w' → Ans Tryz.prog g (vS x :: caps.toList) (.b (p x)) w') : Ans Tryz.prog 72 [v, .func (.func g) #[] caps] (.i (idxOf p xs)) w := by
  replace h := h.avoid (S' := []) (fun b hb => by cases hb)
  have hsm := h.small
  refine calls_plainB [.x v, .x (.func (.func g) #[] caps)] Tryz.func72 rfl rfl (Nat.le_of_ble_eq_true rfl) rfl fun B hB => ?_
  repeat refine At.seq ?_
  refine At.region tab_ok ?_
  conv => whnf
  repeat refine At.seq ?_
  refine At.region tab_ok ?_
  conv => whnf
  refine ⟨h.sl, ?_⟩
  conv => whnf
  repeat refine At.seq ?_
  refine At.block ?_
  refine At.loopF (fun k : Nat => { N := Tryz.f72.ntmps, sl := [(0, some (.x v)), (1, some (.x (.func (.func g) #[] caps))), (7, some (.i xs.length)), (8, some (.i k))], gl := [], hp := [], S := [], ws := w }) (fun k => k ≤ xs.length ∧ ∀ j y, j < k → xs[j]? = some y → p y = false) (fun k => xs.length - k)
    (fun w' hw => ⟨0, ⟨Nat.zero_le _, fun j y hj => by omega⟩, Le.of rfl rfl ⟨rfl, rfl, congrArg (Value.int .i64) h.len, rfl, trivial⟩, WF.plain rfl, hw.same rfl rfl rfl⟩) ?_
  intro k ⟨hk, hall⟩
  repeat refine At.seq ?_
  refine At.region tab_ok ?_
  conv => whnf
  repeat refine At.seq ?_
  refine At.cond rfl (fun hc => At.skip ?_) (fun hc => At.exit ?_)
  · have hlt : k < xs.length := by simpa using hc
    obtain ⟨x, hx⟩ : ∃ x, xs[k]? = some x := ⟨_, List.getElem?_eq_getElem hlt⟩
    repeat refine At.seq ?_
    refine At.block ?_
    repeat refine At.seq ?_
    refine At.region tab_ok ?_
    conv => whnf
    repeat refine At.seq ?_
    refine At.region tab_ok ?_
    conv => whnf
    refine ⟨by omega, ?_⟩
    conv => whnf
    refine ⟨by rw [h.len]; omega, ?_⟩
    conv => whnf
    refine ⟨encS x, fun w' hw => h.load (n := 3) hw.fr hx rfl, ?_⟩
    conv => whnf
    refine ans_call hg rfl (fun w' hw => hf x (List.mem_of_getElem? hx) w' hw.fr) ?_
    conv => whnf
    repeat refine At.seq ?_
    refine At.cond rfl (fun hq => ?_) (fun hq => ?_)
    · repeat refine At.seq ?_
      refine At.region tab_ok ?_
      conv => whnf
      repeat refine At.seq ?_
      refine At.ret (At.doneB tab_ok hB _ rfl fun w' hw => ⟨?_, hw.fr⟩)
      rw [idx_some hx hq hall]
    · refine At.skip ?_
      repeat refine At.seq ?_
      refine At.region tab_ok ?_
      conv => whnf
      refine ⟨⟨by omega, by omega⟩, ?_⟩
      conv => whnf
      refine At.next fun w' hw => ⟨k + 1, ⟨by omega, fun j y hj hy => ?_⟩, by omega, Le.of rfl rfl ⟨rfl, rfl, rfl, rfl, trivial⟩, WF.plain rfl, hw.keep [] rfl rfl rfl⟩
      rcases Nat.lt_or_ge j k with hj' | hj'
      · exact hall j y hj' hy
      · obtain rfl : j = k := by omega
        rw [hx] at hy; cases hy; exact hq
  · have hge : k = xs.length := by simp at hc; omega
    subst hge
    repeat refine At.seq ?_
    refine At.region tab_ok ?_
    conv => whnf
    repeat refine At.seq ?_
    refine At.ret (At.doneB tab_ok hB _ rfl fun w' hw => ⟨?_, hw.fr⟩)
    rw [idx_none (fun j y hy => hall j y (List.getElem?_eq_some_iff.1 hy).1 hy)]
theorem cloneS_c (xs : List Span) (S : List Nat) (v : Value) (w : World) (h : SlOf spT S w v xs) (hB : xs.length ≤ 1000000) : AnsR Tryz.prog 52 [v] [.row 25 3 (xs.map encS)] w := by
  replace h := h.avoid (S' := []) (fun b hb => by cases hb)
  refine calls_plainB [.x v] Tryz.func52 rfl rfl (Nat.le_of_ble_eq_true rfl) rfl fun B hB => ?_
  repeat refine At.seq ?_
  refine At.region tab_ok ?_
  conv => whnf
  repeat refine At.seq ?_
  refine At.region tab_ok ?_
  conv => whnf
  refine ⟨h.sl, ?_⟩
  conv => whnf
  repeat refine At.seq ?_
  refine At.cond rfl (fun hq => ?_) (fun hq => ?_)
  · have hx : xs = [] := by
      obtain ⟨a, n, c, rfl, hnil, _⟩ := h.sl
      have hl := h.len
      cases a with
      | none => simp [slen] at hl; exact List.eq_nil_of_length_eq_zero (by omega)
      | some a => simp [isNilS] at hq
    subst hx
    repeat refine At.seq ?_
    refine At.region tab_ok ?_
    conv => whnf
    repeat refine At.seq ?_
    refine At.ret (At.doneB tab_ok hB _ rfl fun w' hw => ansR_nil hw rfl rfl)
  · refine At.skip ?_
    repeat refine At.seq ?_
    refine At.region tab_ok ?_
    conv => whnf
    intro v1
    conv => whnf
    refine ⟨xs.map encS, ⟨fun w' hw => (h.fr hw.fr).src encS_ints, nopS xs⟩, ?_⟩
    conv => whnf
    refine ⟨⟨rfl, by simp; omega⟩, ?_⟩
    conv => whnf
    intro v2
    conv => whnf
    repeat refine At.seq ?_
    refine At.ret (At.doneB tab_ok hB _ rfl fun w' hw => ansR_row (id := 0) hw rfl rfl rfl)
end Go.Proofs.YtjilbkioieicbaaGreat

/- Walks: DeleteFunc, the order of spans. -/
namespace Go.Proofs.YtjilbkioieicbaaGreat
open Go.Vc Rt
set_option linter.unusedVariables false
set_option linter.unusedSimpArgs false
/-- A function that changes a row, and answers a slice of it. -/
def RowC (f : FuncId) (args : List Value) (E size : Nat) (v : Value) (L' : List (List CV)) (w : World) : Prop :=
  Calls Tryz.prog f args.toArray w (fun e w' => ∃ v', e = .returned v' ∧ (LO.row v' E size L').holds w' ∧ Fr (blkOf v) w w' ∧ ∀ b ∈ blkOf v', b ∈ blkOf v)
theorem enter_row {N : Nat} {l : List RV} {v : Value} {E size : Nat} {L : List (List CV)} {w : World} (h : (LO.row v E size L).holds w) : Holds (St.enter N l [(0, .row v E size L)] (blkOf v) w) w := by
  refine ⟨fun o ho => ?_, ?_, Fr.refl _ _, fun b hb => Or.inl ?_⟩
  · rcases List.mem_cons.1 ho with rfl | ho
    · exact h
    · cases ho
  · have : (St.enter N l [(0, .row v E size L)] (blkOf v) w).blks = (LO.row v E size L).blks := by simp [St.enter, St.blks]
    rw [this]; exact LO.nodup
  · simpa [St.enter, St.blks, LO.blks] using hb
theorem part_none {α : Type} {p : α → Bool} {xs : List α} (h : xs.findIdx? p = none) : xs.filter (fun x => !p x) = xs := by
  rw [List.findIdx?_eq_none_iff] at h
  rw [List.filter_eq_self]
  intro x hx; rw [h x hx]; rfl
theorem part_some {α : Type} {p : α → Bool} {xs : List α} {k : Nat} (h : xs.findIdx? p = some k) : (xs.take (k + 1)).filter (fun x => !p x) = xs.take k ∧ k < xs.length := by
  rw [List.findIdx?_eq_some_iff_getElem] at h
  obtain ⟨hlt, hp, hall⟩ := h
  refine ⟨?_, hlt⟩
  rw [List.take_add_one, List.getElem?_eq_getElem hlt, List.filter_append]
  have e1 : (xs.take k).filter (fun x => !p x) = xs.take k := by
    rw [List.filter_eq_self]
    intro x hx
    obtain ⟨j, hj, e⟩ := List.getElem_of_mem hx
    rw [List.length_take] at hj
    rw [List.getElem_take] at e
    have := hall j (by omega)
    rw [e] at this
    simpa using this
  rw [e1]; simp [hp]
theorem keep_store {xs F : List Span} {x : Span} (hF : F.length < xs.length) : ((F ++ xs.drop F.length).map encS).set F.length (encS x) = ((F ++ [x]) ++ xs.drop (F ++ [x]).length).map encS := by
  rw [List.drop_eq_getElem_cons hF, List.map_append, List.map_cons, List.set_append_right _ _ (by simp)]
  simp only [List.length_map, Nat.sub_self, List.set_cons_zero, List.map_append, List.length_append, List.length_cons, List.length_nil, List.append_assoc, List.map_cons, List.map_nil, List.cons_append, List.nil_append, Nat.zero_add]
theorem filter_take {p : Span → Bool} {xs : List Span} {j : Nat} {x : Span} (hx : xs[j]? = some x) : (xs.take (j + 1)).filter p = (xs.take j).filter p ++ (if p x then [x] else []) := by
  rw [List.take_add_one, hx, List.filter_append]
  simp [List.filter_cons]
theorem splice_all {L : List (List CV)} {k : Nat} (hk : k ≤ L.length) (R : List (List CV)) (hR : R.length = L.length - k) : (spliceR L R k).take k = L.take k := by
  unfold spliceR
  rw [List.append_assoc, List.take_append_of_le_length (by simp; omega), List.take_take, Nat.min_self]
theorem deleteS_c (xs : List Span) (v : Value) (w : World) (h : (LO.row v 25 3 (xs.map encS)).holds w) (hN : xs.length ≤ 1000000) (g : Nat) (caps : Array Value) (p : Span → Bool) (hg : Body Tryz.prog g)
    (hf : ∀ x ∈ xs, ∀ w', Fr (blkOf v) w w' → Ans Tryz.prog g (vS x :: caps.toList) (.b (p x)) w') : RowC 51 [v, .func (.func g) #[] caps] 25 3 v ((xs.filter (fun x => !p x)).map encS) w := by
  refine calls_atB [.s (.c (.o 0 v)), .x (.func (.func g) #[] caps)] [(0, .row v 25 3 (xs.map encS))] (blkOf v) Tryz.func51 rfl rfl (Nat.le_of_ble_eq_true rfl) (WF.objs (enter_row h) ⟨⟨_, _, _, rfl⟩, trivial⟩ ⟨(nopS xs).okH, trivial⟩) (enter_row h) fun B hB => ?_
  repeat refine At.seq ?_
  refine At.region tab_ok ?_
  conv => whnf
  repeat refine At.seq ?_
  refine At.region tab_ok ?_
  conv => whnf
  refine ans_call b128 rfl (fun w' hw => indexS_c xs [] v w' (SlOf.of_row (hw.row (id := 0) rfl) (fun b hb hb' => by cases hb') (by omega)) g caps p hg (fun x hx w'' hx' => hf x hx w'' (hw.fr.trans (hx'.fr _)))) ?_
  conv => whnf
  repeat refine At.seq ?_
  refine At.region tab_ok ?_
  conv => whnf
  repeat refine At.seq ?_
  refine At.cond rfl (fun hq => ?_) (fun hq => ?_)
  · have hn : xs.findIdx? p = none := by
      have := of_decide_eq_true hq
      unfold idxOf at this
      split at this
      · omega
      · rename_i e; exact e
    repeat refine At.seq ?_
    refine At.region tab_ok ?_
    conv => whnf
    repeat refine At.seq ?_
    refine At.ret (At.doneB tab_ok hB _ rfl fun w' hw => ⟨_, rfl, by rw [part_none hn]; exact hw.row (id := 0) rfl, hw.fr, fun b hb => hb⟩)
  · obtain ⟨k0, hk0⟩ : ∃ k, xs.findIdx? p = some k := by
      have := of_decide_eq_false hq
      unfold idxOf at this
      split at this
      · rename_i i e; exact ⟨i, e⟩
      · exact absurd rfl this
    have hi0 : idxOf p xs = k0 := by unfold idxOf; rw [hk0]
    obtain ⟨hF0, hk0l⟩ := part_some hk0
    refine At.skip ?_
    repeat refine At.seq ?_
    refine At.region tab_ok ?_
    conv => whnf
    refine ⟨by rw [hi0]; exact ⟨by omega, by omega⟩, ?_⟩
    conv => whnf
    repeat refine At.seq ?_
    refine At.block ?_
    refine At.loopH (fun j : Nat => { N := Tryz.f51.ntmps, sl := [(0, some (.s (.c (.o 0 v)))), (1, some (.x (.func (.func g) #[] caps))), (5, some (.i ((xs.take j).filter (fun x => !p x)).length)), (6, some (.i j))], gl := [], hp := [(0, .row v 25 3 (((xs.take j).filter (fun x => !p x) ++ xs.drop ((xs.take j).filter (fun x => !p x)).length).map encS))], S := blkOf v, ws := w }) (fun j => j ≤ xs.length ∧ ((xs.take j).filter (fun x => !p x)).length < j) (fun j => xs.length - j)
      (fun w' hw => ⟨k0 + 1, ⟨by omega, by rw [hF0]; simp; omega⟩, Le.of rfl rfl ⟨rfl, rfl, congrArg (Value.int .i64) (by rw [hi0, hF0]; simp; omega), congrArg (Value.int .i64) (by rw [hi0]; rfl), trivial⟩, ?_, ⟨⟨_, _, _, rfl⟩, trivial⟩, ⟨(nopS _).okH, trivial⟩⟩) ?_
    · refine hw.same ?_ rfl rfl
      show [(0, LO.row v 25 3 _)] = [(0, LO.row v 25 3 _)]
      rw [hF0, show (xs.take k0).length = k0 by simp; omega, List.take_append_drop]
    intro j ⟨hj, hFl⟩
    generalize hFd : (xs.take j).filter (fun x => !p x) = F at hFl
    have hFx : F.length < xs.length := by omega
    repeat refine At.seq ?_
    refine At.region tab_ok ?_
    conv => whnf
    refine ⟨rfl, ?_⟩
    conv => whnf
    repeat refine At.seq ?_
    refine At.cond rfl (fun hc => At.skip ?_) (fun hc => At.exit ?_)
    · have hlt : j < xs.length := by have := of_decide_eq_true hc; simp at this; omega
      obtain ⟨x, hx⟩ : ∃ x, xs[j]? = some x := ⟨_, List.getElem?_eq_getElem hlt⟩
      have hrow : ((F ++ xs.drop F.length).map encS)[j]? = some (encS x) := by
        rw [List.getElem?_map, List.getElem?_append_right (by omega), List.getElem?_drop, show F.length + (j - F.length) = j by omega, hx]; rfl
      have hrow' : ((F ++ xs.drop F.length).map encS)[F.length]? = some (encS xs[F.length]) := by
        rw [List.getElem?_map, List.getElem?_append_right (by omega), List.getElem?_drop, List.getElem?_eq_getElem (by omega)]; simp
      repeat refine At.seq ?_
      refine At.block ?_
      repeat refine At.seq ?_
      refine At.region tab_ok ?_
      conv => whnf
      refine ⟨rfl, ?_⟩
      conv => whnf
      refine ⟨by omega, ?_⟩
      conv => whnf
      refine ⟨by simp; omega, ?_⟩
      conv => whnf
      refine ⟨encS x, ⟨rfl, rfl, by omega, hrow⟩, ?_⟩
      conv => whnf
      intro b
      conv => whnf
      repeat refine At.seq ?_
      refine At.region tab_ok ?_
      conv => whnf
      refine ans_call hg rfl (fun w' hw => hf x (List.mem_of_getElem? hx) w' hw.fr) ?_
      conv => whnf
      repeat refine At.seq ?_
      refine At.cond rfl (fun hq => ?_) (fun hq => ?_)
      · repeat refine At.seq ?_
        refine At.region tab_ok ?_
        conv => whnf
        refine ⟨rfl, ?_⟩
        conv => whnf
        refine ⟨by omega, ?_⟩
        conv => whnf
        refine ⟨by simp; omega, ?_⟩
        conv => whnf
        refine ⟨_, ⟨rfl, rfl, by omega, hrow'⟩, ?_⟩
        conv => whnf
        repeat refine At.seq ?_
        refine At.region tab_ok ?_
        conv => whnf
        refine ⟨⟨by omega, by omega⟩, ?_⟩
        conv => whnf
        repeat refine At.seq ?_
        refine At.region tab_ok ?_
        conv => whnf
        refine ⟨⟨by omega, by omega⟩, ?_⟩
        conv => whnf
        have hnx : (xs.take (j + 1)).filter (fun x => !p x) = F ++ [x] := by rw [filter_take hx, hFd, if_pos hq]
        refine At.nextH fun w' hw => ⟨j + 1, ⟨by omega, by rw [hnx]; simp; omega⟩, by omega, Le.of rfl rfl ⟨rfl, rfl, congrArg (Value.int .i64) (by rw [hnx]; simp), rfl, trivial⟩, hw.keep [0] ?_ rfl rfl, ⟨⟨_, _, _, rfl⟩, trivial⟩, ⟨(nopS _).okH, trivial⟩⟩
        show [(0, LO.row v 25 3 _)] = [(0, LO.row v 25 3 _)]
        rw [hnx]
        congr 3
        exact (keep_store hFx).symm
      · refine At.skip ?_
        repeat refine At.seq ?_
        refine At.region tab_ok ?_
        conv => whnf
        refine ⟨⟨by omega, by omega⟩, ?_⟩
        conv => whnf
        have hnx : (xs.take (j + 1)).filter (fun x => !p x) = F := by rw [filter_take hx, hFd]; simp [hq]
        refine At.nextH fun w' hw => ⟨j + 1, ⟨by omega, by rw [hnx]; omega⟩, by omega, Le.of rfl rfl ⟨rfl, rfl, congrArg (Value.int .i64) (by rw [hnx]), rfl, trivial⟩, hw.keep [0] ?_ rfl rfl, ⟨⟨_, _, _, rfl⟩, trivial⟩, ⟨(nopS _).okH, trivial⟩⟩
        show [(0, LO.row v 25 3 _)] = [(0, LO.row v 25 3 _)]
        rw [hnx]
    · have hge : j = xs.length := by have := of_decide_eq_false hc; simp at this; omega
      subst hge
      have hFe : xs.filter (fun x => !p x) = F := by rw [← hFd, List.take_length]
      have hll : ((F ++ xs.drop F.length).map encS).length = xs.length := by simp; omega
      repeat refine At.seq ?_
      refine At.region tab_ok ?_
      conv => whnf
      refine ⟨rfl, ?_⟩
      conv => whnf
      refine ⟨by omega, ?_⟩
      conv => whnf
      refine ⟨by omega, ?_⟩
      conv => whnf
      refine ⟨Or.inl (by omega), ?_⟩
      conv => whnf
      refine ⟨0, F.length, ?_⟩
      conv => whnf
      refine ⟨⟨by rw [hll], by rw [hll]; omega⟩, ?_⟩
      conv => whnf
      repeat refine At.seq ?_
      refine At.region tab_ok ?_
      conv => whnf
      refine ⟨rfl, ?_⟩
      conv => whnf
      refine ⟨by omega, ?_⟩
      conv => whnf
      refine ⟨by omega, ?_⟩
      conv => whnf
      refine ⟨Or.inl (by rw [spliceR_length (by simp <;> omega), hll]; omega), ?_⟩
      conv => whnf
      repeat refine At.seq ?_
      refine At.ret (At.doneB tab_ok hB _ rfl fun w' hw => ⟨_, rfl, ?_, hw.fr, blkOf_sub⟩)
      have hr := row_prefix (hw.row (id := 0) rfl) (n := F.length) (by rw [spliceR_length (by simp <;> omega), hll]; omega)
      rw [splice_all (by rw [hll]; omega) _ (by simp)] at hr
      rw [hFe]
      have e : ((F ++ xs.drop F.length).map encS).take F.length = F.map encS := by rw [← List.map_take]; simp
      rw [e] at hr
      exact hr
end Go.Proofs.YtjilbkioieicbaaGreat

/- Walks: the order of spans. -/
namespace Go.Proofs.YtjilbkioieicbaaGreat
open Go.Vc Rt
set_option linter.unusedVariables false
set_option linter.unusedSimpArgs false
def cmpS (a b : Span) : Int := orI [cmpI a.m b.m, cmpI a.f b.f]
theorem norm2_c (x y : Span) (w : World) : Ans Tryz.prog 56 [vS x, vS y] (.i (cmpS x y)) w := by
  refine calls_plainB [.s (.agg (encS x)), .s (.agg (encS y))] Tryz.func56 rfl rfl (Nat.le_of_ble_eq_true rfl) rfl fun B hB => ?_
  repeat refine At.seq ?_
  refine At.region tab_ok ?_
  conv => whnf
  intro b1
  conv => whnf
  intro b2
  conv => whnf
  repeat refine At.seq ?_
  refine At.plan tab_ok mixed [(0, .box b1 25 (encS x)), (1, .box b2 25 (encS y))] (.take 0 (.take 1 (.take 2 (.take 3 (.take 5 (.take 6 (.take 7 (.take 8 (.br 4 (.br 9 (.br 10 (.br 11 (.take 12 .done) .nob) .nob) .nob) .nob))))))))) (by kernel_rfl) (by kernel_rfl) ⟨rfl, rfl, trivial⟩ ?_
  conv => whnf
  refine ⟨ans_call b58 rfl (fun w _ => compare_c x.m y.m w) ?_, trivial⟩
  conv => whnf
  refine ⟨⟨⟨rfl, rfl, trivial⟩, fun w' hw => hw.fr⟩, ?_⟩
  conv => whnf
  refine ⟨ans_call b58 rfl (fun w _ => compare_c x.f y.f w) ?_, trivial⟩
  conv => whnf
  refine ⟨⟨⟨rfl, rfl, trivial⟩, fun w' hw => hw.fr⟩, ?_⟩
  conv => whnf
  refine ⟨?_, trivial⟩
  intro v1
  conv => whnf
  refine ⟨⟨⟨rfl, rfl, trivial⟩, fun w' hw => hw.fr⟩, ?_⟩
  conv => whnf
  refine ⟨ans_call b101 rfl (fun w' hw => or_c [cmpI x.m y.m, cmpI x.f y.f] [] v1 w' (SlOf.of_row (xs := [cmpI x.m y.m, cmpI x.f y.f]) (hw.row (id := 2) rfl) (fun b hb hb' => by cases hb') (by simp))) ?_, trivial⟩
  conv => whnf
  refine ⟨⟨⟨rfl, rfl, trivial⟩, fun w' hw => hw.fr⟩, ?_⟩
  conv => whnf
  repeat refine At.seq ?_
  refine At.ret (At.doneB tab_ok hB _ rfl fun w' hw => ⟨rfl, hw.fr⟩)
end Go.Proofs.YtjilbkioieicbaaGreat

/- Walks: slices.SortFunc at spans. -/
namespace Go.Proofs.YtjilbkioieicbaaGreat
open Go.Vc Rt
set_option linter.unusedVariables false
set_option linter.unusedSimpArgs false
def encVS (s : Span) : List Value := [.int .i64 s.m, .int .i64 s.f, .int .i64 s.t]
theorem Ext.grow {w w' : World} (h : Ext w w') : ∃ q os', w' = Sort.grow (w.drewN q) os' := by
  refine ⟨w'.drawn - w.drawn, w'.heap.extract w.heap.size w'.heap.size, ?_⟩
  obtain ⟨heap, tape, drawn, os, output⟩ := w
  obtain ⟨heap', tape', drawn', os', output'⟩ := w'
  obtain ⟨h1, h2, h3, h4, h5, h6⟩ := h
  simp only at h1 h2 h3 h4 h5 h6
  subst h1 h2 h3
  have e : heap' = heap ++ heap'.extract heap.size heap'.size := by
    apply Array.ext_getElem?
    intro k
    rw [Array.getElem?_append]
    split
    · rename_i hk; exact h5 k hk (by simp)
    · rename_i hk
      rw [Array.getElem?_extract]
      split
      · rename_i hk2; congr 1; omega
      · rename_i hk2; rw [Array.getElem?_eq_none (by omega)]
  simp only [Sort.grow, World.drewN, World.mk.injEq]
  exact ⟨e, trivial, by omega, trivial, trivial⟩
theorem cmpS_lays (blk off size : Nat) (w : World) : CmpLays Tryz.prog 56 #[] encVS 3 cmpS blk off size w := by
  intro m os dk hs x y
  exact (norm2_c x y _).mono fun e w' ⟨he, hx⟩ => ⟨he, Ext.grow hx⟩
def ltS (a b : Span) : Prop := a.m < b.m ∨ (a.m = b.m ∧ a.f < b.f)
theorem cmpI_neg {x y : Int} : cmpI x y < 0 ↔ x < y := by unfold cmpI; split <;> (try split) <;> omega
theorem cmpI_zero {x y : Int} : cmpI x y = 0 ↔ x = y := by unfold cmpI; split <;> (try split) <;> omega
theorem ltOf_cmpS (a b : Span) : ltOf cmpS a b = true ↔ ltS a b := by
  unfold ltOf cmpS orI ltS
  rw [decide_eq_true_iff]
  by_cases h : cmpI a.m b.m = 0
  · have e := cmpI_zero.1 h
    by_cases h2 : cmpI a.f b.f = 0
    · have e2 := cmpI_zero.1 h2
      simp [h, h2]; omega
    · simp [h, h2, cmpI_neg]; omega
  · have e : a.m ≠ b.m := fun e => h (cmpI_zero.2 e)
    simp [h, cmpI_neg]; omega
theorem swoS : Sort.SWO (ltOf cmpS) where
  irrefl x := by
    rw [← Bool.not_eq_true, ltOf_cmpS]; unfold ltS; omega
  trans x y z h1 h2 := by rw [ltOf_cmpS] at *; unfold ltS at *; omega
  ntrans x y z h1 h2 := by rw [← Bool.not_eq_true, ltOf_cmpS] at *; unfold ltS at *; omega
theorem flatK_get (d : Array Span) {j : Nat} (hj : j < d.size * 3) : (dens (d.toList.map encS).flatten)[j]? = some (Sort.flatK encVS 3 d)[j]! := by
  have hlr : ∀ l ∈ d.toList.map encS, l.length = 3 := fun l hl => by obtain ⟨x, _, rfl⟩ := List.mem_map.1 hl; rfl
  have hq : j / 3 < d.size := by omega
  have e := flatten_get hlr (k := j / 3) (row := encS d[j / 3]) (by simp [hq]) (j % 3) (by omega)
  rw [show j / 3 * 3 + j % 3 = j by omega] at e
  rw [Sort.get_flatK _ _ _ _ hj, getElem!_pos d (j / 3) hq]
  simp only [dens, List.getElem?_map, e]
  have h3 : j % 3 = 0 ∨ j % 3 = 1 ∨ j % 3 = 2 := by omega
  rcases h3 with h3 | h3 | h3 <;> rw [h3] <;> rfl
theorem sort_c' (xs : List Span) (v : Value) (w : World) (h : (LO.row v 25 3 (xs.map encS)).holds w) (hN : xs.length ≤ 1000000) (hnil : Calls Tryz.prog 55 #[.slice none 0 0, .func (.func 56) #[] #[]] w fun e w' => e = .returned (.tuple #[]) ∧ w' = w) :
    Calls Tryz.prog 55 #[v, .func (.func 56) #[] #[]] w (fun e w' => ∃ ys : List Span, e = .returned (.tuple #[]) ∧ ys.Perm xs ∧ ys.Pairwise (fun a b => ¬ ltS b a) ∧ (LO.row v 25 3 (ys.map encS)).holds w' ∧ Fr (blkOf v) w w') := by
  have h' := h
  obtain ⟨⟨hlen, hv⟩, hL⟩ := h
  rcases hv with ⟨rfl, h0⟩ | ⟨g, o, cap, cur, rfl, hg, hnc, hcm, hcs, htake⟩
  · have hx : xs = [] := List.eq_nil_of_length_eq_zero (by simpa using h0)
    subst hx
    exact hnil.mono fun e w' ⟨he, hw⟩ => ⟨[], he, .nil, .nil, by rw [hw]; exact h', by rw [hw]; exact Fr.refl _ _⟩
  · simp only [List.length_map] at hnc hcs htake hlen ⊢
    have hgs : g < w.heap.size := (Array.getElem?_eq_some_iff.1 hg).1
    have hcell : ∀ j u, (dens (xs.map encS).flatten)[j]? = some u → w.cell? ⟨g, o + j, none⟩ = some u := by
      intro j u hu
      have hj : j < xs.length * 3 := by
        rcases Nat.lt_or_ge j (xs.length * 3) with h1 | h1
        · exact h1
        · rw [List.getElem?_eq_none (by omega)] at hu; cases hu
      rw [cell_of_row w g _ _ _ _ hg]
      rw [← htake, List.getElem?_take_of_lt hj, List.getElem?_drop] at hu
      simpa using hu
    have hH : Sort.HoldsK encVS 3 w g o xs.toArray := by
      intro j hj
      simp only [Sort.size_flatK, List.size_toArray] at hj
      refine ⟨hcell j _ (flatK_get xs.toArray (by simpa using hj)), ?_⟩
      simp [World.frozen?, hg]
    have eg : ∀ args w, (callFunc 56 args).run Tryz.prog w = .ok (.enter 56 args) w := enters_of Tryz.func56 (by kernel_rfl) rfl
    have hcon := AnyQ.slices_SortFunc Tryz.sortSp 3 (fun w => ok_isAgg (P := Tryz.prog) (t := 25) (d := .struct (Tryz.prog.fieldsOf 25)) (by kernel_rfl) w) (fun w => by
      obtain ⟨i, hi, hs⟩ : ∃ i, Tryz.prog.info? 25 = some i ∧ i.size = 3 := by
        obtain ⟨i, d, hi, _, hs, _⟩ := chk_info (tab_ok 25 _ rfl)
        exact ⟨i, hi, hs⟩
      have := ok_sizeOf (P := Tryz.prog) hi w
      rw [hs] at this
      exact this) encVS (fun _ => rfl) (fun x v hv => by simp [encVS] at hv; rcases hv with rfl | rfl | rfl <;> rfl) cmpS swoS 56 #[] g o cap xs.toArray w eg (cmpS_lays g o _ w) hH hgs (by simp; omega)
    change Calls Tryz.prog 55 _ _ _ at hcon
    refine hcon.mono fun e w' ⟨he, d', n', os, hp, hs, hw⟩ => ⟨d'.toList, he, ?_, ?_, ?_, ?_⟩
    · have hp3 := hp.2.2
      have e1 : d'.extract 0 xs.toArray.size = d' := by rw [← hp.1]; simp
      have e2 : xs.toArray.extract 0 xs.toArray.size = xs.toArray := by simp
      rw [e1, e2] at hp3
      simpa using hp3
    · rw [List.pairwise_iff_getElem]
      intro i j hi hj hij hlt
      have := hs i j (Nat.zero_le _) hij (by rw [← hp.1]; simpa using hj)
      rw [getElem!_pos d' j (by simpa using hj), getElem!_pos d' i (by simpa using hi), ← Bool.not_eq_true, ltOf_cmpS] at this
      exact this (by simpa using hlt)
    all_goals
      have hd : d'.size = xs.length := by rw [hp.1]; simp
      have hheap : w'.heap[g]? = some (.cells (Sort.putCells id o (Sort.flatK encVS 3 d') cur) 25 (0, 0)) := by
        rw [hw]
        simp only [sortWorldK, Sort.grow, Sort.putRowK, Sort.putRow, Sort.mapBlock, Sort.ahead]
        rw [Array.getElem?_append_left (by simpa using hgs), Array.getElem?_modify, if_pos rfl, hg]
        rfl
    · have hrl : ∀ l ∈ d'.toList.map encS, l.length = 3 := fun l hl => by obtain ⟨x, _, rfl⟩ := List.mem_map.1 hl; rfl
      have hdl : (dens (d'.toList.map encS).flatten).length = xs.length * 3 := by simp only [dens, List.length_map]; rw [flatten_len hrl]; simp [hd]
      refine ⟨⟨by rw [hdl]; simp [hd], .inr ⟨g, o, cap, _, by simp [hd], hheap, by simp [hd]; omega, hcm, by simp [Sort.putCells]; exact hcs, ?_⟩⟩, hrl⟩
      apply List.ext_getElem?
      intro j
      by_cases hj : j < xs.length * 3
      · have e := flatK_get d' (j := j) (by omega)
        rw [List.getElem?_take_of_lt (by simp [hd]; omega), List.getElem?_drop, e]
        have hlt : o + j < cur.size := by
          have : xs.length * 3 ≤ cap * 3 := Nat.mul_le_mul_right _ hnc
          omega
        simp [Sort.putCells, hlt, hd, hj]
      · rw [List.getElem?_eq_none (by simp [hd]; omega), List.getElem?_eq_none (by omega)]
    · rw [hw]
      refine ⟨rfl, rfl, rfl, by simp [sortWorldK, Sort.grow, Sort.putRowK], fun k hk hn => ?_, by simp [sortWorldK, Sort.grow, Sort.putRowK]⟩
      have hne : g ≠ k := fun e => hn (by simp [blkOf, e])
      simp only [sortWorldK, Sort.grow, Sort.putRowK, Sort.putRow, Sort.mapBlock, Sort.ahead]
      rw [Array.getElem?_append_left (by simpa using hk), Array.getElem?_modify, if_neg hne]
theorem sort_c (xs : List Span) (v : Value) (w : World) (h : (LO.row v 25 3 (xs.map encS)).holds w) (hN : xs.length ≤ 1000000) :
    Calls Tryz.prog 55 #[v, .func (.func 56) #[] #[]] w (fun e w' => ∃ ys : List Span, e = .returned (.tuple #[]) ∧ ys.Perm xs ∧ ys.Pairwise (fun a b => ¬ ltS b a) ∧ (LO.row v 25 3 (ys.map encS)).holds w' ∧ Fr (blkOf v) w w') := by
  have hcon := AnyF.slices_SortFunc_none Tryz.sortSp none 0 (.func (.func 56) #[] #[]) w
  change Calls Tryz.prog 55 _ _ _ at hcon
  exact sort_c' xs v w h hN hcon
end Go.Proofs.YtjilbkioieicbaaGreat

/- Walks: the normal form of spans, and the number of coins. -/
namespace Go.Proofs.YtjilbkioieicbaaGreat
open Go.Vc Rt
set_option linter.unusedVariables false
set_option linter.unusedSimpArgs false
theorem last_get (out : List Span) : ∃ r, 0 < out.length → out[out.length - 1]? = some r := by
  rcases Nat.eq_zero_or_pos out.length with h | h
  · exact ⟨default, fun h' => by omega⟩
  · exact ⟨out[out.length - 1], fun _ => List.getElem?_eq_getElem (by omega)⟩
theorem rd1 {E size : Nat} {L : List (List CV)} (h : NoP L) : rdOk [.row E size L] := ⟨h, trivial⟩
theorem join_set {out : List Span} {r x : Span} (h0 : 0 < out.length) (hr : out[out.length - 1]? = some r) (h1 : r.m = x.m) (h2 : x.f ≤ r.t) : join out x = out.set (out.length - 1) ⟨r.m, r.f, max r.t x.t⟩ := by
  rcases List.eq_nil_or_concat out with rfl | ⟨o, r', rfl⟩
  · simp at h0
  · simp only [List.concat_eq_append] at *
    simp at hr
    subst hr
    rw [join_snoc, if_pos ⟨h1, h2⟩]
    simp
theorem join_app {out : List Span} {r x : Span} (hr : 0 < out.length → out[out.length - 1]? = some r) (h : 0 < out.length → r.m = x.m → ¬ x.f ≤ r.t) : join out x = out ++ [x] := by
  rcases List.eq_nil_or_concat out with rfl | ⟨o, r', rfl⟩
  · rfl
  · simp only [List.concat_eq_append] at *
    have hr := hr (by simp)
    simp at hr
    subst hr
    rw [join_snoc, if_neg]
    rintro ⟨h1, h2⟩
    exact h (by simp) h1 h2
theorem pair_le {ys : List Span} (h : ys.Pairwise (fun a b => ¬ ltS b a)) : ys.Pairwise le2 := h.imp fun {a b} h => by unfold ltS at h; unfold le2; omega
theorem join_len (out : List Span) (x : Span) : (join out x).length ≤ out.length + 1 := by
  rcases List.eq_nil_or_concat out with rfl | ⟨o, r', rfl⟩
  · simp [join]
  · simp only [List.concat_eq_append]
    rw [join_snoc]
    split <;> simp
theorem joins_len : ∀ (l out : List Span), (l.foldl join out).length ≤ out.length + l.length
  | [], out => by simp
  | x :: l, out => by
    have := joins_len l (join out x)
    have := join_len out x
    simp only [List.foldl_cons, List.length_cons]; omega
theorem norm_len (l : List Span) : (norm l).length ≤ l.length := by
  unfold norm joinAll
  have h1 := joins_len (isort (l.filter valid)) []
  have h2 := (isort_perm (l.filter valid)).length_eq
  have h3 := List.length_filter_le valid l
  simp only [List.length_nil] at h1
  omega
theorem norm_c (xs : List Span) (S : List Nat) (v : Value) (w : World) (h : SlOf spT S w v xs) (hN : xs.length ≤ 1000000) : AnsR Tryz.prog 33 [v] [.row 25 3 ((norm xs).map encS)] w := by
  replace h := h.avoid (S' := []) (fun b hb => by cases hb)
  refine calls_plainB [.x v] Tryz.func33 rfl rfl (Nat.le_of_ble_eq_true rfl) rfl fun B hB => ?_
  repeat refine At.seq ?_
  refine At.region tab_ok ?_
  conv => whnf
  repeat refine At.seq ?_
  refine At.region tab_ok ?_
  conv => whnf
  refine ansR_call b97 (rd1 (nopS xs)) (fun w' hw => cloneS_c xs [] v w' (h.fr hw.fr) hN) ?_
  intro v1
  conv => whnf
  refine row_call (id := 0) b96 rfl (fun r v' L' => r = .s (.c (.o 0 v')) ∧ L' = (xs.filter valid).map encS) (fun w' hw => ?_) ?_
  · refine (deleteS_c xs v1 w' (hw.row (id := 0) rfl) hN 53 #[] (fun s => !valid s) b98 (fun x _ w'' _ => norm1_c x w'')).mono ?_
    rintro e w'' ⟨v', he, hh, hf, hb⟩
    refine ⟨.s (.c (.o 0 v')), v', _, he, ⟨rfl, rfl⟩, ?_, hf, fun b hb' => .inl (hb b hb')⟩
    have e : (fun x => !(!valid x)) = valid := by funext x; simp
    rw [e] at hh
    exact hh
  rintro r v2 L' ⟨rfl, rfl⟩ hsl
  refine ⟨hsl, nopS _, ?_⟩
  conv => whnf
  generalize hfl : xs.filter valid = zs
  have hzl : zs.length ≤ 1000000 := by rw [← hfl]; exact Nat.le_trans (List.length_filter_le _ _) hN
  repeat refine At.seq ?_
  refine At.region tab_ok ?_
  conv => whnf
  refine row_call (id := 0) b99 rfl (fun r v' L' => r = .tup [] ∧ v' = v2 ∧ ∃ ys : List Span, L' = ys.map encS ∧ ys.Perm zs ∧ ys.Pairwise (fun a b => ¬ ltS b a)) (fun w' hw => ?_) ?_
  · refine (sort_c zs v2 w' (hw.row (id := 0) rfl) hzl).mono ?_
    rintro e w'' ⟨ys, he, h1, h2, h3, h4⟩
    exact ⟨.tup [], v2, _, he, ⟨rfl, rfl, ys, rfl, h1, h2⟩, h3, h4, fun b hb => .inl hb⟩
  rintro r v3 L' ⟨rfl, rfl, ys, rfl, hperm, hsort⟩ hsl'
  refine ⟨fun v hv => (by cases hv), nopS _, ?_⟩
  conv => whnf
  have hyl : ys.length ≤ 1000000 := by rw [hperm.length_eq]; exact hzl
  have hnorm : joinAll ys = norm xs := norm_of_sorted (by rw [hfl]; exact hperm) (pair_le hsort)
  repeat refine At.seq ?_
  refine At.region tab_ok ?_
  conv => whnf
  repeat refine At.seq ?_
  refine At.region tab_ok ?_
  conv => whnf
  refine ⟨rfl, ?_⟩
  conv => whnf
  repeat refine At.seq ?_
  refine At.block ?_
  refine At.loopH (fun p : Nat × Value => { N := Tryz.f33.ntmps, sl := [(4, some (.s (.c (.o 1 p.2)))), (13, some (.s (.c (.o 0 v3)))), (14, some (.i ys.length)), (15, some (.i p.1))], gl := [], hp := [(1, .row p.2 25 3 (((ys.take p.1).foldl join []).map encS)), (0, .row v3 25 3 (ys.map encS))], S := [], ws := w }) (fun p => p.1 ≤ ys.length) (fun p => ys.length - p.1)
    (fun w' hw => ⟨(0, .slice none 0 0), Nat.zero_le _, Le.of rfl rfl ⟨rfl, rfl, congrArg (Value.int .i64) (by simp), rfl, trivial⟩, hw.nil rfl rfl rfl, ⟨⟨_, _, _, rfl⟩, ⟨_, _, _, rfl⟩, trivial⟩, ⟨(nopS _).okH, (nopS _).okH, trivial⟩⟩) ?_
  rintro ⟨k, vo⟩ hk
  simp only at hk ⊢
  repeat refine At.seq ?_
  refine At.region tab_ok ?_
  conv => whnf
  repeat refine At.seq ?_
  refine At.cond rfl (fun hc => At.skip ?_) (fun hc => At.exit ?_)
  · have hlt : k < ys.length := by have := of_decide_eq_true hc; omega
    obtain ⟨x, hx⟩ : ∃ x, ys[k]? = some x := ⟨_, List.getElem?_eq_getElem hlt⟩
    have hol := joins_len (ys.take k) []
    have hnx : (ys.take (k + 1)).foldl join [] = join ((ys.take k).foldl join []) x := by rw [List.take_add_one, hx, List.foldl_append]; rfl
    generalize (ys.take k).foldl join [] = out at hol hnx ⊢
    simp only [List.length_nil, List.length_take] at hol
    obtain ⟨r, hr⟩ := last_get out
    have hr' : ∀ {q : Int}, q = out.length - 1 → 0 ≤ q → (out.map encS)[q.toNat]? = some (encS r) := fun {q} e h0 => by
      rw [List.getElem?_map, show q.toNat = out.length - 1 by omega, hr (by omega)]; rfl
    have hml : (out.map encS).length = out.length := by simp
    repeat refine At.seq ?_
    refine At.block ?_
    repeat refine At.seq ?_
    refine At.region tab_ok ?_
    conv => whnf
    refine ⟨rfl, ?_⟩
    conv => whnf
    refine ⟨by omega, ?_⟩
    conv => whnf
    refine ⟨by simp; omega, ?_⟩
    conv => whnf
    refine ⟨encS x, ⟨rfl, rfl, by omega, by simp [hx]⟩, ?_⟩
    conv => whnf
    intro b
    conv => whnf
    repeat refine At.seq ?_
    refine At.region tab_ok ?_
    conv => whnf
    refine ⟨rfl, ?_⟩
    conv => whnf
    refine ⟨by rw [hml]; exact ⟨by omega, by omega⟩, ?_⟩
    conv => whnf
    repeat refine At.seq ?_
    refine At.draw tab_ok mixed (by kernel_rfl) ?_
    conv => whnf
    refine ⟨by simp only [gimp]; intro _; trivial, ?_⟩
    conv => whnf
    refine ⟨by simp only [gimp]; intro h1; exact of_decide_eq_true h1, ?_⟩
    conv => whnf
    refine ⟨by simp only [gimp]; intro h1; omega, ?_⟩
    conv => whnf
    refine ⟨encS r, by simp only [gimp]; intro h1; have h1 := of_decide_eq_true h1; exact ⟨trivial, trivial, h1, hr' (by rw [hml]) h1⟩, ?_⟩
    conv => whnf
    refine ⟨by simp only [gimp]; intro _; trivial, ?_⟩
    conv => whnf
    refine ⟨by simp only [gimp]; intro h1; simp only [band, Bool.and_eq_true, decide_eq_true_eq] at h1; exact h1.1, ?_⟩
    conv => whnf
    refine ⟨by simp only [gimp]; intro h1; omega, ?_⟩
    conv => whnf
    refine ⟨encS r, by simp only [gimp]; intro h1; simp only [band, Bool.and_eq_true, decide_eq_true_eq] at h1; exact ⟨trivial, trivial, h1.1, hr' (by rw [hml]) h1.1⟩, ?_⟩
    conv => whnf
    repeat refine At.seq ?_
    refine At.cond rfl (fun hq => ?_) (fun hq => ?_)
    · simp only [band, Bool.and_eq_true, decide_eq_true_eq] at hq
      obtain ⟨⟨hq1, hq2⟩, hq3⟩ := hq
      have h0 : 0 < out.length := by rw [hml] at hq1; omega
      have hjs := join_set h0 (hr h0) hq2 hq3
      have hidx : (((out.map encS).length : Int) - 1).toNat = out.length - 1 := by rw [hml]; omega
      repeat refine At.seq ?_
      refine At.plan tab_ok mixed [(2, .box b 25 (encS x)), (0, .row v3 25 3 (ys.map encS))] (.take 0 (.take 1 (.take 2 (.take 3 (.take 7 (.take 8 (.br 4 (.take 5 (.br 6 (.take 9 (.br 10 (.take 11 (.br 12 .done .nob)) .nob)) .nob)) .nob))))))) (by kernel_rfl) (by kernel_rfl) ⟨rfl, rfl, trivial⟩ ?_
      conv => whnf
      refine ⟨?_, trivial⟩
      conv => whnf
      refine ⟨rfl, ?_⟩
      conv => whnf
      refine ⟨hq1, ?_⟩
      conv => whnf
      refine ⟨by omega, ?_⟩
      conv => whnf
      refine ⟨⟨⟨rfl, rfl, trivial⟩, fun w' hw => hw.fr⟩, ?_⟩
      conv => whnf
      refine ⟨⟨encS r, ⟨rfl, rfl, hq1, hr' (by rw [hml]) hq1⟩, ?_⟩, trivial⟩
      conv => whnf
      refine ⟨⟨⟨rfl, rfl, trivial⟩, fun w' hw => hw.fr⟩, ?_⟩
      conv => whnf
      refine ⟨?_, trivial⟩
      conv => whnf
      refine ⟨rfl, ?_⟩
      conv => whnf
      refine ⟨hq1, ?_⟩
      conv => whnf
      refine ⟨by omega, ?_⟩
      conv => whnf
      refine ⟨⟨⟨rfl, rfl, trivial⟩, fun w' hw => hw.fr⟩, ?_⟩
      conv => whnf
      refine ⟨⟨encS r, ⟨rfl, rfl, hq1, hr' (by rw [hml]) hq1⟩, ?_⟩, trivial⟩
      conv => whnf
      refine ⟨⟨⟨rfl, rfl, trivial⟩, fun w' hw => hw.fr⟩, ?_⟩
      conv => whnf
      refine At.exit ?_
      repeat refine At.seq ?_
      refine At.region tab_ok ?_
      conv => whnf
      refine ⟨⟨by omega, by omega⟩, ?_⟩
      conv => whnf
      refine At.nextH fun w' hw => ⟨(k + 1, vo), by simp only; omega, by simp only; omega, Le.of rfl rfl ⟨rfl, rfl, rfl, rfl, trivial⟩, hw.keep [1, 0] ?_ rfl rfl, ⟨⟨_, _, _, rfl⟩, ⟨_, _, _, rfl⟩, trivial⟩, ⟨(nopS _).okH, (nopS _).okH, trivial⟩⟩
      show [(1, LO.row vo 25 3 _), (0, LO.row v3 25 3 _)] = [(1, LO.row vo 25 3 _), (0, LO.row v3 25 3 _)]
      rw [hnx, hjs, hidx, List.map_set]
      rfl
    · have hja : join out x = out ++ [x] := join_app hr fun h0 h1 h2 => by
        simp only [band, Bool.and_eq_false_iff, decide_eq_false_iff_not] at hq
        rw [hml] at hq; omega
      refine At.skip ?_
      repeat refine At.seq ?_
      refine At.region tab_ok ?_
      conv => whnf
      intro v4
      conv => whnf
      refine ⟨rfl, ?_⟩
      conv => whnf
      refine ⟨⟨rfl, by simp; omega⟩, ?_⟩
      conv => whnf
      intro v5
      conv => whnf
      repeat refine At.seq ?_
      refine At.region tab_ok ?_
      conv => whnf
      refine ⟨⟨by omega, by omega⟩, ?_⟩
      conv => whnf
      refine At.nextH fun w' hw => ⟨(k + 1, v5), by simp only; omega, by simp only; omega, Le.of rfl rfl ⟨rfl, rfl, rfl, rfl, trivial⟩, hw.keep [1, 0] ?_ rfl rfl, ⟨⟨_, _, _, rfl⟩, ⟨_, _, _, rfl⟩, trivial⟩, ⟨(nopS _).okH, (nopS _).okH, trivial⟩⟩
      show [(1, LO.row v5 25 3 _), (0, LO.row v3 25 3 _)] = [(1, LO.row v5 25 3 _), (0, LO.row v3 25 3 _)]
      rw [hnx, hja, List.map_append]
      rfl
  · have hge : k = ys.length := by have := of_decide_eq_false hc; omega
    subst hge
    repeat refine At.seq ?_
    refine At.region tab_ok ?_
    conv => whnf
    repeat refine At.seq ?_
    refine At.ret (At.doneB tab_ok hB _ rfl fun w' hw => ansR_row (id := 1) hw (by rw [← hnorm, List.take_length]; rfl) rfl rfl)
end Go.Proofs.YtjilbkioieicbaaGreat

/- Walks: comparing, counting, limits. -/
namespace Go.Proofs.YtjilbkioieicbaaGreat
open Go.Vc Rt
set_option linter.unusedVariables false
set_option linter.unusedSimpArgs false
theorem count_c (xs : List Span) (S : List Nat) (v : Value) (w : World) (h : SlOf spT S w v xs) (hN : xs.length ≤ 1000000) : Ans Tryz.prog 19 [v] (.i (count xs)) w := by
  replace h := h.avoid (S' := []) (fun b hb => by cases hb)
  have hnl := norm_len xs
  have hval := norm_valid (l := xs)
  have hcount : count xs = total (norm xs) := rfl
  refine calls_plainB [.x v] Tryz.func19 rfl rfl (Nat.le_of_ble_eq_true rfl) rfl fun B hB => ?_
  repeat refine At.seq ?_
  refine At.region tab_ok ?_
  conv => whnf
  repeat refine At.seq ?_
  refine At.region tab_ok ?_
  conv => whnf
  repeat refine At.seq ?_
  refine At.region tab_ok ?_
  conv => whnf
  refine ansR_call b67 (rd1 (nopS (norm xs))) (fun w' hw => norm_c xs [] v w' (h.fr hw.fr) hN) ?_
  intro v1
  conv => whnf
  refine ⟨rfl, ?_⟩
  conv => whnf
  rw [hcount] at *
  generalize norm xs = ys at *
  have hs : ∀ k, 0 ≤ total (ys.take k) ∧ total (ys.take k) ≤ 1048576000000 := fun k => by
    have := total_bound (l := ys.take k) fun s hs => hval s (List.mem_of_mem_take hs)
    have : (ys.take k).length ≤ ys.length := by simp; omega
    omega
  repeat refine At.seq ?_
  refine At.block ?_
  refine At.loopH (fun k : Nat => { N := Tryz.f19.ntmps, sl := [(3, some (.i (total (ys.take k)))), (7, some (.s (.c (.o 0 v1)))), (8, some (.i ys.length)), (9, some (.i k))], gl := [], hp := [(0, .row v1 25 3 (ys.map encS))], S := [], ws := w }) (fun k => k ≤ ys.length) (fun k => ys.length - k)
    (fun w' hw => ⟨0, Nat.zero_le _, Le.of rfl rfl ⟨rfl, rfl, congrArg (Value.int .i64) (by simp), rfl, trivial⟩, hw.same rfl rfl rfl, ⟨⟨_, _, _, rfl⟩, trivial⟩, ⟨(nopS _).okH, trivial⟩⟩) ?_
  intro k hk
  repeat refine At.seq ?_
  refine At.region tab_ok ?_
  conv => whnf
  repeat refine At.seq ?_
  refine At.cond rfl (fun hc => At.skip ?_) (fun hc => At.exit ?_)
  · have hlt : k < ys.length := by have := of_decide_eq_true hc; omega
    obtain ⟨x, hx⟩ : ∃ x, ys[k]? = some x := ⟨_, List.getElem?_eq_getElem hlt⟩
    have hvx := hval x (List.mem_of_getElem? hx)
    have e : total (ys.take (k + 1)) = total (ys.take k) + (x.t - x.f) := by rw [List.take_add_one, hx, total_append]; simp [total]
    have h1 := hs (k + 1)
    rw [e] at h1
    have hvb : 0 ≤ x.f ∧ x.f < x.t ∧ x.t ≤ 1048576 := by unfold valid at hvx; simp at hvx; omega
    repeat refine At.seq ?_
    refine At.block ?_
    repeat refine At.seq ?_
    refine At.region tab_ok ?_
    conv => whnf
    refine ⟨rfl, ?_⟩
    conv => whnf
    refine ⟨by omega, ?_⟩
    conv => whnf
    refine ⟨by simp; omega, ?_⟩
    conv => whnf
    refine ⟨encS x, ⟨rfl, rfl, by omega, by simp [hx]⟩, ?_⟩
    conv => whnf
    intro b
    conv => whnf
    repeat refine At.seq ?_
    refine At.region tab_ok ?_
    conv => whnf
    refine ⟨⟨by omega, by omega⟩, ?_⟩
    conv => whnf
    refine ⟨⟨by omega, by omega⟩, ?_⟩
    conv => whnf
    repeat refine At.seq ?_
    refine At.region tab_ok ?_
    conv => whnf
    refine ⟨⟨by omega, by omega⟩, ?_⟩
    conv => whnf
    exact At.nextH fun w' hw => ⟨k + 1, by omega, by omega, Le.of rfl rfl ⟨congrArg (Value.int .i64) e.symm, rfl, rfl, rfl, trivial⟩, hw.keep [0] rfl rfl rfl, ⟨⟨_, _, _, rfl⟩, trivial⟩, ⟨(nopS _).okH, trivial⟩⟩
  · have hge : k = ys.length := by have := of_decide_eq_false hc; omega
    subst hge
    repeat refine At.seq ?_
    refine At.region tab_ok ?_
    conv => whnf
    repeat refine At.seq ?_
    refine At.ret (At.doneB tab_ok hB _ rfl fun w' hw => ⟨?_, hw.fr⟩)
    rw [List.take_length]
end Go.Proofs.YtjilbkioieicbaaGreat

/- Walks: two slices are compared. -/
namespace Go.Proofs.YtjilbkioieicbaaGreat
open Go.Vc Rt
set_option linter.unusedVariables false
set_option linter.unusedSimpArgs false

theorem sameErrs_c (xs ys : List Int) (S S' : List Nat) (v u : Value) (w : World) (h : SlOf intT S w v xs) (h' : SlOf intT S' w u ys) : Ans Tryz.prog 10 [v, u] (.b (decide (xs = ys))) w := by
  replace h := h.avoid (S' := []) (fun b hb => by cases hb)
  replace h' := h'.avoid (S' := []) (fun b hb => by cases hb)
  have hsm := h.small
  have hsm' := h'.small
  have hl := h.len
  have hl' := h'.len
  refine calls_plainB [.x v, .x u] Tryz.func10 rfl rfl (Nat.le_of_ble_eq_true rfl) rfl fun B hB => ?_
  repeat refine At.seq ?_
  refine At.region tab_ok ?_
  conv => whnf
  repeat refine At.seq ?_
  refine At.region tab_ok ?_
  conv => whnf
  refine ⟨h.sl, ?_⟩
  conv => whnf
  refine ⟨h'.sl, ?_⟩
  conv => whnf
  repeat refine At.seq ?_
  refine At.cond rfl (fun hq => ?_) (fun hq => ?_)
  · repeat refine At.seq ?_
    refine At.region tab_ok ?_
    conv => whnf
    repeat refine At.seq ?_
    refine At.ret (At.doneB tab_ok hB _ rfl fun w' hw => ⟨?_, hw.fr⟩)
    have hne : xs ≠ ys := fun e => by subst e; rw [hl, hl'] at hq; simp at hq
    simp [hne, RV.den, SV.den, CV.den, ofConst]
  · have hll : xs.length = ys.length := by rw [hl, hl'] at hq; simp at hq; omega
    refine At.skip ?_
    repeat refine At.seq ?_
    refine At.region tab_ok ?_
    conv => whnf
    repeat refine At.seq ?_
    refine At.block ?_
    refine At.loopF (fun k : Nat => { N := Tryz.f10.ntmps, sl := [(0, some (.x v)), (1, some (.x u)), (5, some (.i k))], gl := [], hp := [], S := [], ws := w }) (fun k => k ≤ xs.length ∧ ∀ j, j < k → xs[j]? = ys[j]?) (fun k => xs.length - k)
      (fun w' hw => ⟨0, ⟨Nat.zero_le _, fun j hj => by omega⟩, Le.of rfl rfl ⟨rfl, rfl, rfl, trivial⟩, WF.plain rfl, hw.same rfl rfl rfl⟩) ?_
    intro k ⟨hk, hall⟩
    repeat refine At.seq ?_
    refine At.region tab_ok ?_
    conv => whnf
    refine ⟨h.sl, ?_⟩
    conv => whnf
    repeat refine At.seq ?_
    refine At.cond rfl (fun hc => At.skip ?_) (fun hc => At.exit ?_)
    · have hlt : k < xs.length := by have := of_decide_eq_true hc; omega
      obtain ⟨x, hx⟩ : ∃ x, xs[k]? = some x := ⟨_, List.getElem?_eq_getElem hlt⟩
      obtain ⟨y, hy⟩ : ∃ y, ys[k]? = some y := ⟨_, List.getElem?_eq_getElem (by omega)⟩
      repeat refine At.seq ?_
      refine At.block ?_
      repeat refine At.seq ?_
      refine At.draw tab_ok mixed (by kernel_rfl) ?_
      conv => whnf
      refine ⟨by omega, ?_⟩
      conv => whnf
      refine ⟨by omega, ?_⟩
      conv => whnf
      refine ⟨encI x, fun w' hw => h.load (n := 1) hw.fr hx rfl, ?_⟩
      conv => whnf
      refine ⟨by omega, ?_⟩
      conv => whnf
      refine ⟨by omega, ?_⟩
      conv => whnf
      refine ⟨encI y, fun w' hw => h'.load (n := 1) hw.fr hy rfl, ?_⟩
      conv => whnf
      repeat refine At.seq ?_
      refine At.cond rfl (fun hq => ?_) (fun hq => ?_)
      · repeat refine At.seq ?_
        refine At.region tab_ok ?_
        conv => whnf
        repeat refine At.seq ?_
        refine At.ret (At.doneB tab_ok hB _ rfl fun w' hw => ⟨?_, hw.fr⟩)
        have hxy : x ≠ y := fun e => by subst e; simp at hq
        have hne : xs ≠ ys := fun e => by subst e; rw [hx] at hy; exact hxy (Option.some.inj hy)
        simp [hne, RV.den, SV.den, CV.den, ofConst]
      · have hxy : x = y := by simpa using hq
        subst hxy
        refine At.skip ?_
        repeat refine At.seq ?_
        refine At.region tab_ok ?_
        conv => whnf
        refine ⟨⟨by omega, by omega⟩, ?_⟩
        conv => whnf
        refine At.next fun w' hw => ⟨k + 1, ⟨by omega, fun j hj => ?_⟩, by omega, Le.of rfl rfl ⟨rfl, rfl, rfl, trivial⟩, WF.plain rfl, hw.keep [] rfl rfl rfl⟩
        rcases Nat.lt_or_ge j k with hj' | hj'
        · exact hall j hj'
        · obtain rfl : j = k := by omega
          rw [hx, hy]
    · have hge : k = xs.length := by have := of_decide_eq_false hc; omega
      subst hge
      repeat refine At.seq ?_
      refine At.region tab_ok ?_
      conv => whnf
      repeat refine At.seq ?_
      refine At.ret (At.doneB tab_ok hB _ rfl fun w' hw => ⟨?_, hw.fr⟩)
      have he : xs = ys := List.ext_getElem? fun j => by
        rcases Nat.lt_or_ge j xs.length with hj | hj
        · exact hall j hj
        · rw [List.getElem?_eq_none hj, List.getElem?_eq_none (by omega)]
      simp [he, RV.den, SV.den, CV.den, ofConst]

theorem sameLots_c (xs ys : List Lot) (S S' : List Nat) (v u : Value) (w : World) (h : SlOf loT S w v xs) (h' : SlOf loT S' w u ys) : Ans Tryz.prog 9 [v, u] (.b (decide (xs = ys))) w := by
  replace h := h.avoid (S' := []) (fun b hb => by cases hb)
  replace h' := h'.avoid (S' := []) (fun b hb => by cases hb)
  have hsm := h.small
  have hsm' := h'.small
  have hl := h.len
  have hl' := h'.len
  refine calls_plainB [.x v, .x u] Tryz.func9 rfl rfl (Nat.le_of_ble_eq_true rfl) rfl fun B hB => ?_
  repeat refine At.seq ?_
  refine At.region tab_ok ?_
  conv => whnf
  repeat refine At.seq ?_
  refine At.region tab_ok ?_
  conv => whnf
  refine ⟨h.sl, ?_⟩
  conv => whnf
  refine ⟨h'.sl, ?_⟩
  conv => whnf
  repeat refine At.seq ?_
  refine At.cond rfl (fun hq => ?_) (fun hq => ?_)
  · repeat refine At.seq ?_
    refine At.region tab_ok ?_
    conv => whnf
    repeat refine At.seq ?_
    refine At.ret (At.doneB tab_ok hB _ rfl fun w' hw => ⟨?_, hw.fr⟩)
    have hne : xs ≠ ys := fun e => by subst e; rw [hl, hl'] at hq; simp at hq
    simp [hne, RV.den, SV.den, CV.den, ofConst]
  · have hll : xs.length = ys.length := by rw [hl, hl'] at hq; simp at hq; omega
    refine At.skip ?_
    repeat refine At.seq ?_
    refine At.region tab_ok ?_
    conv => whnf
    repeat refine At.seq ?_
    refine At.block ?_
    refine At.loopF (fun k : Nat => { N := Tryz.f9.ntmps, sl := [(0, some (.x v)), (1, some (.x u)), (5, some (.i k))], gl := [], hp := [], S := [], ws := w }) (fun k => k ≤ xs.length ∧ ∀ j, j < k → xs[j]? = ys[j]?) (fun k => xs.length - k)
      (fun w' hw => ⟨0, ⟨Nat.zero_le _, fun j hj => by omega⟩, Le.of rfl rfl ⟨rfl, rfl, rfl, trivial⟩, WF.plain rfl, hw.same rfl rfl rfl⟩) ?_
    intro k ⟨hk, hall⟩
    repeat refine At.seq ?_
    refine At.region tab_ok ?_
    conv => whnf
    refine ⟨h.sl, ?_⟩
    conv => whnf
    repeat refine At.seq ?_
    refine At.cond rfl (fun hc => At.skip ?_) (fun hc => At.exit ?_)
    · have hlt : k < xs.length := by have := of_decide_eq_true hc; omega
      obtain ⟨x, hx⟩ : ∃ x, xs[k]? = some x := ⟨_, List.getElem?_eq_getElem hlt⟩
      obtain ⟨y, hy⟩ : ∃ y, ys[k]? = some y := ⟨_, List.getElem?_eq_getElem (by omega)⟩
      repeat refine At.seq ?_
      refine At.block ?_
      repeat refine At.seq ?_
      refine At.draw tab_ok mixed (by kernel_rfl) ?_
      conv => whnf
      refine ⟨by omega, ?_⟩
      conv => whnf
      refine ⟨by omega, ?_⟩
      conv => whnf
      refine ⟨encL x, fun w' hw => h.load (n := 7) hw.fr hx rfl, ?_⟩
      conv => whnf
      refine ⟨by omega, ?_⟩
      conv => whnf
      refine ⟨by omega, ?_⟩
      conv => whnf
      refine ⟨encL y, fun w' hw => h'.load (n := 7) hw.fr hy rfl, ?_⟩
      conv => whnf
      repeat refine At.seq ?_
      refine At.cond rfl (fun hq => ?_) (fun hq => ?_)
      · repeat refine At.seq ?_
        refine At.region tab_ok ?_
        conv => whnf
        repeat refine At.seq ?_
        refine At.ret (At.doneB tab_ok hB _ rfl fun w' hw => ⟨?_, hw.fr⟩)
        have hxy : x ≠ y := fun e => by subst e; simp at hq
        have hne : xs ≠ ys := fun e => by subst e; rw [hx] at hy; exact hxy (Option.some.inj hy)
        simp [hne, RV.den, SV.den, CV.den, ofConst]
      · have hxy : x = y := by simp at hq; exact Lot.ext' (Span.ext' hq.1 hq.2.1 hq.2.2.1) hq.2.2.2.1 hq.2.2.2.2.1 hq.2.2.2.2.2.1 hq.2.2.2.2.2.2
        subst hxy
        refine At.skip ?_
        repeat refine At.seq ?_
        refine At.region tab_ok ?_
        conv => whnf
        refine ⟨⟨by omega, by omega⟩, ?_⟩
        conv => whnf
        refine At.next fun w' hw => ⟨k + 1, ⟨by omega, fun j hj => ?_⟩, by omega, Le.of rfl rfl ⟨rfl, rfl, rfl, trivial⟩, WF.plain rfl, hw.keep [] rfl rfl rfl⟩
        rcases Nat.lt_or_ge j k with hj' | hj'
        · exact hall j hj'
        · obtain rfl : j = k := by omega
          rw [hx, hy]
    · have hge : k = xs.length := by have := of_decide_eq_false hc; omega
      subst hge
      repeat refine At.seq ?_
      refine At.region tab_ok ?_
      conv => whnf
      repeat refine At.seq ?_
      refine At.ret (At.doneB tab_ok hB _ rfl fun w' hw => ⟨?_, hw.fr⟩)
      have he : xs = ys := List.ext_getElem? fun j => by
        rcases Nat.lt_or_ge j xs.length with hj | hj
        · exact hall j hj
        · rw [List.getElem?_eq_none hj, List.getElem?_eq_none (by omega)]
      simp [he, RV.den, SV.den, CV.den, ofConst]

end Go.Proofs.YtjilbkioieicbaaGreat
