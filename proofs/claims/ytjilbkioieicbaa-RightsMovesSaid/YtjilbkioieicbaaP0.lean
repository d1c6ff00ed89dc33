/- Spans, lots and deeds, and what the program's functions compute of them, in plain terms. -/
namespace Rt
structure Span where
  m : Int
  f : Int
  t : Int
theorem Span.ext' {a b : Span} (h1 : a.m = b.m) (h2 : a.f = b.f) (h3 : a.t = b.t) : a = b := by cases a; cases b; simp_all
instance : DecidableEq Span := fun a b => if h : a.m = b.m ∧ a.f = b.f ∧ a.t = b.t then .isTrue (Span.ext' h.1 h.2.1 h.2.2) else .isFalse fun e => h (by subst e; exact ⟨rfl, rfl, rfl⟩)
instance : Inhabited Span := ⟨⟨0, 0, 0⟩⟩
structure Lot where
  s : Span
  o : Int
  h : Int
  u : Int
  p : Int
theorem Lot.ext' {a b : Lot} (h1 : a.s = b.s) (h2 : a.o = b.o) (h3 : a.h = b.h) (h4 : a.u = b.u) (h5 : a.p = b.p) : a = b := by cases a; cases b; simp_all
instance : DecidableEq Lot := fun a b => if h : a.s = b.s ∧ a.o = b.o ∧ a.h = b.h ∧ a.u = b.u ∧ a.p = b.p then .isTrue (Lot.ext' h.1 h.2.1 h.2.2.1 h.2.2.2.1 h.2.2.2.2) else .isFalse fun e => h (by subst e; exact ⟨rfl, rfl, rfl, rfl, rfl⟩)
instance : Inhabited Lot := ⟨⟨default, 0, 0, 0, 0⟩⟩
structure Deed where
  mark : Int
  kind : Int
  author : Int
  who : Int
  day : Int
  til : Int
  spans : List Span
instance : Inhabited Deed := ⟨⟨0, 0, 0, 0, 0, 0, []⟩⟩

/-! ### entry -/
def isMark (n : Int) : Bool := decide (0 ≤ n) && decide (n ≤ 1073741824)
def valid (s : Span) : Bool := isMark s.m && (decide (0 ≤ s.f) && (decide (s.f < s.t) && decide (s.t ≤ 1048576)))
/-- The i-th span is valid, and comes after the one before it. -/
def okAt (l : List Span) (i : Nat) : Bool :=
  match l[i]? with
  | none => false
  | some s => valid s && (i == 0 || (match l[i - 1]? with
    | none => false
    | some r => !(decide (s.m < r.m) || (decide (r.m = s.m) && decide (s.f ≤ r.t)))))
def normal (l : List Span) : Bool := (List.range l.length).all (okAt l)
/-- One more span, of a list in order. -/
def join (out : List Span) (s : Span) : List Span :=
  match out.getLast? with
  | none => out ++ [s]
  | some r => if r.m = s.m ∧ s.f ≤ r.t then out.dropLast ++ [⟨r.m, r.f, max r.t s.t⟩] else out ++ [s]
def joinAll (l : List Span) : List Span := l.foldl join []
def leS (a b : Span) : Bool := decide (a.m < b.m) || (decide (a.m = b.m) && decide (a.f ≤ b.f))
def insS (s : Span) : List Span → List Span
  | [] => [s]
  | x :: r => if leS s x then s :: x :: r else x :: insS s r
def isort : List Span → List Span
  | [] => []
  | x :: r => insS x (isort r)
/-- The normal form. -/
def norm (l : List Span) : List Span := joinAll (isort (l.filter valid))
def total (l : List Span) : Int := (l.map fun s => s.t - s.f).sum
def count (l : List Span) : Int := total (norm l)
end Rt
