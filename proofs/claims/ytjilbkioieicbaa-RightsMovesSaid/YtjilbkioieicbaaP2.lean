/- Who owns which coins: what the program's functions compute, in plain terms. -/
import Derived.Test.YtjilbkioieicbaaP1
namespace Rt
set_option linter.unusedVariables false
def isKey (n : Int) : Bool := decide (0 ≤ n) && decide (n < 200)
def right (d : Deed) : Bool :=
  if d.mark < 0 ∨ 1073741824 < d.mark ∨ isKey d.author = false ∨ d.spans.length = 0 ∨ normal d.spans = false then false
  else if d.kind = 0 then
    match d.spans with
    | [s] => decide (s.m = d.mark) && decide (s.f = 0)
    | _ => false
  else if d.kind = 1 then isKey d.who && !decide (d.who = d.author)
  else if d.kind = 2 then isKey d.who && (!decide (d.who = d.author) && (decide (0 ≤ d.til) && decide (d.til ≤ 1048576)))
  else decide (d.kind = 3)
def may (l : Lot) (d : Deed) : Int :=
  if l.p ≠ -1 then 29
  else if l.o ≠ d.author ∧ l.h ≠ d.author then 27
  else if l.h ≠ d.author then 28
  else if l.o ≠ d.author ∧ d.kind ≠ 3 ∧ (d.kind ≠ 1 ∨ d.who ≠ l.o) then 28
  else 0
def worse (a b : Int) : Int :=
  if a = 29 ∨ b = 29 then 29 else if a = 27 ∨ b = 27 then 27 else if a = 28 ∨ b = 28 then 28 else 0
/-- A coin of a span's receipt is in a lot. -/
def inLot (m n : Int) (l : Lot) : Bool := decide (l.s.m = m) && (decide (l.s.f ≤ n) && decide (n < l.s.t))
def cutsIn (m n : Int) (l : Lot) : Bool := decide (l.s.m = m) && (decide (l.s.f < n) && decide (n < l.s.t))
def lotTo (l : Lot) (n : Int) : Lot := { l with s := { l.s with t := n } }
def lotFrom (l : Lot) (n : Int) : Lot := { l with s := { l.s with f := n } }
def split (m n : Int) : List Lot → List Lot
  | [] => []
  | l :: r => if cutsIn m n l then lotTo l n :: lotFrom l n :: r else l :: split m n r
def cutAt (s : Span) (L : List Lot) : List Lot := split s.m s.t (split s.m s.f L)
/-- Neighbors that are alike are put together. -/
def alike (a b : Lot) : Bool := decide (a.o = b.o) && (decide (a.h = b.h) && (decide (a.u = b.u) && (decide (a.p = b.p) && (decide (a.s.m = b.s.m) && decide (a.s.t = b.s.f)))))
def joinL (out : List Lot) (l : Lot) : List Lot :=
  match out.getLast? with
  | none => out ++ [l]
  | some r => if alike r l then out.dropLast ++ [lotTo r l.s.t] else out ++ [l]
def mergeL (L : List Lot) : List Lot := L.foldl joinL []
def few (l : List Deed) (n : Int) : Bool := decide ((l.length : Int) ≤ n) && l.all (fun d => decide (d.spans.length ≤ 8))
end Rt
