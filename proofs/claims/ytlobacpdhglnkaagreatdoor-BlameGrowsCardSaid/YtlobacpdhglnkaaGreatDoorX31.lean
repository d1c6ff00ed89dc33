/- Texts that the law leans on. -/
import Derived.Test.YtlobacpdhglnkaaGreatDoorX24
import Derived.Test.YtlobacpdhglnkaaGreatDoorX30
import Derived.Test.YtlobacpdhglnkaaGreatDoorX28
import Derived.Laws.IdiomStrings
import Derived.Deep.Slices
import Derived.ProofKit
import Derived.OpenShut
import Derived.ChangeSame
import Derived.Carry
set_option linter.unusedVariables false
set_option linter.unusedSimpArgs false
namespace Go.Bs
open Rt
def rTo (n most : Int) : Bool := bif decide (0 ≤ n) then decide (n ≤ most) else false
def rIn (s : B) (c : Int) : Bool := s.any fun x => decide ((x.toNat : Int) = c)
def rUses (k : Int) : B := if k = 0 then [107, 116] else if k = 1 ∨ k = 2 then [99] else if k = 3 then [99, 119, 110, 109] else if k = 4 ∨ k = 9 ∨ k = 12 then [110, 114] else if k = 5 then [119, 115] else if k = 6 then [119, 109, 115] else if k = 7 then [99, 119, 109, 114, 115] else if k = 8 then [99, 110, 109, 114] else if k = 10 then [99, 110, 109, 116] else if k = 11 then [114, 116] else if k = 13 then [114] else if k = 14 then [99, 116] else if k = 15 then [119, 110] else if k = 16 then [99, 109] else if k = 17 then [99, 107] else if k = 18 ∨ k = 19 ∨ k = 20 then [110, 109, 114] else []
theorem ite_len {c : Prop} [Decidable c] {a b : B} (ha : a.length ≤ 8) (hb : b.length ≤ 8) : (if c then a else b).length ≤ 8 := by
 by_cases h : c
 ·rw [if_pos h]; exact ha
 ·rw [if_neg h]; exact hb
theorem rUses_len (k : Int) : (rUses k).length ≤ 8 := by
 unfold rUses
 repeat refine ite_len (by decide) ?_
 decide
theorem rIn_true {s : B} {c : Int} {k : Nat} (h : k < s.length) (e : ((s.getD k 0).toNat : Int) = c) : rIn s c = true := by
 refine List.any_eq_true.2 ⟨s.getD k 0, ?_, by simpa using e⟩
 rw [List.getD_eq_getElem?_getD, List.getElem?_eq_getElem h]; exact List.getElem_mem h
theorem rIn_false {s : B} {c : Int} (h : ∀ j, j < s.length → ((s.getD j 0).toNat : Int) ≠ c) : rIn s c = false := by
 unfold rIn
 rw [List.any_eq_false]
 intro x hx
 obtain ⟨j, hj, rfl⟩ := List.getElem_of_mem hx
 have := h j hj
 rw [List.getD_eq_getElem?_getD, List.getElem?_eq_getElem hj] at this
 simpa using this
theorem all_false {n k : Nat} {p : Nat → Bool} (hk : k < n) (h : p k = false) : (List.range n).all p = false := by
 rw [List.all_eq_false]; exact ⟨k, List.mem_range.2 hk, by simp [h]⟩
theorem all_true {n : Nat} {p : Nat → Bool} (h : ∀ j, j < n → p j = true) : (List.range n).all p = true := by
 rw [List.all_eq_true]; intro k hk; exact h k (List.mem_range.1 hk)
def rAscAt (l : List Int) (most : Int) (k : Nat) : Bool := !(bif !rTo (l.getD k 0) most then true else (bif decide ((0 : Int) < k) then decide (l.getD k 0 ≤ l.getD (k - 1) 0) else false))
def rAsc (l : List Int) (most : Int) : Bool := (List.range l.length).all (rAscAt l most)
def rValid (s : Span) : Bool := bif (bif (bif rTo s.m 1073741824 then decide (0 ≤ s.f) else false) then decide (s.f < s.t) else false) then decide (s.t ≤ 1048576) else false
def rNorAt (x y : Span) (k : Nat) : Bool := bif (bif !rValid x then true else (bif decide ((0 : Int) < k) then decide (x.m < y.m) else false)) then true else (bif (bif decide ((0 : Int) < k) then decide (y.m = x.m) else false) then decide (x.f ≤ y.t) else false)
def rNormal (l : List Span) : Bool := (List.range l.length).all fun k => !rNorAt (l.getD k ⟨0, 0, 0⟩) (l.getD (k - 1) ⟨0, 0, 0⟩) k
def rSpA (e : En) : Bool := bif (bif (bif (bif !rIn (rUses e.kind) 99 then !decide (e.circle = 0) else false) then true else (bif !rIn (rUses e.kind) 119 then !decide (e.who = 0) else false)) then true else (bif !rIn (rUses e.kind) 110 then !decide (e.n = 0) else false)) then true else (bif !rIn (rUses e.kind) 109 then !decide (e.m = 0) else false)
def rSpB (e : En) : Bool := bif (bif (bif (bif !rIn (rUses e.kind) 114 then !decide (e.ref = -1) else false) then true else (bif !rIn (rUses e.kind) 107 then decide ((0 : Int) < e.keys.length) else false)) then true else (bif !rIn (rUses e.kind) 115 then decide ((0 : Int) < e.spans.length) else false)) then true else (bif !rIn (rUses e.kind) 116 then !decide (e.text = []) else false)
def rSpare (e : En) : Bool := bif rSpA e then false else bif rSpB e then false else true
def rRef (e : En) : Bool := bif decide (e.ref = -1) then (bif (bif (bif (bif !rIn (rUses e.kind) 114 then true else decide (e.kind = 7)) then true else decide (e.kind = 8)) then true else decide (e.kind = 18)) then true else decide (e.kind = 19)) else rTo e.ref 1073741824
def rM (e : En) : Bool := bif decide (e.kind = 16) then (bif rTo e.m 1073741824 then !decide (e.m = e.circle) else false) else rTo e.m 1048576
def rN (e : En) : Bool := if e.kind = 3 ∨ e.kind = 4 then bif decide (1 ≤ e.n) then decide (e.n ≤ 1048576) else false else if e.kind = 8 then bif (bif decide (e.n = -1) then !decide (e.ref = -1) else false) then true else (bif decide (e.ref = -1) then rTo e.n 1099511627776 else false) else if e.kind = 9 then rTo e.n 1099511627776 else if e.kind = 10 then bif decide (1 ≤ e.n) then decide (e.n ≤ 1099511627776) else false else if e.kind = 12 then rTo e.n 1 else if e.kind = 15 then bif rTo e.n 199 then !decide (e.n = e.who) else false else rTo e.n 1048576
def rRA (e : En) : Bool := bif (bif (bif (bif !rTo e.author 199 then true else !rTo e.seq 1048575) then true else !rTo e.day 1048576) then true else !rTo e.kind 20) then true else !rSpare e
def rRB (e : En) : Bool := bif (bif (bif (bif decide ((40 : Int) < e.knows.length) then true else !rAsc e.knows 1073741824) then true else !rTo e.circle 1073741824) then true else !rTo e.who 199) then true else decide ((2000 : Int) < e.text.length)
def rRC (e : En) : Bool := bif rIn (rUses e.kind) 107 then (bif (bif decide ((e.keys.length : Int) < 1) then true else decide ((60 : Int) < e.keys.length)) then true else !rAsc e.keys 199) else false
def rRD (e : En) : Bool := bif rIn (rUses e.kind) 115 then (bif (bif decide ((e.spans.length : Int) < 1) then true else decide ((40 : Int) < e.spans.length)) then true else !rNormal e.spans) else false
def rRight (e : En) : Bool := bif rRA e then false else bif rRB e then false else bif rRC e then false else bif rRD e then false else (bif (bif rRef e then rN e else false) then rM e else false)
end Go.Bs
namespace Go.Proofs.YtlobacpdhglnkaaGreatDoor
open Go.Vc Rt Go.Bs
set_option maxHeartbeats 2000000
theorem rto_c (n m : Int) (w : World) : Ans Tryz.prog 165 [vI n, vI m] (.b (rTo n m)) w := by
 refine calls_plainB [.i n, .i m] Tryz.func165 rfl rfl (Nat.le_of_ble_eq_true rfl) rfl fun B hB => ?_
 repeat refine zq ?_
 refine zr ?_; conv => whnf
 repeat refine zq ?_
 refine zr ?_; conv => whnf
 repeat refine zq ?_
 refine At.ret (At.doneB tab_ok hB _ rfl fun w' hw => ⟨rfl, hw.fr⟩)
theorem rin_c (s : List UInt8) (c : Int) (hl : s.length ≤ 1000000) (w : World) : Ans Tryz.prog 169 [sv s, .int .u8 c] (.b (rIn s c)) w := by
 refine calls_plainB [rS s, .x (.int .u8 c)] Tryz.func169 rfl rfl (Nat.le_of_ble_eq_true rfl) rfl fun B hB => ?_
 repeat refine zq ?_
 refine zr ?_; conv => whnf
 repeat refine zq ?_
 refine zr ?_; conv => whnf
 repeat refine zq ?_
 refine At.block ?_
 refine At.loopF (fun k : Nat => { N := Tryz.f169.ntmps, sl := [(0, some (rS s)), (1, some (.x (.int .u8 c))), (5, some (.i k))], gl := [], hp := [], S := [], ws := w }) (fun k => k ≤ s.length ∧ ∀ j, j < k → ((s.getD j 0).toNat : Int) ≠ c) (fun k => s.length - k)
  (fun w' hw => ⟨0, ⟨Nat.zero_le _, fun j hj => by omega⟩, Le.of rfl rfl ⟨rfl, rfl, rfl, trivial⟩, WF.plain rfl, hw.same rfl rfl rfl⟩) ?_
 intro k ⟨hk, hall⟩
 repeat refine zq ?_
 refine zr ?_; conv => whnf
 repeat refine zq ?_
 refine At.cond rfl (fun hc => At.skip ?_) (fun hc => At.exit ?_)
 ·have hlt : k < s.length := by simpa using hc
  repeat refine zq ?_
  refine At.block ?_
  repeat refine zq ?_
  refine zr ?_; conv => whnf
  refine ⟨by omega, ?_⟩; conv => whnf
  refine ⟨by omega, ?_⟩; conv => whnf
  repeat refine zq ?_
  refine At.cond rfl (fun hq => ?_) (fun hq => At.skip ?_)
  ·have hq := of_decide_eq_true hq
   repeat refine zq ?_
   refine zr ?_; conv => whnf
   repeat refine zq ?_
   refine At.ret (At.doneB tab_ok hB _ rfl fun w' hw => ⟨?_, hw.fr⟩)
   rw [rIn_true hlt (by simpa [byteI] using hq)]
  ·have hq := of_decide_eq_false hq
   repeat refine zq ?_
   refine zr ?_; conv => whnf
   refine ⟨⟨by omega, by omega⟩, ?_⟩; conv => whnf
   refine At.next fun w' hw => ⟨k + 1, ⟨by omega, fun j hj => ?_⟩, by omega, Le.of rfl rfl ⟨rfl, rfl, rfl, trivial⟩, WF.plain rfl, hw.keep [] rfl rfl rfl⟩
   rcases Nat.lt_or_ge j k with hj' | hj'
   ·exact hall j hj'
   ·obtain rfl : j = k := by omega
    simpa [byteI] using hq
 ·have hge : k = s.length := by simp at hc; omega
  subst hge
  repeat refine zq ?_
  refine zr ?_; conv => whnf
  repeat refine zq ?_
  refine At.ret (At.doneB tab_ok hB _ rfl fun w' hw => ⟨?_, hw.fr⟩)
  rw [rIn_false hall]
theorem ruses_c (k : Int) (w : World) : Ans Tryz.prog 168 [vI k] (rS (rUses k)) w := by
 refine calls_plainB [.i k] Tryz.func168 rfl rfl (Nat.le_of_ble_eq_true rfl) rfl fun B hB => ?_
 repeat refine zq ?_
 refine zr ?_; conv => whnf
 repeat refine zq ?_
 refine zr ?_; conv => whnf
 repeat refine zq ?_
 refine At.block ?_
 repeat refine zq ?_
 refine zr ?_; conv => whnf
 repeat refine zq ?_
 refine At.cond rfl (fun hq => ?_) (fun hq => ?_)
 ·have h0 : k = 0 := of_decide_eq_true hq
  repeat refine zq ?_
  refine zr ?_; conv => whnf
  repeat refine zq ?_
  refine At.ret (At.doneB tab_ok hB _ rfl fun w' hw => ⟨?_, hw.fr⟩)
  simp only [rUses, if_pos h0, RV.den, SV.den, CV.den, ofConst]
 ·have h0 : ¬ (k = 0) := of_decide_eq_false hq
  repeat refine zq ?_
  refine zr ?_; conv => whnf
  repeat refine zq ?_
  refine At.cond rfl (fun hq => At.skip ?_) (fun hq => ?_)
  ·have h1 : k = 1 ∨ k = 2 := .inl (of_decide_eq_true hq)
   repeat refine zq ?_
   refine At.cond rfl (fun _ => ?_) (fun hq2 => absurd (of_decide_eq_true hq) (of_decide_eq_false hq2))
   repeat refine zq ?_
   refine zr ?_; conv => whnf
   repeat refine zq ?_
   refine At.ret (At.doneB tab_ok hB _ rfl fun w' hw => ⟨?_, hw.fr⟩)
   simp only [rUses, if_neg h0, if_pos h1, RV.den, SV.den, CV.den, ofConst]
  ·have n1 : ¬ k = 1 := of_decide_eq_false hq
   repeat refine zq ?_
   refine zr ?_; conv => whnf
   repeat refine zq ?_
   refine At.cond rfl (fun hq => ?_) (fun hq => ?_)
   ·have h1 : k = 1 ∨ k = 2 := .inr (of_decide_eq_true hq)
    repeat refine zq ?_
    refine zr ?_; conv => whnf
    repeat refine zq ?_
    refine At.ret (At.doneB tab_ok hB _ rfl fun w' hw => ⟨?_, hw.fr⟩)
    simp only [rUses, if_neg h0, if_pos h1, RV.den, SV.den, CV.den, ofConst]
   ·have h1 : ¬ (k = 1 ∨ k = 2) := (fun h => h.elim n1 (of_decide_eq_false hq))
    repeat refine zq ?_
    refine zr ?_; conv => whnf
    repeat refine zq ?_
    refine At.cond rfl (fun hq => ?_) (fun hq => ?_)
    ·have h3 : k = 3 := of_decide_eq_true hq
     repeat refine zq ?_
     refine zr ?_; conv => whnf
     repeat refine zq ?_
     refine At.ret (At.doneB tab_ok hB _ rfl fun w' hw => ⟨?_, hw.fr⟩)
     simp only [rUses, if_neg h0, if_neg h1, if_pos h3, RV.den, SV.den, CV.den, ofConst]
    ·have h3 : ¬ (k = 3) := of_decide_eq_false hq
     repeat refine zq ?_
     refine zr ?_; conv => whnf
     repeat refine zq ?_
     refine At.cond rfl (fun hq => At.skip ?_) (fun hq => ?_)
     ·have h4 : k = 4 ∨ k = 9 ∨ k = 12 := .inl (of_decide_eq_true hq)
      repeat refine zq ?_
      refine At.cond rfl (fun _ => ?_) (fun hq2 => absurd (of_decide_eq_true hq) (of_decide_eq_false hq2))
      repeat refine zq ?_
      refine zr ?_; conv => whnf
      repeat refine zq ?_
      refine At.ret (At.doneB tab_ok hB _ rfl fun w' hw => ⟨?_, hw.fr⟩)
      simp only [rUses, if_neg h0, if_neg h1, if_neg h3, if_pos h4, RV.den, SV.den, CV.den, ofConst]
     ·have n4 : ¬ k = 4 := of_decide_eq_false hq
      repeat refine zq ?_
      refine zr ?_; conv => whnf
      repeat refine zq ?_
      refine At.cond rfl (fun hq => At.skip ?_) (fun hq => ?_)
      ·have h4 : k = 4 ∨ k = 9 ∨ k = 12 := .inr (.inl (of_decide_eq_true hq))
       repeat refine zq ?_
       refine At.cond rfl (fun _ => ?_) (fun hq2 => absurd (of_decide_eq_true hq) (of_decide_eq_false hq2))
       repeat refine zq ?_
       refine zr ?_; conv => whnf
       repeat refine zq ?_
       refine At.ret (At.doneB tab_ok hB _ rfl fun w' hw => ⟨?_, hw.fr⟩)
       simp only [rUses, if_neg h0, if_neg h1, if_neg h3, if_pos h4, RV.den, SV.den, CV.den, ofConst]
      ·have n9 : ¬ k = 9 := of_decide_eq_false hq
       repeat refine zq ?_
       refine zr ?_; conv => whnf
       repeat refine zq ?_
       refine At.cond rfl (fun hq => ?_) (fun hq => ?_)
       ·have h4 : k = 4 ∨ k = 9 ∨ k = 12 := .inr (.inr (of_decide_eq_true hq))
        repeat refine zq ?_
        refine zr ?_; conv => whnf
        repeat refine zq ?_
        refine At.ret (At.doneB tab_ok hB _ rfl fun w' hw => ⟨?_, hw.fr⟩)
        simp only [rUses, if_neg h0, if_neg h1, if_neg h3, if_pos h4, RV.den, SV.den, CV.den, ofConst]
       ·have h4 : ¬ (k = 4 ∨ k = 9 ∨ k = 12) := (fun h => h.elim n4 ((fun h => h.elim n9 (of_decide_eq_false hq))))
        repeat refine zq ?_
        refine zr ?_; conv => whnf
        repeat refine zq ?_
        refine At.cond rfl (fun hq => ?_) (fun hq => ?_)
        ·have h5 : k = 5 := of_decide_eq_true hq
         repeat refine zq ?_
         refine zr ?_; conv => whnf
         repeat refine zq ?_
         refine At.ret (At.doneB tab_ok hB _ rfl fun w' hw => ⟨?_, hw.fr⟩)
         simp only [rUses, if_neg h0, if_neg h1, if_neg h3, if_neg h4, if_pos h5, RV.den, SV.den, CV.den, ofConst]
        ·have h5 : ¬ (k = 5) := of_decide_eq_false hq
         repeat refine zq ?_
         refine zr ?_; conv => whnf
         repeat refine zq ?_
         refine At.cond rfl (fun hq => ?_) (fun hq => ?_)
         ·have h6 : k = 6 := of_decide_eq_true hq
          repeat refine zq ?_
          refine zr ?_; conv => whnf
          repeat refine zq ?_
          refine At.ret (At.doneB tab_ok hB _ rfl fun w' hw => ⟨?_, hw.fr⟩)
          simp only [rUses, if_neg h0, if_neg h1, if_neg h3, if_neg h4, if_neg h5, if_pos h6, RV.den, SV.den, CV.den, ofConst]
         ·have h6 : ¬ (k = 6) := of_decide_eq_false hq
          repeat refine zq ?_
          refine zr ?_; conv => whnf
          repeat refine zq ?_
          refine At.cond rfl (fun hq => ?_) (fun hq => ?_)
          ·have h7 : k = 7 := of_decide_eq_true hq
           repeat refine zq ?_
           refine zr ?_; conv => whnf
           repeat refine zq ?_
           refine At.ret (At.doneB tab_ok hB _ rfl fun w' hw => ⟨?_, hw.fr⟩)
           simp only [rUses, if_neg h0, if_neg h1, if_neg h3, if_neg h4, if_neg h5, if_neg h6, if_pos h7, RV.den, SV.den, CV.den, ofConst]
          ·have h7 : ¬ (k = 7) := of_decide_eq_false hq
           repeat refine zq ?_
           refine zr ?_; conv => whnf
           repeat refine zq ?_
           refine At.cond rfl (fun hq => ?_) (fun hq => ?_)
           ·have h8 : k = 8 := of_decide_eq_true hq
            repeat refine zq ?_
            refine zr ?_; conv => whnf
            repeat refine zq ?_
            refine At.ret (At.doneB tab_ok hB _ rfl fun w' hw => ⟨?_, hw.fr⟩)
            simp only [rUses, if_neg h0, if_neg h1, if_neg h3, if_neg h4, if_neg h5, if_neg h6, if_neg h7, if_pos h8, RV.den, SV.den, CV.den, ofConst]
           ·have h8 : ¬ (k = 8) := of_decide_eq_false hq
            repeat refine zq ?_
            refine zr ?_; conv => whnf
            repeat refine zq ?_
            refine At.cond rfl (fun hq => ?_) (fun hq => ?_)
            ·have h10 : k = 10 := of_decide_eq_true hq
             repeat refine zq ?_
             refine zr ?_; conv => whnf
             repeat refine zq ?_
             refine At.ret (At.doneB tab_ok hB _ rfl fun w' hw => ⟨?_, hw.fr⟩)
             simp only [rUses, if_neg h0, if_neg h1, if_neg h3, if_neg h4, if_neg h5, if_neg h6, if_neg h7, if_neg h8, if_pos h10, RV.den, SV.den, CV.den, ofConst]
            ·have h10 : ¬ (k = 10) := of_decide_eq_false hq
             repeat refine zq ?_
             refine zr ?_; conv => whnf
             repeat refine zq ?_
             refine At.cond rfl (fun hq => ?_) (fun hq => ?_)
             ·have h11 : k = 11 := of_decide_eq_true hq
              repeat refine zq ?_
              refine zr ?_; conv => whnf
              repeat refine zq ?_
              refine At.ret (At.doneB tab_ok hB _ rfl fun w' hw => ⟨?_, hw.fr⟩)
              simp only [rUses, if_neg h0, if_neg h1, if_neg h3, if_neg h4, if_neg h5, if_neg h6, if_neg h7, if_neg h8, if_neg h10, if_pos h11, RV.den, SV.den, CV.den, ofConst]
             ·have h11 : ¬ (k = 11) := of_decide_eq_false hq
              repeat refine zq ?_
              refine zr ?_; conv => whnf
              repeat refine zq ?_
              refine At.cond rfl (fun hq => ?_) (fun hq => ?_)
              ·have h13 : k = 13 := of_decide_eq_true hq
               repeat refine zq ?_
               refine zr ?_; conv => whnf
               repeat refine zq ?_
               refine At.ret (At.doneB tab_ok hB _ rfl fun w' hw => ⟨?_, hw.fr⟩)
               simp only [rUses, if_neg h0, if_neg h1, if_neg h3, if_neg h4, if_neg h5, if_neg h6, if_neg h7, if_neg h8, if_neg h10, if_neg h11, if_pos h13, RV.den, SV.den, CV.den, ofConst]
              ·have h13 : ¬ (k = 13) := of_decide_eq_false hq
               repeat refine zq ?_
               refine zr ?_; conv => whnf
               repeat refine zq ?_
               refine At.cond rfl (fun hq => ?_) (fun hq => ?_)
               ·have h14 : k = 14 := of_decide_eq_true hq
                repeat refine zq ?_
                refine zr ?_; conv => whnf
                repeat refine zq ?_
                refine At.ret (At.doneB tab_ok hB _ rfl fun w' hw => ⟨?_, hw.fr⟩)
                simp only [rUses, if_neg h0, if_neg h1, if_neg h3, if_neg h4, if_neg h5, if_neg h6, if_neg h7, if_neg h8, if_neg h10, if_neg h11, if_neg h13, if_pos h14, RV.den, SV.den, CV.den, ofConst]
               ·have h14 : ¬ (k = 14) := of_decide_eq_false hq
                repeat refine zq ?_
                refine zr ?_; conv => whnf
                repeat refine zq ?_
                refine At.cond rfl (fun hq => ?_) (fun hq => ?_)
                ·have h15 : k = 15 := of_decide_eq_true hq
                 repeat refine zq ?_
                 refine zr ?_; conv => whnf
                 repeat refine zq ?_
                 refine At.ret (At.doneB tab_ok hB _ rfl fun w' hw => ⟨?_, hw.fr⟩)
                 simp only [rUses, if_neg h0, if_neg h1, if_neg h3, if_neg h4, if_neg h5, if_neg h6, if_neg h7, if_neg h8, if_neg h10, if_neg h11, if_neg h13, if_neg h14, if_pos h15, RV.den, SV.den, CV.den, ofConst]
                ·have h15 : ¬ (k = 15) := of_decide_eq_false hq
                 repeat refine zq ?_
                 refine zr ?_; conv => whnf
                 repeat refine zq ?_
                 refine At.cond rfl (fun hq => ?_) (fun hq => ?_)
                 ·have h16 : k = 16 := of_decide_eq_true hq
                  repeat refine zq ?_
                  refine zr ?_; conv => whnf
                  repeat refine zq ?_
                  refine At.ret (At.doneB tab_ok hB _ rfl fun w' hw => ⟨?_, hw.fr⟩)
                  simp only [rUses, if_neg h0, if_neg h1, if_neg h3, if_neg h4, if_neg h5, if_neg h6, if_neg h7, if_neg h8, if_neg h10, if_neg h11, if_neg h13, if_neg h14, if_neg h15, if_pos h16, RV.den, SV.den, CV.den, ofConst]
                 ·have h16 : ¬ (k = 16) := of_decide_eq_false hq
                  repeat refine zq ?_
                  refine zr ?_; conv => whnf
                  repeat refine zq ?_
                  refine At.cond rfl (fun hq => ?_) (fun hq => ?_)
                  ·have h17 : k = 17 := of_decide_eq_true hq
                   repeat refine zq ?_
                   refine zr ?_; conv => whnf
                   repeat refine zq ?_
                   refine At.ret (At.doneB tab_ok hB _ rfl fun w' hw => ⟨?_, hw.fr⟩)
                   simp only [rUses, if_neg h0, if_neg h1, if_neg h3, if_neg h4, if_neg h5, if_neg h6, if_neg h7, if_neg h8, if_neg h10, if_neg h11, if_neg h13, if_neg h14, if_neg h15, if_neg h16, if_pos h17, RV.den, SV.den, CV.den, ofConst]
                  ·have h17 : ¬ (k = 17) := of_decide_eq_false hq
                   repeat refine zq ?_
                   refine zr ?_; conv => whnf
                   repeat refine zq ?_
                   refine At.cond rfl (fun hq => At.skip ?_) (fun hq => ?_)
                   ·have h18 : k = 18 ∨ k = 19 ∨ k = 20 := .inl (of_decide_eq_true hq)
                    repeat refine zq ?_
                    refine At.cond rfl (fun _ => ?_) (fun hq2 => absurd (of_decide_eq_true hq) (of_decide_eq_false hq2))
                    repeat refine zq ?_
                    refine zr ?_; conv => whnf
                    repeat refine zq ?_
                    refine At.ret (At.doneB tab_ok hB _ rfl fun w' hw => ⟨?_, hw.fr⟩)
                    simp only [rUses, if_neg h0, if_neg h1, if_neg h3, if_neg h4, if_neg h5, if_neg h6, if_neg h7, if_neg h8, if_neg h10, if_neg h11, if_neg h13, if_neg h14, if_neg h15, if_neg h16, if_neg h17, if_pos h18, RV.den, SV.den, CV.den, ofConst]
                   ·have n18 : ¬ k = 18 := of_decide_eq_false hq
                    repeat refine zq ?_
                    refine zr ?_; conv => whnf
                    repeat refine zq ?_
                    refine At.cond rfl (fun hq => At.skip ?_) (fun hq => ?_)
                    ·have h18 : k = 18 ∨ k = 19 ∨ k = 20 := .inr (.inl (of_decide_eq_true hq))
                     repeat refine zq ?_
                     refine At.cond rfl (fun _ => ?_) (fun hq2 => absurd (of_decide_eq_true hq) (of_decide_eq_false hq2))
                     repeat refine zq ?_
                     refine zr ?_; conv => whnf
                     repeat refine zq ?_
                     refine At.ret (At.doneB tab_ok hB _ rfl fun w' hw => ⟨?_, hw.fr⟩)
                     simp only [rUses, if_neg h0, if_neg h1, if_neg h3, if_neg h4, if_neg h5, if_neg h6, if_neg h7, if_neg h8, if_neg h10, if_neg h11, if_neg h13, if_neg h14, if_neg h15, if_neg h16, if_neg h17, if_pos h18, RV.den, SV.den, CV.den, ofConst]
                    ·have n19 : ¬ k = 19 := of_decide_eq_false hq
                     repeat refine zq ?_
                     refine zr ?_; conv => whnf
                     repeat refine zq ?_
                     refine At.cond rfl (fun hq => ?_) (fun hq => ?_)
                     ·have h18 : k = 18 ∨ k = 19 ∨ k = 20 := .inr (.inr (of_decide_eq_true hq))
                      repeat refine zq ?_
                      refine zr ?_; conv => whnf
                      repeat refine zq ?_
                      refine At.ret (At.doneB tab_ok hB _ rfl fun w' hw => ⟨?_, hw.fr⟩)
                      simp only [rUses, if_neg h0, if_neg h1, if_neg h3, if_neg h4, if_neg h5, if_neg h6, if_neg h7, if_neg h8, if_neg h10, if_neg h11, if_neg h13, if_neg h14, if_neg h15, if_neg h16, if_neg h17, if_pos h18, RV.den, SV.den, CV.den, ofConst]
                     ·have h18 : ¬ (k = 18 ∨ k = 19 ∨ k = 20) := (fun h => h.elim n18 ((fun h => h.elim n19 (of_decide_eq_false hq))))
                      refine At.skip ?_
                      repeat refine zq ?_
                      refine zr ?_; conv => whnf
                      repeat refine zq ?_
                      refine At.ret (At.doneB tab_ok hB _ rfl fun w' hw => ⟨?_, hw.fr⟩)
                      simp only [rUses, if_neg h0, if_neg h1, if_neg h3, if_neg h4, if_neg h5, if_neg h6, if_neg h7, if_neg h8, if_neg h10, if_neg h11, if_neg h13, if_neg h14, if_neg h15, if_neg h16, if_neg h17, if_neg h18, RV.den, SV.den, CV.den, ofConst]
theorem rasc_c (xs : List Int) (most : Int) (S : List Nat) (v : Value) (w : World) (h : SlOf intT S w v xs) : Ans Tryz.prog 167 [v, vI most] (.b (rAsc xs most)) w := by
 replace h := h.avoid (S' := []) (fun b hb => by cases hb)
 have hsm := h.small
 have hln := h.len
 refine calls_plainB [.x v, .i most] Tryz.func167 rfl rfl (Nat.le_of_ble_eq_true rfl) rfl fun B hB => ?_
 repeat refine zq ?_
 refine zr ?_; conv => whnf
 repeat refine zq ?_
 refine zr ?_; conv => whnf
 repeat refine zq ?_
 refine At.block ?_
 refine At.loopF (fun k : Nat => { N := Tryz.f167.ntmps, sl := [(0, some (.x v)), (1, some (.i most)), (5, some (.i k))], gl := [], hp := [], S := [], ws := w }) (fun k => k ≤ xs.length ∧ ∀ j, j < k → rAscAt xs most j = true) (fun k => xs.length - k)
  (fun w' hw => ⟨0, ⟨Nat.zero_le _, fun j hj => by omega⟩, Le.of rfl rfl ⟨rfl, rfl, rfl, trivial⟩, WF.plain rfl, hw.same rfl rfl rfl⟩) ?_
 intro k ⟨hk, hall⟩
 repeat refine zq ?_
 refine zr ?_; conv => whnf
 refine ⟨h.sl, ?_⟩; conv => whnf
 repeat refine zq ?_
 refine At.cond rfl (fun hc => At.skip ?_) (fun hc => At.exit ?_)
 ·have hlt : k < xs.length := by have := of_decide_eq_true hc; omega
  have hx := getD_some (xs := xs) (i := k) hlt
  have hy : ∀ {q : Int}, q = k - 1 → 0 < (k : Int) → xs[q.toNat]? = some (xs.getD (k - 1) 0) := fun e h0 => by rw [← getD_some (by omega)]; congr 1; omega
  repeat refine zq ?_
  refine At.block ?_
  repeat refine zq ?_
  refine At.draw tab_ok mixed (by kernel_rfl) ?_; conv => whnf
  refine ⟨by omega, ?_⟩; conv => whnf
  refine ⟨by omega, ?_⟩; conv => whnf
  refine ⟨[.i (xs.getD k 0)], fun w' hw => h.load (n := 1) hw.fr hx rfl, ?_⟩; conv => whnf
  refine ⟨.b (rTo (xs.getD k 0) most), ans_quiet b165 (fun w' _ => rto_c _ _ w'), ?_⟩; conv => whnf
  refine ⟨by simp only [gimp]; intro h1; exact fun _ => by omega, ?_⟩; conv => whnf
  refine ⟨by simp only [gimp]; intro h1; exact fun _ => by omega, ?_⟩; conv => whnf
  refine ⟨[.i (xs.getD k 0)], by simp only [gimp]; intro h1 _ w' hw; exact h.load (n := 1) hw.fr hx rfl, ?_⟩; conv => whnf
  refine ⟨by simp only [gimp]; intro h1; have := of_decide_eq_true h1; exact fun _ => ⟨by omega, by omega⟩, ?_⟩; conv => whnf
  refine ⟨by simp only [gimp]; intro h1; have := of_decide_eq_true h1; exact fun _ => by omega, ?_⟩; conv => whnf
  refine ⟨by simp only [gimp]; intro h1; have := of_decide_eq_true h1; exact fun _ => by omega, ?_⟩; conv => whnf
  refine ⟨[.i (xs.getD (k - 1) 0)], by simp only [gimp]; intro h1 _ w' hw; have := of_decide_eq_true h1; exact h.loadI (n := 1) hw.fr (by omega) (hy rfl (by omega)) rfl, ?_⟩; conv => whnf
  repeat refine zq ?_
  refine At.cond rfl (fun hq => ?_) (fun hq => At.skip ?_)
  ·repeat refine zq ?_
   refine zr ?_; conv => whnf
   repeat refine zq ?_
   refine At.ret (At.doneB tab_ok hB _ rfl fun w' hw => ⟨?_, hw.fr⟩)
   have e : rAscAt xs most k = false := by unfold rAscAt; rw [hq]; rfl
   rw [show rAsc xs most = false from all_false hlt e]
  ·repeat refine zq ?_
   refine zr ?_; conv => whnf
   refine ⟨⟨by omega, by omega⟩, ?_⟩; conv => whnf
   refine At.next fun w' hw => ⟨k + 1, ⟨by omega, fun j hj => ?_⟩, by omega, Le.of rfl rfl ⟨rfl, rfl, rfl, trivial⟩, WF.plain rfl, hw.keep [] rfl rfl rfl⟩
   rcases Nat.lt_or_ge j k with hj' | hj'
   ·exact hall j hj'
   ·obtain rfl : j = k := by omega
    unfold rAscAt; rw [hq]; rfl
 ·have hge : k = xs.length := by have := of_decide_eq_false hc; omega
  subst hge
  repeat refine zq ?_
  refine zr ?_; conv => whnf
  repeat refine zq ?_
  refine At.ret (At.doneB tab_ok hB _ rfl fun w' hw => ⟨?_, hw.fr⟩)
  rw [show rAsc xs most = true from all_true hall]
theorem rvalid_c (s : Span) (w : World) : Ans Tryz.prog 200 [vS s] (.b (rValid s)) w := by
 refine calls_plainB [.s (.agg (encS s))] Tryz.func200 rfl rfl (Nat.le_of_ble_eq_true rfl) rfl fun B hB => ?_
 repeat refine zq ?_
 refine zr ?_; conv => whnf
 intro b; conv => whnf
 repeat refine zq ?_
 refine zr ?_; conv => whnf
 refine ans_call b165 rfl (fun w' _ => rto_c _ _ w') ?_; conv => whnf
 repeat refine zq ?_
 refine At.ret (At.doneB tab_ok hB _ rfl fun w' hw => ⟨rfl, hw.fr⟩)
theorem getD_span {xs : List Span} {i : Nat} (h : i < xs.length) : xs[i]? = some (xs.getD i ⟨0, 0, 0⟩) := by
 rw [List.getElem?_eq_getElem h, List.getD_eq_getElem?_getD, List.getElem?_eq_getElem h]; rfl
theorem rnormal_c (xs : List Span) (S : List Nat) (v : Value) (w : World) (h : SlOf spT S w v xs) : Ans Tryz.prog 170 [v] (.b (rNormal xs)) w := by
 replace h := h.avoid (S' := []) (fun b hb => by cases hb)
 have hsm := h.small
 have hln := h.len
 refine calls_plainB [.x v] Tryz.func170 rfl rfl (Nat.le_of_ble_eq_true rfl) rfl fun B hB => ?_
 repeat refine zq ?_
 refine zr ?_; conv => whnf
 repeat refine zq ?_
 refine zr ?_; conv => whnf
 repeat refine zq ?_
 refine At.block ?_
 refine At.loopF (fun k : Nat => { N := Tryz.f170.ntmps, sl := [(0, some (.x v)), (3, some (.i k))], gl := [], hp := [], S := [], ws := w }) (fun k => k ≤ xs.length ∧ ∀ j, j < k → (fun k => !rNorAt (xs.getD k ⟨0, 0, 0⟩) (xs.getD (k - 1) ⟨0, 0, 0⟩) k) j = true) (fun k => xs.length - k)
  (fun w' hw => ⟨0, ⟨Nat.zero_le _, fun j hj => by omega⟩, Le.of rfl rfl ⟨rfl, rfl, trivial⟩, WF.plain rfl, hw.same rfl rfl rfl⟩) ?_
 intro k ⟨hk, hall⟩
 repeat refine zq ?_
 refine zr ?_; conv => whnf
 refine ⟨h.sl, ?_⟩; conv => whnf
 repeat refine zq ?_
 refine At.cond rfl (fun hc => At.skip ?_) (fun hc => At.exit ?_)
 ·have hlt : k < xs.length := by have := of_decide_eq_true hc; omega
  have hx := getD_span (xs := xs) (i := k) hlt
  have hy : ∀ {q : Int}, q = k - 1 → 0 < (k : Int) → xs[q.toNat]? = some (xs.getD (k - 1) ⟨0, 0, 0⟩) := fun e h0 => by rw [← getD_span (by omega)]; congr 1; omega
  generalize hX : xs.getD k ⟨0, 0, 0⟩ = x at hx
  generalize hY : xs.getD (k - 1) ⟨0, 0, 0⟩ = y at hy
  have pos : ∀ {c : Bool}, (bif decide ((0 : Int) < k) then c else false) = true → (0 : Int) < k := fun {c} h1 => by
   rcases Nat.eq_zero_or_pos k with e | e
   ·subst e; simp at h1
   ·omega
  repeat refine zq ?_
  refine At.block ?_
  repeat refine zq ?_
  refine At.draw tab_ok mixed (by kernel_rfl) ?_; conv => whnf
  refine ⟨by omega, ?_⟩; conv => whnf
  refine ⟨by omega, ?_⟩; conv => whnf
  refine ⟨encS x, fun w' hw => h.load (n := 3) hw.fr hx rfl, ?_⟩; conv => whnf
  refine ⟨.b (rValid x), ans_quiet b200 (fun w' _ => rvalid_c x w'), ?_⟩; conv => whnf
  refine ⟨by simp only [gimp]; intro h1; have := of_decide_eq_true h1; exact fun _ => ⟨by omega, by omega⟩, ?_⟩; conv => whnf
  refine ⟨by simp only [gimp]; intro h1; have := of_decide_eq_true h1; exact fun _ => by omega, ?_⟩; conv => whnf
  refine ⟨by simp only [gimp]; intro h1; have := of_decide_eq_true h1; exact fun _ => by omega, ?_⟩; conv => whnf
  refine ⟨[.i y.m], by simp only [gimp]; intro h1 _ w' hw; have := of_decide_eq_true h1; exact h.loadI (n := 1) hw.fr (by omega) (hy rfl (by omega)) rfl, ?_⟩; conv => whnf
  refine ⟨by simp only [gimp]; intro h1; have := of_decide_eq_true h1; exact fun _ => by omega, ?_⟩; conv => whnf
  refine ⟨by simp only [gimp]; intro h1; have := of_decide_eq_true h1; exact fun _ => by omega, ?_⟩; conv => whnf
  refine ⟨[.i x.m], by simp only [gimp]; intro h1 _ w' hw; exact h.load (n := 1) hw.fr hx rfl, ?_⟩; conv => whnf
  refine ⟨by simp only [gimp]; intro h1; have := of_decide_eq_true h1; exact fun _ => ⟨by omega, by omega⟩, ?_⟩; conv => whnf
  refine ⟨by simp only [gimp]; intro h1; have := of_decide_eq_true h1; exact fun _ => by omega, ?_⟩; conv => whnf
  refine ⟨by simp only [gimp]; intro h1; have := of_decide_eq_true h1; exact fun _ => by omega, ?_⟩; conv => whnf
  refine ⟨[.i y.m], by simp only [gimp]; intro h1 _ w' hw; have := of_decide_eq_true h1; exact h.loadI (n := 1) hw.fr (by omega) (hy rfl (by omega)) rfl, ?_⟩; conv => whnf
  refine ⟨by simp only [gimp]; intro h1; have := of_decide_eq_true h1; exact fun _ => by omega, ?_⟩; conv => whnf
  refine ⟨by simp only [gimp]; intro h1; have := of_decide_eq_true h1; exact fun _ => by omega, ?_⟩; conv => whnf
  refine ⟨[.i x.m], by simp only [gimp]; intro h1 _ w' hw; exact h.load (n := 1) hw.fr hx rfl, ?_⟩; conv => whnf
  refine ⟨by simp only [gimp]; intro h1; have := pos h1; exact fun _ => ⟨by omega, by omega⟩, ?_⟩; conv => whnf
  refine ⟨by simp only [gimp]; intro h1; have := pos h1; exact fun _ => by omega, ?_⟩; conv => whnf
  refine ⟨by simp only [gimp]; intro h1; have := pos h1; exact fun _ => by omega, ?_⟩; conv => whnf
  refine ⟨[.i y.t], by simp only [gimp]; intro h1 _ w' hw; have := pos h1; exact h.loadI (n := 1) hw.fr (by omega) (hy rfl (by omega)) rfl, ?_⟩; conv => whnf
  refine ⟨by simp only [gimp]; intro h1; have := pos h1; exact fun _ => by omega, ?_⟩; conv => whnf
  refine ⟨by simp only [gimp]; intro h1; have := pos h1; exact fun _ => by omega, ?_⟩; conv => whnf
  refine ⟨[.i x.f], by simp only [gimp]; intro h1 _ w' hw; exact h.load (n := 1) hw.fr hx rfl, ?_⟩; conv => whnf
  repeat refine zq ?_
  refine At.cond rfl (fun hq => ?_) (fun hq => At.skip ?_)
  ·repeat refine zq ?_
   refine zr ?_; conv => whnf
   repeat refine zq ?_
   refine At.ret (At.doneB tab_ok hB _ rfl fun w' hw => ⟨?_, hw.fr⟩)
   have e : rNorAt x y k = true := hq
   rw [show rNormal xs = false from all_false hlt (by rw [hX, hY, e]; rfl)]
  ·repeat refine zq ?_
   refine zr ?_; conv => whnf
   refine ⟨⟨by omega, by omega⟩, ?_⟩; conv => whnf
   refine At.next fun w' hw => ⟨k + 1, ⟨by omega, fun j hj => ?_⟩, by omega, Le.of rfl rfl ⟨rfl, rfl, trivial⟩, WF.plain rfl, hw.keep [] rfl rfl rfl⟩
   rcases Nat.lt_or_ge j k with hj' | hj'
   ·exact hall j hj'
   ·obtain rfl : j = k := by omega
    have e : rNorAt x y j = false := hq
    simp only
    rw [hX, hY, e]; rfl
 ·have hge : k = xs.length := by have := of_decide_eq_false hc; omega
  subst hge
  repeat refine zq ?_
  refine zr ?_; conv => whnf
  repeat refine zq ?_
  refine At.ret (At.doneB tab_ok hB _ rfl fun w' hw => ⟨?_, hw.fr⟩)
  rw [show rNormal xs = true from all_true hall]
theorem rspare_c (e : En) (k y s : Value) (S : List Nat) (w : World) (h : EnIn S w e k y s) : Ans Tryz.prog 166 [vE e k y s] (.b (rSpare e)) w := by
 replace h := h.nilS
 have hyl := h.y.len
 have hsl := h.s.len
 have hu : (rUses e.kind).length ≤ 1000000 := Nat.le_trans (rUses_len _) (by decide)
 refine calls_plainB [.s (.agg (encE e k y s))] Tryz.func166 rfl rfl (Nat.le_of_ble_eq_true rfl) rfl fun B hB => ?_
 repeat refine zq ?_
 refine zr ?_; conv => whnf
 refine ⟨h.k.one, ?_⟩; conv => whnf
 refine ⟨h.y.one, ?_⟩; conv => whnf
 refine ⟨h.s.one, ?_⟩; conv => whnf
 intro b; conv => whnf
 repeat refine zq ?_
 refine zr ?_; conv => whnf
 refine ans_call b168 rfl (fun w' _ => ruses_c _ w') ?_; conv => whnf
 repeat refine zq ?_
 refine zr ?_; conv => whnf
 refine ans_call b169 rfl (fun w' _ => rin_c _ 99 hu w') ?_; conv => whnf
 refine ⟨.b (rIn (rUses e.kind) 119), gimp_of (ans_quiet b169 (fun w' _ => rin_c _ 119 hu w')), ?_⟩; conv => whnf
 refine ⟨.b (rIn (rUses e.kind) 110), gimp_of (ans_quiet b169 (fun w' _ => rin_c _ 110 hu w')), ?_⟩; conv => whnf
 refine ⟨.b (rIn (rUses e.kind) 109), gimp_of (ans_quiet b169 (fun w' _ => rin_c _ 109 hu w')), ?_⟩; conv => whnf
 repeat refine zq ?_
 refine At.cond rfl (fun hq => ?_) (fun hq => At.skip ?_)
 ·have hA : rSpA e = true := hq
  repeat refine zq ?_
  refine zr ?_; conv => whnf
  repeat refine zq ?_
  refine At.ret (At.doneB tab_ok hB _ rfl fun w' hw => ⟨?_, hw.fr⟩)
  rw [show rSpare e = false by unfold rSpare; rw [hA]; rfl]
 have hA : rSpA e = false := hq
 clear hq
 repeat refine zq ?_
 refine zr ?_; conv => whnf
 refine ans_call b169 rfl (fun w' _ => rin_c _ 114 hu w') ?_; conv => whnf
 refine ⟨.b (rIn (rUses e.kind) 107), gimp_of (ans_quiet b169 (fun w' _ => rin_c _ 107 hu w')), ?_⟩; conv => whnf
 refine ⟨by simp only [gimp]; intros; exact h.y.sl, ?_⟩; conv => whnf
 refine ⟨.b (rIn (rUses e.kind) 115), gimp_of (ans_quiet b169 (fun w' _ => rin_c _ 115 hu w')), ?_⟩; conv => whnf
 refine ⟨by simp only [gimp]; intros; exact h.s.sl, ?_⟩; conv => whnf
 refine ⟨.b (rIn (rUses e.kind) 116), gimp_of (ans_quiet b169 (fun w' _ => rin_c _ 116 hu w')), ?_⟩; conv => whnf
 repeat refine zq ?_
 refine At.cond rfl (fun hq => ?_) (fun hq => At.skip ?_)
 ·have hV : rSpB e = true := by rw [hyl, hsl] at hq; exact hq
  repeat refine zq ?_
  refine zr ?_; conv => whnf
  repeat refine zq ?_
  refine At.ret (At.doneB tab_ok hB _ rfl fun w' hw => ⟨?_, hw.fr⟩)
  rw [show rSpare e = false by unfold rSpare; rw [hA, hV]; rfl]
 have hV : rSpB e = false := by rw [hyl, hsl] at hq; exact hq
 clear hq
 repeat refine zq ?_
 refine zr ?_; conv => whnf
 repeat refine zq ?_
 refine At.ret (At.doneB tab_ok hB _ rfl fun w' hw => ⟨?_, hw.fr⟩)
 rw [show rSpare e = true by unfold rSpare; rw [hA, hV]; rfl]
theorem rref_c (e : En) (k y s : Value) (S : List Nat) (w : World) (h : EnIn S w e k y s) : Ans Tryz.prog 171 [vE e k y s] (.b (rRef e)) w := by
 replace h := h.nilS
 have hu : (rUses e.kind).length ≤ 1000000 := Nat.le_trans (rUses_len _) (by decide)
 refine calls_plainB [.s (.agg (encE e k y s))] Tryz.func171 rfl rfl (Nat.le_of_ble_eq_true rfl) rfl fun B hB => ?_
 repeat refine zq ?_
 refine zr ?_; conv => whnf
 refine ⟨h.k.one, ?_⟩; conv => whnf
 refine ⟨h.y.one, ?_⟩; conv => whnf
 refine ⟨h.s.one, ?_⟩; conv => whnf
 intro b; conv => whnf
 repeat refine zq ?_
 refine zr ?_; conv => whnf
 repeat refine zq ?_
 refine At.cond rfl (fun hq => ?_) (fun hq => At.skip ?_)
 ·repeat refine zq ?_
  refine zr ?_; conv => whnf
  refine ans_call b168 rfl (fun w' _ => ruses_c _ w') ?_; conv => whnf
  refine ans_call b169 rfl (fun w' _ => rin_c _ 114 hu w') ?_; conv => whnf
  repeat refine zq ?_
  refine At.ret (At.doneB tab_ok hB _ rfl fun w' hw => ⟨?_, hw.fr⟩)
  unfold rRef; rw [hq]; rfl
 ·repeat refine zq ?_
  refine zr ?_; conv => whnf
  refine ans_call b165 rfl (fun w' _ => rto_c _ _ w') ?_; conv => whnf
  repeat refine zq ?_
  refine At.ret (At.doneB tab_ok hB _ rfl fun w' hw => ⟨?_, hw.fr⟩)
  unfold rRef; rw [hq]; rfl
theorem rm_c (e : En) (k y s : Value) (S : List Nat) (w : World) (h : EnIn S w e k y s) : Ans Tryz.prog 173 [vE e k y s] (.b (rM e)) w := by
 replace h := h.nilS
 refine calls_plainB [.s (.agg (encE e k y s))] Tryz.func173 rfl rfl (Nat.le_of_ble_eq_true rfl) rfl fun B hB => ?_
 repeat refine zq ?_
 refine zr ?_; conv => whnf
 refine ⟨h.k.one, ?_⟩; conv => whnf
 refine ⟨h.y.one, ?_⟩; conv => whnf
 refine ⟨h.s.one, ?_⟩; conv => whnf
 intro b; conv => whnf
 repeat refine zq ?_
 refine zr ?_; conv => whnf
 repeat refine zq ?_
 refine At.cond rfl (fun hq => ?_) (fun hq => At.skip ?_)
 ·repeat refine zq ?_
  refine zr ?_; conv => whnf
  refine ans_call b165 rfl (fun w' _ => rto_c _ _ w') ?_; conv => whnf
  repeat refine zq ?_
  refine At.ret (At.doneB tab_ok hB _ rfl fun w' hw => ⟨?_, hw.fr⟩)
  unfold rM; rw [hq]; rfl
 ·repeat refine zq ?_
  refine zr ?_; conv => whnf
  refine ans_call b165 rfl (fun w' _ => rto_c _ _ w') ?_; conv => whnf
  repeat refine zq ?_
  refine At.ret (At.doneB tab_ok hB _ rfl fun w' hw => ⟨?_, hw.fr⟩)
  unfold rM; rw [hq]; rfl
theorem rn_c (e : En) (k y s : Value) (S : List Nat) (w : World) (h : EnIn S w e k y s) : Ans Tryz.prog 172 [vE e k y s] (.b (rN e)) w := by
 replace h := h.nilS
 refine calls_plainB [.s (.agg (encE e k y s))] Tryz.func172 rfl rfl (Nat.le_of_ble_eq_true rfl) rfl fun B hB => ?_
 repeat refine zq ?_
 refine zr ?_; conv => whnf
 refine ⟨h.k.one, ?_⟩; conv => whnf
 refine ⟨h.y.one, ?_⟩; conv => whnf
 refine ⟨h.s.one, ?_⟩; conv => whnf
 intro b; conv => whnf
 repeat refine zq ?_
 refine zr ?_; conv => whnf
 repeat refine zq ?_
 refine At.block ?_
 repeat refine zq ?_
 refine zr ?_; conv => whnf
 repeat refine zq ?_
 refine At.cond rfl (fun hq => At.skip ?_) (fun hq => ?_)
 ·have h3 : e.kind = 3 ∨ e.kind = 4 := .inl (of_decide_eq_true hq)
  repeat refine zq ?_
  refine At.cond rfl (fun _ => ?_) (fun hq2 => absurd (of_decide_eq_true hq) (of_decide_eq_false hq2))
  repeat refine zq ?_
  refine zr ?_; conv => whnf
  repeat refine zq ?_
  refine At.ret (At.doneB tab_ok hB _ rfl fun w' hw => ⟨?_, hw.fr⟩)
  simp only [rN, if_pos h3, RV.den, SV.den, CV.den, ofConst]
 ·have n3 : ¬ e.kind = 3 := of_decide_eq_false hq
  repeat refine zq ?_
  refine zr ?_; conv => whnf
  repeat refine zq ?_
  refine At.cond rfl (fun hq => ?_) (fun hq => ?_)
  ·have h3 : e.kind = 3 ∨ e.kind = 4 := .inr (of_decide_eq_true hq)
   repeat refine zq ?_
   refine zr ?_; conv => whnf
   repeat refine zq ?_
   refine At.ret (At.doneB tab_ok hB _ rfl fun w' hw => ⟨?_, hw.fr⟩)
   simp only [rN, if_pos h3, RV.den, SV.den, CV.den, ofConst]
  ·have h3 : ¬ (e.kind = 3 ∨ e.kind = 4) := (fun h => h.elim n3 (of_decide_eq_false hq))
   repeat refine zq ?_
   refine zr ?_; conv => whnf
   repeat refine zq ?_
   refine At.cond rfl (fun hq => ?_) (fun hq => ?_)
   ·have h8 : e.kind = 8 := of_decide_eq_true hq
    repeat refine zq ?_
    refine zr ?_; conv => whnf
    refine ⟨.b (rTo e.n 1099511627776), gimp_of (ans_quiet b165 (fun w' _ => rto_c _ _ w')), ?_⟩; conv => whnf
    repeat refine zq ?_
    refine At.ret (At.doneB tab_ok hB _ rfl fun w' hw => ⟨?_, hw.fr⟩)
    simp only [rN, if_neg h3, if_pos h8, RV.den, SV.den, CV.den, ofConst]
   ·have h8 : ¬ (e.kind = 8) := of_decide_eq_false hq
    repeat refine zq ?_
    refine zr ?_; conv => whnf
    repeat refine zq ?_
    refine At.cond rfl (fun hq => ?_) (fun hq => ?_)
    ·have h9 : e.kind = 9 := of_decide_eq_true hq
     repeat refine zq ?_
     refine zr ?_; conv => whnf
     refine ans_call b165 rfl (fun w' _ => rto_c _ _ w') ?_; conv => whnf
     repeat refine zq ?_
     refine At.ret (At.doneB tab_ok hB _ rfl fun w' hw => ⟨?_, hw.fr⟩)
     simp only [rN, if_neg h3, if_neg h8, if_pos h9, RV.den, SV.den, CV.den, ofConst]
    ·have h9 : ¬ (e.kind = 9) := of_decide_eq_false hq
     repeat refine zq ?_
     refine zr ?_; conv => whnf
     repeat refine zq ?_
     refine At.cond rfl (fun hq => ?_) (fun hq => ?_)
     ·have h10 : e.kind = 10 := of_decide_eq_true hq
      repeat refine zq ?_
      refine zr ?_; conv => whnf
      repeat refine zq ?_
      refine At.ret (At.doneB tab_ok hB _ rfl fun w' hw => ⟨?_, hw.fr⟩)
      simp only [rN, if_neg h3, if_neg h8, if_neg h9, if_pos h10, RV.den, SV.den, CV.den, ofConst]
     ·have h10 : ¬ (e.kind = 10) := of_decide_eq_false hq
      repeat refine zq ?_
      refine zr ?_; conv => whnf
      repeat refine zq ?_
      refine At.cond rfl (fun hq => ?_) (fun hq => ?_)
      ·have h12 : e.kind = 12 := of_decide_eq_true hq
       repeat refine zq ?_
       refine zr ?_; conv => whnf
       refine ans_call b165 rfl (fun w' _ => rto_c _ _ w') ?_; conv => whnf
       repeat refine zq ?_
       refine At.ret (At.doneB tab_ok hB _ rfl fun w' hw => ⟨?_, hw.fr⟩)
       simp only [rN, if_neg h3, if_neg h8, if_neg h9, if_neg h10, if_pos h12, RV.den, SV.den, CV.den, ofConst]
      ·have h12 : ¬ (e.kind = 12) := of_decide_eq_false hq
       repeat refine zq ?_
       refine zr ?_; conv => whnf
       repeat refine zq ?_
       refine At.cond rfl (fun hq => ?_) (fun hq => ?_)
       ·have h15 : e.kind = 15 := of_decide_eq_true hq
        repeat refine zq ?_
        refine zr ?_; conv => whnf
        refine ans_call b165 rfl (fun w' _ => rto_c _ _ w') ?_; conv => whnf
        repeat refine zq ?_
        refine At.ret (At.doneB tab_ok hB _ rfl fun w' hw => ⟨?_, hw.fr⟩)
        simp only [rN, if_neg h3, if_neg h8, if_neg h9, if_neg h10, if_neg h12, if_pos h15, RV.den, SV.den, CV.den, ofConst]
       ·have h15 : ¬ (e.kind = 15) := of_decide_eq_false hq
        refine At.skip ?_
        repeat refine zq ?_
        refine zr ?_; conv => whnf
        refine ans_call b165 rfl (fun w' _ => rto_c _ _ w') ?_; conv => whnf
        repeat refine zq ?_
        refine At.ret (At.doneB tab_ok hB _ rfl fun w' hw => ⟨?_, hw.fr⟩)
        simp only [rN, if_neg h3, if_neg h8, if_neg h9, if_neg h10, if_neg h12, if_neg h15, RV.den, SV.den, CV.den, ofConst]
theorem rright_c (e : En) (k y s : Value) (S : List Nat) (w : World) (h : EnIn S w e k y s) : Ans Tryz.prog 121 [vE e k y s] (.b (rRight e)) w := by
 replace h := h.nilS
 have hkl := h.k.len
 have hyl := h.y.len
 have hsl := h.s.len
 have hu : (rUses e.kind).length ≤ 1000000 := Nat.le_trans (rUses_len _) (by decide)
 refine calls_plainB [.s (.agg (encE e k y s))] Tryz.func121 rfl rfl (Nat.le_of_ble_eq_true rfl) rfl fun B hB => ?_
 repeat refine zq ?_
 refine zr ?_; conv => whnf
 refine ⟨h.k.one, ?_⟩; conv => whnf
 refine ⟨h.y.one, ?_⟩; conv => whnf
 refine ⟨h.s.one, ?_⟩; conv => whnf
 intro b; conv => whnf
 repeat refine zq ?_
 refine zr ?_; conv => whnf
 refine ans_call b165 rfl (fun w' _ => rto_c _ _ w') ?_; conv => whnf
 refine ⟨.b (rTo e.seq 1048575), gimp_of (ans_quiet b165 (fun w' _ => rto_c _ _ w')), ?_⟩; conv => whnf
 refine ⟨.b (rTo e.day 1048576), gimp_of (ans_quiet b165 (fun w' _ => rto_c _ _ w')), ?_⟩; conv => whnf
 refine ⟨.b (rTo e.kind 20), gimp_of (ans_quiet b165 (fun w' _ => rto_c _ _ w')), ?_⟩; conv => whnf
 refine ⟨.b (rSpare e), gimp_of (ans_quiet b166 (fun w' hw => rspare_c e k y s [] w' (h.fr hw.fr))), ?_⟩; conv => whnf
 repeat refine zq ?_
 refine At.cond rfl (fun hq => ?_) (fun hq => At.skip ?_)
 ·have hA : rRA e = true := hq
  repeat refine zq ?_
  refine zr ?_; conv => whnf
  repeat refine zq ?_
  refine At.ret (At.doneB tab_ok hB _ rfl fun w' hw => ⟨?_, hw.fr⟩)
  rw [show rRight e = false by unfold rRight; rw [hA]; rfl]
 have hA : rRA e = false := hq
 clear hq
 repeat refine zq ?_
 refine zr ?_; conv => whnf
 refine ⟨h.k.sl, ?_⟩; conv => whnf
 refine ⟨.b (rAsc e.knows 1073741824), gimp_of (ans_quiet b167 (fun w' hw => rasc_c e.knows _ [] k w' (h.k.fr hw.fr))), ?_⟩; conv => whnf
 refine ⟨.b (rTo e.circle 1073741824), gimp_of (ans_quiet b165 (fun w' _ => rto_c _ _ w')), ?_⟩; conv => whnf
 refine ⟨.b (rTo e.who 199), gimp_of (ans_quiet b165 (fun w' _ => rto_c _ _ w')), ?_⟩; conv => whnf
 repeat refine zq ?_
 refine At.cond rfl (fun hq => ?_) (fun hq => At.skip ?_)
 ·have hV : rRB e = true := by rw [hkl] at hq; exact hq
  repeat refine zq ?_
  refine zr ?_; conv => whnf
  repeat refine zq ?_
  refine At.ret (At.doneB tab_ok hB _ rfl fun w' hw => ⟨?_, hw.fr⟩)
  rw [show rRight e = false by unfold rRight; rw [hA, hV]; rfl]
 have hV : rRB e = false := by rw [hkl] at hq; exact hq
 clear hq
 repeat refine zq ?_
 refine zr ?_; conv => whnf
 refine ans_call b168 rfl (fun w' _ => ruses_c _ w') ?_; conv => whnf
 repeat refine zq ?_
 refine zr ?_; conv => whnf
 refine ans_call b169 rfl (fun w' _ => rin_c _ 107 hu w') ?_; conv => whnf
 refine ⟨by simp only [gimp]; intros; exact h.y.sl, ?_⟩; conv => whnf
 refine ⟨by simp only [gimp]; intros; exact h.y.sl, ?_⟩; conv => whnf
 refine ⟨.b (rAsc e.keys 199), gimp_of (ans_quiet b167 (fun w' hw => rasc_c e.keys _ [] y w' (h.y.fr hw.fr))), ?_⟩; conv => whnf
 repeat refine zq ?_
 refine At.cond rfl (fun hq => ?_) (fun hq => At.skip ?_)
 ·have hC : rRC e = true := by rw [hyl] at hq; exact hq
  repeat refine zq ?_
  refine zr ?_; conv => whnf
  repeat refine zq ?_
  refine At.ret (At.doneB tab_ok hB _ rfl fun w' hw => ⟨?_, hw.fr⟩)
  rw [show rRight e = false by unfold rRight; rw [hA, hV, hC]; rfl]
 have hC : rRC e = false := by rw [hyl] at hq; exact hq
 clear hq
 repeat refine zq ?_
 refine zr ?_; conv => whnf
 refine ans_call b169 rfl (fun w' _ => rin_c _ 115 hu w') ?_; conv => whnf
 refine ⟨by simp only [gimp]; intros; exact h.s.sl, ?_⟩; conv => whnf
 refine ⟨by simp only [gimp]; intros; exact h.s.sl, ?_⟩; conv => whnf
 refine ⟨.b (rNormal e.spans), gimp_of (ans_quiet b170 (fun w' hw => rnormal_c e.spans [] s w' (h.s.fr hw.fr))), ?_⟩; conv => whnf
 repeat refine zq ?_
 refine At.cond rfl (fun hq => ?_) (fun hq => At.skip ?_)
 ·have hD : rRD e = true := by rw [hsl] at hq; exact hq
  repeat refine zq ?_
  refine zr ?_; conv => whnf
  repeat refine zq ?_
  refine At.ret (At.doneB tab_ok hB _ rfl fun w' hw => ⟨?_, hw.fr⟩)
  rw [show rRight e = false by unfold rRight; rw [hA, hV, hC, hD]; rfl]
 have hD : rRD e = false := by rw [hsl] at hq; exact hq
 clear hq
 repeat refine zq ?_
 refine zr ?_; conv => whnf
 refine ans_call b171 rfl (fun w' hw => rref_c e k y s [] w' (h.fr hw.fr)) ?_; conv => whnf
 refine ⟨.b (rN e), gimp_of (ans_quiet b172 (fun w' hw => rn_c e k y s [] w' (h.fr hw.fr))), ?_⟩; conv => whnf
 refine ⟨.b (rM e), gimp_of (ans_quiet b173 (fun w' hw => rm_c e k y s [] w' (h.fr hw.fr))), ?_⟩; conv => whnf
 repeat refine zq ?_
 refine At.ret (At.doneB tab_ok hB _ rfl fun w' hw => ⟨?_, hw.fr⟩)
 rw [show rRight e = (bif (bif rRef e then rN e else false) then rM e else false) by unfold rRight; rw [hA, hV, hC, hD]; rfl]
end Go.Proofs.YtlobacpdhglnkaaGreatDoor
namespace Go.Bs
open Rt
def rDig : Nat → Int → B
 | 0, _ => []
 | k + 1, n => bif decide (-10 < n) then [UInt8.ofNat (48 - n.tmod 10).toNat] else rDig k (n.tdiv 10) ++ [UInt8.ofNat (48 - n.tmod 10).toNat]
theorem rDig_len : ∀ (k : Nat) (n : Int), (rDig k n).length ≤ k
 | 0, _ => by simp [rDig]
 | k + 1, n => by
  unfold rDig
  cases decide (-10 < n)
  ·have := rDig_len k (n.tdiv 10)
   simp only [cond_false, List.length_append, List.length_cons, List.length_nil]; omega
  ·simp
def rInt (n : Int) : B := bif decide (n < 0) then ([45] ++ rDig 19 n) ++ [59] else rDig 19 (0 - n) ++ [59]
def rNum (n : Int) : B := bif decide (n < 0) then [] else rInt n
def rNums (l : List Int) : B := ((rDig 19 (0 - l.length) ++ [91]) ++ (l.map rInt).flatten) ++ [93]
def rTextS (s : B) : B := ((rDig 19 (0 - s.length) ++ [58]) ++ s) ++ [44]
theorem rInt_len (n : Int) : (rInt n).length ≤ 21 := by
 unfold rInt
 have h1 := rDig_len 19 n
 have h2 := rDig_len 19 (0 - n)
 cases decide (n < 0)
 ·simp only [cond_false, List.length_append, List.length_cons, List.length_nil]; omega
 ·simp only [cond_true, List.length_append, List.length_cons, List.length_nil]; omega
theorem rNum_len (n : Int) : (rNum n).length ≤ 21 := by
 unfold rNum
 have := rInt_len n
 cases decide (n < 0) <;> simp <;> omega
theorem rInts_len : ∀ (l : List Int), ((l.map rInt).flatten).length ≤ 21 * l.length
 | [] => by simp
 | n :: l => by
  have h1 := rInt_len n
  have h2 := rInts_len l
  simp only [List.map_cons, List.flatten_cons, List.length_append, List.length_cons]; omega
theorem rNums_len (l : List Int) : (rNums l).length ≤ 21 + 21 * l.length := by
 unfold rNums
 have h1 := rDig_len 19 (0 - l.length)
 have h2 := rInts_len l
 simp only [List.length_append, List.length_cons, List.length_nil]; omega
theorem rTextS_len (s : B) : (rTextS s).length ≤ 21 + s.length := by
 unfold rTextS
 have h1 := rDig_len 19 (0 - s.length)
 simp only [List.length_append, List.length_cons, List.length_nil]; omega
def rSp (s : B) (x : Span) : B := ((s ++ rNum x.m) ++ rNum x.f) ++ rNum x.t
def rSps (s : B) (l : List Span) : B := l.foldl rSp s
theorem rSp_len (s : B) (x : Span) : (rSp s x).length ≤ s.length + 63 := by
 have h1 := rNum_len x.m
 have h2 := rNum_len x.f
 have h3 := rNum_len x.t
 simp only [rSp, List.length_append]; omega
theorem rSps_len : ∀ (l : List Span) (s : B), (rSps s l).length ≤ s.length + 63 * l.length
 | [], s => by simp [rSps]
 | x :: l, s => by
  have h1 := rSps_len l (rSp s x)
  have h2 := rSp_len s x
  show (rSps (rSp s x) l).length ≤ _
  simp only [List.length_cons]; omega
def rT1 (e : En) : B := ((rNum e.author ++ rNum e.seq) ++ rNum e.day) ++ rNums e.knows
def rT2 (e : En) : B := ((rT1 e ++ rNum e.kind) ++ rNum e.circle) ++ rNum e.who
def rT3 (e : En) : B := ((((rT2 e ++ rInt e.n) ++ rInt e.m) ++ rInt e.ref) ++ rNums e.keys) ++ rNum e.spans.length
def rText (e : En) : B := bif rRight e then rSps (rT3 e) e.spans ++ rTextS e.text else []
structure EnQ (e : En) : Prop where
 author : iR e.author
 seq : iR e.seq
 day : iR e.day
 kind : iR e.kind
 circle : iR e.circle
 who : iR e.who
 n : iR e.n
 m : iR e.m
 ref : iR e.ref
 knows : ∀ x ∈ e.knows, iR x
 keys : ∀ x ∈ e.keys, iR x
 spans : ∀ s ∈ e.spans, iR s.m ∧ iR s.f ∧ iR s.t
def fewE (e : En) : Bool := bif (bif (bif decide ((e.knows.length : Int) ≤ 40) then decide ((e.keys.length : Int) ≤ 12) else false) then decide ((e.spans.length : Int) ≤ 12) else false) then decide ((e.text.length : Int) ≤ 300) else false
theorem fewE_true {e : En} (h : fewE e = true) : e.knows.length ≤ 40 ∧ e.keys.length ≤ 12 ∧ e.spans.length ≤ 12 ∧ e.text.length ≤ 300 := by
 unfold fewE at h
 simp only [Bool.cond_false_right, Bool.and_eq_true, decide_eq_true_eq] at h
 omega
theorem rT1_len (e : En) : (rT1 e).length ≤ 84 + 21 * e.knows.length := by
 have h1 := rNum_len e.author; have h2 := rNum_len e.seq; have h3 := rNum_len e.day; have h4 := rNums_len e.knows
 simp only [rT1, List.length_append]; omega
theorem rT2_len (e : En) : (rT2 e).length ≤ 147 + 21 * e.knows.length := by
 have h0 := rT1_len e; have h1 := rNum_len e.kind; have h2 := rNum_len e.circle; have h3 := rNum_len e.who
 simp only [rT2, List.length_append]; omega
theorem rT3_len (e : En) : (rT3 e).length ≤ 252 + 21 * e.knows.length + 21 * e.keys.length := by
 have h0 := rT2_len e; have h1 := rInt_len e.n; have h2 := rInt_len e.m; have h3 := rInt_len e.ref; have h4 := rNums_len e.keys; have h5 := rNum_len e.spans.length
 simp only [rT3, List.length_append]; omega
theorem rText_len {e : En} (h : fewE e = true) : (rText e).length ≤ 10000 := by
 obtain ⟨h1, h2, h3, h4⟩ := fewE_true h
 have a1 := rT3_len e
 have a2 := rSps_len e.spans (rT3 e)
 have a3 := rTextS_len e.text
 unfold rText
 cases rRight e
 ·simp
 ·simp only [cond_true, List.length_append]; omega
end Go.Bs
namespace Go.Proofs.YtlobacpdhglnkaaGreatDoor
open Go.Vc Rt Go.Bs
set_option maxHeartbeats 2000000
theorem tmod_neg10 {n : Int} (h : n ≤ 0) : n.tmod 10 = -((-n) % 10) := by
 have e : n = -(-n) := by omega
 rw [e, Int.neg_tmod, Int.neg_neg, Int.tmod_eq_emod_of_nonneg (by omega)]
theorem tdiv_neg10 {n : Int} (h : n ≤ 0) : n.tdiv 10 = -((-n) / 10) := by
 have e : n = -(-n) := by omega
 rw [e, Int.neg_tdiv, Int.neg_neg, Int.tdiv_eq_ediv_of_nonneg (by omega)]
theorem rawQ_bin {P : Program} {st : St} {keys : Keys} {dst : Option Nat} {op : BinOp} {t ty : TypeId} {x y : Operand} {t' : TypeId} {pos : String} {after : Array Edge} {guard : Option (Nat × Bool)} {u v r : RV} {a b : Int} (hx : opv st keys x = some u) (hy : opv st keys y = some v) (hu : u.den = vI a) (hv : v.den = vI b)
  (h : ∀ w : World, (binOp op t (vI a) (vI b)).run P w = .ok r.den w) : RawQ P st keys { dst := dst, op := .binOp op t x y t', type := ty, pos := pos, after := after, guard := guard } r :=
 ⟨fun ρ hρ w _ => by
  have e1 := hρ x _ hx
  have e2 := hρ y _ hy
  rw [hu] at e1
  rw [hv] at e2
  simp only [execOp, e1, e2, Sem.run_bind, eqGuard_int, Result.andThen_ok, h w, Sem.run_pure]⟩
theorem run_rem10 {P : Program} {t : TypeId} (a : Int) (w : World) : (binOp .rem t (vI a) (vI 10)).run P w = .ok (vI (a.tmod 10)) w := by
 simp [binOp, Op.intDiv]
theorem run_quo10 {P : Program} {t : TypeId} {a : Int} (h : inR (a.tdiv 10)) (w : World) : (binOp .quo t (vI a) (vI 10)).run P w = .ok (vI (a.tdiv 10)) w := by
 simp [binOp, Op.intDiv, wrap_inR h]
theorem run_gtr {P : Program} {t : TypeId} (a b : Int) (w : World) : (binOp .gtr t (vI a) (vI b)).run P w = .ok (.bool (decide (b < a))) w := by
 simp [binOp, Op.intCmp]
theorem u145 : Tryz.prog.underlying 145 = some (.slice 5) := by kernel_rfl
theorem u5' : Tryz.prog.underlying 5 = some (.int .u8) := by kernel_rfl
theorem u9' : Tryz.prog.underlying 9 = some .string := by kernel_rfl
theorem run_byte {w : World} {v : Value} {d : Int} (h : (LO.row v 5 1 [[.x (.int .u8 d)]]).holds w) (h0 : 0 ≤ d) (h1 : d ≤ 255) : (convert 145 9 v).run Tryz.prog w = .ok (sv [UInt8.ofNat d.toNat]) w := by
 have hs : SlOf (flat 1 (fun d : Int => [CV.x (.int .u8 d)]) (fun _ => rfl)) [] w v [d] := SlOf.of_row (enc := fun d : Int => [CV.x (.int .u8 d)]) (xs := [d]) h (fun _ _ => nilS) (by simp)
 obtain ⟨a, n, c, rfl⟩ := rows_some h (by simp)
 have hn : n = 1 := by have := hs.len; simp [slen] at this; omega
 subst hn
 obtain ⟨l, rfl, he⟩ := hs.elem 0 d rfl
 have hcell := he a 1 c rfl 0 (.int .u8 d) rfl
 have ea : (elemAddr a 1 ((0 : Nat) : Int) 0).add 0 = a.add 0 := by
  unfold elemAddr; rw [add_add, add_add]; rfl
 have hd : ((UInt8.ofNat d.toNat).toNat : Int) = d := by
  rw [UInt8.toNat_ofNat_of_lt' (by show d.toNat < 256; omega)]; omega
 refine run_convert_bytes_back (P := Tryz.prog) w 145 9 5 a c [UInt8.ofNat d.toNat] u145 u5' u9' fun j hj => ?_
 obtain rfl : j = 0 := by simp at hj; omega
 rw [← ea]
 show w.cell? _ = some (.int .u8 ((UInt8.ofNat d.toNat).toNat : Int))
 rw [hd]
 exact hcell
theorem refDig_c : ∀ (k : Nat), k ≤ 1000 → ∀ (n : Int), -(10 ^ (k + 1) : Int) < n → n ≤ 0 → -9223372036854775808 ≤ n → ∀ w, Ans Tryz.prog 174 [vI n] (rS (rDig (k + 1) n)) w := by
 intro k
 induction k with
 | zero =>
  intro _ n hk h0 hR w
  have hm := tmod_neg10 h0
  refine calls_plainB [.x (vI n)] Tryz.func174 rfl rfl (Nat.le_of_ble_eq_true rfl) rfl fun B hB => ?_
  repeat refine zq ?_
  refine zr ?_; conv => whnf
  repeat refine zq ?_
  refine zr ?_; conv => whnf
  refine ⟨.i (n.tmod 10), gimp_of (rawQ_bin rfl rfl rfl rfl (fun w => run_rem10 n w)), ?_⟩; conv => whnf
  refine ⟨⟨by omega, by omega⟩, ?_⟩; conv => whnf
  refine ⟨⟨by omega, by omega⟩, ?_⟩; conv => whnf
  refine ⟨rfl, ?_⟩; conv => whnf
  intro v8; conv => whnf
  refine ⟨rS [UInt8.ofNat (48 - n.tmod 10).toNat], gq fun ρ hρ w' hw => ?_, ?_⟩
  ·have e := hρ (.tmp 8) _ rfl
   simp only [RV.den, SV.den, CV.den] at e
   simp only [execOp, e, Sem.run_bind, run_byte (hw.row (id := 0) rfl) (by omega) (by omega), Result.andThen_ok, Sem.run_pure]
   rfl
  conv => whnf
  repeat refine zq ?_
  refine zr ?_; conv => whnf
  refine ⟨.b (decide (-10 < n)), gimp_of (rawQ_bin rfl rfl rfl rfl (fun w => run_gtr n _ w)), ?_⟩; conv => whnf
  repeat refine zq ?_
  refine At.cond rfl (fun hq => ?_) (fun hq => At.skip ?_)
  ·repeat refine zq ?_
   refine zr ?_; conv => whnf
   repeat refine zq ?_
   refine At.ret (At.doneB tab_ok hB _ rfl fun w' hw => ⟨?_, hw.fr⟩)
   unfold rDig; rw [hq]; rfl
  ·have := of_decide_eq_false hq
   omega
 | succ k ih =>
  intro hk9 n hk h0 hR w
  have hm := tmod_neg10 h0
  have hdv := tdiv_neg10 h0
  refine calls_plainB [.x (vI n)] Tryz.func174 rfl rfl (Nat.le_of_ble_eq_true rfl) rfl fun B hB => ?_
  repeat refine zq ?_
  refine zr ?_; conv => whnf
  repeat refine zq ?_
  refine zr ?_; conv => whnf
  refine ⟨.i (n.tmod 10), gimp_of (rawQ_bin rfl rfl rfl rfl (fun w => run_rem10 n w)), ?_⟩; conv => whnf
  refine ⟨⟨by omega, by omega⟩, ?_⟩; conv => whnf
  refine ⟨⟨by omega, by omega⟩, ?_⟩; conv => whnf
  refine ⟨rfl, ?_⟩; conv => whnf
  intro v8; conv => whnf
  refine ⟨rS [UInt8.ofNat (48 - n.tmod 10).toNat], gq fun ρ hρ w' hw => ?_, ?_⟩
  ·have e := hρ (.tmp 8) _ rfl
   simp only [RV.den, SV.den, CV.den] at e
   simp only [execOp, e, Sem.run_bind, run_byte (hw.row (id := 0) rfl) (by omega) (by omega), Result.andThen_ok, Sem.run_pure]
   rfl
  conv => whnf
  repeat refine zq ?_
  refine zr ?_; conv => whnf
  refine ⟨.b (decide (-10 < n)), gimp_of (rawQ_bin rfl rfl rfl rfl (fun w => run_gtr n _ w)), ?_⟩; conv => whnf
  repeat refine zq ?_
  refine At.cond rfl (fun hq => ?_) (fun hq => At.skip ?_)
  ·repeat refine zq ?_
   refine zr ?_; conv => whnf
   repeat refine zq ?_
   refine At.ret (At.doneB tab_ok hB _ rfl fun w' hw => ⟨?_, hw.fr⟩)
   unfold rDig; rw [hq]; rfl
  ·have hlen := rDig_len (k + 1) (n.tdiv 10)
   have hp : (10 : Int) ^ (k + 1 + 1) = 10 ^ (k + 1) * 10 := Int.pow_succ ..
   have hpos : (0 : Int) < 10 ^ (k + 1) := Int.pow_pos (by decide)
   have hbig : -(10 ^ (k + 1) : Int) < n.tdiv 10 := by rw [hp] at hk; rw [hdv]; omega
   repeat refine zq ?_
   refine zr ?_; conv => whnf
   refine ⟨.i (n.tdiv 10), gimp_of (rawQ_bin rfl rfl rfl rfl (fun w => run_quo10 ⟨by omega, by omega⟩ w)), ?_⟩; conv => whnf
   refine ans_call b174 rfl (fun w' _ => ih (by omega) (n.tdiv 10) hbig (by omega) (by omega) w') ?_; conv => whnf
   refine ⟨by simp only [List.length_cons, List.length_nil]; omega, ?_⟩; conv => whnf
   repeat refine zq ?_
   refine At.ret (At.doneB tab_ok hB _ rfl fun w' hw => ⟨?_, hw.fr⟩)
   rw [show rDig (k + 1 + 1) n = rDig (k + 1) (n.tdiv 10) ++ [UInt8.ofNat (48 - n.tmod 10).toNat] by
    show (bif decide (-10 < n) then _ else _) = _
    rw [hq]; rfl]
theorem pow19 : (10 : Int) ^ (18 + 1) = 10000000000000000000 := by decide
theorem refDig19_c (n : Int) (h0 : n ≤ 0) (hR : -9223372036854775808 ≤ n) (w : World) : Ans Tryz.prog 174 [vI n] (rS (rDig 19 n)) w :=
 refDig_c 18 (by decide) n (by rw [pow19]; omega) h0 hR w
theorem refInt_c (n : Int) (h : iR n) (w : World) : Ans Tryz.prog 124 [vI n] (rS (rInt n)) w := by
 have h1 := h.1
 have h2 := h.2
 have hl1 := rDig_len 19 n
 have hl2 := rDig_len 19 (0 - n)
 refine calls_plainB [.i n] Tryz.func124 rfl rfl (Nat.le_of_ble_eq_true rfl) rfl fun B hB => ?_
 repeat refine zq ?_
 refine zr ?_; conv => whnf
 repeat refine zq ?_
 refine zr ?_; conv => whnf
 repeat refine zq ?_
 refine At.cond rfl (fun hq => ?_) (fun hq => At.skip ?_)
 ·have hn := of_decide_eq_true hq
  repeat refine zq ?_
  refine zr ?_; conv => whnf
  refine ans_call b174 rfl (fun w' _ => refDig19_c n (by omega) (by omega) w') ?_; conv => whnf
  refine ⟨by (try simp only [List.length_append, List.length_cons, List.length_nil]); omega, ?_⟩; conv => whnf
  refine ⟨by (try simp only [List.length_append, List.length_cons, List.length_nil]); omega, ?_⟩; conv => whnf
  repeat refine zq ?_
  refine At.ret (At.doneB tab_ok hB _ rfl fun w' hw => ⟨?_, hw.fr⟩)
  unfold rInt; rw [hq]; rfl
 ·have hn := of_decide_eq_false hq
  repeat refine zq ?_
  refine zr ?_; conv => whnf
  refine ⟨⟨by omega, by omega⟩, ?_⟩; conv => whnf
  refine ans_call b174 rfl (fun w' _ => refDig19_c (0 - n) (by omega) (by omega) w') ?_; conv => whnf
  refine ⟨by (try simp only [List.length_append, List.length_cons, List.length_nil]); omega, ?_⟩; conv => whnf
  repeat refine zq ?_
  refine At.ret (At.doneB tab_ok hB _ rfl fun w' hw => ⟨?_, hw.fr⟩)
  unfold rInt; rw [hq]; rfl
theorem refNum_c (n : Int) (h : iR n) (w : World) : Ans Tryz.prog 122 [vI n] (rS (rNum n)) w := by
 refine calls_plainB [.i n] Tryz.func122 rfl rfl (Nat.le_of_ble_eq_true rfl) rfl fun B hB => ?_
 repeat refine zq ?_
 refine zr ?_; conv => whnf
 repeat refine zq ?_
 refine zr ?_; conv => whnf
 repeat refine zq ?_
 refine At.cond rfl (fun hq => ?_) (fun hq => At.skip ?_)
 ·repeat refine zq ?_
  refine zr ?_; conv => whnf
  repeat refine zq ?_
  refine At.ret (At.doneB tab_ok hB _ rfl fun w' hw => ⟨?_, hw.fr⟩)
  unfold rNum; rw [hq]; rfl
 ·repeat refine zq ?_
  refine zr ?_; conv => whnf
  refine ans_call b124 rfl (fun w' _ => refInt_c n h w') ?_; conv => whnf
  repeat refine zq ?_
  refine At.ret (At.doneB tab_ok hB _ rfl fun w' hw => ⟨?_, hw.fr⟩)
  unfold rNum; rw [hq]; rfl
theorem refText_c (s : List UInt8) (h : s.length ≤ 1000000) (w : World) : Ans Tryz.prog 125 [sv s] (rS (rTextS s)) w := by
 have hl2 := rDig_len 19 (0 - s.length)
 refine calls_plainB [rS s] Tryz.func125 rfl rfl (Nat.le_of_ble_eq_true rfl) rfl fun B hB => ?_
 repeat refine zq ?_
 refine zr ?_; conv => whnf
 repeat refine zq ?_
 refine zr ?_; conv => whnf
 refine ⟨⟨by omega, by omega⟩, ?_⟩; conv => whnf
 refine ans_call b174 rfl (fun w' _ => refDig19_c (0 - s.length) (by omega) (by omega) w') ?_; conv => whnf
 refine ⟨by (try simp only [List.length_append, List.length_cons, List.length_nil]); omega, ?_⟩; conv => whnf
 refine ⟨by (try simp only [List.length_append, List.length_cons, List.length_nil]); omega, ?_⟩; conv => whnf
 refine ⟨by (try simp only [List.length_append, List.length_cons, List.length_nil]); omega, ?_⟩; conv => whnf
 repeat refine zq ?_
 refine At.ret (At.doneB tab_ok hB _ rfl fun w' hw => ⟨rfl, hw.fr⟩)
theorem take_flat {xs : List Int} {k : Nat} {x : Int} (hx : xs[k]? = some x) : ((xs.take (k + 1)).map rInt).flatten = ((xs.take k).map rInt).flatten ++ rInt x := by
 rw [List.take_add_one, hx]; simp
theorem refNums_c (xs : List Int) (hx' : ∀ x ∈ xs, iR x) (hl : xs.length ≤ 1000) (S : List Nat) (v : Value) (w : World) (h : SlOf intT S w v xs) : Ans Tryz.prog 123 [v] (rS (rNums xs)) w := by
 replace h := h.avoid (S' := []) (fun b hb => by cases hb)
 have hln := h.len
 have hl2 := rDig_len 19 (0 - xs.length)
 refine calls_plainB [.x v] Tryz.func123 rfl rfl (Nat.le_of_ble_eq_true rfl) rfl fun B hB => ?_
 repeat refine zq ?_
 refine zr ?_; conv => whnf
 repeat refine zq ?_
 refine zr ?_; conv => whnf
 refine ⟨h.sl, ?_⟩; conv => whnf
 refine ⟨⟨by omega, by omega⟩, ?_⟩; conv => whnf
 refine ans_call b174 rfl (fun w' _ => by rw [hln]; exact refDig19_c (0 - xs.length) (by omega) (by omega) w') ?_; conv => whnf
 refine ⟨by (try simp only [List.length_append, List.length_cons, List.length_nil]); omega, ?_⟩; conv => whnf
 repeat refine zq ?_
 refine zr ?_; conv => whnf
 repeat refine zq ?_
 refine At.block ?_
 refine At.loopF (fun k : Nat => { N := Tryz.f123.ntmps, sl := [(0, some (.x v)), (3, some (rS ((rDig 19 (0 - xs.length) ++ [91]) ++ ((xs.take k).map rInt).flatten))), (4, some (.i k))], gl := [], hp := [], S := [], ws := w }) (fun k => k ≤ xs.length) (fun k => xs.length - k)
  (fun w' hw => ⟨0, Nat.zero_le _, Le.of rfl rfl ⟨rfl, by rw [List.take_zero, List.map_nil, List.flatten_nil, List.append_nil]; rfl, rfl, trivial⟩, WF.plain rfl, hw.same rfl rfl rfl⟩) ?_
 intro k hk
 have hfl := rInts_len (xs.take k)
 rw [List.length_take] at hfl
 repeat refine zq ?_
 refine zr ?_; conv => whnf
 refine ⟨h.sl, ?_⟩; conv => whnf
 repeat refine zq ?_
 refine At.cond rfl (fun hc => At.skip ?_) (fun hc => At.exit ?_)
 ·have hlt : k < xs.length := by have := of_decide_eq_true hc; omega
  have hx := getD_some (xs := xs) (i := k) hlt
  have hr : iR (xs.getD k 0) := hx' _ (List.mem_of_getElem? hx)
  have hil := rInt_len (xs.getD k 0)
  repeat refine zq ?_
  refine At.block ?_
  repeat refine zq ?_
  refine zr ?_; conv => whnf
  refine ⟨by omega, ?_⟩; conv => whnf
  refine ⟨by omega, ?_⟩; conv => whnf
  refine ⟨[.i (xs.getD k 0)], fun w' hw => h.load (n := 1) hw.fr hx rfl, ?_⟩; conv => whnf
  refine ans_call b124 rfl (fun w' _ => refInt_c _ hr w') ?_; conv => whnf
  refine ⟨by (try simp only [List.length_append, List.length_cons, List.length_nil]); omega, ?_⟩; conv => whnf
  repeat refine zq ?_
  refine zr ?_; conv => whnf
  refine ⟨⟨by omega, by omega⟩, ?_⟩; conv => whnf
  refine At.next fun w' hw => ⟨k + 1, by omega, by omega, Le.of rfl rfl ⟨rfl, by rw [take_flat hx, ← List.append_assoc]; rfl, rfl, trivial⟩, WF.plain rfl, hw.keep [] rfl rfl rfl⟩
 ·have hge : k = xs.length := by have := of_decide_eq_false hc; omega
  subst hge
  repeat refine zq ?_
  refine zr ?_; conv => whnf
  refine ⟨by (try simp only [List.length_append, List.length_cons, List.length_nil]); omega, ?_⟩; conv => whnf
  repeat refine zq ?_
  refine At.ret (At.doneB tab_ok hB _ rfl fun w' hw => ⟨?_, hw.fr⟩)
  rw [List.take_length]; rfl
theorem fewEntry_c (e : En) (k y s : Value) (S : List Nat) (w : World) (h : EnIn S w e k y s) : Ans Tryz.prog 72 [vE e k y s] (.b (fewE e)) w := by
 replace h := h.nilS
 have hkl := h.k.len
 have hyl := h.y.len
 have hsl := h.s.len
 refine calls_plainB [.s (.agg (encE e k y s))] Tryz.func72 rfl rfl (Nat.le_of_ble_eq_true rfl) rfl fun B hB => ?_
 repeat refine zq ?_
 refine zr ?_; conv => whnf
 refine ⟨h.k.one, ?_⟩; conv => whnf
 refine ⟨h.y.one, ?_⟩; conv => whnf
 refine ⟨h.s.one, ?_⟩; conv => whnf
 intro b; conv => whnf
 repeat refine zq ?_
 refine zr ?_; conv => whnf
 refine ⟨h.k.sl, ?_⟩; conv => whnf
 refine ⟨by simp only [gimp]; intros; exact h.y.sl, ?_⟩; conv => whnf
 refine ⟨by simp only [gimp]; intros; exact h.s.sl, ?_⟩; conv => whnf
 repeat refine zq ?_
 refine At.ret (At.doneB tab_ok hB _ rfl fun w' hw => ⟨?_, hw.fr⟩)
 rw [hkl, hyl, hsl]; rfl
theorem rSps_snoc {xs : List Span} {k : Nat} {x : Span} (hx : xs[k]? = some x) (s : List UInt8) : rSps s (xs.take (k + 1)) = rSp (rSps s (xs.take k)) x := by
 rw [List.take_add_one, hx]; simp [rSps]
theorem refTextE_c (e : En) (k y s : Value) (S : List Nat) (w : World) (h : EnIn S w e k y s) (hQ : EnQ e) (hF : fewE e = true) : Ans Tryz.prog 79 [vE e k y s] (rS (rText e)) w := by
 replace h := h.nilS
 have hkl := h.k.len
 have hyl := h.y.len
 have hsl := h.s.len
 obtain ⟨f1, f2, f3, f4⟩ := fewE_true hF
 have l1 := rNum_len e.author; have l2 := rNum_len e.seq; have l3 := rNum_len e.day; have l4 := rNums_len e.knows
 have l5 := rNum_len e.kind; have l6 := rNum_len e.circle; have l7 := rNum_len e.who
 have l8 := rInt_len e.n; have l9 := rInt_len e.m; have l10 := rInt_len e.ref; have l11 := rNums_len e.keys; have l12 := rNum_len e.spans.length
 have t1 := rT1_len e; have t2 := rT2_len e; have t3 := rT3_len e; have t4 := rTextS_len e.text
 refine calls_plainB [.s (.agg (encE e k y s))] Tryz.func79 rfl rfl (Nat.le_of_ble_eq_true rfl) rfl fun B hB => ?_
 repeat refine zq ?_
 refine zr ?_; conv => whnf
 refine ⟨h.k.one, ?_⟩; conv => whnf
 refine ⟨h.y.one, ?_⟩; conv => whnf
 refine ⟨h.s.one, ?_⟩; conv => whnf
 intro b; conv => whnf
 repeat refine zq ?_
 refine zr ?_; conv => whnf
 refine ans_call b121 rfl (fun w' hw => rright_c e k y s [] w' (h.fr hw.fr)) ?_; conv => whnf
 repeat refine zq ?_
 refine At.cond rfl (fun hq => ?_) (fun hq => At.skip ?_)
 ·have hR : rRight e = false := by simpa using hq
  repeat refine zq ?_
  refine zr ?_; conv => whnf
  repeat refine zq ?_
  refine At.ret (At.doneB tab_ok hB _ rfl fun w' hw => ⟨?_, hw.fr⟩)
  unfold rText; rw [hR]; rfl
 have hR : rRight e = true := by simpa using hq
 clear hq
 repeat refine zq ?_
 refine At.draw tab_ok mixed (by kernel_rfl) ?_; conv => whnf
 refine ⟨rS (rNum e.author), ans_quiet b122 (fun w' _ => refNum_c _ hQ.author w'), ?_⟩; conv => whnf
 refine ⟨rS (rNum e.seq), ans_quiet b122 (fun w' _ => refNum_c _ hQ.seq w'), ?_⟩; conv => whnf
 refine ⟨by (try simp only [List.length_append]); omega, ?_⟩; conv => whnf
 refine ⟨rS (rNum e.day), ans_quiet b122 (fun w' _ => refNum_c _ hQ.day w'), ?_⟩; conv => whnf
 refine ⟨by (try simp only [List.length_append]); omega, ?_⟩; conv => whnf
 refine ⟨rS (rNums e.knows), ans_quiet b123 (fun w' hw => refNums_c _ hQ.knows (by omega) [] k w' (h.k.fr hw.fr)), ?_⟩; conv => whnf
 refine ⟨by (try simp only [List.length_append]); omega, ?_⟩; conv => whnf
 rw [show ((rNum e.author ++ rNum e.seq) ++ rNum e.day) ++ rNums e.knows = rT1 e from rfl]
 repeat refine zq ?_
 refine At.draw tab_ok mixed (by kernel_rfl) ?_; conv => whnf
 refine ⟨rS (rNum e.kind), ans_quiet b122 (fun w' _ => refNum_c _ hQ.kind w'), ?_⟩; conv => whnf
 refine ⟨by (try simp only [List.length_append]); omega, ?_⟩; conv => whnf
 refine ⟨rS (rNum e.circle), ans_quiet b122 (fun w' _ => refNum_c _ hQ.circle w'), ?_⟩; conv => whnf
 refine ⟨by (try simp only [List.length_append]); omega, ?_⟩; conv => whnf
 refine ⟨rS (rNum e.who), ans_quiet b122 (fun w' _ => refNum_c _ hQ.who w'), ?_⟩; conv => whnf
 refine ⟨by (try simp only [List.length_append]); omega, ?_⟩; conv => whnf
 rw [show ((rT1 e ++ rNum e.kind) ++ rNum e.circle) ++ rNum e.who = rT2 e from rfl]
 repeat refine zq ?_
 refine At.draw tab_ok mixed (by kernel_rfl) ?_; conv => whnf
 refine ⟨rS (rInt e.n), ans_quiet b124 (fun w' _ => refInt_c _ hQ.n w'), ?_⟩; conv => whnf
 refine ⟨by (try simp only [List.length_append]); omega, ?_⟩; conv => whnf
 refine ⟨rS (rInt e.m), ans_quiet b124 (fun w' _ => refInt_c _ hQ.m w'), ?_⟩; conv => whnf
 refine ⟨by (try simp only [List.length_append]); omega, ?_⟩; conv => whnf
 refine ⟨rS (rInt e.ref), ans_quiet b124 (fun w' _ => refInt_c _ hQ.ref w'), ?_⟩; conv => whnf
 refine ⟨by (try simp only [List.length_append]); omega, ?_⟩; conv => whnf
 refine ⟨rS (rNums e.keys), ans_quiet b123 (fun w' hw => refNums_c _ hQ.keys (by omega) [] y w' (h.y.fr hw.fr)), ?_⟩; conv => whnf
 refine ⟨by (try simp only [List.length_append]); omega, ?_⟩; conv => whnf
 refine ⟨h.s.sl, ?_⟩; conv => whnf
 refine ⟨rS (rNum e.spans.length), ans_quiet b122 (fun w' _ => by rw [hsl]; exact refNum_c _ ⟨by omega, by omega⟩ w'), ?_⟩; conv => whnf
 refine ⟨by (try simp only [List.length_append]); omega, ?_⟩; conv => whnf
 rw [show ((((rT2 e ++ rInt e.n) ++ rInt e.m) ++ rInt e.ref) ++ rNums e.keys) ++ rNum e.spans.length = rT3 e from rfl]
 repeat refine zq ?_
 refine zr ?_; conv => whnf
 repeat refine zq ?_
 refine At.block ?_
 refine At.loopH (fun i : Nat => { N := Tryz.f79.ntmps, sl := [(1, some (.s (.c (.p 0 b 0)))), (3, some (rS (rSps (rT3 e) (e.spans.take i)))), (4, some (.i i))], gl := [], hp := [(0, LO.box b 38 (encE e k y s))], S := [], ws := w }) (fun i : Nat => i ≤ e.spans.length) (fun i : Nat => e.spans.length - i)
  (fun w' hw => ⟨0, Nat.zero_le _, Le.of rfl rfl ⟨rfl, rfl, rfl, trivial⟩, hw.keep [0] rfl rfl rfl, ⟨⟨_, _, rfl⟩, trivial⟩, trivial⟩) ?_
 intro i hi
 have hL := rSps_len (e.spans.take i) (rT3 e)
 rw [List.length_take] at hL
 repeat refine zq ?_
 refine zr ?_; conv => whnf
 refine ⟨h.s.sl, ?_⟩; conv => whnf
 repeat refine zq ?_
 refine At.cond rfl (fun hc => At.skip ?_) (fun hc => At.exit ?_)
 ·have hlt : i < e.spans.length := by have := of_decide_eq_true hc; omega
  have hx := getD_span (xs := e.spans) (i := i) hlt
  generalize e.spans.getD i ⟨0, 0, 0⟩ = x at hx
  obtain ⟨q1, q2, q3⟩ := hQ.spans x (List.mem_of_getElem? hx)
  have m1 := rNum_len x.m; have m2 := rNum_len x.f; have m3 := rNum_len x.t
  repeat refine zq ?_
  refine At.block ?_
  repeat refine zq ?_
  refine At.draw tab_ok mixed (by kernel_rfl) ?_; conv => whnf
  refine ⟨by omega, ?_⟩; conv => whnf
  refine ⟨by omega, ?_⟩; conv => whnf
  refine ⟨[.i x.m], fun w' hw => h.s.load (n := 1) hw.fr hx rfl, ?_⟩; conv => whnf
  refine ⟨rS (rNum x.m), ans_quiet b122 (fun w' _ => refNum_c _ q1 w'), ?_⟩; conv => whnf
  refine ⟨by (try simp only [List.length_append]); omega, ?_⟩; conv => whnf
  refine ⟨by omega, ?_⟩; conv => whnf
  refine ⟨by omega, ?_⟩; conv => whnf
  refine ⟨[.i x.f], fun w' hw => h.s.load (n := 1) hw.fr hx rfl, ?_⟩; conv => whnf
  refine ⟨rS (rNum x.f), ans_quiet b122 (fun w' _ => refNum_c _ q2 w'), ?_⟩; conv => whnf
  refine ⟨by (try simp only [List.length_append]); omega, ?_⟩; conv => whnf
  refine ⟨by omega, ?_⟩; conv => whnf
  refine ⟨by omega, ?_⟩; conv => whnf
  refine ⟨[.i x.t], fun w' hw => h.s.load (n := 1) hw.fr hx rfl, ?_⟩; conv => whnf
  refine ⟨rS (rNum x.t), ans_quiet b122 (fun w' _ => refNum_c _ q3 w'), ?_⟩; conv => whnf
  refine ⟨by (try simp only [List.length_append]); omega, ?_⟩; conv => whnf
  repeat refine zq ?_
  refine zr ?_; conv => whnf
  refine ⟨⟨by omega, by omega⟩, ?_⟩; conv => whnf
  refine At.nextH fun w' hw => ⟨i + 1, by omega, by omega, Le.of rfl rfl ⟨rfl, by rw [rSps_snoc hx]; rfl, rfl, trivial⟩, hw.keep [0] rfl rfl rfl, ⟨⟨_, _, rfl⟩, trivial⟩, trivial⟩
 ·have hge : i = e.spans.length := by have := of_decide_eq_false hc; omega
  subst hge
  repeat refine zq ?_
  refine zr ?_; conv => whnf
  refine ans_call b125 rfl (fun w' _ => refText_c _ (by omega) w') ?_; conv => whnf
  refine ⟨by (try simp only [List.length_append]); omega, ?_⟩; conv => whnf
  repeat refine zq ?_
  refine At.ret (At.doneB tab_ok hB _ rfl fun w' hw => ⟨?_, hw.fr⟩)
  unfold rText; rw [hR, List.take_length]; rfl
end Go.Proofs.YtlobacpdhglnkaaGreatDoor
namespace Go.Proofs.YtlobacpdhglnkaaGreatDoor
open Go.Vc Rt Go.Bs
theorem nodup_len {α : Type} [DecidableEq α] : ∀ {l l' : List α}, l.Nodup → (∀ x ∈ l, x ∈ l') → l.length ≤ l'.length
 | [], _, _, _ => by simp
 | x :: r, l', hn, hs => by
  have hx := hs x (by simp)
  have hn' := List.nodup_cons.1 hn
  have ih := nodup_len (l' := l'.erase x) hn'.2 fun y hy => (List.mem_erase_of_ne (fun e => hn'.1 (by rw [← e]; exact hy))).2 (hs y (List.mem_cons_of_mem _ hy))
  rw [List.length_erase_of_mem hx] at ih
  have : 0 < l'.length := List.length_pos_of_mem hx
  simp only [List.length_cons]; omega
theorem nf_start {l : List Span} (h : NF l) {s : Span} (hs : s ∈ l) : Has l s.m s.f ∧ ¬ Has l s.m (s.f - 1) := by
 refine ⟨⟨s, hs, rfl, Int.le_refl _, h.ne s hs⟩, ?_⟩
 rintro ⟨x, hx, hm, h1, h2⟩
 obtain ⟨i, hi, rfl⟩ := List.getElem_of_mem hs
 obtain ⟨j, hj, rfl⟩ := List.getElem_of_mem hx
 have hp := List.pairwise_iff_getElem.1 h.ord
 have hsi := h.ne _ (List.getElem_mem hi)
 rcases Nat.lt_trichotomy i j with e | e | e
 ·have := hp i j hi hj e
  unfold gap at this; omega
 ·subst e; omega
 ·have := hp j i hj hi e
  unfold gap at this; omega
theorem nf_nodup {l : List Span} (h : NF l) : (l.map fun s => (s.m, s.f)).Nodup := by
 unfold List.Nodup
 rw [List.pairwise_map]
 refine List.pairwise_iff_getElem.2 fun i j hi hj e hc => ?_
 have := List.pairwise_iff_getElem.1 h.ord i j hi hj e
 have h1 := h.ne _ (List.getElem_mem hi)
 simp only [Prod.mk.injEq] at hc
 unfold gap at this; omega
theorem nf_len {l E : List Span} (h : NF l) (hE : ∀ m n, Has l m n → ¬ Has l m (n - 1) → ∃ s ∈ E, s.m = m ∧ s.f = n) : l.length ≤ E.length := by
 have := nodup_len (l := l.map fun s => (s.m, s.f)) (l' := E.map fun s => (s.m, s.f)) (nf_nodup h) fun x hx => by
  obtain ⟨s, hs, rfl⟩ := List.mem_map.1 hx
  obtain ⟨h1, h2⟩ := nf_start h hs
  obtain ⟨s', hs', e1, e2⟩ := hE _ _ h1 h2
  exact List.mem_map.2 ⟨s', hs', by rw [e1, e2]⟩
 simpa using this
theorem ent_in {N : List Nd} {a : Int} {s : Span} (h : s ∈ (entB N a).spans) : s ∈ N.flatMap fun n => n.e.spans := by
 unfold entB at h
 split at h
 ·simp [zeroE] at h
 ·rename_i i hi
  obtain ⟨j, n, rfl, hj, _, hnj⟩ := hidx_spec hi
  rw [hnj] at h
  exact List.mem_flatMap.2 ⟨n, List.mem_of_getElem? hj, h⟩
theorem lacks_short {N : List Nd} (hS : Sm N) : (lacksB N).length ≤ 960 := by
 have h1 := nf_len (l := lacksB N) (E := N.flatMap fun n => n.e.spans) (norm_nf _) fun m n h0 h1 => by
  obtain ⟨a, b, ha, hb, hc, hh⟩ := has_lacks.1 h0
  have hno : ¬ Has (common (entB N a).spans (entB N b).spans) m (n - 1) := fun h => h1 (has_lacks.2 ⟨a, b, ha, hb, hc, h⟩)
  rw [has_common] at hh hno
  rw [has_norm, has_norm] at hh hno
  obtain ⟨⟨s, hs, v1, e1, f1, t1⟩, ⟨s', hs', v2, e2, f2, t2⟩⟩ := hh
  by_cases g : s.f = n
  ·exact ⟨s, ent_in hs, e1, g⟩
  ·by_cases g' : s'.f = n
   ·exact ⟨s', ent_in hs', e2, g'⟩
   ·exact absurd ⟨⟨s, hs, v1, e1, by omega, by omega⟩, ⟨s', hs', v2, e2, by omega, by omega⟩⟩ hno
 have h2 := flatMap_len (fun n : Nd => n.e.spans) 40 N hS.sp
 have := hS.len
 omega
theorem use_s : ∀ n, n < 21 → n ≠ 5 → n ≠ 6 → n ≠ 7 → hasC (usesB.getD n []) 115 = false := by decide
theorem right_spans {e : En} (h : rightB e = true) : e.spans.length ≤ 40 := by
 unfold rightB at h
 split at h
 ·cases h
 rename_i hA
 split at h
 ·cases h
 split at h
 ·cases h
 rename_i hS
 unfold badA at hA
 unfold badS at hS
 simp only [Bool.or_eq_true, Bool.not_eq_true', decide_eq_true_eq, not_or, Bool.not_eq_false] at hA
 obtain ⟨⟨⟨⟨⟨⟨_, _⟩, _⟩, _⟩, k0⟩, k1⟩, hp⟩ := hA
 by_cases hk : e.kind = 5 ∨ e.kind = 6 ∨ e.kind = 7
 ·have ha : ([5, 6, 7].any fun x => decide (e.kind = x)) = true := by
   rcases hk with e | e | e <;> rw [e] <;> decide
  rw [ha] at hS
  simp only [Bool.true_and, Bool.or_eq_true, decide_eq_true_eq, Bool.not_eq_true', not_or] at hS
  omega
 ·have h0 := List.all_eq_true.1 hp 6 (List.mem_range.2 (by decide))
  unfold okC useOf at h0
  have hu := use_s e.kind.toNat (by omega) (by omega) (by omega) (by omega)
  rw [show letters.getD 6 0 = 115 from rfl, hu, Bool.or_false, show (empties e).getD 6 true = decide (e.spans.length = 0) from rfl] at h0
  have := of_decide_eq_true h0
  omega
structure Post where
 key : Int
 e : En
 raw : List UInt8
 odd : Int
instance : Inhabited Post := ⟨⟨0, zeroE, [], 0⟩⟩
def rWords (p : Post) : List UInt8 := bif !decide (p.raw = []) then p.raw else rText p.e
def knStep (q : List SK × List Nd) (p : Post) : List SK × List Nd :=
 (signL q.1 p.key (rWords p), (addB (signL q.1 p.key (rWords p)) q.2 (sgT q.1 p.key (rWords p)).1 (sgT q.1 p.key (rWords p)).2.1 (sgT q.1 p.key (rWords p)).2.2).1)
def knL (xs : List Post) : List SK × List Nd := xs.foldl knStep ([], [])
theorem knL_snoc {xs : List Post} {k : Nat} {p : Post} (h : xs[k]? = some p) : knL (xs.take (k + 1)) = knStep (knL (xs.take k)) p := by
 rw [List.take_add_one, h]; unfold knL; rw [List.foldl_append]; rfl
theorem addB_pre (R : List SK) (N : List Nd) (k : Int) (t : List UInt8) (mk : Int) : ∃ M, (addB R N k t mk).1 = N ++ M := by
 unfold addB
 repeat' split
 all_goals first | exact ⟨[], (List.append_nil N).symm⟩ | exact ⟨_, rfl⟩
theorem fold_pre : ∀ (xs : List Post) (q : List SK × List Nd), ∃ M, (xs.foldl knStep q).2 = q.2 ++ M
 | [], q => ⟨[], (List.append_nil _).symm⟩
 | p :: xs, q => by
  obtain ⟨M1, e1⟩ := addB_pre (signL q.1 p.key (rWords p)) q.2 (sgT q.1 p.key (rWords p)).1 (sgT q.1 p.key (rWords p)).2.1 (sgT q.1 p.key (rWords p)).2.2
  obtain ⟨M2, e2⟩ := fold_pre xs (knStep q p)
  refine ⟨M1 ++ M2, ?_⟩
  show (xs.foldl knStep (knStep q p)).2 = _
  rw [e2, show (knStep q p).2 = q.2 ++ M1 from e1, List.append_assoc]
theorem known_pre (xs : List Post) (n : Nat) : ∃ M, (knL xs).2 = (knL (xs.take n)).2 ++ M := by
 obtain ⟨M, e⟩ := fold_pre (xs.drop n) (knL (xs.take n))
 refine ⟨M, ?_⟩
 rw [← e]
 unfold knL
 rw [← List.foldl_append, List.take_append_drop]
theorem readE_spans {t : List UInt8} (h : (readE t).2 = 0) : (readE t).1.spans.length ≤ 40 := by
 unfold readE at h ⊢
 cases hb : badE t with
 | true => rw [hb, if_pos rfl] at h; cases h
 | false =>
  rw [if_neg (by decide)]
  refine right_spans ?_
  unfold badE at hb
  cases hr : rightB (rawE t).1 with
  | true => rfl
  | false => rw [hr] at hb; simp at hb
theorem addB_new {R : List SK} {N : List Nd} {k mk : Int} {t : List UInt8} : (addB R N k t mk).1 = N ∨ ∃ nd, (addB R N k t mk).1 = N ++ [nd] ∧ nd.e.spans.length ≤ 40 := by
 unfold addB
 split
 ·exact .inl rfl
 split
 ·exact .inl rfl
 rename_i hre
 split
 ·exact .inl rfl
 split
 ·exact .inl rfl
 split
 ·exact .inl rfl
 split
 ·exact .inl rfl
 refine .inr ⟨_, rfl, ?_⟩
 dsimp only
 refine readE_spans ?_
 by_cases e : (readE t).2 = 0
 ·exact e
 ·exact absurd (.inl e) hre
theorem kn_small : ∀ (xs : List Post), ((knL xs).2.length ≤ xs.length ∧ (knL xs).1.length ≤ xs.length) ∧ ∀ n ∈ (knL xs).2, n.e.spans.length ≤ 40 := by
 intro xs
 have key : ∀ k, k ≤ xs.length → ((knL (xs.take k)).2.length ≤ k ∧ (knL (xs.take k)).1.length ≤ k) ∧ ∀ n ∈ (knL (xs.take k)).2, n.e.spans.length ≤ 40 := by
  intro k
  induction k with
  | zero => intro _; simp [knL]
  | succ k ih =>
   intro hk
   obtain ⟨⟨i1, i2⟩, i3⟩ := ih (by omega)
   rw [knL_snoc (p := xs[k]'(by omega)) (List.getElem?_eq_getElem (by omega))]
   generalize knL (xs.take k) = q at i1 i2 i3 ⊢
   unfold knStep
   have hl : (signL q.1 (xs[k]'(by omega)).key (rWords (xs[k]'(by omega)))).length ≤ k + 1 := by
    unfold signL; split
    ·simp; omega
    ·omega
   rcases addB_new (R := signL q.1 (xs[k]'(by omega)).key (rWords (xs[k]'(by omega)))) (N := q.2) (k := (sgT q.1 (xs[k]'(by omega)).key (rWords (xs[k]'(by omega)))).1) (t := (sgT q.1 (xs[k]'(by omega)).key (rWords (xs[k]'(by omega)))).2.1) (mk := (sgT q.1 (xs[k]'(by omega)).key (rWords (xs[k]'(by omega)))).2.2) with e | ⟨nd, e, hnd⟩
   ·simp only [e]
    exact ⟨⟨by omega, hl⟩, i3⟩
   ·simp only [e]
    refine ⟨⟨by simp; omega, hl⟩, fun n hn => ?_⟩
    rcases List.mem_append.1 hn with hn | hn
    ·exact i3 n hn
    ·rw [List.mem_singleton.1 hn]; exact hnd
 have := key xs.length (Nat.le_refl _)
 rw [List.take_length] at this
 exact this
theorem kn_sm {xs : List Post} (h : xs.length ≤ 24) : Sm (knL xs).2 := by
 obtain ⟨⟨h1, _⟩, h3⟩ := kn_small xs
 exact ⟨by omega, h3⟩
end Go.Proofs.YtlobacpdhglnkaaGreatDoor
namespace Go.Proofs.YtlobacpdhglnkaaGreatDoor
open Go.Vc Rt Go.Bs
set_option maxHeartbeats 1000000
def encP (p : Post) (k y s : Value) : List CV := [.i p.key, .i p.e.author, .i p.e.seq, .i p.e.day, .x k, .i p.e.kind, .i p.e.circle, .i p.e.who, .i p.e.n, .i p.e.m, .i p.e.ref, .x y, .x s, .s p.e.text, .s p.raw, .i p.odd]
def vP (p : Post) (k y s : Value) : Value := .agg #[.int .i64 p.key, .int .i64 p.e.author, .int .i64 p.e.seq, .int .i64 p.e.day, k, .int .i64 p.e.kind, .int .i64 p.e.circle, .int .i64 p.e.who, .int .i64 p.e.n, .int .i64 p.e.m, .int .i64 p.e.ref, y, s, sv p.e.text, sv p.raw, .int .i64 p.odd]
def postT : Ty Post where
 size := 16
 rel := fun S w p l => ∃ k y s, l = encP p k y s ∧ EnIn S w p.e k y s ∧ EnQ p.e ∧ iR p.key
 len := fun ⟨k, y, s, h, _⟩ => by rw [h]; rfl
 fr := fun hf ⟨k, y, s, h, h1, h2⟩ => ⟨k, y, s, h, h1.fr hf, h2⟩
 av := fun hs ⟨k, y, s, h, h1, h2⟩ => ⟨k, y, s, h, ⟨h1.k.avoid hs, h1.y.avoid hs, h1.s.avoid hs⟩, h2⟩
def bad08 (p : Post) : Bool := bif decide ((600 : Int) < p.raw.length) then true else !fewE p.e
def few08 (xs : List Post) (n : Int) : Bool := bif (List.range xs.length).all (fun i => bif decide ((i : Int) ≤ n) then !bad08 (xs.getD i default) else true) then decide ((xs.length : Int) ≤ n) else false
def bad42 (p : Post) : Bool := bif decide ((180 : Int) < p.raw.length) then true else decide ((160 : Int) < p.e.text.length)
def few42 (keys : List Int) (xs : List Post) (n : Int) : Bool := bif (bif !decide ((keys.length : Int) ≤ 8) then true else !few08 xs n) then false else (List.range xs.length).all (fun i => !bad42 (xs.getD i default))
theorem getD_post {xs : List Post} {i : Nat} (h : i < xs.length) : xs[i]? = some (xs.getD i default) := by
 rw [List.getElem?_eq_getElem h, List.getD_eq_getElem?_getD, List.getElem?_eq_getElem h]; rfl
theorem few_spec {keys : List Int} {xs : List Post} {n : Int} (h : few42 keys xs n = true) : (xs.length : Int) ≤ n ∧ ∀ p ∈ xs, fewE p.e = true ∧ p.raw.length ≤ 180 := by
 unfold few42 at h
 cases h1 : few08 xs n with
 | false => rw [h1] at h; simp at h
 | true =>
  rw [h1] at h
  have h2 : ((List.range xs.length).all fun i => !bad42 (xs.getD i default)) = true := by
   revert h
   cases decide ((keys.length : Int) ≤ 8) <;> simp
  unfold few08 at h1
  cases h3 : (List.range xs.length).all (fun i => bif decide ((i : Int) ≤ n) then !bad08 (xs.getD i default) else true) with
  | false => rw [h3] at h1; cases h1
  | true =>
   rw [h3] at h1
   have hn := of_decide_eq_true h1
   refine ⟨hn, fun p hp => ?_⟩
   obtain ⟨i, hi, rfl⟩ := List.getElem_of_mem hp
   have e := getD_post hi
   rw [List.getElem?_eq_getElem hi] at e
   have e := Option.some.inj e
   have a1 := List.all_eq_true.1 h3 i (List.mem_range.2 hi)
   have a2 := List.all_eq_true.1 h2 i (List.mem_range.2 hi)
   rw [← e] at a1 a2
   rw [show decide ((i : Int) ≤ n) = true from decide_eq_true (by omega)] at a1
   simp only [cond_true, Bool.not_eq_true'] at a1 a2
   unfold bad08 at a1
   unfold bad42 at a2
   refine ⟨?_, ?_⟩
   ·revert a1
    cases decide ((600 : Int) < xs[i].raw.length) <;> simp
   ·have : decide ((180 : Int) < xs[i].raw.length) = false := by
     revert a2
     cases decide ((180 : Int) < xs[i].raw.length) <;> simp
    have := of_decide_eq_false this
    omega
theorem fewKeys_c (keys : List Int) (kv : Value) (liars seed : Int) (w : World) (h : SlOf intT [] w kv keys) : Ans Tryz.prog 29 [vSt kv liars seed] (.b (decide ((keys.length : Int) ≤ 8))) w := by
 have hln := h.len
 refine calls_plainB [.s (.agg (encSt kv liars seed))] Tryz.func29 rfl rfl (Nat.le_of_ble_eq_true rfl) rfl fun B hB => ?_
 repeat refine zq ?_
 refine zr ?_; conv => whnf
 refine ⟨h.one, ?_⟩; conv => whnf
 intro b; conv => whnf
 repeat refine zq ?_
 refine zr ?_; conv => whnf
 refine ⟨h.sl, ?_⟩; conv => whnf
 repeat refine zq ?_
 refine At.ret (At.doneB tab_ok hB _ rfl fun w' hw => ⟨?_, hw.fr⟩)
 rw [hln]
theorem few08_c (xs : List Post) (n : Int) (v : Value) (w : World) (h : SlOf postT [] w v xs) : Ans Tryz.prog 30 [v, vI n] (.b (few08 xs n)) w := by
 have hln := h.len
 have hsm := h.small
 refine calls_plainB [.x v, .i n] Tryz.func30 rfl rfl (Nat.le_of_ble_eq_true rfl) rfl fun B hB => ?_
 repeat refine zq ?_
 refine zr ?_; conv => whnf
 repeat refine zq ?_
 refine zr ?_; conv => whnf
 repeat refine zq ?_
 refine At.block ?_
 refine At.loopF (fun k : Nat => { N := Tryz.f30.ntmps, sl := [(0, some (.x v)), (1, some (.i n)), (5, some (.i k))], gl := [], hp := [], S := [], ws := w }) (fun k => k ≤ xs.length ∧ ∀ j, j < k → (fun i : Nat => bif decide ((i : Int) ≤ n) then !bad08 (xs.getD i default) else true) j = true) (fun k => xs.length - k)
  (fun w' hw => ⟨0, ⟨Nat.zero_le _, fun j hj => by omega⟩, Le.of rfl rfl ⟨rfl, rfl, rfl, trivial⟩, WF.plain rfl, hw.same rfl rfl rfl⟩) ?_
 intro k ⟨hk, hall⟩
 repeat refine zq ?_
 refine zr ?_; conv => whnf
 refine ⟨h.sl, ?_⟩; conv => whnf
 repeat refine zq ?_
 refine At.cond rfl (fun hc => At.skip ?_) (fun hc => At.exit ?_)
 ·have hlt : k < xs.length := by
   by_cases e : (k : Int) < slen v
   ·omega
   ·simp [e] at hc
  have hkn : (k : Int) ≤ n := by
   by_cases e : (k : Int) ≤ n
   ·exact e
   ·simp [e] at hc
  have hx := getD_post (xs := xs) hlt
  generalize hX : xs.getD k default = p at hx
  obtain ⟨_, ⟨kk, yy, ss, rfl, hin, hQ, hkey⟩, hc2⟩ := h.at hx
  repeat refine zq ?_
  refine At.block ?_
  repeat refine zq ?_
  refine zr ?_; conv => whnf
  refine ⟨by omega, ?_⟩; conv => whnf
  refine ⟨by omega, ?_⟩; conv => whnf
  refine ⟨[.s p.raw], fun w' hw => (hc2 w' hw.fr).part (n := 1) rfl, ?_⟩; conv => whnf
  refine ⟨gimp_of (by omega), ?_⟩; conv => whnf
  refine ⟨gimp_of (by omega), ?_⟩; conv => whnf
  refine ⟨encE p.e kk yy ss, gimp_of (fun w' hw => (hc2 w' hw.fr).part (n := 13) rfl), ?_⟩; conv => whnf
  refine ⟨.b (fewE p.e), gimp_of (ans_quiet b72 (fun w' hw => fewEntry_c p.e kk yy ss [] w' (hin.fr hw.fr))), ?_⟩; conv => whnf
  repeat refine zq ?_
  refine At.cond rfl (fun hq => ?_) (fun hq => At.skip ?_)
  ·have e : bad08 p = true := hq
   repeat refine zq ?_
   refine zr ?_; conv => whnf
   repeat refine zq ?_
   refine At.ret (At.doneB tab_ok hB _ rfl fun w' hw => ⟨?_, hw.fr⟩)
   have ef : (List.range xs.length).all (fun i : Nat => bif decide ((i : Int) ≤ n) then !bad08 (xs.getD i default) else true) = false := all_false hlt (by rw [hX, e, show decide ((k : Int) ≤ n) = true from decide_eq_true hkn]; rfl)
   unfold few08
   rw [ef]; rfl
  ·have e : bad08 p = false := hq
   repeat refine zq ?_
   refine zr ?_; conv => whnf
   refine ⟨⟨by omega, by omega⟩, ?_⟩; conv => whnf
   refine At.next fun w' hw => ⟨k + 1, ⟨by omega, fun j hj => ?_⟩, by omega, Le.of rfl rfl ⟨rfl, rfl, rfl, trivial⟩, WF.plain rfl, hw.keep [] rfl rfl rfl⟩
   rcases Nat.lt_or_ge j k with hj' | hj'
   ·exact hall j hj'
   ·obtain rfl : j = k := by omega
    simp only
    rw [hX, e]
    cases decide ((j : Int) ≤ n) <;> rfl
 ·have hex : k = xs.length ∨ n < k := by
   by_cases e : (k : Int) < slen v
   ·by_cases e2 : (k : Int) ≤ n
    ·simp [e, e2] at hc
    ·omega
   ·omega
  have ht : (List.range xs.length).all (fun i : Nat => bif decide ((i : Int) ≤ n) then !bad08 (xs.getD i default) else true) = true := all_true fun j hj => by
   rcases Nat.lt_or_ge j k with hj' | hj'
   ·exact hall j hj'
   ·rw [show decide ((j : Int) ≤ n) = false from decide_eq_false (by omega)]; rfl
  repeat refine zq ?_
  refine zr ?_; conv => whnf
  refine ⟨h.sl, ?_⟩; conv => whnf
  repeat refine zq ?_
  refine At.ret (At.doneB tab_ok hB _ rfl fun w' hw => ⟨?_, hw.fr⟩)
  unfold few08
  rw [ht, hln]; rfl
theorem few42_c (keys : List Int) (xs : List Post) (n : Int) (kv : Value) (liars seed : Int) (v : Value) (w : World) (hk : SlOf intT [] w kv keys) (h : SlOf postT [] w v xs) : Ans Tryz.prog 5 [vSt kv liars seed, v, vI n] (.b (few42 keys xs n)) w := by
 have hln := h.len
 have hsm := h.small
 refine calls_plainB [.s (.agg (encSt kv liars seed)), .x v, .i n] Tryz.func5 rfl rfl (Nat.le_of_ble_eq_true rfl) rfl fun B hB => ?_
 repeat refine zq ?_
 refine zr ?_; conv => whnf
 refine ⟨hk.one, ?_⟩; conv => whnf
 intro b; conv => whnf
 repeat refine zq ?_
 refine zr ?_; conv => whnf
 refine ans_call b29 rfl (fun w' hw => fewKeys_c keys kv liars seed w' (hk.fr hw.fr)) ?_; conv => whnf
 refine ⟨.b (few08 xs n), gimp_of (ans_quiet b30 (fun w' hw => few08_c xs n v w' (h.fr hw.fr))), ?_⟩; conv => whnf
 repeat refine zq ?_
 refine At.cond rfl (fun hq => ?_) (fun hq => At.skip ?_)
 ·repeat refine zq ?_
  refine zr ?_; conv => whnf
  repeat refine zq ?_
  refine At.ret (At.doneB tab_ok hB _ rfl fun w' hw => ⟨?_, hw.fr⟩)
  unfold few42
  rw [hq]; rfl
 repeat refine zq ?_
 refine zr ?_; conv => whnf
 repeat refine zq ?_
 refine At.block ?_
 refine At.loopF (fun k : Nat => { N := Tryz.f5.ntmps, sl := [(1, some (.x v)), (7, some (.i k))], gl := [], hp := [], S := [], ws := w }) (fun k => k ≤ xs.length ∧ ∀ j, j < k → (fun i : Nat => !bad42 (xs.getD i default)) j = true) (fun k => xs.length - k)
  (fun w' hw => ⟨0, ⟨Nat.zero_le _, fun j hj => by omega⟩, Le.of rfl rfl ⟨rfl, rfl, trivial⟩, WF.plain rfl, hw.keep [] rfl rfl rfl⟩) ?_
 intro k ⟨hk, hall⟩
 repeat refine zq ?_
 refine zr ?_; conv => whnf
 refine ⟨h.sl, ?_⟩; conv => whnf
 repeat refine zq ?_
 refine At.cond rfl (fun hc => At.skip ?_) (fun hc => At.exit ?_)
 ·have hlt : k < xs.length := by have := of_decide_eq_true hc; omega
  have hx := getD_post (xs := xs) hlt
  generalize hX : xs.getD k default = p at hx
  obtain ⟨_, ⟨kk, yy, ss, rfl, hin, hQ, hkey⟩, hc2⟩ := h.at hx
  repeat refine zq ?_
  refine At.block ?_
  repeat refine zq ?_
  refine zr ?_; conv => whnf
  refine ⟨by omega, ?_⟩; conv => whnf
  refine ⟨by omega, ?_⟩; conv => whnf
  refine ⟨[.s p.raw], fun w' hw => (hc2 w' hw.fr).part (n := 1) rfl, ?_⟩; conv => whnf
  refine ⟨gimp_of (by omega), ?_⟩; conv => whnf
  refine ⟨gimp_of (by omega), ?_⟩; conv => whnf
  refine ⟨[.s p.e.text], gimp_of (fun w' hw => (hc2 w' hw.fr).part (n := 1) rfl), ?_⟩; conv => whnf
  repeat refine zq ?_
  refine At.cond rfl (fun hq2 => ?_) (fun hq2 => At.skip ?_)
  ·have e : bad42 p = true := hq2
   repeat refine zq ?_
   refine zr ?_; conv => whnf
   repeat refine zq ?_
   refine At.ret (At.doneB tab_ok hB _ rfl fun w' hw => ⟨?_, hw.fr⟩)
   have ef : (List.range xs.length).all (fun i : Nat => !bad42 (xs.getD i default)) = false := all_false hlt (by rw [hX, e]; rfl)
   unfold few42
   rw [hq, ef]; rfl
  ·have e : bad42 p = false := hq2
   repeat refine zq ?_
   refine zr ?_; conv => whnf
   refine ⟨⟨by omega, by omega⟩, ?_⟩; conv => whnf
   refine At.next fun w' hw => ⟨k + 1, ⟨by omega, fun j hj => ?_⟩, by omega, Le.of rfl rfl ⟨rfl, rfl, trivial⟩, WF.plain rfl, hw.keep [] rfl rfl rfl⟩
   rcases Nat.lt_or_ge j k with hj' | hj'
   ·exact hall j hj'
   ·obtain rfl : j = k := by omega
    simp only
    rw [hX, e]; rfl
 ·have hge : k = xs.length := by have := of_decide_eq_false hc; omega
  subst hge
  repeat refine zq ?_
  refine zr ?_; conv => whnf
  repeat refine zq ?_
  refine At.ret (At.doneB tab_ok hB _ rfl fun w' hw => ⟨?_, hw.fr⟩)
  unfold few42
  rw [hq, show (List.range xs.length).all (fun i : Nat => !bad42 (xs.getD i default)) = true from all_true hall]; rfl
theorem words_c (p : Post) (k y s : Value) (w : World) (h : EnIn [] w p.e k y s) (hQ : EnQ p.e) (hF : fewE p.e = true) : Ans Tryz.prog 33 [vP p k y s] (rS (rWords p)) w := by
 refine calls_plainB [.s (.agg (encP p k y s))] Tryz.func33 rfl rfl (Nat.le_of_ble_eq_true rfl) rfl fun B hB => ?_
 repeat refine zq ?_
 refine zr ?_; conv => whnf
 refine ⟨h.k.one, ?_⟩; conv => whnf
 refine ⟨h.y.one, ?_⟩; conv => whnf
 refine ⟨h.s.one, ?_⟩; conv => whnf
 intro b; conv => whnf
 repeat refine zq ?_
 refine zr ?_; conv => whnf
 repeat refine zq ?_
 refine At.cond rfl (fun hq => ?_) (fun hq => At.skip ?_)
 ·repeat refine zq ?_
  refine zr ?_; conv => whnf
  repeat refine zq ?_
  refine At.ret (At.doneB tab_ok hB _ rfl fun w' hw => ⟨?_, hw.fr⟩)
  unfold rWords; rw [hq]; rfl
 ·repeat refine zq ?_
  refine zr ?_; conv => whnf
  refine ans_call b79 rfl (fun w' hw => refTextE_c p.e k y s [] w' (h.fr hw.fr) hQ hF) ?_; conv => whnf
  repeat refine zq ?_
  refine At.ret (At.doneB tab_ok hB _ rfl fun w' hw => ⟨?_, hw.fr⟩)
  unfold rWords; rw [hq]; rfl
theorem apart48_r (h rb : Nat) (N : List Nd) (hN : NOk N) (a b : Int) (w : World) (H : HR [] w h rb N) : Ans Tryz.prog 14 [ptr h, vI a, vI b] (.b (apartB N a b)) w := by
 refine calls_e [.x (ptr h), .i a, .i b] Tryz.func14 rfl rfl (Nat.le_of_ble_eq_true rfl) trivial fun B hB => ?_
 repeat refine zq ?_
 refine zr ?_; conv => whnf
 repeat refine zq ?_
 refine zr ?_; conv => whnf
 refine ⟨.b (beforeB N a b), gimp_of (ans_quiet b42 (fun w' hw => before_r h rb N hN a b w' (H.ext hw.fr))), ?_⟩; conv => whnf
 refine ⟨.b (beforeB N b a), gimp_of (ans_quiet b42 (fun w' hw => before_r h rb N hN b a w' (H.ext hw.fr))), ?_⟩; conv => whnf
 repeat refine zq ?_
 refine At.ret (At.doneB tab_ok hB _ rfl fun w' hw => ⟨?_, hw.fr⟩)
 simp only [RV.den, SV.den, CV.den, band, apartB, decide_not]
theorem idx_bd {R : List SK} {q : SK} {i : Int} (h : alook (idxL R) q = some i) : 0 ≤ i ∧ i < R.length := by
 unfold alook at h
 obtain ⟨p, hp, rfl⟩ := Option.map_eq_some_iff.1 h
 have hm := List.mem_of_find?_eq_some hp
 unfold idxL at hm
 obtain ⟨⟨x, j⟩, hj, rfl⟩ := List.mem_map.1 hm
 have := (List.getElem?_eq_some_iff.1 (List.mk_mem_zipIdx_iff_getElem?.1 hj)).1
 simp only; omega
theorem signM_R {R : List SK} {k : Int} {t : List UInt8} (hl : R.length ≤ 1000000) : iR (signM R k t) := by
 unfold signM
 split
 ·cases he : alook (idxL R) (k, t) with
  | none => simp only [Option.getD_none]; exact ⟨by omega, by omega⟩
  | some i =>
   have := idx_bd he
   simp only [Option.getD_some]; exact ⟨by omega, by omega⟩
 ·exact ⟨by decide, by decide⟩
theorem rWords_len {p : Post} (h : fewE p.e = true ∧ p.raw.length ≤ 180) : (rWords p).length ≤ 10000 := by
 unfold rWords
 have := rText_len h.1
 cases decide (p.raw = [])
 ·simp only [Bool.not_false, cond_true]; omega
 ·simpa using this
theorem sgT_ok {R : List SK} {p : Post} (hk : iR p.key) (hl : (rWords p).length ≤ 10000) : okSK ((sgT R p.key (rWords p)).1, (sgT R p.key (rWords p)).2.1) ∧ (sgT R p.key (rWords p)).2.1.length ≤ 900000 := by
 unfold sgT
 split
 ·exact ⟨⟨hk, by show (rWords p).length ≤ _; omega⟩, by show (rWords p).length ≤ _; omega⟩
 ·exact ⟨⟨by simp [iR], by simp⟩, by simp⟩
theorem kn_ok (xs : List Post) (hl : xs.length ≤ 24) (hP : ∀ p ∈ xs, (fewE p.e = true ∧ p.raw.length ≤ 180) ∧ iR p.key) : NOk (knL xs).2 := by
 have key : ∀ k, k ≤ xs.length → NOk (knL (xs.take k)).2 := by
  intro k
  induction k with
  | zero => intro _; exact nok_nil
  | succ k ih =>
   intro hk
   have hlt : k < xs.length := hk
   have hN := ih (by omega)
   have hs := kn_small (xs.take k)
   rw [List.length_take] at hs
   rw [knL_snoc (p := xs[k]) (List.getElem?_eq_getElem hlt)]
   obtain ⟨hf, hkey⟩ := hP xs[k] (List.getElem_mem hlt)
   have hw := rWords_len hf
   generalize knL (xs.take k) = q at hN hs ⊢
   obtain ⟨o1, o2⟩ := sgT_ok (R := q.1) hkey hw
   refine nok_add hN o1 o2 ?_
   unfold sgT
   split
   ·exact signM_R (by omega)
   ·exact ⟨by decide, by decide⟩
 have := key xs.length (Nat.le_refl _)
 rwa [List.take_length] at this
theorem known_c (xs : List Post) (v : Value) (w : World) (hG : Gl w) (h : SlOf postT [] w v xs) (hl : xs.length ≤ 24) (hP : ∀ p ∈ xs, fewE p.e = true ∧ p.raw.length ≤ 180) :
  Calls Tryz.prog 6 #[v] w (fun e w' => ∃ i : Nat × Nat × List Nat, e = .returned (ptr i.1) ∧ (histO i.1 i.2.1 i.2.2 (knL xs).2).holds w' ∧ (∀ b ∈ i.2.2, w.heap.size ≤ b) ∧ Ext w w') := by
 have hln := h.len
 have hkeys : ∀ p ∈ xs, iR p.key := fun p hp => by
  obtain ⟨i, hi, rfl⟩ := List.getElem_of_mem hp
  obtain ⟨l, ⟨_, _, _, _, _, _, hk⟩, _⟩ := h.elem i _ (List.getElem?_eq_getElem hi)
  exact hk
 refine calls_e [.x v] Tryz.func6 rfl rfl (Nat.le_of_ble_eq_true rfl) trivial fun B hB => ?_
 repeat refine zq ?_
 refine zr ?_; conv => whnf
 repeat refine zq ?_
 refine zr ?_; conv => whnf
 refine newAb_call (fun i : Nat × List Nat => .x (ptr i.1)) (fun i => i.2) (fun i => RingQ i.1 i.2 []) b19 (fun _ => rfl) (fun w' hw => ring_new w' (hG.ext hw.fr)) ?_
 rintro ⟨rb, BR0⟩
 conv => whnf
 repeat refine zq ?_
 refine zr ?_; conv => whnf
 refine newAb_call (fun i : Nat × List Nat => .x (ptr i.1)) (fun i => i.2) (fun i => HistQ i.1 rb i.2 []) b18 (fun _ => rfl) (fun w' hw => hnew8 rb w' (hG.ext hw.fr)) ?_
 rintro ⟨hb, B0⟩
 conv => whnf
 repeat refine zq ?_
 refine zr ?_; conv => whnf
 repeat refine zq ?_
 refine At.block ?_
 refine At.loopH (fun p' : Nat × List Nat × List Nat => { N := Tryz.f6.ntmps, sl := [(0, some (.x v)), (3, some (.x ((ptr rb)))), (4, some (.x ((ptr hb)))), (5, some (.i p'.1))], gl := [], hp := [(1, histO hb rb p'.2.2 (knL (xs.take p'.1)).2), (0, ringO rb p'.2.1 (knL (xs.take p'.1)).1)], S := [], ws := w }) (fun p' : Nat × List Nat × List Nat => p'.1 ≤ xs.length) (fun p' : Nat × List Nat × List Nat => xs.length - p'.1)
  (fun w' hw => ⟨(0, BR0, B0), Nat.zero_le _, Le.of rfl rfl ⟨rfl, rfl, rfl, rfl, trivial⟩, hw.keep [1, 0] rfl rfl rfl, trivial, trivial⟩) ?_
 rintro ⟨k, BR, B⟩ hk
 simp only at hk ⊢
 repeat refine zq ?_
 refine zr ?_; conv => whnf
 refine ⟨h.sl, ?_⟩; conv => whnf
 repeat refine zq ?_
 refine At.cond rfl (fun hc => At.skip ?_) (fun hc => At.exit ?_)
 ·have hlt : k < xs.length := by
   by_cases e : (k : Int) < slen v
   ·omega
   ·simp [e] at hc
  have hx := getD_post (xs := xs) hlt
  generalize xs.getD k default = p at hx
  have hmem := List.mem_of_getElem? hx
  obtain ⟨_, ⟨kk, yy, ss, rfl, hin, hQ, hkey⟩, hc2⟩ := h.at hx
  have hF := hP p hmem
  have hwl := rWords_len hF
  have hks := kn_small (xs.take k)
  rw [List.length_take] at hks
  have hN := kn_ok (xs.take k) (by rw [List.length_take]; omega) (fun p hp => ⟨hP p (List.mem_of_mem_take hp), hkeys p (List.mem_of_mem_take hp)⟩)
  have hst := knL_snoc hx
  generalize knL (xs.take k) = q at hks hN hst ⊢
  obtain ⟨R, N⟩ := q
  simp only at hks hN
  obtain ⟨o1, o2⟩ := sgT_ok (R := R) hkey hwl
  repeat refine zq ?_
  refine At.block ?_
  repeat refine zq ?_
  refine At.planG tab_ok mixed [] (.take 0 (.take 1 (.take 2 (.take 3 (.take 4 (.take 5 (.take 6 (.take 7 (.take 8 (.take 9 (.take 10 (.br 11 (.br 12 (.br 13 (.done) (.nob)) (.nob)) (.nob))))))))))))) (by kernel_rfl) (by kernel_rfl) trivial ?_; conv => whnf
  refine ⟨by omega, ?_⟩; conv => whnf
  refine ⟨by omega, ?_⟩; conv => whnf
  refine ⟨[.i p.key], fun w' hw => (hc2 w' hw).part (n := 1) rfl, ?_⟩; conv => whnf
  refine ⟨by omega, ?_⟩; conv => whnf
  refine ⟨by omega, ?_⟩; conv => whnf
  refine ⟨encP p kk yy ss, fun w' hw => (hc2 w' hw).part (n := 16) rfl, ?_⟩; conv => whnf
  refine ⟨?_, trivial⟩; conv => whnf
  refine ans_call (r := rS (rWords p)) b33 rfl (fun w' hw => words_c p kk yy ss w' (hin.fr hw.fr) hQ hF.1) ?_; conv => whnf
  refine ⟨⟨trivial, fun w' hw => hw.fr⟩, ?_⟩; conv => whnf
  refine ⟨?_, trivial⟩; conv => whnf
  refine sign_call (id := 0) (rb := rb) (B := BR) (R := R) (k := p.key) (t := rWords p) rfl ⟨hkey, by show (rWords p).length ≤ _; omega⟩ (by omega) (fun w' hw => (hG.ext hw.fr).size) ?_
  intro BR2; conv => whnf
  refine ⟨⟨trivial, fun w' hw => hw.fr⟩, ?_⟩; conv => whnf
  refine ⟨?_, trivial⟩; conv => whnf
  refine add_call (id := 1) (h := hb) (rb := rb) (B := B) (N := N) (R := signL R p.key (rWords p)) (k := (sgT R p.key (rWords p)).1) (mk := (sgT R p.key (rWords p)).2.2) (t := (sgT R p.key (rWords p)).2.1) rfl hN o1 o2 (fun w' hw => hG.ext hw.fr) (fun w' hw => ringO_rr (hw.objs _ (look_mem (s := 0) rfl)) (fun b hb hm => hw.apart (i := 1) (j := 0) rfl rfl (by decide) b (mem_nub.2 hb) (mem_nub.2 hm))) ?_
  intro B4; conv => whnf
  refine ⟨⟨trivial, fun w' hw => hw.fr⟩, ?_⟩; conv => whnf
  repeat refine zq ?_
  refine zr ?_; conv => whnf
  refine ⟨⟨by omega, by omega⟩, ?_⟩; conv => whnf
  refine At.nextH fun w' hw => ⟨(k + 1, BR2, B4), by simp only; omega, by simp only; omega, Le.of rfl rfl ⟨rfl, rfl, rfl, rfl, trivial⟩, hw.keep [1, 0] (by simp only [hst]; rfl) rfl rfl, trivial, trivial⟩
 ·have hge : k = xs.length := by
   by_cases e : (k : Int) < slen v
   ·simp [e] at hc
   ·omega
  subst hge
  rw [List.take_length]
  repeat refine zq ?_
  refine zr ?_; conv => whnf
  repeat refine zq ?_
  refine At.ret (At.doneB tab_ok hB _ rfl fun w' hw => ?_)
  refine ⟨(hb, rb, B), rfl, hw.objs _ (look_mem (s := 1) rfl), fun b hb' => ?_, hw.fr⟩
  exact (hw.fresh (id := 1) rfl b (mem_nub.2 hb')).elim (fun h => by cases h) _root_.id
end Go.Proofs.YtlobacpdhglnkaaGreatDoor
namespace Go.Proofs.YtlobacpdhglnkaaGreatDoor
open Go.Vc Rt Go.Bs
theorem u22 : Tryz.prog.underlying 22 = some (.slice 3) := by kernel_rfl
theorem u30 : Tryz.prog.underlying 30 = some (.slice 50) := by kernel_rfl
theorem u25 : Tryz.prog.underlying 25 = some (.slice 64) := by kernel_rfl
theorem u24 : Tryz.prog.underlying 24 = some (.struct (Tryz.prog.fieldsOf 24)) := by kernel_rfl
theorem u38 : Tryz.prog.underlying 38 = some (.struct (Tryz.prog.fieldsOf 38)) := by kernel_rfl
theorem u50 : Tryz.prog.underlying 50 = some (.struct (Tryz.prog.fieldsOf 50)) := by kernel_rfl
theorem u64 : Tryz.prog.underlying 64 = some (.struct (Tryz.prog.fieldsOf 64)) := by kernel_rfl
theorem uO3 : Tryz.prog.underlying 3 = some (.int .i64) := by kernel_rfl
theorem uO4 : Tryz.prog.underlying 4 = some .bool := by kernel_rfl
theorem uO9 : Tryz.prog.underlying 9 = some .string := by kernel_rfl
theorem fl24 : (Tryz.prog.fieldsOf 24).toList.map (fun f => (f.type, f.offset)) = [(22, 0), (3, 1), (3, 2)] := by kernel_rfl
theorem fl38 : (Tryz.prog.fieldsOf 38).toList.map (fun f => (f.type, f.offset)) = [(3, 0), (3, 1), (3, 2), (22, 3), (3, 4), (3, 5), (3, 6), (3, 7), (3, 8), (3, 9), (22, 10), (30, 11), (9, 12)] := by kernel_rfl
theorem fl50 : (Tryz.prog.fieldsOf 50).toList.map (fun f => (f.type, f.offset)) = [(3, 0), (3, 1), (3, 2)] := by kernel_rfl
theorem fl64 : (Tryz.prog.fieldsOf 64).toList.map (fun f => (f.type, f.offset)) = [(3, 0), (38, 1), (9, 14), (3, 15)] := by kernel_rfl
theorem k3 : Tryz.prog.cellsOf 3 = 1 := by kernel_rfl
theorem k9 : Tryz.prog.cellsOf 9 = 1 := by kernel_rfl
theorem k22 : Tryz.prog.cellsOf 22 = 1 := by kernel_rfl
theorem k30 : Tryz.prog.cellsOf 30 = 1 := by kernel_rfl
theorem k24 : Tryz.prog.cellsOf 24 = 3 := by kernel_rfl
theorem k38 : Tryz.prog.cellsOf 38 = 13 := by kernel_rfl
theorem k50 : Tryz.prog.cellsOf 50 = 3 := by kernel_rfl
theorem k64 : Tryz.prog.cellsOf 64 = 16 := by kernel_rfl
def intQ : Ty Int where
 size := 1
 rel := fun _ _ n l => l = [.i n] ∧ iR n
 len := fun ⟨h, _⟩ => by rw [h]; rfl
 fr := fun _ h => h
 av := fun _ h => h
def spanQ : Ty Span where
 size := 3
 rel := fun _ _ s l => l = encS s ∧ iR s.m ∧ iR s.f ∧ iR s.t
 len := fun ⟨h, _⟩ => by rw [h]; rfl
 fr := fun _ h => h
 av := fun _ h => h
theorem SlOf.ints {S : List Nat} {w : World} {v : Value} {xs : List Int} (h : SlOf intQ S w v xs) : SlOf intT S w v xs ∧ ∀ x ∈ xs, iR x :=
 ⟨⟨h.sl, h.len, h.small, h.av, fun i x hx => by obtain ⟨l, ⟨h1, _⟩, h2⟩ := h.elem i x hx; exact ⟨l, h1, h2⟩⟩, fun x hx => by
  obtain ⟨i, hi, rfl⟩ := List.getElem_of_mem hx
  obtain ⟨l, ⟨_, h1⟩, _⟩ := h.elem i _ (List.getElem?_eq_getElem hi)
  exact h1⟩
theorem SlOf.spansQ {S : List Nat} {w : World} {v : Value} {xs : List Span} (h : SlOf spanQ S w v xs) : SlOf spT S w v xs ∧ ∀ s ∈ xs, iR s.m ∧ iR s.f ∧ iR s.t :=
 ⟨⟨h.sl, h.len, h.small, h.av, fun i x hx => by obtain ⟨l, ⟨h1, _⟩, h2⟩ := h.elem i x hx; exact ⟨l, h1, h2⟩⟩, fun x hx => by
  obtain ⟨i, hi, rfl⟩ := List.getElem_of_mem hx
  obtain ⟨l, ⟨_, h1⟩, _⟩ := h.elem i _ (List.getElem?_eq_getElem hi)
  exact h1⟩
instance : Inhabited Span := ⟨⟨0, 0, 0⟩⟩
section
variable {H : Type} {enc : TypeId × Value → H} {w : World} {spare : Nat → Bool} {held : Bool}
theorem cells_get {base k : Nat} {a : Addr} {cs : List Value} (h : w.cells? base a k = some cs) : cs.length = k ∧ ∀ (j : Nat) u, cs[j]? = some u → w.cell? (a.add j) = some u := by
 unfold World.cells? at h
 split at h
 ·have hl := mapM_some_length h
  simp at hl
  refine ⟨hl, fun j u hu => ?_⟩
  have hj : j < k := by have := (List.getElem?_eq_some_iff.1 hu).1; omega
  have := mapM_some_get h j j (by simp [hj])
  rw [this]; exact hu
 ·cases h
theorem inR_of_wf {n : Int} (h : (Lit.int .i64 n).wf = true) : inR n := by
 simp only [Lit.wf, Bool.and_eq_true, decide_eq_true_eq] at h
 exact ⟨h.1, h.2⟩
theorem slOf_open {α : Type} [Inhabited α] {T : Ty α} {t e : TypeId} (ht : Tryz.prog.underlying t = some (.slice e)) (hc : Tryz.prog.cellsOf e = T.size) (hpos : 0 < T.size) (hT : ∀ cs n x, DataW.trod enc Tryz.prog w 0 spare held n e cs = some x → ∃ (a : α) (l : List CV), T.rel [] w a l ∧ dens l = cs)
  {fuel : Nat} {cs : List Value} {x : DataW H × List MemPlace} (h : DataW.trod enc Tryz.prog w 0 spare held fuel t cs = some x) : ∃ v xs, cs = [v] ∧ SlOf T [] w v xs := by
 rcases Deep.open_slice ht h with ⟨rfl, _⟩ | ⟨a, len, cap, m, n, D, Pl, rfl, hb, hlc, hcm, hm, _, hx⟩
 ·exact ⟨_, [], rfl, ⟨⟨none, 0, 0, rfl, fun _ => ⟨rfl, rfl⟩, Nat.le_refl _⟩, rfl, by simp, fun a n c e => (by cases e), fun i x hx => (by simp at hx)⟩⟩
 ·have hlm : len ≤ m := by rw [hm]; split <;> omega
  have key : ∀ i : Nat, ∃ (y : α) (l : List CV), i < len → T.rel [] w y l ∧ ∀ j u, (dens l)[j]? = some u → w.cell? ((a.add (i * T.size)).add j) = some u := by
   intro i
   by_cases hi : i < len
   ·obtain ⟨cs', h1, h2⟩ := hx i (by omega)
    obtain ⟨y, l, h3, h4⟩ := hT cs' n _ h2
    rw [hc] at h1
    exact ⟨y, l, fun _ => ⟨h3, fun j u hu => (cells_get h1).2 j u (by rw [← h4]; exact hu)⟩⟩
   ·exact ⟨default, [], fun h => absurd h hi⟩
  let Y : Nat → α := fun i => Classical.choose (key i)
  have hY : ∀ i, i < len → ∃ l, T.rel [] w (Y i) l ∧ ∀ j u, (dens l)[j]? = some u → w.cell? ((a.add (i * T.size)).add j) = some u := fun i hi => by
   obtain ⟨l, hl⟩ := Classical.choose_spec (key i)
   exact ⟨l, hl hi⟩
  refine ⟨_, (List.range len).map Y, rfl, ⟨⟨some a, len, cap, rfl, fun h => (by cases h), hlc⟩, by simp [slen], by simp; unfold maxLen at hcm; omega, fun b n' c' e hp => ?_, fun i y hy => ?_⟩⟩
  ·cases e
   refine ⟨(fun h => (by cases h)), ?_⟩
   simp at hp
   obtain ⟨l, h1, h2⟩ := hY 0 hp
   have hll := T.len h1
   have := h2 0 ((dens l)[0]'(by simp [dens]; omega)) (List.getElem?_eq_getElem _)
   unfold World.cell? at this
   split at this
   ·rename_i c _ _ hh
    rw [add_block, add_block] at hh
    exact (Array.getElem?_eq_some_iff.1 hh).1
   ·cases this
  ·have hi : i < len := by have := (List.getElem?_eq_some_iff.1 hy).1; simpa using this
   simp [hi] at hy
   subst hy
   obtain ⟨l, h1, h2⟩ := hY i hi
   refine ⟨l, h1, fun a' n' c' e j u hu => ?_⟩
   cases e
   have := h2 j u hu
   unfold elemAddr
   rw [Int.toNat_natCast, add_add (a.add (i * T.size)) 0 j, Nat.zero_add]
   exact this
theorem struct_get {t K : Nat} {fs : Array Field} (ht : Tryz.prog.underlying t = some (.struct fs)) {FL : List (TypeId × Nat)} (hf : fs.toList.map (fun f => (f.type, f.offset)) = FL) (hk : Tryz.prog.cellsOf t = K)
  {fuel : Nat} {cs : List Value} {x : DataW H × List MemPlace} (h : DataW.trod enc Tryz.prog w 0 spare held fuel t cs = some x) :
  cs.length = K ∧ ∀ (i : Nat) u o k, FL[i]? = some (u, o) → Tryz.prog.cellsOf u = k → ∃ n y, DataW.trod enc Tryz.prog w 0 spare held n u ((cs.drop o).take k) = some y := by
 obtain ⟨xs, n, _, _, hl, hxl, hget⟩ := DataW.trod_struct ht h
 refine ⟨by rw [hl, hk], fun i u o k hu hkk => ?_⟩
 have hfl : fs.size = FL.length := by have := congrArg List.length hf; simpa using this
 have hi : i < FL.length := (List.getElem?_eq_some_iff.1 hu).1
 rw [← hf, List.getElem?_map] at hu
 obtain ⟨f, hf1, hf2⟩ := Option.map_eq_some_iff.1 hu
 simp only [Prod.mk.injEq] at hf2
 obtain ⟨e1, e2⟩ := hf2
 have := hget i f (by simpa using hf1)
 rw [e1, e2, hkk, List.getElem?_eq_getElem (by omega)] at this
 exact ⟨n, _, this⟩
theorem int_of {n : Nat} {c : Value} {y : DataW H × List MemPlace} (h : DataW.trod enc Tryz.prog w 0 spare held n 3 [c] = some y) : ∃ m : Int, c = .int .i64 m ∧ iR m := by
 obtain ⟨m, q, _, hw⟩ := DataW.trod_int uO3 h
 simp at q
 have := inR_of_wf hw
 exact ⟨m, q, this⟩
theorem str_of {n : Nat} {c : Value} {y : DataW H × List MemPlace} (h : DataW.trod enc Tryz.prog w 0 spare held n 9 [c] = some y) : ∃ s : List UInt8, c = sv s := by
 obtain ⟨s, q, _⟩ := DataW.trod_string uO9 h
 simp at q
 refine ⟨s.data.toList, ?_⟩
 rw [q]
 obtain ⟨⟨l⟩⟩ := s
 rfl
theorem int_openQ {fuel : Nat} {cs : List Value} {x : DataW H × List MemPlace} (h : DataW.trod enc Tryz.prog w 0 spare held fuel 3 cs = some x) : ∃ (n : Int) (l : List CV), intQ.rel [] w n l ∧ dens l = cs := by
 obtain ⟨n, q, _, hw⟩ := DataW.trod_int uO3 h
 subst q
 exact ⟨n, _, ⟨rfl, inR_of_wf hw⟩, rfl⟩
theorem ints_of {n : Nat} {c : Value} {y : DataW H × List MemPlace} (h : DataW.trod enc Tryz.prog w 0 spare held n 22 [c] = some y) : ∃ xs : List Int, SlOf intT [] w c xs ∧ ∀ x ∈ xs, iR x := by
 obtain ⟨v, xs, e, hv⟩ := slOf_open (T := intQ) u22 k3 (by decide) (fun cs n x h => int_openQ h) h
 simp at e
 subst e
 exact ⟨xs, SlOf.ints hv⟩
theorem span_openQ {fuel : Nat} {cs : List Value} {x : DataW H × List MemPlace} (h : DataW.trod enc Tryz.prog w 0 spare held fuel 50 cs = some x) : ∃ (s : Span) (l : List CV), spanQ.rel [] w s l ∧ dens l = cs := by
 obtain ⟨hl, hg⟩ := struct_get u50 fl50 k50 h
 match cs, hl with
 | [a, b, c], _ =>
  obtain ⟨_, _, t0⟩ := hg 0 3 0 1 rfl k3
  obtain ⟨_, _, t1⟩ := hg 1 3 1 1 rfl k3
  obtain ⟨_, _, t2⟩ := hg 2 3 2 1 rfl k3
  obtain ⟨m, rfl, h0⟩ := int_of t0
  obtain ⟨f, rfl, h1⟩ := int_of t1
  obtain ⟨t, rfl, h2⟩ := int_of t2
  exact ⟨⟨m, f, t⟩, _, ⟨rfl, h0, h1, h2⟩, rfl⟩
theorem spans_of {n : Nat} {c : Value} {y : DataW H × List MemPlace} (h : DataW.trod enc Tryz.prog w 0 spare held n 30 [c] = some y) : ∃ xs : List Span, SlOf spT [] w c xs ∧ ∀ s ∈ xs, iR s.m ∧ iR s.f ∧ iR s.t := by
 obtain ⟨v, xs, e, hv⟩ := slOf_open (T := spanQ) u30 k50 (by decide) (fun cs n x h => span_openQ h) h
 simp at e
 subst e
 exact ⟨xs, SlOf.spansQ hv⟩
theorem entry_open {fuel : Nat} {cs : List Value} {x : DataW H × List MemPlace} (h : DataW.trod enc Tryz.prog w 0 spare held fuel 38 cs = some x) : ∃ (e : En) (k y s : Value), EnIn [] w e k y s ∧ EnQ e ∧ dens (encE e k y s) = cs := by
 obtain ⟨hl, hg⟩ := struct_get u38 fl38 k38 h
 match cs, hl with
 | [c0, c1, c2, c3, c4, c5, c6, c7, c8, c9, c10, c11, c12], _ =>
  obtain ⟨_, _, t0⟩ := hg 0 3 0 1 rfl k3
  obtain ⟨_, _, t1⟩ := hg 1 3 1 1 rfl k3
  obtain ⟨_, _, t2⟩ := hg 2 3 2 1 rfl k3
  obtain ⟨_, _, t3⟩ := hg 3 22 3 1 rfl k22
  obtain ⟨_, _, t4⟩ := hg 4 3 4 1 rfl k3
  obtain ⟨_, _, t5⟩ := hg 5 3 5 1 rfl k3
  obtain ⟨_, _, t6⟩ := hg 6 3 6 1 rfl k3
  obtain ⟨_, _, t7⟩ := hg 7 3 7 1 rfl k3
  obtain ⟨_, _, t8⟩ := hg 8 3 8 1 rfl k3
  obtain ⟨_, _, t9⟩ := hg 9 3 9 1 rfl k3
  obtain ⟨_, _, t10⟩ := hg 10 22 10 1 rfl k22
  obtain ⟨_, _, t11⟩ := hg 11 30 11 1 rfl k30
  obtain ⟨_, _, t12⟩ := hg 12 9 12 1 rfl k9
  obtain ⟨n0, rfl, h0⟩ := int_of t0
  obtain ⟨n1, rfl, h1⟩ := int_of t1
  obtain ⟨n2, rfl, h2⟩ := int_of t2
  obtain ⟨l3, h3, r3⟩ := ints_of t3
  obtain ⟨n4, rfl, h4⟩ := int_of t4
  obtain ⟨n5, rfl, h5⟩ := int_of t5
  obtain ⟨n6, rfl, h6⟩ := int_of t6
  obtain ⟨n7, rfl, h7⟩ := int_of t7
  obtain ⟨n8, rfl, h8⟩ := int_of t8
  obtain ⟨n9, rfl, h9⟩ := int_of t9
  obtain ⟨l10, h10, r10⟩ := ints_of t10
  obtain ⟨l11, h11, r11⟩ := spans_of t11
  obtain ⟨s12, rfl⟩ := str_of t12
  exact ⟨⟨n0, n1, n2, l3, n4, n5, n6, n7, n8, n9, l10, l11, s12⟩, c3, c10, c11, ⟨h3, h10, h11⟩, ⟨h0, h1, h2, h4, h5, h6, h7, h8, h9, r3, r10, r11⟩, rfl⟩
theorem post_open {fuel : Nat} {cs : List Value} {x : DataW H × List MemPlace} (h : DataW.trod enc Tryz.prog w 0 spare held fuel 64 cs = some x) : ∃ (p : Post) (l : List CV), postT.rel [] w p l ∧ dens l = cs := by
 obtain ⟨hl, hg⟩ := struct_get u64 fl64 k64 h
 match cs, hl with
 | [c, c0, c1, c2, c3, c4, c5, c6, c7, c8, c9, c10, c11, c12, d, e], _ =>
  obtain ⟨_, _, t0⟩ := hg 0 3 0 1 rfl k3
  obtain ⟨_, _, t1⟩ := hg 1 38 1 13 rfl k38
  obtain ⟨_, _, t2⟩ := hg 2 9 14 1 rfl k9
  obtain ⟨_, _, t3⟩ := hg 3 3 15 1 rfl k3
  obtain ⟨key, rfl, h0⟩ := int_of t0
  obtain ⟨en, k, y, s, h1, h2, h3⟩ := entry_open t1
  obtain ⟨raw, rfl⟩ := str_of t2
  obtain ⟨odd, rfl, _⟩ := int_of t3
  refine ⟨⟨key, en, raw, odd⟩, encP ⟨key, en, raw, odd⟩ k y s, ⟨k, y, s, rfl, h1, h2, h0⟩, ?_⟩
  have h3 : dens (encE en k y s) = [c0, c1, c2, c3, c4, c5, c6, c7, c8, c9, c10, c11, c12] := h3
  show Value.int .i64 key :: (dens (encE en k y s) ++ [sv raw, .int .i64 odd]) = _
  rw [h3]; rfl
theorem posts_open {v : Value} {d : DataW H} {ps : List MemPlace} (hs : ∃ a n c, v = .slice a n c) (h : DataW.Trod enc Tryz.prog w 0 spare held 25 v d ps) : ∃ l, SlOf postT [] w v l := by
 obtain ⟨a, n, c, rfl⟩ := hs
 obtain ⟨fuel, hf⟩ := h
 obtain ⟨v, xs, e, hv⟩ := slOf_open (T := postT) u25 k64 (by decide) (fun cs n x h => post_open h) hf
 simp [Value.cells] at e
 subst e
 exact ⟨xs, hv⟩
theorem setup_open {v : Value} {d : DataW H} {ps : List MemPlace} (hs : ∃ cs, v = .agg cs) (h : DataW.Trod enc Tryz.prog w 0 spare held 24 v d ps) : ∃ kv keys liars seed, v = vSt kv liars seed ∧ SlOf intT [] w kv keys := by
 obtain ⟨cs, rfl⟩ := hs
 obtain ⟨fuel, hf⟩ := h
 replace hf : DataW.trod enc Tryz.prog w 0 spare held fuel 24 cs.toList = some (d, ps) := hf
 obtain ⟨hl, hg⟩ := struct_get u24 fl24 k24 hf
 obtain ⟨cs⟩ := cs
 simp only at hl hg
 match cs, hl with
 | [a, b, c], _ =>
  obtain ⟨_, _, t0⟩ := hg 0 22 0 1 rfl k22
  obtain ⟨_, _, t1⟩ := hg 1 3 1 1 rfl k3
  obtain ⟨_, _, t2⟩ := hg 2 3 2 1 rfl k3
  obtain ⟨l, h0, _⟩ := ints_of t0
  obtain ⟨n1, rfl, _⟩ := int_of t1
  obtain ⟨n2, rfl, _⟩ := int_of t2
  exact ⟨a, l, n1, n2, rfl, h0⟩
theorem int_openT {v : Value} {d : DataW H} {ps : List MemPlace} (hs : ∃ n, v = .int .i64 n) (h : DataW.Trod enc Tryz.prog w 0 spare held 3 v d ps) : ∃ n, v = vI n ∧ iR n := by
 obtain ⟨n, rfl⟩ := hs
 obtain ⟨fuel, hf⟩ := h
 obtain ⟨m, q, hr⟩ := int_of (c := .int .i64 n) hf
 exact ⟨n, rfl, by cases q; exact hr⟩
set_option maxRecDepth 10000 in
theorem okWide_struct {W : World} {t : TypeId} {fs : Array Field} {v : Value} (ht : Tryz.prog.underlying t = some (.struct fs)) (h : Value.okWide Tryz.prog W .any 0 t v) : ∃ cs, v = .agg cs := by
 unfold Value.okWide at h
 rw [ht] at h
 obtain ⟨cs, e, _⟩ := h
 exact ⟨cs, e⟩
end
end Go.Proofs.YtlobacpdhglnkaaGreatDoor
